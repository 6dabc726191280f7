/- More of what the machine's operations do: slices, addresses, fields, structs that are built. -/
import Derived.Test.YtopiaiibpacmlaaAv4
namespace Go.Proofs.Ytopiaiibpacmlaa.Av
open Go.RowKit
set_option linter.unusedSimpArgs false
section
variable {P : Program} {w0 w : World} {G : Gh} {M : MS} {env : Env} {a : Act}

theorem view_live (HI : Inv w0 G M w) {x : AV} {cs : List AV} (h : view M x = some cs) : ∀ id off len sz cd, x = .ms id off len sz cd → ∃ b k, G.m[id]? = some (some (b, k)) := by
  intro id off len sz cd hx
  subst hx
  simp only [view] at h
  split at h
  · rename_i cs0 hM
    obtain ⟨b, n, _, _, hm, _⟩ := HI.row hM
    exact ⟨b, n, hm⟩
  · cases h
theorem lenM_R (HI : Inv w0 G M w) {x : AV} {v : Value} (hx : R G x v) {n : Nat} (h : lenM M x = some n) : ∃ A c, v = .slice A n c ∧ (A = none → n = 0) ∧ n ≤ c := by
  unfold lenM at h
  split at h
  · rename_i cs hv
    exact lenS_R hx h (view_live HI hv)
  · cases h
theorem does_idx {t e : TypeId} {sz n : Nat} {x : AV} {u : Value} {k : IntKind} {i : Int} (ht : P.underlying t = some (.slice e)) (hs : sizeT P e = some sz) (HI : Inv w0 G M w) (hx : R G x u) (hn : lenM M x = some n) (h0 : 0 ≤ i) (h1 : i < n) :
    ∃ r, (Instr.indexAt t u (.int k i)).run P w = .ok r w ∧ R G (.elem x (i.toNat * sz)) r := by
  obtain ⟨A, c, rfl, hA, hc⟩ := lenM_R HI hx hn
  cases A with
  | none => have := hA rfl; omega
  | some ad => exact ⟨.pointer (some (ad.add (i.toNat * sz))), by simp [Instr.indexAt, asIntOf, run_underlying ht, h0, h1, sizeT_run hs], .elem _ _ _ _ _ hx⟩
theorem does_aidx {t e : TypeId} {sz n : Nat} {u : Value} {ad : Addr} {k : IntKind} {i : Int} (ht : P.underlying t = some (.array n e)) (hs : sizeT P e = some sz) (hu : u = .pointer (some ad)) (h0 : 0 ≤ i) (h1 : i < n) :
    (Instr.indexAt t u (.int k i)).run P w = .ok (.pointer (some (ad.add (i.toNat * sz)))) w := by
  subst hu
  simp [Instr.indexAt, Instr.sureAddr, asIntOf, run_underlying ht, h0, h1, sizeT_run hs]
theorem elem_add {x : AV} {k : Nat} {ad : Addr} (hx : R G (.elem x k) (.pointer (some ad))) (j : Nat) : R G (.elem x (k + j)) (.pointer (some (ad.add j))) := by
  obtain ⟨a', n, c, h, he⟩ := hx.elem_inv
  cases he
  rw [addr_add_add]
  exact .elem _ _ _ _ _ h
theorem mptr_add {id o : Nat} {v : Value} (hx : R G (.mptr id o) v) {b n : Nat} (hm : G.m[id]? = some (some (b, n))) (j : Nat) : ∃ ad, v = .pointer (some ad) ∧ R G (.mptr id (o + j)) (.pointer (some (ad.add j))) := by
  obtain ⟨h0, h1, h⟩ := hx.mptr_inv
  refine ⟨_, h b n hm, .mptr _ _ _ h0 rfl fun b' n' hm' => ?_⟩
  rw [hm] at hm'; cases hm'
  rw [addr_add0]
theorem optNat_R {d n : Nat} {x : Option AV} {v : Option Value} (h : optNat d x = some n) (hx : ∀ y, x = some y → ∃ u, v = some u ∧ R G y u) (hn : x = none → v = none) :
    (x = none ∧ v = none ∧ n = d) ∨ (∃ k i, x = some (.flat (.int k i)) ∧ v = some (.int k i) ∧ 0 ≤ i ∧ n = i.toNat) := by
  unfold optNat at h
  split at h
  · cases h; exact .inl ⟨rfl, hn rfl, rfl⟩
  · rename_i k i
    split at h
    · rename_i h0
      cases h
      obtain ⟨u, hu, hr⟩ := hx _ rfl
      have := hr.flat_inv; subst this
      exact .inr ⟨k, i, rfl, hu, h0, rfl⟩
    · cases h
  · cases h
theorem run_sliceBound {x : Value} {y : Nat} {k : IntKind} {i : Int} {cd : BoundsCode} (hx : x = .int k i) (h0 : 0 ≤ i) (h1 : i ≤ y) : (Instr.sliceBound x y cd).run P w = .ok i.toNat w := by
  subst hx
  simp [Instr.sliceBound, asIntOf, h0, h1]
/-- The bounds of a cut. -/
theorem run_sliceBounds {isS : Bool} {n c l h m : Nat} {lo hi mx : Option AV} {vlo vhi vmx : Option Value} (hlo : optNat 0 lo = some l) (hhi : optNat n hi = some h) (hmx : optNat n mx = some m)
    (rlo : ∀ y, lo = some y → ∃ u, vlo = some u ∧ R G y u) (nlo : lo = none → vlo = none) (rhi : ∀ y, hi = some y → ∃ u, vhi = some u ∧ R G y u) (nhi : hi = none → vhi = none)
    (rmx : ∀ y, mx = some y → ∃ u, vmx = some u ∧ R G y u) (nmx : mx = none → vmx = none) (hlh : l ≤ h) (hhm : h ≤ m) (hmn : m ≤ n) (hnc : n ≤ c) (hmh : mx.isSome = true → hi.isSome = true) :
    (Instr.sliceBounds isS n c vlo vhi vmx).run P w = .ok (l, h, if mx.isSome then m else c) w := by
  have F : ∀ (q : Option Value), vlo = q → (q = none ∧ l = 0 ∨ ∃ k i, q = some (.int k i) ∧ 0 ≤ i ∧ l = i.toNat) := by
    intro q hq
    subst hq
    rcases optNat_R hlo rlo nlo with ⟨_, e, r⟩ | ⟨k, i, _, e, h0, r⟩
    · exact .inl ⟨e, r⟩
    · exact .inr ⟨k, i, e, h0, r⟩
  have F := F vlo rfl
  clear rlo nlo hlo
  rcases optNat_R hmx rmx nmx with ⟨rfl, rfl, rfl⟩ | ⟨k, i, rfl, rfl, h0, rfl⟩
  · rcases optNat_R hhi rhi nhi with ⟨rfl, rfl, rfl⟩ | ⟨k, i, rfl, rfl, h0, rfl⟩
    · rcases F with ⟨rfl, rfl⟩ | ⟨k2, i2, rfl, h2, rfl⟩
      · simp [Instr.sliceBounds]
      · have hb3 := run_sliceBound (P := P) (w := w) (x := .int k2 i2) (y := h) (cd := .sliceB) rfl h2 (by omega)
        simp [Instr.sliceBounds, hb3]
    · have hb := run_sliceBound (P := P) (w := w) (x := .int k i) (y := c) (cd := if isS then .sliceAcap else .sliceAlen) rfl h0 (by omega)
      rcases F with ⟨rfl, rfl⟩ | ⟨k2, i2, rfl, h2, rfl⟩
      · simp [Instr.sliceBounds, hb]
      · have hb3 := run_sliceBound (P := P) (w := w) (x := .int k2 i2) (y := i.toNat) (cd := .sliceB) rfl h2 (by omega)
        simp [Instr.sliceBounds, hb, hb3]
  · rcases optNat_R hhi rhi nhi with ⟨rfl, rfl, rfl⟩ | ⟨k', i', rfl, rfl, h0', rfl⟩
    · simp at hmh
    · have hb := run_sliceBound (P := P) (w := w) (x := .int k i) (y := c) (cd := if isS then .slice3Acap else .slice3Alen) rfl h0 (by omega)
      have hb2 := run_sliceBound (P := P) (w := w) (x := .int k' i') (y := i.toNat) (cd := .slice3B) rfl h0' (by omega)
      rcases F with ⟨rfl, rfl⟩ | ⟨k2, i2, rfl, h2, rfl⟩
      · simp [Instr.sliceBounds, hb, hb2]
      · have hb3 := run_sliceBound (P := P) (w := w) (x := .int k2 i2) (y := i'.toNat) (cd := .slice3C) rfl h2 (by omega)
        simp [Instr.sliceBounds, hb, hb2, hb3]
theorem does_slice {t e : TypeId} {sz : Nat} {x : AV} {u : Value} {lo hi mx : Option AV} {vlo vhi vmx : Option Value} {out : Out} {cs : List AV} (ht : P.underlying t = some (.slice e)) (hs : sizeT P e = some sz) (HI : Inv w0 G M w) (hx : R G x u)
    (hv : view M x = some cs) (h : sliceA sz x lo hi mx = some out)
    (rlo : ∀ y, lo = some y → ∃ u, vlo = some u ∧ R G y u) (nlo : lo = none → vlo = none) (rhi : ∀ y, hi = some y → ∃ u, vhi = some u ∧ R G y u) (nhi : hi = none → vhi = none)
    (rmx : ∀ y, mx = some y → ∃ u, vmx = some u ∧ R G y u) (nmx : mx = none → vmx = none) :
    ∃ r z, (Instr.sliceAt t u vlo vhi vmx).run P w = .ok r w ∧ out = .q z ∧ R G z r := by
  cases x with
  | list sz' cs' nl cd =>
    simp only [sliceA] at h
    split at h
    · rename_i l hh m h1 h2 h3
      split at h
      · rename_i hc
        obtain ⟨hnil, hlh, hhm, hmn, hmh⟩ := hc
        rcases RI.list_cases hx.list_inv with ⟨rfl, rfl, rfl, rfl⟩ | ⟨rfl, ad, n, c, vs, rfl, h0, g1, g2, g3, g4, g5, g6⟩
        · simp only [List.length_nil, Nat.zero_div] at h2 h3 hmn
          simp only [if_true, Option.some.injEq] at h
          subst h
          have hb := run_sliceBounds (P := P) (w := w) (G := G) (isS := true) (c := 0) h1 h2 h3 rlo nlo rhi nhi rmx nmx hlh hhm hmn (Nat.le_refl _) hmh
          have hm0 : m = 0 := by omega
          have hh0 : hh = 0 := by omega
          have hl0 : l = 0 := by omega
          subst hm0; subst hh0; subst hl0
          refine ⟨.slice none 0 0, _, ?_, rfl, hx⟩
          simp [Instr.sliceAt, Instr.slice, run_underlying ht, hb, sizeT_run hs]
        · have hss : sz' = sz := by simpa using hnil
          subst hss
          rw [g1, Nat.mul_div_cancel n h0] at h2 h3 hmn
          simp only [Bool.false_eq_true, if_false, Option.some.injEq] at h
          subst h
          have hb := run_sliceBounds (P := P) (w := w) (G := G) (isS := true) (c := c) h1 h2 h3 rlo nlo rhi nhi rmx nmx hlh hhm hmn g2 hmh
          generalize hmm : (if mx.isSome = true then m else c) = mm at hb
          have hmmh : hh ≤ mm := by subst hmm; split <;> omega
          have hmmc : mm ≤ c := by subst hmm; split <;> omega
          refine ⟨.slice (some (if mm = l then ad else ad.add (l * sz'))) (hh - l) (mm - l), _, ?_, rfl, ?_⟩
          · simp only [Instr.sliceAt, Instr.slice, Sem.run_bind, run_underlying ht, Result.andThen_ok, hb, sizeT_run hs, Sem.run_pure]
            by_cases hml : mm = l <;> simp [hml]
          · have hlen : ((cs'.drop (l * sz')).take ((hh - l) * sz')).length = (hh - l) * sz' := by
              simp only [List.length_take, List.length_drop, g1]
              rw [Nat.min_eq_left]
              rw [← Nat.mul_sub_right_distrib]
              exact Nat.mul_le_mul_right _ (by omega)
            refine .imm _ _ (.list sz' _ _ _ (hh - l) (mm - l) (fun j => vs (l * sz' + j)) h0 hlen (by omega) (by omega) ?_ (fun j hj => ?_) fun j hj => ?_)
            · cases mx with
              | some q => simp only [cutCapd, decide_eq_true_eq]; intro hq; simp at hmm; omega
              | none => simp only [cutCapd, Bool.and_eq_true, decide_eq_true_eq]; intro hq; simp at hmm; have := g4 hq.1; rw [g1, Nat.mul_div_cancel n h0] at hq; omega
            · rw [hlen] at hj
              have hpos : 0 < hh - l := by
                rcases Nat.eq_zero_or_pos (hh - l) with h' | h'
                · rw [h'] at hj; simp at hj
                · exact h'
              have hne : mm ≠ l := by omega
              rw [if_neg hne, addr_add_add]
              have hb1 : l * sz' + j < cs'.length := by
                rw [g1]
                have : l * sz' + (hh - l) * sz' ≤ n * sz' := by rw [← Nat.add_mul]; exact Nat.mul_le_mul_right _ (by omega)
                omega
              exact g5 _ hb1
            · have hj' := hj
              rw [hlen] at hj'
              have hb1 : l * sz' + j < cs'.length := by
                rw [g1]
                have : l * sz' + (hh - l) * sz' ≤ n * sz' := by rw [← Nat.add_mul]; exact Nat.mul_le_mul_right _ (by omega)
                omega
              simpa using g6 _ hb1
      · cases h
    · cases h
  | ms id off len sz' cd =>
    obtain ⟨b, bn, hm⟩ := view_live HI hv _ _ _ _ _ rfl
    obtain ⟨i0, i1, isz, icl⟩ := hx.ms_inv
    obtain ⟨c, rfl, c1, c2, c3, c4⟩ := icl b bn hm
    simp only [sliceA] at h
    split at h
    · rename_i l hh m h1 h2 h3
      split at h
      · rename_i hc
        obtain ⟨rfl, hlh, hhm, hmn, hmh⟩ := hc
        have hb := run_sliceBounds (P := P) (w := w) (G := G) (isS := true) (c := c) h1 h2 h3 rlo nlo rhi nhi rmx nmx hlh hhm hmn c1 hmh
        generalize hmm : (if mx.isSome = true then m else c) = mm at hb
        have hmmh : hh ≤ mm := by subst hmm; split <;> omega
        have hmmc : mm ≤ c := by subst hmm; split <;> omega
        have hrun : (Instr.sliceAt t (.slice (some ⟨b, off, none⟩) len c) vlo vhi vmx).run P w = .ok (.slice (some (if mm = l then ⟨b, off, none⟩ else (⟨b, off, none⟩ : Addr).add (l * sz'))) (hh - l) (mm - l)) w := by
          simp only [Instr.sliceAt, Instr.slice, Sem.run_bind, run_underlying ht, Result.andThen_ok, hb, sizeT_run hs, Sem.run_pure]
          by_cases hml : mm = l <;> simp [hml]
        have hcap : ∀ cd' : Bool, (cd' = cutCapd mx m hh (cd && decide (hh = len))) → cd' = true → mm - l = hh - l := by
          intro cd' he hq
          subst he
          cases mx with
          | some q => simp only [cutCapd, decide_eq_true_eq] at hq; simp at hmm; omega
          | none => simp only [cutCapd, Bool.and_eq_true, decide_eq_true_eq] at hq; simp at hmm; have := c4 hq.1; omega
        have hfit : off + l * sz' + (mm - l) * sz' ≤ bn := by
          have : l * sz' + (mm - l) * sz' ≤ c * sz' := by rw [← Nat.add_mul]; exact Nat.mul_le_mul_right _ (by omega)
          omega
        split at h
        · rename_i hl0
          cases h
          subst hl0
          refine ⟨_, _, hrun, rfl, .ms _ _ _ _ _ _ i0 ⟨_, _, rfl⟩ isz fun b' n' hm' => ?_⟩
          rw [hm] at hm'; cases hm'
          refine ⟨mm - 0, ?_, by omega, by omega, by simpa using hfit, fun hq => by simpa using hcap _ rfl hq⟩
          simp [addr_add0]
        · split at h
          · cases h
          · rename_i hl0 hne
            cases h
            refine ⟨_, _, hrun, rfl, .ms _ _ _ _ _ _ i0 ⟨_, _, rfl⟩ isz fun b' n' hm' => ?_⟩
            rw [hm] at hm'; cases hm'
            refine ⟨mm - l, ?_, by omega, by omega, hfit, fun hq => hcap _ rfl hq⟩
            rw [if_neg (by omega), addr_add0]
      · cases h
    · cases h
  | _ => simp [sliceA] at h
end
end Go.Proofs.Ytopiaiibpacmlaa.Av
