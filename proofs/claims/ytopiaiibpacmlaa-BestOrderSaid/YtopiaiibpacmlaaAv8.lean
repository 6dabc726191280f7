/- Every instruction but a call: what the evaluator comes to, the machine's operation does. -/
import Derived.Test.YtopiaiibpacmlaaAv7
namespace Go.Proofs.Ytopiaiibpacmlaa.Av
open Go.RowKit
set_option linter.unusedSimpArgs false
section
variable {P : Program} {w0 w : World} {G : Gh} {M : MS}

theorem does_frz {base : Nat} {M M' : MS} {x x' : AV} {v : Value} (HI : Inv w0 G M w) (hx : R G x v) (h : frz base M x = some (x', M')) : ∃ G', Gle G G' ∧ Inv w0 G' M' w ∧ R G' x' v ∧ isI x' = true := by
  have plain : isI x = true → x' = x → M' = M → ∃ G', Gle G G' ∧ Inv w0 G' M' w ∧ R G' x' v ∧ isI x' = true := by
    intro h1 h2 h3; subst h2; subst h3; exact ⟨G, Gle.refl G, HI, hx, h1⟩
  cases x with
  | ms id off len sz cd =>
    simp only [frz] at h
    split at h
    · rename_i cs hM
      split at h
      · rename_i hh
        cases h
        obtain ⟨b, n, cur, T, hm, hB, hhp, hs, hl, hr⟩ := HI.row hM
        obtain ⟨i0, i1, isz, icl⟩ := hx.ms_inv
        obtain ⟨c, rfl, c1, c2, c3, c4⟩ := icl b n hm
        obtain ⟨G', k1, k2, vs, k3, k4⟩ := HI.shutRow hm hM hh.2.2
        have hlen : ((cs.drop off).take (len * sz)).length = len * sz := by simp; omega
        refine ⟨G', k1, k2, .imm _ _ (.list sz _ cd _ len c (fun j => vs (off + j)) isz hlen c1 c2 c4 (fun j hj => ?_) fun j hj => ?_), rfl⟩
        · rw [hlen] at hj
          rw [addr_add0]
          exact k3 (off + j) (by omega)
        · have hj' := hj
          rw [hlen] at hj'
          simpa using k4 (off + j) (by omega)
      · cases h
    · cases h
  | mptr id off => simp [frz] at h
  | flat u => simp [frz, isI] at h; exact plain rfl h.1.symm h.2.symm
  | list sz cs nl cd => simp [frz, isI] at h; exact plain rfl h.1.symm h.2.symm
  | agg cs => simp only [frz] at h; split at h; · rename_i hi; cases h; exact plain hi rfl rfl
              · cases h
  | elem y k => simp only [frz] at h; split at h; · rename_i hi; cases h; exact plain hi rfl rfl
                · cases h
  | clo fn cs => simp only [frz] at h; split at h; · rename_i hi; cases h; exact plain hi rfl rfl
                 · cases h
  | tup cs => simp only [frz] at h; split at h; · rename_i hi; cases h; exact plain hi rfl rfl
              · cases h
theorem does_frzAll {base : Nat} : ∀ {cs cs' : List AV} {vs : Nat → Value} {M M' : MS} {G : Gh}, Inv w0 G M w → (∀ (j : Nat) (h : j < cs.length), R G cs[j] (vs j)) → frzAll base M cs = some (cs', M') →
    ∃ G', Gle G G' ∧ Inv w0 G' M' w ∧ cs'.length = cs.length ∧ (∀ (j : Nat) (h : j < cs'.length), R G' cs'[j] (vs j)) ∧ allI cs' = true
  | [], cs', vs, M, M', G, HI, _, h => by simp [frzAll] at h; obtain ⟨rfl, rfl⟩ := h; exact ⟨G, Gle.refl G, HI, rfl, fun j hj => by simp at hj, rfl⟩
  | c :: cs, cs', vs, M, M', G, HI, hr, h => by
    simp only [frzAll] at h
    split at h
    · rename_i c' M1 h1
      split at h
      · rename_i r' M2 h2
        cases h
        obtain ⟨G1, g1, g2, g3, g4⟩ := does_frz HI (hr 0 (by simp)) h1
        obtain ⟨G2, k1, k2, k3, k4, k5⟩ := does_frzAll (vs := fun j => vs (j + 1)) g2 (fun j hj => (hr (j + 1) (by simpa using hj)).mono g1) h2
        refine ⟨G2, g1.trans k1, k2, by simp [k3], fun j hj => ?_, by simp [allI, g4, k5]⟩
        cases j with
        | zero => exact g3.mono k1
        | succ j => exact k4 j (by simpa using hj)
      · cases h
    · cases h
theorem does_store {t : TypeId} {n base : Nat} {D : List Nat} {x y : AV} {u v : Value} {cs : List AV} {out : Out} (hn : sizeT P t = some n) (HI : Inv w0 G M w) (hx : R G x u) (hy : R G y v) (hc : cellsOf y = some cs) (hl : cs.length = n) (h : storeA base M D cs x = some out) :
    ∃ w' M' D' G', (Instr.storeAt t u v).run P w = .ok () w' ∧ out = .x (.flat undef) M' D' ∧ Gle G G' ∧ Inv w0 G' M' w' := by
  have hv := cellsOf_CR hy hc
  have go : ∀ {G : Gh} {M : MS} {cs : List AV} {id b bn off : Nat} {old : List AV}, Inv w0 G M w → CR G cs v.cells.toList → cs.length = n → u = .pointer (some ⟨b, off, none⟩) → G.m[id]? = some (some (b, bn)) → M[id]? = some (some old) → off + cs.length ≤ old.length →
      ∃ w', (Instr.storeAt t u v).run P w = .ok () w' ∧ Inv w0 G (M.set id (some (splice old off cs))) w' := by
    intro G M cs id b bn off old HI hv hl hu hm hM hfit
    have hvl := hv.len
    simp only [Array.length_toList] at hvl
    obtain ⟨w', h1, h2⟩ := write_cells (P := P) HI hm hM hv hfit
    refine ⟨w', ?_, h2⟩
    subst hu
    simp [Instr.storeAt, Instr.sureAddr, storeVar, sizeT_run hn, hvl, hl, h1]
  unfold storeA at h
  split at h
  · rename_i id off len sz cd k
    split at h
    · rename_i cs' M' hfz
      split at h
      · rename_i old hM
        split at h
        · rename_i hh
          cases h
          obtain ⟨G1, g1, g2, g3, g4, g5⟩ := does_frzAll (vs := fun j => v.cells.toList.getD j undef) HI (fun j hj => (hv.get j hj).1) hfz
          have hv' : CR G1 cs' v.cells.toList := CR.of (by rw [g3]; exact hv.len) fun j hj => ⟨g4 j hj, (hv.get j (by omega)).2⟩
          obtain ⟨b, bn, cur, T, hm, _⟩ := g2.row hM
          obtain ⟨a, n', c', hx', he⟩ := (hx.mono g1).elem_inv
          obtain ⟨_, _, _, hcl⟩ := hx'.ms_inv
          obtain ⟨c, he2, _⟩ := hcl b bn hm
          cases he2
          obtain ⟨w', h1, h2⟩ := go g2 hv' (by rw [g3]; exact hl) (by rw [he, addr_add0]) hm hM (by omega)
          exact ⟨w', _, _, G1, h1, rfl, g1, h2⟩
        · cases h
      · cases h
    · cases h
  · rename_i id off
    split at h
    · rename_i old hM
      split at h
      · rename_i hh
        cases h
        obtain ⟨b, bn, cur, T, hm, _⟩ := HI.row hM
        obtain ⟨_, _, hp⟩ := hx.mptr_inv
        obtain ⟨w', h1, h2⟩ := go HI hv hl (hp b bn hm) hm hM hh
        exact ⟨w', _, _, G, h1, rfl, Gle.refl G, h2⟩
      · cases h
    · cases h
  · cases h

theorem does_frzA {base : Nat} {M M' : MS} {x x' : AV} {v : Value} (HI : Inv w0 G M w) (hx : R G x v) (h : frzA base M x = some (x', M')) : ∃ G', Gle G G' ∧ Inv w0 G' M' w ∧ R G' x' v := by
  cases x with
  | agg cs =>
    simp only [frzA, Option.map_eq_some_iff] at h
    obtain ⟨⟨cs', M1⟩, h1, h2⟩ := h
    cases h2
    obtain ⟨vs, rfl, hs, hv, h7⟩ := hx.agg_inv
    obtain ⟨G', k1, k2, k3, k4, _⟩ := does_frzAll (vs := fun j => vs.getD j undef) HI hv h1
    exact ⟨G', k1, k2, .agg _ _ (by rw [hs, k3]) k4 (by rw [k3]; exact h7)⟩
  | _ => obtain ⟨G', k1, k2, k3, _⟩ := does_frz (base := base) HI hx (by simpa only [frzA] using h); exact ⟨G', k1, k2, k3⟩
theorem does_frzTup {base : Nat} : ∀ {cs cs' : List AV} {vs : Nat → Value} {M M' : MS} {G : Gh}, Inv w0 G M w → (∀ (j : Nat) (h : j < cs.length), R G cs[j] (vs j)) → frzTup base M cs = some (cs', M') →
    ∃ G', Gle G G' ∧ Inv w0 G' M' w ∧ cs'.length = cs.length ∧ (∀ (j : Nat) (h : j < cs'.length), R G' cs'[j] (vs j))
  | [], cs', vs, M, M', G, HI, _, h => by simp [frzTup] at h; obtain ⟨rfl, rfl⟩ := h; exact ⟨G, Gle.refl G, HI, rfl, fun j hj => by simp at hj⟩
  | c :: cs, cs', vs, M, M', G, HI, hr, h => by
    simp only [frzTup] at h
    split at h
    · rename_i c' M1 h1
      split at h
      · rename_i r' M2 h2
        cases h
        obtain ⟨G1, g1, g2, g3⟩ := does_frzA HI (hr 0 (by simp)) h1
        obtain ⟨G2, k1, k2, k3, k4⟩ := does_frzTup (vs := fun j => vs (j + 1)) g2 (fun j hj => (hr (j + 1) (by simpa using hj)).mono g1) h2
        refine ⟨G2, g1.trans k1, k2, by simp [k3], fun j hj => ?_⟩
        cases j with
        | zero => exact g3.mono k1
        | succ j => exact k4 j (by simpa using hj)
      · cases h
    · cases h
theorem does_frzV {base : Nat} {M M' : MS} {x x' : AV} {v : Value} (HI : Inv w0 G M w) (hx : R G x v) (h : frzV base M x = some (x', M')) : ∃ G', Gle G G' ∧ Inv w0 G' M' w ∧ R G' x' v := by
  cases x with
  | tup cs =>
    simp only [frzV, Option.map_eq_some_iff] at h
    obtain ⟨⟨cs', M1⟩, h1, h2⟩ := h
    cases h2
    obtain ⟨vs, rfl, hs, hv⟩ := hx.tup_inv
    obtain ⟨G', k1, k2, k3, k4⟩ := does_frzTup (vs := fun j => vs.getD j undef) HI hv h1
    exact ⟨G', k1, k2, .tup _ _ (by rw [hs, k3]) k4⟩
  | _ => exact does_frzA (base := base) HI hx (by simpa only [frzV] using h)
theorem does_copy {dT sT ty e : TypeId} {sz id off len n : Nat} {cd : Bool} {x : AV} {u v : Value} {cs old : List AV} (ht : P.underlying dT = some (.slice e)) (hsz : sizeT P e = some sz)
    (HI : Inv w0 G M w) (hd : R G (.ms id off len sz cd) u) (hx : R G x v) (hv : view M x = some cs) (hn : lenOf x = some n) (hM : M[id]? = some (some old)) (hfit : off + len * sz ≤ old.length) (hk : Nat.min n len * sz ≤ cs.length) :
    ∃ w', (Builtin.copy_ #[dT, sT] ty #[u, v]).run P w = .ok (.int .i64 (Nat.min n len : Nat)) w' ∧ Inv w0 G (M.set id (some (splice old off (cs.take (Nat.min n len * sz))))) w' := by
  obtain ⟨A, n', c, sx, vs, rfl, hlx, hln, hA, hnc, hcm, hcr, hcell⟩ := view_CR HI hx hv
  rw [hn] at hlx; cases hlx
  obtain ⟨b, bn, _, _, hmb, _⟩ := HI.row hM
  obtain ⟨i0, i1, isz, icl⟩ := hd.ms_inv
  obtain ⟨cc, rfl, c1, c2, c3, c4⟩ := icl b bn hmb
  have hcl := hcr.len
  have hminle : Nat.min n len ≤ len := Nat.min_le_right _ _
  have hm2 := Nat.mul_le_mul_right sz hminle
  obtain ⟨w', h1, h2⟩ := write_cells (P := P) HI hmb hM (hcr.take (Nat.min n len * sz)) (o := off) (by simp; omega)
  refine ⟨w', ?_, h2⟩
  have hf : (Builtin.firstCells sz (Nat.min n len) (.slice A n c)).run P w = .ok (vs.take (Nat.min n len * sz)).toArray w := by
    cases A with
    | none =>
      have := hA rfl; subst this
      have : Nat.min 0 len = 0 := Nat.zero_min _
      simp [this, Builtin.firstCells]
    | some ad =>
      refine run_firstCells_some (P := P) w sz _ ad n c _ (by simp; omega) fun j q hj => ?_
      simp only [List.getElem?_take] at hj
      split at hj
      · exact (hcell ad rfl).2 j q hj
      · cases hj
  simp only [Builtin.copy_, List.getElem?_toArray]
  simp [run_underlying ht, Builtin.lenOf, sizeT_run hsz, hf, h1, goInt]
end
end Go.Proofs.Ytopiaiibpacmlaa.Av
