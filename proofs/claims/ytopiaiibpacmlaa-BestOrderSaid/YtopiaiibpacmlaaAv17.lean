/- strings.Join and bits.Mul, taken by their contracts; several such functions together. -/
import Derived.Test.YtopiaiibpacmlaaAv16
import Derived.Lib.Join
namespace Go.Proofs.Ytopiaiibpacmlaa.Av
open Go.RowKit
set_option linter.unusedSimpArgs false
def orC (c d : Call) : Call := fun f args M => match c f args M with
  | some r => some r
  | none => d f args M
theorem orC_ok {P : Program} {c d : Call} (hc : CallOk P c) (hd : CallOk P d) : CallOk P (orC c d) := by
  have inv : ∀ {f : Nat} {args : List AV} {M : MS} {out : Out}, orC c d f args M = some out → c f args M = some out ∨ d f args M = some out := by
    intro f args M out h
    unfold orC at h
    split at h
    · rename_i r hr; cases h; exact .inl hr
    · exact .inr h
  refine ⟨fun f args M out h => ?_, fun f args M out h => ?_, fun f args M v M' D h => ?_⟩
  · rcases inv h with h | h
    · exact hc.ok _ _ _ _ h
    · exact hd.ok _ _ _ _ h
  · rcases inv h with h | h
    · exact hc.snd _ _ _ _ h
    · exact hd.snd _ _ _ _ h
  · rcases inv h with h | h
    · exact hc.frame _ _ _ _ _ _ h
    · exact hd.frame _ _ _ _ _ _ h
def asStrs : List AV → Option (List ByteArray)
  | [] => some []
  | .flat (.string s) :: r => (asStrs r).map (s :: ·)
  | _ :: _ => none
theorem asStrs_inv : ∀ {cs : List AV} {l : List ByteArray}, asStrs cs = some l → cs = l.map fun s => .flat (.string s)
  | [], l, h => by simp [asStrs] at h; subst h; rfl
  | c :: cs, l, h => by
    cases c with
    | flat v =>
      cases v with
      | string s =>
        simp only [asStrs, Option.map_eq_some_iff] at h
        obtain ⟨l', hl, rfl⟩ := h
        simp [asStrs_inv hl]
      | _ => simp [asStrs] at h
    | _ => simp [asStrs] at h
def joinA : List AV → MS → Option Out
  | [x, .flat (.string sep)], M => match view M x, lenM M x with
    | some cs, some n => match asStrs cs with
      | some l => if n = l.length ∧ n ≤ LIM ∧ (Lib.join (l.map (·.data.toList)) sep.data.toList).length ≤ LIM then some (.q (.flat (.string ⟨(Lib.join (l.map (·.data.toList)) sep.data.toList).toArray⟩))) else none
      | none => none
    | _, _ => none
  | _, _ => none
def extJ (jf : Nat) : Call := fun f args M => if f = jf then joinA args M else none
theorem extJ_ok {P : Program} {jf : Nat} (hf : okFn P jf = true)
    (h0 : ∀ (a : Option Addr) (c : Nat) (sep : ByteArray) (w : World), Calls P jf #[.slice a 0 c, .string sep] w fun e w' => e = .returned (.string ⟨#[]⟩) ∧ w' = w)
    (hJ : ∀ (bk o c : Nat) (xs : List ByteArray) (sep : ByteArray) (w : World), (∀ (j : Nat) x, xs[j]? = some x → w.cell? ⟨bk, o + j, none⟩ = some (.string x)) → bk < w.heap.size → xs.length ≤ 140737488355328 → xs.length ≤ c →
      (Lib.join (xs.map (·.data.toList)) sep.data.toList).length ≤ 140737488355328 →
      Calls P jf #[.slice (some ⟨bk, o, none⟩) xs.length c, .string sep] w fun e w' => e = .returned (.string ⟨(Lib.join (xs.map (·.data.toList)) sep.data.toList).toArray⟩) ∧ Below w.heap.size w w') :
    CallOk P (extJ jf) := by
  have inv : ∀ {f : Nat} {args : List AV} {M : MS} {out : Out}, extJ jf f args M = some out → f = jf ∧ ∃ x sep cs n l, args = [x, .flat (.string sep)] ∧ view M x = some cs ∧ lenM M x = some n ∧ asStrs cs = some l ∧ n = l.length ∧ n ≤ LIM ∧
      (Lib.join (l.map (·.data.toList)) sep.data.toList).length ≤ LIM ∧ out = .q (.flat (.string ⟨(Lib.join (l.map (·.data.toList)) sep.data.toList).toArray⟩)) := by
    intro f args M out h
    unfold extJ at h
    split at h
    · rename_i hfe
      refine ⟨hfe, ?_⟩
      unfold joinA at h
      split at h
      · rename_i x sep
        split at h
        · rename_i cs n hv hn
          split at h
          · rename_i l hl
            split at h
            · rename_i hh
              cases h
              exact ⟨x, sep, cs, n, l, rfl, hv, hn, hl, hh.1, hh.2.1, hh.2.2, rfl⟩
            · cases h
          · cases h
        · cases h
      · cases h
    · cases h
  refine ⟨fun f args M out h => by obtain ⟨rfl, _⟩ := inv h; exact hf, fun f args M out h w0 w G vals HI hs hr => ?_, fun f args M v M' D h => ?_⟩
  · obtain ⟨rfl, x, sep, cs, n, l, rfl, hv, hn, hl, rfl, h2, h3, rfl⟩ := inv h
    obtain ⟨u, v, rfl⟩ : ∃ u v, vals = #[u, v] := by
      obtain ⟨l⟩ := vals
      match l, hs with
      | [u, v], _ => exact ⟨u, v, rfl⟩
    have hR : R G x u := by simpa using hr 0 (by simp)
    have hR1 : R G (.flat (.string sep)) v := by simpa using hr 1 (by simp)
    have := hR1.flat_inv; subst this
    obtain ⟨A, n', c, sx, vs, rfl, hlx, hln, hA, hnc, hcm, hcr, hcell⟩ := view_CR HI hR hv
    have hnn : n' = l.length := by
      unfold lenM at hn
      rw [hv] at hn
      simp only at hn
      rw [hlx] at hn; exact Option.some.inj hn
    subst hnn
    have hcs := asStrs_inv hl
    have hvs : vs = l.map Value.string := by
      have : ∀ {l : List ByteArray} {vs : List Value}, CR G (l.map fun s => AV.flat (.string s)) vs → vs = l.map Value.string := by
        intro l
        induction l with
        | nil => intro vs h; cases h; rfl
        | cons a l ih => intro vs h; cases h with | cons h1 _ t => rw [ih t, h1.flat_inv]; rfl
      exact this (hcs ▸ hcr)
    subst hvs
    cases l with
    | nil =>
      refine (h0 A c sep w).mono ?_
      rintro e w' ⟨rfl, rfl⟩
      exact ⟨_, G, rfl, Gle.refl G, .imm _ _ (.flat _), HI⟩
    | cons y l =>
      cases A with
      | none => have := hA rfl; simp at this
      | some ad =>
        have hc0 := (hcell ad rfl).2 0 (.string y) (by simp)
        rw [Addr.add_zero'] at hc0
        have had : ad = ⟨ad.block, ad.off, none⟩ := by
          cases ad with
          | mk b o s =>
            cases s with
            | none => rfl
            | some q =>
              unfold World.cell? at hc0
              split at hc0 <;> simp at hc0
        simp only [LIM] at h2 h3
        have hc := hJ ad.block ad.off c (y :: l) sep w (fun j x hj => by
          have := (hcell ad rfl).2 j (.string x) (by rw [List.getElem?_map, hj]; rfl)
          rw [had, addr_add0] at this; exact this) (World.block_lt_of_cell? w ad hc0) (by omega) hnc (by omega)
        rw [← had] at hc
        refine hc.mono ?_
        rintro e w' ⟨rfl, hb⟩
        exact ⟨_, G, rfl, Gle.refl G, .imm _ _ (.flat _), HI.grow hb⟩
  · obtain ⟨rfl, x, sep, cs, n, l, rfl, hv, hn, hl, h1, h2, h3, he⟩ := inv h
    cases he
def mulA : List AV → MS → Option Out
  | [.flat (.int .u64 x), .flat (.int .u64 y)], _ => if 0 ≤ x ∧ 0 ≤ y ∧ x < 18446744073709551616 ∧ y < 18446744073709551616 then
      some (.q (.tup [.flat (.int .u64 ((x.toNat * y.toNat / 18446744073709551616 : Nat) : Int)), .flat (.int .u64 ((x.toNat * y.toNat % 18446744073709551616 : Nat) : Int))])) else none
  | _, _ => none
def extM (mf : Nat) : Call := fun f args M => if f = mf then mulA args M else none
theorem extM_ok {P : Program} {mf : Nat} (hf : okFn P mf = true)
    (hM : ∀ (x y : Nat), x < 18446744073709551616 → y < 18446744073709551616 → ∀ (w : World), Calls P mf #[.int .u64 x, .int .u64 y] w fun e w' => e = .returned (.tuple #[.int .u64 ((x * y / 18446744073709551616 : Nat) : Int), .int .u64 ((x * y % 18446744073709551616 : Nat) : Int)]) ∧ w' = w) :
    CallOk P (extM mf) := by
  have inv : ∀ {f : Nat} {args : List AV} {M : MS} {out : Out}, extM mf f args M = some out → f = mf ∧ ∃ x y : Int, args = [.flat (.int .u64 x), .flat (.int .u64 y)] ∧ (0 ≤ x ∧ 0 ≤ y ∧ x < 18446744073709551616 ∧ y < 18446744073709551616) ∧
      out = .q (.tup [.flat (.int .u64 ((x.toNat * y.toNat / 18446744073709551616 : Nat) : Int)), .flat (.int .u64 ((x.toNat * y.toNat % 18446744073709551616 : Nat) : Int))]) := by
    intro f args M out h
    unfold extM at h
    split at h
    · rename_i hfe
      refine ⟨hfe, ?_⟩
      unfold mulA at h
      split at h
      · split at h
        · rename_i hh; cases h; exact ⟨_, _, rfl, hh, rfl⟩
        · cases h
      · cases h
    · cases h
  refine ⟨fun f args M out h => by obtain ⟨rfl, _⟩ := inv h; exact hf, fun f args M out h w0 w G vals HI hs hr => ?_, fun f args M v M' D h => ?_⟩
  · obtain ⟨rfl, x, y, rfl, ⟨h0, h1, h2, h3⟩, rfl⟩ := inv h
    obtain ⟨u, v, rfl⟩ : ∃ u v, vals = #[u, v] := by
      obtain ⟨l⟩ := vals
      match l, hs with
      | [u, v], _ => exact ⟨u, v, rfl⟩
    have hR0 : R G (.flat (.int .u64 x)) u := by simpa using hr 0 (by simp)
    have hR1 : R G (.flat (.int .u64 y)) v := by simpa using hr 1 (by simp)
    have e0 := hR0.flat_inv; have e1 := hR1.flat_inv; subst e0; subst e1
    have hc := hM x.toNat y.toNat (by omega) (by omega) w
    rw [show ((x.toNat : Nat) : Int) = x by omega, show ((y.toNat : Nat) : Int) = y by omega] at hc
    refine hc.mono ?_
    rintro e w' ⟨rfl, rfl⟩
    refine ⟨_, G, rfl, Gle.refl G, .tup _ _ rfl fun j hj => ?_, HI⟩
    match j, hj with
    | 0, _ => exact .imm _ _ (.flat _)
    | 1, _ => exact .imm _ _ (.flat _)
  · obtain ⟨rfl, x, y, rfl, _, he⟩ := inv h
    cases he
end Go.Proofs.Ytopiaiibpacmlaa.Av
