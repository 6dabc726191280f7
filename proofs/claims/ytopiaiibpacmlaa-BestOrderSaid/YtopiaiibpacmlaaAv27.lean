/- Rows of the call's own: stores, what is given up; shorter words. -/
import Derived.Test.YtopiaiibpacmlaaAv26
namespace Go.Proofs.Ytopiaiibpacmlaa.Av
open Go.RowKit
set_option linter.unusedSimpArgs false
/-- What a row comes to that is given up. -/
def frzD (b : Nat) (M : MS) (id off len sz : Nat) (cd : Bool) : Option (Option (List AV)) → Option (List AV × MS)
  | some (some cs) => if b ≤ id ∧ off + len * sz ≤ cs.length ∧ allI cs then some ([.list sz ((cs.drop off).take (len * sz)) false cd], M.set id none) else none
  | _ => none
theorem frzAll_ms (b : Nat) (M : MS) (id off len sz : Nat) (cd : Bool) : frzAll b M [.ms id off len sz cd] = frzD b M id off len sz cd M[id]? := by
  simp only [frzAll, frz]
  rcases M[id]? with _ | _ | cs
  · rfl
  · rfl
  · simp only [frzD]
    by_cases h : b ≤ id ∧ off + len * sz ≤ cs.length ∧ allI cs = true
    · simp only [if_pos h]
    · simp only [if_neg h]
theorem frzD_s (b : Nat) (M : MS) (id off len sz : Nat) (cd : Bool) (cs : List AV) : frzD b M id off len sz cd (some (some cs)) = if b ≤ id ∧ off + len * sz ≤ cs.length ∧ allI cs then some ([.list sz ((cs.drop off).take (len * sz)) false cd], M.set id none) else none := rfl
theorem dirts_ms (base id off len sz : Nat) (cd : Bool) (D : List Nat) : dirts base [.ms id off len sz cd] D = dirt base id D := rfl
theorem dirts_list (base sz : Nat) (cs : List AV) (nl cd : Bool) (D : List Nat) : dirts base [.list sz cs nl cd] D = D := rfl
attribute [go_sem] frzAll_ms frzD_s dirts_ms dirts_list
section
variable {p : Pr} {base : Nat} {env : Env} {M : MS} {D : List Nat} {d : Option Nat} {r : List AOp} {R : Env → MS → List Nat → Prop}
/-- A store into such a row; what lies below stays. -/
theorem S_putG {sz k n : Nat} {a x : O} (B G : MS) {y : AV} {cs vs : List AV} (hb : Own B.length (B ++ G) y sz cs) (hM : M = B ++ G) (hy : a.ev env = .elem y k) (hx : cellsOf (x.ev env) = some vs) (hn : vs.length = n) (hvs : allI vs = true) (hk : k + n ≤ cs.length) (hpos : 0 < n) (hbase : base ≤ B.length)
    (h : ∀ G', Own B.length (B ++ G') y sz (splice cs k vs) → WS p base 0 r (updO env d (.flat undef)) (B ++ G') D R) :
    WS p base 0 (⟨d, .store n a x, none⟩ :: r) env M D R := by
  subst hM
  have hlen := hb.buf.len
  obtain ⟨h0, hA, ⟨q, hq⟩, ⟨hnil, _⟩ | ⟨hne, id, hid, hlt, hs, hm⟩⟩ := hb
  · subst hnil; simp at hk; omega
  · have hsl : (splice cs k vs).length = cs.length := by simp [splice]; omega
    have hv : evI (ev p) base env (B ++ G) D (.store n a x) = some (.x (.flat undef) ((B ++ G).set id (some (splice cs k vs))) D) := by
      simp only [evI, hx, hn, if_true, hy, hs, storeA, frzAll_I hvs, hm, Nat.zero_add, hlen]
      rw [if_pos ⟨by omega, Nat.le_refl _⟩]
      simp only [dirt]
      rw [if_neg (by omega)]
    have hset : (B ++ G).set id (some (splice cs k vs)) = B ++ G.set (id - B.length) (some (splice cs k vs)) := by rw [List.set_append_right _ _ hid]
    refine S_0 hv (SO_x ?_)
    rw [hset]
    refine h _ ⟨h0, allI_app (allI_app (allI_take _ hA) hvs) (allI_drop _ hA), ⟨q, by rw [hsl, hq]⟩, .inr ⟨?_, id, hid, by simpa using hlt, by rw [hsl]; exact hs, ?_⟩⟩
    · intro e; have := congrArg List.length e; rw [hsl] at this; exact hne (List.eq_nil_of_length_eq_zero (by simpa using this))
    · rw [← hset, List.getElem?_set_self hlt]
end
end Go.Proofs.Ytopiaiibpacmlaa.Av
