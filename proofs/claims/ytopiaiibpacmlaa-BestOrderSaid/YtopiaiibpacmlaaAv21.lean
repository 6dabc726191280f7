/- Rules, one by one, for a walk through code with values that are partly known. -/
import Derived.Test.YtopiaiibpacmlaaAv20
namespace Go.Proofs.Ytopiaiibpacmlaa.Av
open Go.RowKit
set_option linter.unusedSimpArgs false
section
variable {p : Pr} {base : Nat} {env : Env} {M M' : MS} {D D' : List Nat} {d : Option Nat} {i : I} {r : List AOp} {v : AV} {g : Option (Nat × Bool)} {t : Nat} {b : Bool} {R : Env → MS → List Nat → Prop} {Q : Post} {k : Nat}
theorem S_nil (h : R env M D) : WS p base k [] env M D R := h
theorem S_q (hv : evI (ev p) base env M D i = some (.q v)) (h : WS p base 0 r (updO env d v) M D R) : WS p base 0 (⟨d, i, none⟩ :: r) env M D R := by
  rw [WS_c0, hv]; exact h
theorem S_x (hv : evI (ev p) base env M D i = some (.x v M' D')) (h : WS p base 0 r (updO env d v) M' D' R) : WS p base 0 (⟨d, i, none⟩ :: r) env M D R := by
  rw [WS_c0, hv]; exact h
theorem S_q1 (hv : evI (ev p) base env M [] i = some (.q v)) (h : WS p base k r (updO env d v) M D R) : WS p base (k + 1) (⟨d, i, none⟩ :: r) env M D R := by
  rw [WS_c1, hv]; exact h
theorem S_gq (hg : wantA env (some (t, b)) = some true) (hv : evI (ev p) base env M D i = some (.q v)) (h : WS p base 0 r (updO env d v) M D R) : WS p base 0 (⟨d, i, some (t, b)⟩ :: r) env M D R := by
  rw [WS_g0, hg, hv]; exact h
theorem S_gx (hg : wantA env (some (t, b)) = some true) (hv : evI (ev p) base env M D i = some (.x v M' D')) (h : WS p base 0 r (updO env d v) M' D' R) : WS p base 0 (⟨d, i, some (t, b)⟩ :: r) env M D R := by
  rw [WS_g0, hg, hv]; exact h
theorem S_gq1 (hg : wantA env (some (t, b)) = some true) (hv : evI (ev p) base env M [] i = some (.q v)) (h : WS p base k r (updO env d v) M D R) : WS p base (k + 1) (⟨d, i, some (t, b)⟩ :: r) env M D R := by
  rw [WS_g1, hg, hv]; exact h
theorem S_gf (hg : wantA env (some (t, b)) = some false) (h : WS p base 0 r (updO env d (.flat undef)) M D R) : WS p base 0 (⟨d, i, some (t, b)⟩ :: r) env M D R := by
  rw [WS_g0, hg]; exact h
theorem S_gf1 (hg : wantA env (some (t, b)) = some false) (h : WS p base k r (updO env d (.flat undef)) M D R) : WS p base (k + 1) (⟨d, i, some (t, b)⟩ :: r) env M D R := by
  rw [WS_g1, hg]; exact h
/-- Behind an instruction, by what it comes to. -/
def SO (p : Pr) (base : Nat) (r : List AOp) (d : Option Nat) (env : Env) (M : MS) (D : List Nat) (R : Env → MS → List Nat → Prop) : Out → Prop
  | .q v => WS p base 0 r (updO env d v) M D R
  | .x v M' D' => WS p base 0 r (updO env d v) M' D' R
theorem SO_q (h : WS p base 0 r (updO env d v) M D R) : SO p base r d env M D R (.q v) := h
theorem SO_x (h : WS p base 0 r (updO env d v) M' D' R) : SO p base r d env M D R (.x v M' D') := h
theorem S_0 {out : Out} (hv : evI (ev p) base env M D i = some out) (h : SO p base r d env M D R out) : WS p base 0 (⟨d, i, none⟩ :: r) env M D R := by
  rw [WS_c0, hv]
  cases out <;> exact h
/-- An instruction behind a guard. -/
def SG (p : Pr) (base k : Nat) (d : Option Nat) (i : I) (r : List AOp) (env : Env) (M : MS) (D : List Nat) (R : Env → MS → List Nat → Prop) : Bool → Prop
  | true => WS p base k (⟨d, i, none⟩ :: r) env M D R
  | false => WS p base (k - 1) r (updO env d (.flat undef)) M D R
theorem SG_t (h : WS p base k (⟨d, i, none⟩ :: r) env M D R) : SG p base k d i r env M D R true := h
theorem SG_f0 (h : WS p base 0 r (updO env d (.flat undef)) M D R) : SG p base 0 d i r env M D R false := h
theorem SG_f1 (h : WS p base k r (updO env d (.flat undef)) M D R) : SG p base (k + 1) d i r env M D R false := h
theorem SG_d {c : Prop} [Decidable c] (h1 : c → SG p base k d i r env M D R true) (h2 : ¬ c → SG p base k d i r env M D R false) : SG p base k d i r env M D R (decide c) := by
  by_cases h : c
  · simp only [h, decide_true]; exact h1 h
  · simp only [h, decide_false]; exact h2 h
theorem SG_b {c : Bool} (h1 : c = true → SG p base k d i r env M D R true) (h2 : c = false → SG p base k d i r env M D R false) : SG p base k d i r env M D R c := by
  cases c
  · exact h2 rfl
  · exact h1 rfl
theorem SG_n {c : Bool} (h : c = true → SG p base k d i r env M D R false) (h2 : c = false → SG p base k d i r env M D R true) : SG p base k d i r env M D R (!c) := by
  cases c
  · exact h2 rfl
  · exact h rfl
theorem S_g {c : Bool} (hg : wantA env (some (t, b)) = some c) (h : SG p base k d i r env M D R c) : WS p base k (⟨d, i, some (t, b)⟩ :: r) env M D R := by
  cases c with
  | true =>
    cases k with
    | zero => rw [WS_g0, hg, kW_t]; rw [SG, WS_c0] at h; exact h
    | succ k => rw [WS_g1, hg, kW_t]; rw [SG, WS_c1] at h; exact h
  | false =>
    cases k with
    | zero => rw [WS_g0, hg, kW_f]; exact h
    | succ k => rw [WS_g1, hg, kW_f]; exact h
/-- A branch, by what is asked. -/
def SC (p : Pr) (base : Nat) (a b : AC) (env : Env) (M : MS) (D : List Nat) (Q : Post) : Bool → Prop
  | true => W p base a env M D Q
  | false => W p base b env M D Q
theorem SC_t {a b : AC} (h : W p base a env M D Q) : SC p base a b env M D Q true := h
theorem SC_f {a b : AC} (h : W p base b env M D Q) : SC p base a b env M D Q false := h
theorem SC_d {a b : AC} {c : Prop} [Decidable c] (h1 : c → W p base a env M D Q) (h2 : ¬ c → W p base b env M D Q) : SC p base a b env M D Q (decide c) := by
  by_cases h : c
  · simp only [h, decide_true]; exact h1 h
  · simp only [h, decide_false]; exact h2 h
theorem SC_n {a b : AC} {c : Bool} (h : SC p base b a env M D Q c) : SC p base a b env M D Q (!c) := by cases c <;> exact h
theorem SC_b {a b : AC} {c : Bool} (h1 : c = true → W p base a env M D Q) (h2 : c = false → W p base b env M D Q) : SC p base a b env M D Q c := by
  cases c
  · exact h2 rfl
  · exact h1 rfl
theorem S_c {o : O} {a b : AC} {c : Bool} (hc : o.ev env = .flat (.bool c)) (h : SC p base a b env M D Q c) : W p base (.cond o a b) env M D Q := by
  refine W_cond hc ?_
  cases c <;> exact h
theorem S_gd {c : Prop} [Decidable c] (_ : wantA env (some (t, b)) = some (decide c)) (h1 : c → WS p base k (⟨d, i, some (t, b)⟩ :: r) env M D R) (h2 : ¬ c → WS p base k (⟨d, i, some (t, b)⟩ :: r) env M D R) : WS p base k (⟨d, i, some (t, b)⟩ :: r) env M D R := by
  by_cases h : c
  · exact h1 h
  · exact h2 h
theorem T_n {b : AC} (h : W p base b env M D Q) : thenW p base b Q .nrm env M D := h
theorem T_e {b : AC} {j : Nat} (h : Q (.exit j) env M D) : thenW p base b Q (.exit j) env M D := h
theorem T_r {b : AC} (h : Q .ret env M D) : thenW p base b Q .ret env M D := h
theorem B_n {j : Nat} (h : Q .nrm env M D) : blkW j Q .nrm env M D := h
theorem B_e {j : Nat} (h : Q .nrm env M D) : blkW j Q (.exit j) env M D := by simp only [blkW, if_true]; exact h
theorem B_ne {j l : Nat} (hn : l ≠ j) (h : Q (.exit l) env M D) : blkW j Q (.exit l) env M D := by simp only [blkW, if_neg hn]; exact h
theorem B_r {j : Nat} (h : Q .ret env M D) : blkW j Q .ret env M D := h
theorem R_n {J : Nat → Env → MS → List Nat → Prop} {m : Nat} (m' : Nat) (hm : m' < m) (h : J m' env M D) : roundW J m Q .nrm env M D := ⟨m', hm, h⟩
theorem R_e {J : Nat → Env → MS → List Nat → Prop} {m j : Nat} (h : Q (.exit j) env M D) : roundW J m Q (.exit j) env M D := h
theorem R_r {J : Nat → Env → MS → List Nat → Prop} {m : Nat} (h : Q .ret env M D) : roundW J m Q .ret env M D := h
theorem C_t {o : O} {a b : AC} (ht : o.ev env = .flat (.bool true)) (h : W p base a env M D Q) : W p base (.cond o a b) env M D Q := W_cond ht h
theorem C_f {o : O} {a b : AC} (ht : o.ev env = .flat (.bool false)) (h : W p base b env M D Q) : W p base (.cond o a b) env M D Q := W_cond ht h
theorem C_b {o : O} {a b : AC} {c : Bool} (ht : o.ev env = .flat (.bool c)) (h1 : c = true → W p base a env M D Q) (h2 : c = false → W p base b env M D Q) : W p base (.cond o a b) env M D Q := by
  refine W_cond ht ?_
  cases c
  · exact h2 rfl
  · exact h1 rfl
end
theorem ev_fn' {p : Pr} {f : Nat} {bd : AC} {rs : List RV} {kp : Bool} {args : List AV} {M : MS} {out : Out} (hA : p.A f = some ⟨bd, rs, kp⟩)
    (h : W p M.length bd (env0 args) M [] fun ex e m d => (ex = .nrm ∨ ex = .ret) ∧ (resA e m rs).bind (fun vs => fin M.length kp (tupA vs) m d) = some out) : ev p f args M = some out := ev_fn hA h
theorem wrap64 {x : Int} (h1 : -9223372036854775808 ≤ x) (h2 : x < 9223372036854775808) : IntKind.i64.wrap x = x := by
  simp only [IntKind.wrap, IntKind.signed, IntKind.bits, Bool.true_and, decide_eq_true_eq, show (2 : Int) ^ 64 = 18446744073709551616 by decide, show (2 : Int) ^ (64 - 1) = 9223372036854775808 by decide]
  by_cases h : x % 18446744073709551616 ≥ 9223372036854775808
  · rw [if_pos h]; omega
  · rw [if_neg h]; omega
theorem upd_b (e : Env) (t x : Nat) (v : AV) : upd e t v x = bif x == t then v else e x := by
  by_cases h : x = t
  · subst h; simp [upd]
  · simp [upd, h, beq_eq_false_iff_ne.2 h]
theorem upd_eq (e : Env) (t : Nat) (v : AV) : upd e t v t = v := by simp [upd]
theorem upd_ne {e : Env} {t x : Nat} {v : AV} (h : x ≠ t) : upd e t v x = e x := by simp [upd, h]
theorem updO_some (e : Env) (t : Nat) (v : AV) : updO e (some t) v = upd e t v := rfl
theorem updO_none (e : Env) (v : AV) : updO e none v = e := rfl
theorem ev_t (e : Env) (n : Nat) : O.ev e (.t n) = e n := rfl
theorem ev_k (e : Env) (v : AV) : O.ev e (.k v) = v := rfl
theorem env0_nil (n : Nat) : env0 [] n = .flat undef := by simp [env0]
theorem env0_zero (x : AV) (l : List AV) : env0 (x :: l) 0 = x := rfl
theorem env0_succ (x : AV) (l : List AV) (n : Nat) : env0 (x :: l) (n + 1) = env0 l n := rfl
theorem view_list (M : MS) (sz : Nat) (cs : List AV) (nl cd : Bool) : view M (.list sz cs nl cd) = some cs := rfl
theorem lenOf_list (sz : Nat) (cs : List AV) (nl cd : Bool) : lenOf (.list sz cs nl cd) = some (cs.length / sz) := rfl
theorem lenOf_ms (id off len sz : Nat) (cd : Bool) : lenOf (.ms id off len sz cd) = some len := rfl
theorem lenM_list (M : MS) (sz : Nat) (cs : List AV) (nl cd : Bool) : lenM M (.list sz cs nl cd) = some (cs.length / sz) := rfl
theorem aview_elem (M : MS) (x : AV) (k : Nat) : aview M (.elem x k) = (view M x).map (·.drop k) := rfl
theorem ints_len (l : List Int) : (intsA l).length = l.length := by simp [intsA]
theorem ints_get (l : List Int) (j : Nat) : (intsA l)[j]? = (l[j]?).map fun n => .flat (.int .i64 n) := by simp [intsA]
theorem ints_drop (l : List Int) (k : Nat) : (intsA l).drop k = intsA (l.drop k) := by simp [intsA, List.map_drop]
theorem ints_take (l : List Int) (k : Nat) : (intsA l).take k = intsA (l.take k) := by simp [intsA, List.map_take]
theorem ints_head (l : List Int) (j : Nat) (h : j < l.length) : (intsA (l.drop j)).head? = some (.flat (.int .i64 l[j])) := by
  rw [← ints_drop, List.head?_drop, ints_get, List.getElem?_eq_getElem h]; rfl
theorem ints_head0 (l : List Int) (h : 0 < l.length) : (intsA l).head? = some (.flat (.int .i64 l[0])) := by
  have := ints_head l 0 h; rwa [List.drop_zero] at this
theorem beq_dec (a b : Int) : (a == b) = decide (a = b) := by by_cases h : a = b <;> simp [h]
theorem bne_dec (a b : Int) : (a != b) = decide (¬ a = b) := by by_cases h : a = b <;> simp [h]
theorem allI_ints : ∀ l : List Int, allI (intsA l) = true
  | [] => rfl
  | _ :: l => by have := allI_ints l; simpa [intsA, allI, isI] using this
end Go.Proofs.Ytopiaiibpacmlaa.Av
