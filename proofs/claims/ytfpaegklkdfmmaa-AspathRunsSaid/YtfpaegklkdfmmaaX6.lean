/- Runs that are the same; a number many times. -/
import Derived.Test.YtfpaegklkdfmmaaX5
namespace Go.Proofs.Ytfpaegklkdfmmaa.Av
open Go.RowKit
set_option linter.unusedSimpArgs false
set_option linter.unusedVariables false
set_option maxHeartbeats 10000000
theorem t16 {x y : List (Int × Int)} {nx cx ny cy : Bool} {M : MS} (hx : x.length ≤ 1000000) (hy : y.length ≤ 1000000) : ev pr 16 [.list 2 (rnsA x) nx cx, .list 2 (rnsA y) ny cy] M = some (.q (.flat (.bool (decide (x = y))))) := by
  refine ev_fn' A16 ?_
  repeat' (first | ((with_reducible first | apply S_0 | apply S_q1 | apply S_g | apply S_c); exact sgc) | (with_reducible first | apply SO_q | apply SG_t | apply SG_f0 | apply SG_f1 | apply S_nil | apply T_n | apply W_seq | apply W_region | apply SO_x | apply SC_t | apply SC_f | apply W_block | apply W_ret | apply W_skip | apply W_exit | apply T_r | apply T_e | apply B_n | apply B_e) | (with_reducible apply B_ne; focus decide) | (with_reducible first | apply B_r | apply R_e | apply R_r | apply H_e | apply H_r | apply G_e | apply G_r) | (with_reducible apply SC_n) | ((with_reducible first | apply SC_d | apply SG_d | apply SG_n | apply SC_b | apply SG_b) <;> intro hc <;> try simp only [decide_eq_true_eq, decide_eq_false_iff_not, Classical.not_not, Bool.not_eq_true', Bool.not_eq_false'] at hc))
  · (refine ⟨by first | exact .inr rfl | exact .inl rfl, ?_⟩; simp (disch := first | assumption | decide | omega | exact List.getElem_mem _ | exact allI_ints _ | exact allI_rns _ | (simp only [List.length_take, List.length_drop, List.length_append, List.length_cons, List.length_nil, List.length_replicate, List.length_map, ints_len, rns_len]; omega)) only [resA, rvA, tupA, fin, frzV, frzTup, frzA, frz, isI, isI.all, Option.bind_some, go_sem, if_pos, if_neg, Nat.reduceBEq, Nat.reduceEqDiff, ↓reduceIte, Nat.reduceSub, Nat.reduceAdd, Int.reduceToNat, reduceCtorEq, Nat.reduceLeDiff, Nat.reduceLT, Nat.reduceMul, Nat.reduceDiv, Int.reduceLT, Int.reduceLE, Int.reduceEq, Int.reduceNe, Int.reduceAdd, Int.reduceSub, Int.reduceNeg, Int.reduceGT, Int.reduceGE, Int.reduceBEq, Int.reduceBNe, Int.reduceMul, *])
    have : ¬ x = y := by rintro rfl; omega
    simp only [this, decide_false]
  have hn : x.length ≤ y.length ∧ y.length ≤ x.length := by omega
  clear hc
  refine W_rng 5 0 x.length (fun i _ => x.take i = y.take i) (by simp only [asg, asgO, List.append_nil, List.nil_append, List.cons_append]; rfl) (by exact svc) (by omega) (by simp) ?_
  rintro i e _ hi hk e5 hl
  repeat' (first | ((with_reducible first | apply S_0 | apply S_q1 | apply S_g | apply S_c); exact sgc) | (with_reducible first | apply SO_q | apply SG_t | apply SG_f0 | apply SG_f1 | apply S_nil | apply T_n | apply W_seq | apply W_region | apply SO_x | apply SC_t | apply SC_f | apply W_block | apply W_ret | apply W_skip | apply W_exit | apply T_r | apply T_e | apply B_n | apply B_e) | (with_reducible apply B_ne; focus decide) | (with_reducible first | apply B_r | apply R_e | apply R_r | apply H_e | apply H_r | apply G_e | apply G_r) | (with_reducible apply SC_n) | ((with_reducible first | apply SC_d | apply SG_d | apply SG_n | apply SC_b | apply SG_b) <;> intro hc <;> try simp only [decide_eq_true_eq, decide_eq_false_iff_not, Classical.not_not, Bool.not_eq_true', Bool.not_eq_false'] at hc))
  · have h1 : i < x.length := by omega
    have h2 : i < y.length := by omega
    have hc' : x[i] = y[i] := Prod.ext (by simp only [beq_iff_eq, List.cons.injEq] at hc; exact hc.1) (by simp only [beq_iff_eq, List.cons.injEq] at hc; exact hc.2.1)
    exact H_n (by exact svc) (by omega) (takes_ext hl h1 h2 hc')
  · (refine ⟨by first | exact .inr rfl | exact .inl rfl, ?_⟩; simp (disch := first | assumption | decide | omega | exact List.getElem_mem _ | exact allI_ints _ | exact allI_rns _ | (simp only [List.length_take, List.length_drop, List.length_append, List.length_cons, List.length_nil, List.length_replicate, List.length_map, ints_len, rns_len]; omega)) only [resA, rvA, tupA, fin, frzV, frzTup, frzA, frz, isI, isI.all, Option.bind_some, go_sem, if_pos, if_neg, Nat.reduceBEq, Nat.reduceEqDiff, ↓reduceIte, Nat.reduceSub, Nat.reduceAdd, Int.reduceToNat, reduceCtorEq, Nat.reduceLeDiff, Nat.reduceLT, Nat.reduceMul, Nat.reduceDiv, Int.reduceLT, Int.reduceLE, Int.reduceEq, Int.reduceNe, Int.reduceAdd, Int.reduceSub, Int.reduceNeg, Int.reduceGT, Int.reduceGE, Int.reduceBEq, Int.reduceBNe, Int.reduceMul, *])
    have : ¬ x = y := by rintro rfl; simp at hc
    simp only [this, decide_false]
  · (refine ⟨by first | exact .inr rfl | exact .inl rfl, ?_⟩; simp (disch := first | assumption | decide | omega | exact List.getElem_mem _ | exact allI_ints _ | exact allI_rns _ | (simp only [List.length_take, List.length_drop, List.length_append, List.length_cons, List.length_nil, List.length_replicate, List.length_map, ints_len, rns_len]; omega)) only [resA, rvA, tupA, fin, frzV, frzTup, frzA, frz, isI, isI.all, Option.bind_some, go_sem, if_pos, if_neg, Nat.reduceBEq, Nat.reduceEqDiff, ↓reduceIte, Nat.reduceSub, Nat.reduceAdd, Int.reduceToNat, reduceCtorEq, Nat.reduceLeDiff, Nat.reduceLT, Nat.reduceMul, Nat.reduceDiv, Int.reduceLT, Int.reduceLE, Int.reduceEq, Int.reduceNe, Int.reduceAdd, Int.reduceSub, Int.reduceNeg, Int.reduceGT, Int.reduceGE, Int.reduceBEq, Int.reduceBNe, Int.reduceMul, *])
    have : x = y := eq_of_takes hl (by omega) (by omega)
    simp only [this, decide_true]
theorem w64' : ∀ n : Fin 17, IntKind.u64.wrap ((n.val : Nat) : Int) = (n.val : Nat) := by decide
theorem wi64' : ∀ n : Fin 17, IntKind.i64.wrap ((n.val : Nat) : Int) = (n.val : Nat) := by decide
theorem w64 (n : Nat) (h : n ≤ 16) : IntKind.u64.wrap (n : Int) = n := w64' ⟨n, by omega⟩
theorem wi64 (n : Nat) (h : n ≤ 16) : IntKind.i64.wrap (n : Int) = n := wi64' ⟨n, by omega⟩
section
variable {p : Pr} {base : Nat} {env : Env} {M : MS} {D : List Nat} {d : Option Nat} {r : List AOp} {R : Env → MS → List Nat → Prop}
/-- A copy into a block of the call's own. -/
theorem S_copy {sz id off len n : Nat} {cd : Bool} {x y : O} {cs old : List AV} (hx : x.ev env = .ms id off len sz cd) (hv : view M (y.ev env) = some cs) (hl : lenOf (y.ev env) = some n) (hM : M[id]? = some (some old)) (hA : allI cs = true)
    (h1 : off + len * sz ≤ old.length) (h2 : Nat.min n len * sz ≤ cs.length) (hb : base ≤ id) (h : WS p base 0 r (updO env d (.flat (.int .i64 (Nat.min n len : Nat)))) (M.set id (some (splice old off (cs.take (Nat.min n len * sz))))) D R) :
    WS p base 0 (⟨d, .copy sz x y, none⟩ :: r) env M D R := by
  have hq : evI (ev p) base env M D (.copy sz x y) = some (.x (.flat (.int .i64 (Nat.min n len : Nat))) (M.set id (some (splice old off (cs.take (Nat.min n len * sz))))) D) := by
    simp only [evI, hx, hv, hl, hM]
    rw [if_pos ⟨trivial, hA, h1, h2⟩, dirt_out hb]
  exact S_0 hq (SO_x h)
end
theorem mul46 (n : Nat) (hn : n ≤ 16) (M : MS) : ev pr 46 [.flat (.int .u64 1), .flat (.int .u64 n)] M = some (.q (.tup [.flat (.int .u64 0), .flat (.int .u64 n)])) := by
  rw [ev_ext (by rfl)]
  have h : n = 0 ∨ n = 1 ∨ n = 2 ∨ n = 3 ∨ n = 4 ∨ n = 5 ∨ n = 6 ∨ n = 7 ∨ n = 8 ∨ n = 9 ∨ n = 10 ∨ n = 11 ∨ n = 12 ∨ n = 13 ∨ n = 14 ∨ n = 15 ∨ n = 16 := by omega
  rcases h with rfl | rfl | rfl | rfl | rfl | rfl | rfl | rfl | rfl | rfl | rfl | rfl | rfl | rfl | rfl | rfl | rfl <;> (show pr.ext 46 _ M = _; kernel_rfl)
/-- A number, as often as is asked. -/
theorem t31 {a : Int} {n : Nat} {M : MS} (hn : n ≤ 16) : ∃ cd, ev pr 31 [.list 1 [.flat (.int .i64 a)] false true, .flat (.int .i64 n)] M = some (.x (.ms M.length 0 n 1 cd) (M ++ [some (List.replicate n (.flat (.int .i64 a)))]) []) := by
  have h46 := fun M => mul46 n hn M
  have u1 : IntKind.u64.wrap 1 = 1 := by decide
  have u2 := w64 n hn
  have u3 := wi64 n hn
  have u4 : (n : Int) ≤ LIM := by unfold LIM; omega
  have u5 : ∀ z : AV, (List.replicate n [z]).flatten = List.replicate n z := fun z => by simp
  refine ⟨true, ?_⟩
  refine ev_fn' A31 ?_
  repeat' (first | ((with_reducible first | apply S_0 | apply S_q1 | apply S_g | apply S_c); exact sgc) | (with_reducible first | apply SO_q | apply SG_t | apply SG_f0 | apply SG_f1 | apply S_nil | apply T_n | apply W_seq | apply W_region | apply SO_x | apply SC_t | apply SC_f | apply W_block | apply W_ret | apply W_skip | apply W_exit | apply T_r | apply T_e | apply B_n | apply B_e) | (with_reducible apply B_ne; focus decide) | (with_reducible first | apply B_r | apply R_e | apply R_r | apply H_e | apply H_r | apply G_e | apply G_r) | (with_reducible apply SC_n) | ((with_reducible first | apply SC_d | apply SG_d | apply SG_n | apply SC_b | apply SG_b) <;> intro hc <;> try simp only [decide_eq_true_eq, decide_eq_false_iff_not, Classical.not_not, Bool.not_eq_true', Bool.not_eq_false'] at hc))
  · exfalso; omega
  · exfalso; omega
  refine S_copy (id := M.length) (off := 0) (len := n) (cd := true) (old := List.replicate n (.flat (.int .i64 0))) (cs := [.flat (.int .i64 a)]) (n := 1) (by exact svc) (by exact svc) (by exact svc) (by simp) rfl (by simp) ?_ (by simp) ?_
  · simp only [List.length_cons, List.length_nil, Nat.mul_one]; exact Nat.min_le_left _ _
  rcases Nat.eq_zero_or_pos n with h0 | h0
  · subst h0
    have e1 : Nat.min 1 0 = 0 := rfl
    have e2 : splice [] 0 ([] : List AV) = [] := rfl
    have e3 : (M ++ [some ([] : List AV)]).set M.length (some []) = M ++ [some []] := by rw [set_app0]; rfl
    have e4 : List.replicate 0 (AV.flat (.int .i64 a)) = [] := rfl
    have e5 : List.replicate 0 (AV.flat (.int .i64 0)) = [] := rfl
    simp only [e1, e5, List.take_zero, Nat.zero_mul, e2, e3, e4]
    repeat' (first | ((with_reducible first | apply S_0 | apply S_q1 | apply S_g | apply S_c); exact sgc) | (with_reducible first | apply SO_q | apply SG_t | apply SG_f0 | apply SG_f1 | apply S_nil | apply T_n | apply W_seq | apply W_region | apply SO_x | apply SC_t | apply SC_f | apply W_block | apply W_ret | apply W_skip | apply W_exit | apply T_r | apply T_e | apply B_n | apply B_e) | (with_reducible apply B_ne; focus decide) | (with_reducible first | apply B_r | apply R_e | apply R_r | apply H_e | apply H_r | apply G_e | apply G_r) | (with_reducible apply SC_n) | ((with_reducible first | apply SC_d | apply SG_d | apply SG_n | apply SC_b | apply SG_b) <;> intro hc <;> try simp only [decide_eq_true_eq, decide_eq_false_iff_not, Classical.not_not, Bool.not_eq_true', Bool.not_eq_false'] at hc))
    refine W_loop1 ?_
    repeat' (first | ((with_reducible first | apply S_0 | apply S_q1 | apply S_g | apply S_c); exact sgc) | (with_reducible first | apply SO_q | apply SG_t | apply SG_f0 | apply SG_f1 | apply S_nil | apply T_n | apply W_seq | apply W_region | apply SO_x | apply SC_t | apply SC_f | apply W_block | apply W_ret | apply W_skip | apply W_exit | apply T_r | apply T_e | apply B_n | apply B_e) | (with_reducible apply B_ne; focus decide) | (with_reducible first | apply B_r | apply R_e | apply R_r | apply H_e | apply H_r | apply G_e | apply G_r) | (with_reducible apply SC_n) | ((with_reducible first | apply SC_d | apply SG_d | apply SG_n | apply SC_b | apply SG_b) <;> intro hc <;> try simp only [decide_eq_true_eq, decide_eq_false_iff_not, Classical.not_not, Bool.not_eq_true', Bool.not_eq_false'] at hc))
    (first | exact fincR | exact fincN)
  have e1 : Nat.min 1 n = 1 := Nat.min_eq_left h0
  have rp : ∀ k, k ≤ n → splice (List.replicate k (AV.flat (.int .i64 a)) ++ List.replicate (n - k) (AV.flat (.int .i64 0))) k (List.replicate (Nat.min k (n - k)) (AV.flat (.int .i64 a))) = List.replicate (k + Nat.min k (n - k)) (AV.flat (.int .i64 a)) ++ List.replicate (n - (k + Nat.min k (n - k))) (AV.flat (.int .i64 0)) := by
    intro k hk
    simp only [splice]
    rw [List.take_left' (by simp), List.replicate_append_replicate, List.length_replicate, List.drop_append, List.drop_of_length_le (by simp), List.nil_append, List.drop_replicate, List.length_replicate]
    congr 2
    omega
  have e3 : (M ++ [some (List.replicate n (AV.flat (.int .i64 0)))]).set M.length (some (splice (List.replicate n (AV.flat (.int .i64 0))) 0 [AV.flat (.int .i64 a)])) = M ++ [some (List.replicate 1 (AV.flat (.int .i64 a)) ++ List.replicate (n - 1) (AV.flat (.int .i64 0)))] := by
    rw [set_app0]
    simp [splice, List.drop_replicate]
  simp only [e1, Nat.one_mul, List.take_succ_cons, List.take_zero, e3]
  repeat' (first | ((with_reducible first | apply S_0 | apply S_q1 | apply S_g | apply S_c); exact sgc) | (with_reducible first | apply SO_q | apply SG_t | apply SG_f0 | apply SG_f1 | apply S_nil | apply T_n | apply W_seq | apply W_region | apply SO_x | apply SC_t | apply SC_f | apply W_block | apply W_ret | apply W_skip | apply W_exit | apply T_r | apply T_e | apply B_n | apply B_e) | (with_reducible apply B_ne; focus decide) | (with_reducible first | apply B_r | apply R_e | apply R_r | apply H_e | apply H_r | apply G_e | apply G_r) | (with_reducible apply SC_n) | ((with_reducible first | apply SC_d | apply SG_d | apply SG_n | apply SC_b | apply SG_b) <;> intro hc <;> try simp only [decide_eq_true_eq, decide_eq_false_iff_not, Classical.not_not, Bool.not_eq_true', Bool.not_eq_false'] at hc))
  refine W_whl (fun q e m d => ∃ k : Nat, q = n - k ∧ 1 ≤ k ∧ k ≤ n ∧ e 8 = .flat (.int .i64 k) ∧ m = M ++ [some (List.replicate k (.flat (.int .i64 a)) ++ List.replicate (n - k) (.flat (.int .i64 0)))] ∧ d = []) (n - 1) (by simp only [asg, asgO, List.append_nil, List.nil_append, List.cons_append]; rfl)
    ⟨1, rfl, by omega, by omega, by exact svc, rfl, rfl⟩ ?_
  rintro q e m d hk ⟨k, rfl, hk1, hkn, e8, rfl, rfl⟩
  have k7 : e 7 = .ms M.length 0 n 1 true := by rw [hk 7 rfl]; exact svc
  clear hk
  have v1 : (List.replicate k (AV.flat (.int .i64 a)) ++ List.replicate (n - k) (AV.flat (.int .i64 0))).take k = List.replicate k (AV.flat (.int .i64 a)) := List.take_left' (by simp)
  have hal : allI (List.replicate k (AV.flat (.int .i64 a))) = true := by
    clear e1 rp e3 v1 k7 e8 hk1 hkn
    induction k with
    | zero => rfl
    | succ k ih => rw [List.replicate_succ]; simp only [allI, isI, ih, Bool.and_self]
  repeat' (first | ((with_reducible first | apply S_0 | apply S_q1 | apply S_g | apply S_c); exact sgc) | (with_reducible first | apply SO_q | apply SG_t | apply SG_f0 | apply SG_f1 | apply S_nil | apply T_n | apply W_seq | apply W_region | apply SO_x | apply SC_t | apply SC_f | apply W_block | apply W_ret | apply W_skip | apply W_exit | apply T_r | apply T_e | apply B_n | apply B_e) | (with_reducible apply B_ne; focus decide) | (with_reducible first | apply B_r | apply R_e | apply R_r | apply H_e | apply H_r | apply G_e | apply G_r) | (with_reducible apply SC_n) | ((with_reducible first | apply SC_d | apply SG_d | apply SG_n | apply SC_b | apply SG_b) <;> intro hc <;> try simp only [decide_eq_true_eq, decide_eq_false_iff_not, Classical.not_not, Bool.not_eq_true', Bool.not_eq_false'] at hc))
  · refine S_copy (id := M.length) (off := k) (len := n - k) (cd := true) (old := List.replicate k (AV.flat (.int .i64 a)) ++ List.replicate (n - k) (.flat (.int .i64 0))) (cs := List.replicate k (AV.flat (.int .i64 a))) (n := k) (by exact svc) (by exact svc) (by exact svc) (by simp) hal (by simp) ?_ (by simp) ?_
    · simp only [List.length_replicate, Nat.mul_one]; exact Nat.min_le_left _ _
    have e5 : (List.replicate k (AV.flat (.int .i64 a))).take (Nat.min k (n - k)) = List.replicate (Nat.min k (n - k)) (AV.flat (.int .i64 a)) := by
      rw [List.take_replicate]; congr 1; exact Nat.min_eq_left (Nat.min_le_left _ _)
    have hkn' : k < n := by omega
    rw [Nat.mul_one, e5, rp k hkn, set_app0]
    have hmin : 1 ≤ Nat.min k (n - k) ∧ k + Nat.min k (n - k) ≤ n := by
      rw [show Nat.min k (n - k) = min k (n - k) from rfl]; omega
    generalize Nat.min k (n - k) = j at hmin
    clear e5 rp e3 v1
    repeat' (first | ((with_reducible first | apply S_0 | apply S_q1 | apply S_g | apply S_c); exact sgc) | (with_reducible first | apply SO_q | apply SG_t | apply SG_f0 | apply SG_f1 | apply S_nil | apply T_n | apply W_seq | apply W_region | apply SO_x | apply SC_t | apply SC_f | apply W_block | apply W_ret | apply W_skip | apply W_exit | apply T_r | apply T_e | apply B_n | apply B_e) | (with_reducible apply B_ne; focus decide) | (with_reducible first | apply B_r | apply R_e | apply R_r | apply H_e | apply H_r | apply G_e | apply G_r) | (with_reducible apply SC_n) | ((with_reducible first | apply SC_d | apply SG_d | apply SG_n | apply SC_b | apply SG_b) <;> intro hc <;> try simp only [decide_eq_true_eq, decide_eq_false_iff_not, Classical.not_not, Bool.not_eq_true', Bool.not_eq_false'] at hc))
    exact R_n _ (by omega) ⟨k + j, rfl, by omega, by omega, by exact svc, rfl, rfl⟩
  · have hk2 : k = n := by omega
    have hk3 : List.replicate k (AV.flat (.int .i64 a)) ++ List.replicate (n - k) (.flat (.int .i64 0)) = List.replicate n (AV.flat (.int .i64 a)) := by rw [hk2]; simp
    clear v1 hal rp e3
    rw [hk3]
    clear hk3 hk2
    (first | exact fincR | exact fincN)
end Go.Proofs.Ytfpaegklkdfmmaa.Av
namespace Go.Proofs.Ytfpaegklkdfmmaa.Av
open Go.RowKit
set_option linter.unusedSimpArgs false
set_option linter.unusedVariables false
set_option maxHeartbeats 10000000
/-- The path that runs tell. -/
def flat (R : List (Int × Int)) : List Int := (R.map fun r => List.replicate r.2.toNat r.1).flatten
theorem flat_s {R : List (Int × Int)} {i : Nat} (h : i < R.length) : flat (R.take (i + 1)) = flat (R.take i) ++ List.replicate R[i].2.toNat R[i].1 := by
  rw [flat, List.take_succ_eq_append_getElem h, List.map_append, List.flatten_append]; simp [flat]
def okAt (R : List (Int × Int)) (j : Nat) (h : j < R.length) : Prop := (1 ≤ R[j].1 ∧ R[j].1 ≤ 65535) ∧ 1 ≤ R[j].2 ∧ ∀ _ : 0 < j, ¬ R[j - 1].1 = R[j].1
/-- 4.2: runs may be. -/
def okR (R : List (Int × Int)) : Prop := ∀ j (h : j < R.length), okAt R j h
noncomputable instance (R : List (Int × Int)) : Decidable (okR R) := Classical.propDecidable _
noncomputable def ofE (R : List (Int × Int)) : Int := if okR R then if (flat R).length ≤ 16 then 0 else 2 else 1
noncomputable def ofP (R : List (Int × Int)) : List Int := if okR R ∧ (flat R).length ≤ 16 then flat R else []
theorem flat_mono (R : List (Int × Int)) (i : Nat) : (flat (R.take i)).length ≤ (flat R).length := by
  have h : flat R = flat (R.take i) ++ flat (R.drop i) := by
    rw [flat, flat, flat, ← List.flatten_append, ← List.map_append, List.take_append_drop]
  rw [h, List.length_append]; omega
theorem Own.finT {base lo : Nat} {m : MS} {x : AV} {sz : Nat} {cs : List AV} {v : Value} (h : Own lo m x sz cs) (hb : base ≤ lo) : Av.fin base false (.tup [x, .flat v]) m [] = some (.q (.tup [lst sz cs, .flat v])) := by
  obtain ⟨m', h1⟩ := h.frzG hb
  rcases h.own with ⟨rfl, _⟩ | ⟨id, _, _, rfl, _⟩
  · simp only [Av.fin, Bool.false_eq_true, if_false, frzV, frzTup, frzA, h1]
    simp only [Av.frz, isI, if_true, Option.map_some]
    exact if_pos rfl
  · simp only [Av.fin, Bool.false_eq_true, if_false, frzV, frzTup, frzA, h1]
    simp only [Av.frz, isI, if_true, Option.map_some]
    exact if_pos rfl
theorem ints_rep (a : Int) (n : Nat) : intsA (List.replicate n a) = List.replicate n (.flat (.int .i64 a)) := by simp [intsA]
theorem allI_rep (a : Int) (n : Nat) : allI (List.replicate n (.flat (.int .i64 a))) = true := by rw [← ints_rep]; exact allI_ints _
theorem t14 {R : List (Int × Int)} {nl cd : Bool} {M : MS} (hl : R.length ≤ 1000000) (h64 : ∀ a ∈ R, I64 a.1 ∧ I64 a.2) : ev pr 14 [.list 2 (rnsA R) nl cd] M = some (.q (.tup [lst 1 (intsA (ofP R)), .flat (.int .i64 (ofE R))])) := by
  have h31 := fun a n M h => @t31 a n M h
  refine ev_fn' A14 ?_
  repeat' (first | ((with_reducible first | apply S_0 | apply S_q1 | apply S_g | apply S_c); exact sgc) | (with_reducible first | apply SO_q | apply SG_t | apply SG_f0 | apply SG_f1 | apply S_nil | apply T_n | apply W_seq | apply W_region | apply SO_x | apply SC_t | apply SC_f | apply W_block | apply W_ret | apply W_skip | apply W_exit | apply T_r | apply T_e | apply B_n | apply B_e) | (with_reducible apply B_ne; focus decide) | (with_reducible first | apply B_r | apply R_e | apply R_r | apply H_e | apply H_r | apply G_e | apply G_r) | (with_reducible apply SC_n) | ((with_reducible first | apply SC_d | apply SG_d | apply SG_n | apply SC_b | apply SG_b) <;> intro hc <;> try simp only [decide_eq_true_eq, decide_eq_false_iff_not, Classical.not_not, Bool.not_eq_true', Bool.not_eq_false'] at hc))
  refine W_rngM 11 0 R.length (fun i e m => ∃ G, m = M ++ G ∧ ∀ j, j < i → ∀ h : j < R.length, okAt R j h) (by simp only [asg, asgO, List.append_nil, List.nil_append, List.cons_append]; rfl) (by exact svc) (by omega)
    ⟨[], by simp, fun j hj => by omega⟩ ?_
  rintro i e _ _ hi hk e11 ⟨G, rfl, hO⟩
  have k0 : e 0 = .list 2 (rnsA R) nl cd := by rw [hk 0 rfl]; exact svc
  have k9 : e 9 = .list 2 (rnsA R) nl cd := by rw [hk 9 rfl]; exact svc
  have k10 : e 10 = .flat (.int .i64 R.length) := by rw [hk 10 rfl]; exact svc
  clear hk
  rcases Nat.lt_or_ge i R.length with hlt | hlt
  · have hlt' : (i : Int) < R.length := by omega
    have bad : ¬ okAt R i hlt → lst 1 (intsA (ofP R)) = .list 1 [] true true ∧ ofE R = 1 := fun h => by
      have h1 : ¬ okR R := fun hh => h (hh i hlt)
      refine ⟨?_, by rw [ofE, if_neg h1]⟩
      rw [ofP, if_neg fun hh => h1 hh.1]; rfl
    clear h31 h64
    repeat' (first | ((with_reducible first | apply S_0 | apply S_q1 | apply S_g | apply S_c); exact sgc) | (with_reducible first | apply SO_q | apply SG_t | apply SG_f0 | apply SG_f1 | apply S_nil | apply T_n | apply W_seq | apply W_region | apply SO_x | apply SC_t | apply SC_f | apply W_block | apply W_ret | apply W_skip | apply W_exit | apply T_r | apply T_e | apply B_n | apply B_e) | (with_reducible apply B_ne; focus decide) | (with_reducible first | apply B_r | apply R_e | apply R_r | apply H_e | apply H_r | apply G_e | apply G_r) | (with_reducible apply SC_n) | ((with_reducible first | apply SC_d | apply SG_d | apply SG_n | apply SC_b | apply SG_b) <;> intro hc <;> try simp only [decide_eq_true_eq, decide_eq_false_iff_not, Classical.not_not, Bool.not_eq_true', Bool.not_eq_false'] at hc))
    · obtain ⟨b1, b2⟩ := bad fun h => hc h.1
      rw [b1, b2]
      clear b1 b2 bad
      (first | exact fincR | exact fincN)
    · obtain ⟨b1, b2⟩ := bad fun h => by have := h.2.1; omega
      rw [b1, b2]
      clear b1 b2 bad
      (first | exact fincR | exact fincN)
    · have i0 : 0 < i := by omega
      obtain ⟨b1, b2⟩ := bad fun h => h.2.2 i0 hc
      rw [b1, b2]
      clear b1 b2 bad hc
      (first | exact fincR | exact fincN)
    · clear bad
      exact G_n (by exact svc) hlt ⟨_, by first | rfl | simp only [List.append_assoc], ext1 hO fun _ => ⟨by assumption, by omega, fun _ => hc⟩⟩
    · clear bad
      exact G_n (by exact svc) hlt ⟨_, by first | rfl | simp only [List.append_assoc], ext1 hO fun _ => ⟨by assumption, by omega, fun h => by omega⟩⟩
  · have hlt' : ¬ (i : Int) < R.length := by omega
    have hR : okR R := fun j h => hO j (by omega) h
    clear hO
    repeat' (first | ((with_reducible first | apply S_0 | apply S_q1 | apply S_g | apply S_c); exact sgc) | (with_reducible first | apply SO_q | apply SG_t | apply SG_f0 | apply SG_f1 | apply S_nil | apply T_n | apply W_seq | apply W_region | apply SO_x | apply SC_t | apply SC_f | apply W_block | apply W_ret | apply W_skip | apply W_exit | apply T_r | apply T_e | apply B_n | apply B_e) | (with_reducible apply B_ne; focus decide) | (with_reducible first | apply B_r | apply R_e | apply R_r | apply H_e | apply H_r | apply G_e | apply G_r) | (with_reducible apply SC_n) | ((with_reducible first | apply SC_d | apply SG_d | apply SG_n | apply SC_b | apply SG_b) <;> intro hc <;> try simp only [decide_eq_true_eq, decide_eq_false_iff_not, Classical.not_not, Bool.not_eq_true', Bool.not_eq_false'] at hc))
    clear k9 k10
    refine W_rngM 43 0 R.length (fun i e m => ∃ v G, e 6 = v ∧ m = M ++ G ∧ Own M.length (M ++ G) v 1 (intsA (flat (R.take i))) ∧ (flat (R.take i)).length ≤ 16) (by simp only [asg, asgO, List.append_nil, List.nil_append, List.cons_append]; rfl) (by exact svc) (by omega)
      ⟨.list 1 [] true true, G, by exact svc, rfl, by simpa [flat, intsA] using Own.nil _ _ (by decide), by simp [flat]⟩ ?_
    rintro i e' _ _ hi' hk e43 ⟨w, G, e6, rfl, hO, h16⟩
    have k41 : e' 41 = .list 2 (rnsA R) nl cd := by rw [hk 41 rfl]; exact svc
    have k42 : e' 42 = .flat (.int .i64 R.length) := by rw [hk 42 rfl]; exact svc
    clear hk
    rcases Nat.lt_or_ge i R.length with hlt | hlt
    · have hlt' : (i : Int) < R.length := by omega
      obtain ⟨o1, o2, o3⟩ := hR i hlt
      obtain ⟨n, hn⟩ : ∃ n : Nat, R[i].2 = n := ⟨R[i].2.toNat, by omega⟩
      have hf := flat_s hlt
      have hf' := flat_mono R (i + 1)
      rw [hf, hn, Int.toNat_natCast] at hf'
      rw [hn, Int.toNat_natCast] at hf
      simp only [List.length_append, List.length_replicate] at hf'
      have hO1 := hO
      generalize flat (R.take i) = L at hO h16 hf hf' hO1
      have v0 := hO.view
      have v1 := hO.lenOf
      rw [ints_len, Nat.div_one] at v1
      have hO2 := hO.growG [some [.flat (.int .i64 R[i].1), .flat (.int .i64 n)]]
      have v0' := hO2.view
      rcases Nat.lt_or_ge 16 (L.length + n) with h17 | h17
      · have b1 : lst 1 (intsA (ofP R)) = .list 1 [] true true := by rw [ofP, if_neg fun hh => by have := hh.2; omega]; rfl
        have b2 : ofE R = 2 := by rw [ofE, if_pos hR, if_neg (by omega)]
        rw [b1, b2]
        clear hf hf' hR h64 h31 b1 b2 hO hO1 hO2
        repeat' (first | ((with_reducible first | apply S_0 | apply S_q1 | apply S_g | apply S_c); exact sgc) | (with_reducible first | apply SO_q | apply SG_t | apply SG_f0 | apply SG_f1 | apply S_nil | apply T_n | apply W_seq | apply W_region | apply SO_x | apply SC_t | apply SC_f | apply W_block | apply W_ret | apply W_skip | apply W_exit | apply T_r | apply T_e | apply B_n | apply B_e) | (with_reducible apply B_ne; focus decide) | (with_reducible first | apply B_r | apply R_e | apply R_r | apply H_e | apply H_r | apply G_e | apply G_r) | (with_reducible apply SC_n) | ((with_reducible first | apply SC_d | apply SG_d | apply SG_n | apply SC_b | apply SG_b) <;> intro hc <;> try simp only [decide_eq_true_eq, decide_eq_false_iff_not, Classical.not_not, Bool.not_eq_true', Bool.not_eq_false'] at hc))
        · (first | exact fincR | exact fincN)
        · exfalso; omega
      · obtain ⟨c1, h31⟩ := h31 R[i].1 n (M ++ (G ++ [some [.flat (.int .i64 R[i].1), .flat (.int .i64 n)]])) (by omega)
        have hO3 := hO2.growG [some (List.replicate n (.flat (.int .i64 R[i].1)))]
        have hal := allI_rep R[i].1 n
        have htk : List.take n (List.replicate n (AV.flat (.int .i64 R[i].1))) = List.replicate n (.flat (.int .i64 R[i].1)) := by rw [List.take_replicate, Nat.min_self]
        have hf0 : Hid (flat (R.take (i + 1)) = L ++ List.replicate n R[i].1) := hf
        clear hf hf' h64 hO hO1 o3
        repeat' (first | ((with_reducible first | apply S_0 | apply S_q1 | apply S_g | apply S_c); exact sgc) | (with_reducible first | apply SO_q | apply SG_t | apply SG_f0 | apply SG_f1 | apply S_nil | apply T_n | apply W_seq | apply W_region | apply SO_x | apply SC_t | apply SC_f | apply W_block | apply W_ret | apply W_skip | apply W_exit | apply T_r | apply T_e | apply B_n | apply B_e) | (with_reducible apply B_ne; focus decide) | (with_reducible first | apply B_r | apply R_e | apply R_r | apply H_e | apply H_r | apply G_e | apply G_r) | (with_reducible apply SC_n) | ((with_reducible first | apply SC_d | apply SG_d | apply SG_n | apply SC_b | apply SG_b) <;> intro hc <;> try simp only [decide_eq_true_eq, decide_eq_false_iff_not, Classical.not_not, Bool.not_eq_true', Bool.not_eq_false'] at hc))
        · exfalso; omega
        (refine S_ownG (cs := intsA L) M (G ++ [some [.flat (.int .i64 R[i].1), .flat (.int .i64 n)]] ++ [some (List.replicate n (.flat (.int .i64 R[i].1)))]) (by assumption) (by first | rfl | simp only [List.append_assoc, List.cons_append, List.nil_append]) (by exact sgc) (by exact sgc) (by exact sgc) (by exact sgc) (by exact sgc) (by (first | assumption | omega | (simp only [ints_len, Nat.div_one, Nat.one_mul, Nat.mul_one, List.length_map, rns_len, half, List.length_cons, List.length_nil, List.length_append, List.length_replicate]; omega))) (by (first | assumption | omega | (simp only [ints_len, Nat.div_one, Nat.one_mul, Nat.mul_one, List.length_map, rns_len, half, List.length_cons, List.length_nil, List.length_append, List.length_replicate]; omega))) (by first | omega | (simp; done) | (simp; omega)) ?_)
        intro v' G' hO'
        repeat' (first | ((with_reducible first | apply S_0 | apply S_q1 | apply S_g | apply S_c); exact sgc) | (with_reducible first | apply SO_q | apply SG_t | apply SG_f0 | apply SG_f1 | apply S_nil | apply T_n | apply W_seq | apply W_region | apply SO_x | apply SC_t | apply SC_f | apply W_block | apply W_ret | apply W_skip | apply W_exit | apply T_r | apply T_e | apply B_n | apply B_e) | (with_reducible apply B_ne; focus decide) | (with_reducible first | apply B_r | apply R_e | apply R_r | apply H_e | apply H_r | apply G_e | apply G_r) | (with_reducible apply SC_n) | ((with_reducible first | apply SC_d | apply SG_d | apply SG_n | apply SC_b | apply SG_b) <;> intro hc <;> try simp only [decide_eq_true_eq, decide_eq_false_iff_not, Classical.not_not, Bool.not_eq_true', Bool.not_eq_false'] at hc))
        refine G_n (by exact svc) hlt ⟨v', G', by exact svc, rfl, ?_, ?_⟩
        · rw [show flat _ = _ from hf0, intsA, List.map_append, List.map_replicate]; exact hO'
        · rw [show flat _ = _ from hf0, List.length_append, List.length_replicate]; exact h17
    · have hlt' : ¬ (i : Int) < R.length := by omega
      obtain rfl : i = R.length := by omega
      rw [List.take_length] at hO h16
      have b1 : ofP R = flat R := by rw [ofP, if_pos ⟨hR, h16⟩]
      have b2 : ofE R = 0 := by rw [ofE, if_pos hR, if_pos h16]
      rw [b1, b2]
      clear hR h64 h31 b1 b2
      repeat' (first | ((with_reducible first | apply S_0 | apply S_q1 | apply S_g | apply S_c); exact sgc) | (with_reducible first | apply SO_q | apply SG_t | apply SG_f0 | apply SG_f1 | apply S_nil | apply T_n | apply W_seq | apply W_region | apply SO_x | apply SC_t | apply SC_f | apply W_block | apply W_ret | apply W_skip | apply W_exit | apply T_r | apply T_e | apply B_n | apply B_e) | (with_reducible apply B_ne; focus decide) | (with_reducible first | apply B_r | apply R_e | apply R_r | apply H_e | apply H_r | apply G_e | apply G_r) | (with_reducible apply SC_n) | ((with_reducible first | apply SC_d | apply SG_d | apply SG_n | apply SC_b | apply SG_b) <;> intro hc <;> try simp only [decide_eq_true_eq, decide_eq_false_iff_not, Classical.not_not, Bool.not_eq_true', Bool.not_eq_false'] at hc))
      refine ⟨.inr rfl, ?_⟩
      simp only [resA, rvA, tupA, Option.bind_some]
      exact hO.finT (Nat.le_refl _)
end Go.Proofs.Ytfpaegklkdfmmaa.Av
namespace Go.Proofs.Ytfpaegklkdfmmaa.Av
open Go.RowKit
set_option linter.unusedSimpArgs false
set_option linter.unusedVariables false
set_option maxHeartbeats 10000000
theorem t15 {R : List (Int × Int)} {nl cd : Bool} {M : MS} (hl : R.length ≤ 1000000) (h64 : ∀ a ∈ R, I64 a.1 ∧ I64 a.2) : ev pr 15 [.list 2 (rnsA R) nl cd] M = some (.q (.tup [lst 1 (intsA (ofP R)), .flat (.int .i64 (ofE R))])) := by
  refine ev_fn' A15 ?_
  repeat' (first | ((with_reducible first | apply S_0 | apply S_q1 | apply S_g | apply S_c); exact sgc) | (with_reducible first | apply SO_q | apply SG_t | apply SG_f0 | apply SG_f1 | apply S_nil | apply T_n | apply W_seq | apply W_region | apply SO_x | apply SC_t | apply SC_f | apply W_block | apply W_ret | apply W_skip | apply W_exit | apply T_r | apply T_e | apply B_n | apply B_e) | (with_reducible apply B_ne; focus decide) | (with_reducible first | apply B_r | apply R_e | apply R_r | apply H_e | apply H_r | apply G_e | apply G_r) | (with_reducible apply SC_n) | ((with_reducible first | apply SC_d | apply SG_d | apply SG_n | apply SC_b | apply SG_b) <;> intro hc <;> try simp only [decide_eq_true_eq, decide_eq_false_iff_not, Classical.not_not, Bool.not_eq_true', Bool.not_eq_false'] at hc))
  refine W_rng 4 0 R.length (fun i e => ∀ j, j < i → ∀ h : j < R.length, okAt R j h) (by simp only [asg, asgO, List.append_nil, List.nil_append, List.cons_append]; rfl) (by exact svc) (by omega) (fun j hj => by omega) ?_
  rintro i e _ hi hk e4 hO
  have k0 : e 0 = .list 2 (rnsA R) nl cd := by rw [hk 0 rfl]; exact svc
  clear hk
  rcases Nat.lt_or_ge i R.length with hlt | hlt
  · have hlt' : (i : Int) < R.length := by omega
    have bad : ¬ okAt R i hlt → lst 1 (intsA (ofP R)) = .list 1 [] true true ∧ ofE R = 1 := fun h => by
      have h1 : ¬ okR R := fun hh => h (hh i hlt)
      refine ⟨?_, by rw [ofE, if_neg h1]⟩
      rw [ofP, if_neg fun hh => h1 hh.1]; rfl
    clear h64
    repeat' (first | ((with_reducible first | apply S_0 | apply S_q1 | apply S_g | apply S_c); exact sgc) | (with_reducible first | apply SO_q | apply SG_t | apply SG_f0 | apply SG_f1 | apply S_nil | apply T_n | apply W_seq | apply W_region | apply SO_x | apply SC_t | apply SC_f | apply W_block | apply W_ret | apply W_skip | apply W_exit | apply T_r | apply T_e | apply B_n | apply B_e) | (with_reducible apply B_ne; focus decide) | (with_reducible first | apply B_r | apply R_e | apply R_r | apply H_e | apply H_r | apply G_e | apply G_r) | (with_reducible apply SC_n) | ((with_reducible first | apply SC_d | apply SG_d | apply SG_n | apply SC_b | apply SG_b) <;> intro hc <;> try simp only [decide_eq_true_eq, decide_eq_false_iff_not, Classical.not_not, Bool.not_eq_true', Bool.not_eq_false'] at hc))
    · obtain ⟨b1, b2⟩ := bad fun h => hc h.1
      rw [b1, b2]
      clear b1 b2 bad
      (first | exact fincR | exact fincN)
    · obtain ⟨b1, b2⟩ := bad fun h => by have := h.2.1; omega
      rw [b1, b2]
      clear b1 b2 bad
      (first | exact fincR | exact fincN)
    · have i0 : 0 < i := by omega
      obtain ⟨b1, b2⟩ := bad fun h => h.2.2 i0 (by omega)
      rw [b1, b2]
      clear b1 b2 bad hc
      (first | exact fincR | exact fincN)
    · clear bad
      exact H_n (by exact svc) hlt (ext1 hO fun _ => ⟨by assumption, by omega, fun _ h => hc h.symm⟩)
    · clear bad
      exact H_n (by exact svc) hlt (ext1 hO fun _ => ⟨by assumption, by omega, fun h => by omega⟩)
  · have hlt' : ¬ (i : Int) < R.length := by omega
    have hR : okR R := fun j h => hO j (by omega) h
    clear hO
    repeat' (first | ((with_reducible first | apply S_0 | apply S_q1 | apply S_g | apply S_c); exact sgc) | (with_reducible first | apply SO_q | apply SG_t | apply SG_f0 | apply SG_f1 | apply S_nil | apply T_n | apply W_seq | apply W_region | apply SO_x | apply SC_t | apply SC_f | apply W_block | apply W_ret | apply W_skip | apply W_exit | apply T_r | apply T_e | apply B_n | apply B_e) | (with_reducible apply B_ne; focus decide) | (with_reducible first | apply B_r | apply R_e | apply R_r | apply H_e | apply H_r | apply G_e | apply G_r) | (with_reducible apply SC_n) | ((with_reducible first | apply SC_d | apply SG_d | apply SG_n | apply SC_b | apply SG_b) <;> intro hc <;> try simp only [decide_eq_true_eq, decide_eq_false_iff_not, Classical.not_not, Bool.not_eq_true', Bool.not_eq_false'] at hc))
    refine W_rngM 6 0 R.length (fun i e m => ∃ v G, e 5 = v ∧ m = M ++ G ∧ Own M.length (M ++ G) v 1 (intsA (flat (R.take i))) ∧ (flat (R.take i)).length ≤ 16) (by simp only [asg, asgO, List.append_nil, List.nil_append, List.cons_append]; rfl) (by exact svc) (by omega)
      ⟨.list 1 [] true true, [], by exact svc, by simp, by simpa [flat, intsA] using Own.nil _ _ (by decide), by simp [flat]⟩ ?_
    rintro i e' _ _ hi' hk e6 ⟨w, G, e5, rfl, hO, h16⟩
    have k0' : e' 0 = .list 2 (rnsA R) nl cd := by rw [hk 0 rfl]; exact svc
    clear hk k0
    rcases Nat.lt_or_ge i R.length with hlt | hlt
    · have hlt' : (i : Int) < R.length := by omega
      obtain ⟨o1, o2, o3⟩ := hR i hlt
      obtain ⟨n, hn⟩ : ∃ n : Nat, R[i].2 = n := ⟨R[i].2.toNat, by omega⟩
      have hf := flat_s hlt
      have hf' := flat_mono R (i + 1)
      rw [hf, hn, Int.toNat_natCast] at hf'
      rw [hn, Int.toNat_natCast] at hf
      simp only [List.length_append, List.length_replicate] at hf'
      generalize flat (R.take i) = L at hO h16 hf hf'
      have n64 : (n : Int) ≤ 9223372036854775807 := by
        have := (h64 _ (List.getElem_mem hlt)).2
        rw [hn] at this
        exact this.2
      clear h64 o3
      have b1 : 16 < (flat R).length → lst 1 (intsA (ofP R)) = .list 1 [] true true ∧ ofE R = 2 := fun h => by
        refine ⟨?_, by rw [ofE, if_pos hR, if_neg (by omega)]⟩
        rw [ofP, if_neg fun hh => by have := hh.2; omega]; rfl
      have hf0 : Hid (flat (R.take (i + 1)) = L ++ List.replicate n R[i].1) := hf
      clear hf
      repeat' (first | ((with_reducible first | apply S_0 | apply S_q1 | apply S_g | apply S_c); exact sgc) | (with_reducible first | apply SO_q | apply SG_t | apply SG_f0 | apply SG_f1 | apply S_nil | apply T_n | apply W_seq | apply W_region | apply SO_x | apply SC_t | apply SC_f | apply W_block | apply W_ret | apply W_skip | apply W_exit | apply T_r | apply T_e | apply B_n | apply B_e) | (with_reducible apply B_ne; focus decide) | (with_reducible first | apply B_r | apply R_e | apply R_r | apply H_e | apply H_r | apply G_e | apply G_r) | (with_reducible apply SC_n) | ((with_reducible first | apply SC_d | apply SG_d | apply SG_n | apply SC_b | apply SG_b) <;> intro hc <;> try simp only [decide_eq_true_eq, decide_eq_false_iff_not, Classical.not_not, Bool.not_eq_true', Bool.not_eq_false'] at hc))
      refine W_rngM 7 0 n (fun k e m => ∃ v G, e 5 = v ∧ m = M ++ G ∧ Own M.length (M ++ G) v 1 (intsA (L ++ List.replicate k R[i].1)) ∧ L.length + k ≤ 16) (by simp only [asg, asgO, List.append_nil, List.nil_append, List.cons_append]; rfl) (by exact svc) (by omega)
        ⟨w, G, by exact svc, rfl, by simpa using hO, by omega⟩ ?_
      rintro k e'' _ _ hk' hkk e7 ⟨w', G', e5', rfl, hO', h16'⟩
      have k0'' : e'' 0 = .list 2 (rnsA R) nl cd := by rw [hkk 0 rfl]; exact svc
      have k6 : e'' 6 = .flat (.int .i64 i) := by rw [hkk 6 rfl]; exact svc
      clear hkk hO
      have v0 := hO'.view
      have v1 := hO'.lenOf
      rw [ints_len, Nat.div_one, List.length_append, List.length_replicate] at v1
      rcases Nat.lt_or_ge k n with hkn | hkn
      · have hkn' : (k : Int) < n := by omega
        repeat' (first | ((with_reducible first | apply S_0 | apply S_q1 | apply S_g | apply S_c); exact sgc) | (with_reducible first | apply SO_q | apply SG_t | apply SG_f0 | apply SG_f1 | apply S_nil | apply T_n | apply W_seq | apply W_region | apply SO_x | apply SC_t | apply SC_f | apply W_block | apply W_ret | apply W_skip | apply W_exit | apply T_r | apply T_e | apply B_n | apply B_e) | (with_reducible apply B_ne; focus decide) | (with_reducible first | apply B_r | apply R_e | apply R_r | apply H_e | apply H_r | apply G_e | apply G_r) | (with_reducible apply SC_n) | ((with_reducible first | apply SC_d | apply SG_d | apply SG_n | apply SC_b | apply SG_b) <;> intro hc <;> try simp only [decide_eq_true_eq, decide_eq_false_iff_not, Classical.not_not, Bool.not_eq_true', Bool.not_eq_false'] at hc))
        · obtain ⟨b2, b3⟩ := b1 (by omega)
          rw [b2, b3]
          clear b1 b2 b3 hc
          (first | exact fincR | exact fincN)
        clear b1
        (refine S_ownG (cs := intsA (L ++ List.replicate k R[i].1)) M G' (by assumption) (by first | rfl | simp only [List.append_assoc, List.cons_append, List.nil_append]) (by exact sgc) (by exact sgc) (by exact sgc) (by exact sgc) (by exact sgc) (by (first | assumption | omega | (simp only [ints_len, Nat.div_one, Nat.one_mul, Nat.mul_one, List.length_map, rns_len, half, List.length_cons, List.length_nil, List.length_append, List.length_replicate]; omega))) (by (first | assumption | omega | (simp only [ints_len, Nat.div_one, Nat.one_mul, Nat.mul_one, List.length_map, rns_len, half, List.length_cons, List.length_nil, List.length_append, List.length_replicate]; omega))) (by first | omega | (simp; done) | (simp; omega)) ?_)
        intro v' G2 hO2
        repeat' (first | ((with_reducible first | apply S_0 | apply S_q1 | apply S_g | apply S_c); exact sgc) | (with_reducible first | apply SO_q | apply SG_t | apply SG_f0 | apply SG_f1 | apply S_nil | apply T_n | apply W_seq | apply W_region | apply SO_x | apply SC_t | apply SC_f | apply W_block | apply W_ret | apply W_skip | apply W_exit | apply T_r | apply T_e | apply B_n | apply B_e) | (with_reducible apply B_ne; focus decide) | (with_reducible first | apply B_r | apply R_e | apply R_r | apply H_e | apply H_r | apply G_e | apply G_r) | (with_reducible apply SC_n) | ((with_reducible first | apply SC_d | apply SG_d | apply SG_n | apply SC_b | apply SG_b) <;> intro hc <;> try simp only [decide_eq_true_eq, decide_eq_false_iff_not, Classical.not_not, Bool.not_eq_true', Bool.not_eq_false'] at hc))
        refine G_n (by exact svc) hkn ⟨v', G2, by exact svc, rfl, ?_, by omega⟩
        rw [List.replicate_succ', ← List.append_assoc, intsA, List.map_append]
        exact hO2
      · have hkn' : ¬ (k : Int) < n := by omega
        obtain rfl : k = n := by omega
        clear b1
        repeat' (first | ((with_reducible first | apply S_0 | apply S_q1 | apply S_g | apply S_c); exact sgc) | (with_reducible first | apply SO_q | apply SG_t | apply SG_f0 | apply SG_f1 | apply S_nil | apply T_n | apply W_seq | apply W_region | apply SO_x | apply SC_t | apply SC_f | apply W_block | apply W_ret | apply W_skip | apply W_exit | apply T_r | apply T_e | apply B_n | apply B_e) | (with_reducible apply B_ne; focus decide) | (with_reducible first | apply B_r | apply R_e | apply R_r | apply H_e | apply H_r | apply G_e | apply G_r) | (with_reducible apply SC_n) | ((with_reducible first | apply SC_d | apply SG_d | apply SG_n | apply SC_b | apply SG_b) <;> intro hc <;> try simp only [decide_eq_true_eq, decide_eq_false_iff_not, Classical.not_not, Bool.not_eq_true', Bool.not_eq_false'] at hc))
        refine G_n (by exact svc) hlt ⟨w', G', by exact svc, rfl, ?_, ?_⟩
        · rw [show flat _ = _ from hf0]; exact hO'
        · rw [show flat _ = _ from hf0, List.length_append, List.length_replicate]; exact h16'
    · have hlt' : ¬ (i : Int) < R.length := by omega
      obtain rfl : i = R.length := by omega
      rw [List.take_length] at hO h16
      have b1 : ofP R = flat R := by rw [ofP, if_pos ⟨hR, h16⟩]
      have b2 : ofE R = 0 := by rw [ofE, if_pos hR, if_pos h16]
      rw [b1, b2]
      clear hR h64 b1 b2
      repeat' (first | ((with_reducible first | apply S_0 | apply S_q1 | apply S_g | apply S_c); exact sgc) | (with_reducible first | apply SO_q | apply SG_t | apply SG_f0 | apply SG_f1 | apply S_nil | apply T_n | apply W_seq | apply W_region | apply SO_x | apply SC_t | apply SC_f | apply W_block | apply W_ret | apply W_skip | apply W_exit | apply T_r | apply T_e | apply B_n | apply B_e) | (with_reducible apply B_ne; focus decide) | (with_reducible first | apply B_r | apply R_e | apply R_r | apply H_e | apply H_r | apply G_e | apply G_r) | (with_reducible apply SC_n) | ((with_reducible first | apply SC_d | apply SG_d | apply SG_n | apply SC_b | apply SG_b) <;> intro hc <;> try simp only [decide_eq_true_eq, decide_eq_false_iff_not, Classical.not_not, Bool.not_eq_true', Bool.not_eq_false'] at hc))
      refine ⟨.inr rfl, ?_⟩
      simp only [resA, rvA, tupA, Option.bind_some]
      exact hO.finT (Nat.le_refl _)
end Go.Proofs.Ytfpaegklkdfmmaa.Av
namespace Go.Proofs.Ytfpaegklkdfmmaa.Av
open Go.RowKit
set_option linter.unusedSimpArgs false
set_option linter.unusedVariables false
set_option maxHeartbeats 10000000
section
variable {p : Pr} {base : Nat} {env : Env} {M : MS} {D : List Nat} {d : Option Nat} {r : List AOp} {R : Env → MS → List Nat → Prop}
/-- An append to a row that has no room: a new block. -/
theorem S_appC {id len k : Nat} {s y : O} {cs news : List AV} (hs : s.ev env = .ms id 0 len 1 true) (hM : M[id]? = some (some cs)) (hc : cs.length = len) (hv : view M (y.ev env) = some news) (hl : lenOf (y.ev env) = some k) (hk : k = news.length) (hk0 : 0 < k) (hA : allI news = true) (hb : len + k ≤ 1000)
    (h : WS p base 0 r (updO env d (.ms M.length 0 (len + k) 1 false)) (M ++ [some (cs ++ news)]) D R) : WS p base 0 (⟨d, .app 1 8 s y, none⟩ :: r) env M D R := by
  have hq : evI (ev p) base env M D (.app 1 8 s y) = some (.x (.ms M.length 0 (len + k) 1 false) (M ++ [some (cs ++ news)]) D) := by
    simp only [evI, hv, hl, appA, hs, hM]
    rw [if_neg (by omega), if_pos ⟨trivial, hA, by omega, by unfold LIM; omega, by omega, by omega⟩, if_pos trivial, List.drop_zero, Nat.mul_one, ← hc, List.take_length]
  exact S_0 hq (SO_x h)
/-- .. of nothing. -/
theorem S_app0 {id len : Nat} {cd : Bool} {s y : O} {cs news : List AV} (hs : s.ev env = .ms id 0 len 1 cd) (hM : M[id]? = some (some cs)) (hv : view M (y.ev env) = some news) (hl : lenOf (y.ev env) = some 0)
    (h : WS p base 0 r (updO env d (.ms id 0 len 1 cd)) M D R) : WS p base 0 (⟨d, .app 1 8 s y, none⟩ :: r) env M D R := by
  have hq : evI (ev p) base env M D (.app 1 8 s y) = some (.q (.ms id 0 len 1 cd)) := by
    simp only [evI, hv, hl, appA, hs, if_true, aliveA, hM]
  exact S_0 hq (SO_q h)
end
def ppOk (x : List Int) (a t : Int) : Prop := mayP x ∧ (1 ≤ a ∧ a ≤ 65535) ∧ 0 ≤ t
noncomputable instance (x : List Int) (a t : Int) : Decidable (ppOk x a t) := Classical.propDecidable _
noncomputable def ppE (x : List Int) (a t : Int) : Int := if ppOk x a t then if (x.length : Int) + t ≤ 16 then 0 else 2 else 1
theorem ppE_1 {x : List Int} {a t : Int} (h : ¬ ppOk x a t) : ppE x a t = 1 := if_neg h
theorem ppE_2 {x : List Int} {a t : Int} (h : ppOk x a t) (h2 : ¬ (x.length : Int) + t ≤ 16) : ppE x a t = 2 := by rw [ppE, if_pos h, if_neg h2]
theorem ppE_0 {x : List Int} {a t : Int} (h : ppOk x a t) (h2 : (x.length : Int) + t ≤ 16) : ppE x a t = 0 := by rw [ppE, if_pos h, if_pos h2]
/-- Where there is nothing to tell. -/
theorem t11e {x : List Int} {nx cx : Bool} {a t : Int} {M : MS} (hx : x.length ≤ 9223372036854775807) (h64 : I64 t) (h : ¬ ppE x a t = 0) : ev pr 11 [.list 1 (intsA x) nx cx, .flat (.int .i64 a), .flat (.int .i64 t)] M = some (.q (.tup [.list 1 [] true true, .flat (.int .i64 (ppE x a t))])) := by
  have h32 := fun M => @t32 nx cx x M hx
  have hm : mayP x → x.length ≤ 16 := fun h => h.1
  have t1 := h64.1
  have t2 := h64.2
  clear h64
  by_cases hp : ppOk x a t
  · have hq : ¬ (x.length : Int) + t ≤ 16 := fun hq => h (ppE_0 hp hq)
    rw [ppE_2 hp hq]
    obtain ⟨p1, p2, p3⟩ := hp
    have p4 := hm p1
    clear h hm
    refine ev_fn' A11 ?_
    repeat' (first | ((with_reducible first | apply S_0 | apply S_q1 | apply S_g | apply S_c); exact sgc) | (with_reducible first | apply SO_q | apply SG_t | apply SG_f0 | apply SG_f1 | apply S_nil | apply T_n | apply W_seq | apply W_region | apply SO_x | apply SC_t | apply SC_f | apply W_block | apply W_ret | apply W_skip | apply W_exit | apply T_r | apply T_e | apply B_n | apply B_e) | (with_reducible apply B_ne; focus decide) | (with_reducible first | apply B_r | apply R_e | apply R_r | apply H_e | apply H_r | apply G_e | apply G_r) | (with_reducible apply SC_n) | ((with_reducible first | apply SC_d | apply SG_d | apply SG_n | apply SC_b | apply SG_b) <;> intro hc <;> try simp only [decide_eq_true_eq, decide_eq_false_iff_not, Classical.not_not, Bool.not_eq_true', Bool.not_eq_false'] at hc))
    all_goals first | (exfalso; omega) | (first | exact fincR | exact fincN)
  · rw [ppE_1 hp]
    clear h
    refine ev_fn' A11 ?_
    repeat' (first | ((with_reducible first | apply S_0 | apply S_q1 | apply S_g | apply S_c); exact sgc) | (with_reducible first | apply SO_q | apply SG_t | apply SG_f0 | apply SG_f1 | apply S_nil | apply T_n | apply W_seq | apply W_region | apply SO_x | apply SC_t | apply SC_f | apply W_block | apply W_ret | apply W_skip | apply W_exit | apply T_r | apply T_e | apply B_n | apply B_e) | (with_reducible apply B_ne; focus decide) | (with_reducible first | apply B_r | apply R_e | apply R_r | apply H_e | apply H_r | apply G_e | apply G_r) | (with_reducible apply SC_n) | ((with_reducible first | apply SC_d | apply SG_d | apply SG_n | apply SC_b | apply SG_b) <;> intro hc <;> try simp only [decide_eq_true_eq, decide_eq_false_iff_not, Classical.not_not, Bool.not_eq_true', Bool.not_eq_false'] at hc))
    all_goals first | exact absurd ⟨by assumption, by assumption, by omega⟩ hp | (first | exact fincR | exact fincN)
theorem t11 {x : List Int} {nx cx : Bool} {a : Int} {n : Nat} {M : MS} (hx : x.length ≤ 9223372036854775807) (h : ppE x a n = 0) : ev pr 11 [.list 1 (intsA x) nx cx, .flat (.int .i64 a), .flat (.int .i64 n)] M = some (.q (.tup [lst 1 (intsA (List.replicate n a ++ x)), .flat (.int .i64 0)])) := by
  have h32 := fun M => @t32 nx cx x M hx
  obtain ⟨⟨p1, p2, p3⟩, p4⟩ : ppOk x a n ∧ (x.length : Int) + n ≤ 16 := by
    by_cases hp : ppOk x a n
    · by_cases hq : (x.length : Int) + n ≤ 16
      · exact ⟨hp, hq⟩
      · rw [ppE_2 hp hq] at h; simp at h
    · rw [ppE_1 hp] at h; simp at h
  clear h
  have e1 : intsA (List.replicate n a ++ x) = intsA (List.replicate n a) ++ intsA x := by simp [intsA]
  rw [e1]
  clear e1
  refine ev_fn' A11 ?_
  repeat' (first | ((with_reducible first | apply S_0 | apply S_q1 | apply S_g | apply S_c); exact sgc) | (with_reducible first | apply SO_q | apply SG_t | apply SG_f0 | apply SG_f1 | apply S_nil | apply T_n | apply W_seq | apply W_region | apply SO_x | apply SC_t | apply SC_f | apply W_block | apply W_ret | apply W_skip | apply W_exit | apply T_r | apply T_e | apply B_n | apply B_e) | (with_reducible apply B_ne; focus decide) | (with_reducible first | apply B_r | apply R_e | apply R_r | apply H_e | apply H_r | apply G_e | apply G_r) | (with_reducible apply SC_n) | ((with_reducible first | apply SC_d | apply SG_d | apply SG_n | apply SC_b | apply SG_b) <;> intro hc <;> try simp only [decide_eq_true_eq, decide_eq_false_iff_not, Classical.not_not, Bool.not_eq_true', Bool.not_eq_false'] at hc))
  · exfalso; omega
  · exfalso; omega
  · exfalso; omega
  refine W_rngM 9 0 n (fun k e m => ∃ v G, e 8 = v ∧ m = M ++ G ∧ Own M.length (M ++ G) v 1 (intsA (List.replicate k a))) (by simp only [asg, asgO, List.append_nil, List.nil_append, List.cons_append]; rfl) (by exact svc) (by omega)
    ⟨.list 1 [] true true, [], by exact svc, by simp, by simpa [intsA] using Own.nil _ _ (by decide)⟩ ?_
  rintro k e _ _ hk hkk e9 ⟨w, G, e8, rfl, hO⟩
  have k0 : e 0 = .list 1 (intsA x) nx cx := by rw [hkk 0 rfl]; exact svc
  have k1 : e 1 = .flat (.int .i64 a) := by rw [hkk 1 rfl]; exact svc
  have k2 : e 2 = .flat (.int .i64 n) := by rw [hkk 2 rfl]; exact svc
  clear hkk
  rcases Nat.lt_or_ge k n with hkn | hkn
  · have hkn' : (k : Int) < n := by omega
    repeat' (first | ((with_reducible first | apply S_0 | apply S_q1 | apply S_g | apply S_c); exact sgc) | (with_reducible first | apply SO_q | apply SG_t | apply SG_f0 | apply SG_f1 | apply S_nil | apply T_n | apply W_seq | apply W_region | apply SO_x | apply SC_t | apply SC_f | apply W_block | apply W_ret | apply W_skip | apply W_exit | apply T_r | apply T_e | apply B_n | apply B_e) | (with_reducible apply B_ne; focus decide) | (with_reducible first | apply B_r | apply R_e | apply R_r | apply H_e | apply H_r | apply G_e | apply G_r) | (with_reducible apply SC_n) | ((with_reducible first | apply SC_d | apply SG_d | apply SG_n | apply SC_b | apply SG_b) <;> intro hc <;> try simp only [decide_eq_true_eq, decide_eq_false_iff_not, Classical.not_not, Bool.not_eq_true', Bool.not_eq_false'] at hc))
    (refine S_ownG (cs := intsA (List.replicate k a)) M G (by assumption) (by first | rfl | simp only [List.append_assoc, List.cons_append, List.nil_append]) (by exact sgc) (by exact sgc) (by exact sgc) (by exact sgc) (by exact sgc) (by (first | assumption | omega | (simp only [ints_len, Nat.div_one, Nat.one_mul, Nat.mul_one, List.length_map, rns_len, half, List.length_cons, List.length_nil, List.length_append, List.length_replicate]; omega))) (by (first | assumption | omega | (simp only [ints_len, Nat.div_one, Nat.one_mul, Nat.mul_one, List.length_map, rns_len, half, List.length_cons, List.length_nil, List.length_append, List.length_replicate]; omega))) (by first | omega | (simp; done) | (simp; omega)) ?_)
    intro v' G2 hO2
    repeat' (first | ((with_reducible first | apply S_0 | apply S_q1 | apply S_g | apply S_c); exact sgc) | (with_reducible first | apply SO_q | apply SG_t | apply SG_f0 | apply SG_f1 | apply S_nil | apply T_n | apply W_seq | apply W_region | apply SO_x | apply SC_t | apply SC_f | apply W_block | apply W_ret | apply W_skip | apply W_exit | apply T_r | apply T_e | apply B_n | apply B_e) | (with_reducible apply B_ne; focus decide) | (with_reducible first | apply B_r | apply R_e | apply R_r | apply H_e | apply H_r | apply G_e | apply G_r) | (with_reducible apply SC_n) | ((with_reducible first | apply SC_d | apply SG_d | apply SG_n | apply SC_b | apply SG_b) <;> intro hc <;> try simp only [decide_eq_true_eq, decide_eq_false_iff_not, Classical.not_not, Bool.not_eq_true', Bool.not_eq_false'] at hc))
    refine G_n (by exact svc) hkn ⟨v', G2, by exact svc, rfl, ?_⟩
    rw [List.replicate_succ', intsA, List.map_append]
    exact hO2
  · have hkn' : ¬ (k : Int) < n := by omega
    obtain rfl : k = n := by omega
    repeat' (first | ((with_reducible first | apply S_0 | apply S_q1 | apply S_g | apply S_c); exact sgc) | (with_reducible first | apply SO_q | apply SG_t | apply SG_f0 | apply SG_f1 | apply S_nil | apply T_n | apply W_seq | apply W_region | apply SO_x | apply SC_t | apply SC_f | apply W_block | apply W_ret | apply W_skip | apply W_exit | apply T_r | apply T_e | apply B_n | apply B_e) | (with_reducible apply B_ne; focus decide) | (with_reducible first | apply B_r | apply R_e | apply R_r | apply H_e | apply H_r | apply G_e | apply G_r) | (with_reducible apply SC_n) | ((with_reducible first | apply SC_d | apply SG_d | apply SG_n | apply SC_b | apply SG_b) <;> intro hc <;> try simp only [decide_eq_true_eq, decide_eq_false_iff_not, Classical.not_not, Bool.not_eq_true', Bool.not_eq_false'] at hc))
    (refine S_ownG (cs := intsA (List.replicate k a)) M G (by assumption) (by first | rfl | simp only [List.append_assoc, List.cons_append, List.nil_append]) (by exact sgc) (by exact sgc) (by exact sgc) (by exact sgc) (by exact sgc) (by (first | assumption | omega | (simp only [ints_len, Nat.div_one, Nat.one_mul, Nat.mul_one, List.length_map, rns_len, half, List.length_cons, List.length_nil, List.length_append, List.length_replicate]; omega))) (by (first | assumption | omega | (simp only [ints_len, Nat.div_one, Nat.one_mul, Nat.mul_one, List.length_map, rns_len, half, List.length_cons, List.length_nil, List.length_append, List.length_replicate]; omega))) (by first | omega | (simp; done) | (simp; omega)) ?_)
    intro v' G2 hO2
    repeat' (first | ((with_reducible first | apply S_0 | apply S_q1 | apply S_g | apply S_c); exact sgc) | (with_reducible first | apply SO_q | apply SG_t | apply SG_f0 | apply SG_f1 | apply S_nil | apply T_n | apply W_seq | apply W_region | apply SO_x | apply SC_t | apply SC_f | apply W_block | apply W_ret | apply W_skip | apply W_exit | apply T_r | apply T_e | apply B_n | apply B_e) | (with_reducible apply B_ne; focus decide) | (with_reducible first | apply B_r | apply R_e | apply R_r | apply H_e | apply H_r | apply G_e | apply G_r) | (with_reducible apply SC_n) | ((with_reducible first | apply SC_d | apply SG_d | apply SG_n | apply SC_b | apply SG_b) <;> intro hc <;> try simp only [decide_eq_true_eq, decide_eq_false_iff_not, Classical.not_not, Bool.not_eq_true', Bool.not_eq_false'] at hc))
    refine ⟨.inr rfl, ?_⟩
    simp only [resA, rvA, tupA, Option.bind_some]
    exact hO2.finT (Nat.le_refl _)
/-- Prepend, where there is nothing to tell. -/
theorem t10e {xv : AV} {x : List Int} {a t : Int} {M : MS} (vx : Vw M xv x) (hx : x.length ≤ 1000000) (h64 : I64 t) (h : ¬ ppE x a t = 0) : ev pr 10 [xv, .flat (.int .i64 a), .flat (.int .i64 t)] M = some (.x (.tup [.list 1 [] true true, .flat (.int .i64 (ppE x a t))]) M []) := by
  have h19 := t19 vx hx
  have x0 := vx.v0; have x1 := vx.len; have x2 := vx.cell
  have hm : mayP x → x.length ≤ 16 := fun h => h.1
  have t1 := h64.1
  have t2 := h64.2
  clear h64 vx
  by_cases hp : ppOk x a t
  · have hq : ¬ (x.length : Int) + t ≤ 16 := fun hq => h (ppE_0 hp hq)
    rw [ppE_2 hp hq]
    obtain ⟨p1, p2, p3⟩ := hp
    have p4 := hm p1
    clear h hm
    refine ev_fn' A10 ?_
    repeat' (first | ((with_reducible first | apply S_0 | apply S_q1 | apply S_g | apply S_c); exact sgc) | (with_reducible first | apply SO_q | apply SG_t | apply SG_f0 | apply SG_f1 | apply S_nil | apply T_n | apply W_seq | apply W_region | apply SO_x | apply SC_t | apply SC_f | apply W_block | apply W_ret | apply W_skip | apply W_exit | apply T_r | apply T_e | apply B_n | apply B_e) | (with_reducible apply B_ne; focus decide) | (with_reducible first | apply B_r | apply R_e | apply R_r | apply H_e | apply H_r | apply G_e | apply G_r) | (with_reducible apply SC_n) | ((with_reducible first | apply SC_d | apply SG_d | apply SG_n | apply SC_b | apply SG_b) <;> intro hc <;> try simp only [decide_eq_true_eq, decide_eq_false_iff_not, Classical.not_not, Bool.not_eq_true', Bool.not_eq_false'] at hc))
    all_goals first | (exfalso; omega) | (first | exact fincR | exact fincN)
  · rw [ppE_1 hp]
    clear h
    refine ev_fn' A10 ?_
    repeat' (first | ((with_reducible first | apply S_0 | apply S_q1 | apply S_g | apply S_c); exact sgc) | (with_reducible first | apply SO_q | apply SG_t | apply SG_f0 | apply SG_f1 | apply S_nil | apply T_n | apply W_seq | apply W_region | apply SO_x | apply SC_t | apply SC_f | apply W_block | apply W_ret | apply W_skip | apply W_exit | apply T_r | apply T_e | apply B_n | apply B_e) | (with_reducible apply B_ne; focus decide) | (with_reducible first | apply B_r | apply R_e | apply R_r | apply H_e | apply H_r | apply G_e | apply G_r) | (with_reducible apply SC_n) | ((with_reducible first | apply SC_d | apply SG_d | apply SG_n | apply SC_b | apply SG_b) <;> intro hc <;> try simp only [decide_eq_true_eq, decide_eq_false_iff_not, Classical.not_not, Bool.not_eq_true', Bool.not_eq_false'] at hc))
    all_goals first | exact absurd ⟨by assumption, by assumption, by omega⟩ hp | (first | exact fincR | exact fincN)
theorem t10 {xv : AV} {x : List Int} {a : Int} {n : Nat} {M : MS} (vx : Vw M xv x) (hx : x.length ≤ 1000000) (h : ppE x a n = 0) : ∃ id G cd, ev pr 10 [xv, .flat (.int .i64 a), .flat (.int .i64 n)] M = some (.x (.tup [.ms id 0 (n + x.length) 1 cd, .flat (.int .i64 0)]) (M ++ G) []) ∧ M.length ≤ id ∧ id < (M ++ G).length ∧ (M ++ G)[id]? = some (some (intsA (List.replicate n a ++ x))) := by
  obtain ⟨⟨p1, p2, p3⟩, p4⟩ : ppOk x a n ∧ (x.length : Int) + n ≤ 16 := by
    by_cases hp : ppOk x a n
    · by_cases hq : (x.length : Int) + n ≤ 16
      · exact ⟨hp, hq⟩
      · rw [ppE_2 hp hq] at h; simp at h
    · rw [ppE_1 hp] at h; simp at h
  clear h
  have h19 := t19 vx hx
  have x0 := vx.v0; have x1 := vx.len; have x2 := vx.cell
  have x3 := fun G => (vx.ext G).v0
  obtain ⟨c1, h31⟩ := t31 (a := a) (n := n) (M := M) (by omega)
  have hal := allI_rep a n
  clear vx
  rcases Nat.eq_zero_or_pos x.length with h0 | h0
  · refine ⟨M.length, [some (List.replicate n (.flat (.int .i64 a)))], true, ?_, by omega, by simp, ?_⟩
    · refine ev_fn' A10 ?_
      repeat' (first | ((with_reducible first | apply S_0 | apply S_q1 | apply S_g | apply S_c); exact sgc) | (with_reducible first | apply SO_q | apply SG_t | apply SG_f0 | apply SG_f1 | apply S_nil | apply T_n | apply W_seq | apply W_region | apply SO_x | apply SC_t | apply SC_f | apply W_block | apply W_ret | apply W_skip | apply W_exit | apply T_r | apply T_e | apply B_n | apply B_e) | (with_reducible apply B_ne; focus decide) | (with_reducible first | apply B_r | apply R_e | apply R_r | apply H_e | apply H_r | apply G_e | apply G_r) | (with_reducible apply SC_n) | ((with_reducible first | apply SC_d | apply SG_d | apply SG_n | apply SC_b | apply SG_b) <;> intro hc <;> try simp only [decide_eq_true_eq, decide_eq_false_iff_not, Classical.not_not, Bool.not_eq_true', Bool.not_eq_false'] at hc))
      · exfalso; omega
      · exfalso; omega
      have x4 := x3 [some (List.replicate n (.flat (.int .i64 a)))]
      refine S_app0 (id := M.length) (len := n) (cd := true) (cs := List.replicate n (.flat (.int .i64 a))) (news := intsA x) (by exact svc) (by simp) (by exact svc) (by exact svc) ?_
      repeat' (first | ((with_reducible first | apply S_0 | apply S_q1 | apply S_g | apply S_c); exact sgc) | (with_reducible first | apply SO_q | apply SG_t | apply SG_f0 | apply SG_f1 | apply S_nil | apply T_n | apply W_seq | apply W_region | apply SO_x | apply SC_t | apply SC_f | apply W_block | apply W_ret | apply W_skip | apply W_exit | apply T_r | apply T_e | apply B_n | apply B_e) | (with_reducible apply B_ne; focus decide) | (with_reducible first | apply B_r | apply R_e | apply R_r | apply H_e | apply H_r | apply G_e | apply G_r) | (with_reducible apply SC_n) | ((with_reducible first | apply SC_d | apply SG_d | apply SG_n | apply SC_b | apply SG_b) <;> intro hc <;> try simp only [decide_eq_true_eq, decide_eq_false_iff_not, Classical.not_not, Bool.not_eq_true', Bool.not_eq_false'] at hc))
      (first | exact fincR | exact fincN)
    · have := List.eq_nil_of_length_eq_zero h0; subst this
      rw [List.append_nil, ints_rep, List.getElem?_append_right (Nat.le_refl _), Nat.sub_self]; rfl
  · refine ⟨M.length + 1, [some (List.replicate n (.flat (.int .i64 a))), some (List.replicate n (.flat (.int .i64 a)) ++ intsA x)], false, ?_, by omega, by simp, ?_⟩
    · refine ev_fn' A10 ?_
      repeat' (first | ((with_reducible first | apply S_0 | apply S_q1 | apply S_g | apply S_c); exact sgc) | (with_reducible first | apply SO_q | apply SG_t | apply SG_f0 | apply SG_f1 | apply S_nil | apply T_n | apply W_seq | apply W_region | apply SO_x | apply SC_t | apply SC_f | apply W_block | apply W_ret | apply W_skip | apply W_exit | apply T_r | apply T_e | apply B_n | apply B_e) | (with_reducible apply B_ne; focus decide) | (with_reducible first | apply B_r | apply R_e | apply R_r | apply H_e | apply H_r | apply G_e | apply G_r) | (with_reducible apply SC_n) | ((with_reducible first | apply SC_d | apply SG_d | apply SG_n | apply SC_b | apply SG_b) <;> intro hc <;> try simp only [decide_eq_true_eq, decide_eq_false_iff_not, Classical.not_not, Bool.not_eq_true', Bool.not_eq_false'] at hc))
      · exfalso; omega
      · exfalso; omega
      have x4 := x3 [some (List.replicate n (.flat (.int .i64 a)))]
      refine S_appC (id := M.length) (len := n) (cs := List.replicate n (.flat (.int .i64 a))) (news := intsA x) (k := x.length) (by exact svc) (by simp) (by simp) (by exact svc) (by exact svc) (by rw [ints_len]) h0 (allI_ints _) (by omega) ?_
      repeat' (first | ((with_reducible first | apply S_0 | apply S_q1 | apply S_g | apply S_c); exact sgc) | (with_reducible first | apply SO_q | apply SG_t | apply SG_f0 | apply SG_f1 | apply S_nil | apply T_n | apply W_seq | apply W_region | apply SO_x | apply SC_t | apply SC_f | apply W_block | apply W_ret | apply W_skip | apply W_exit | apply T_r | apply T_e | apply B_n | apply B_e) | (with_reducible apply B_ne; focus decide) | (with_reducible first | apply B_r | apply R_e | apply R_r | apply H_e | apply H_r | apply G_e | apply G_r) | (with_reducible apply SC_n) | ((with_reducible first | apply SC_d | apply SG_d | apply SG_n | apply SC_b | apply SG_b) <;> intro hc <;> try simp only [decide_eq_true_eq, decide_eq_false_iff_not, Classical.not_not, Bool.not_eq_true', Bool.not_eq_false'] at hc))
      (first | exact fincR | exact fincN)
    · rw [List.getElem?_append_right (by omega), show M.length + 1 - M.length = 1 by omega, show intsA (List.replicate n a ++ x) = List.replicate n (.flat (.int .i64 a)) ++ intsA x by simp [intsA]]; rfl
end Go.Proofs.Ytfpaegklkdfmmaa.Av
namespace Go.Proofs.Ytfpaegklkdfmmaa.Av
open Go.RowKit
set_option linter.unusedSimpArgs false
set_option linter.unusedVariables false
theorem rstep_snoc (T : List (Int × Int)) (b k a : Int) : rstep (T ++ [(b, k)]) a = if b = a then T ++ [(a, k + 1)] else T ++ [(b, k), (a, 1)] := by
  have h : 0 < (T ++ [(b, k)]).length := by simp
  have hl : (T ++ [(b, k)])[(T ++ [(b, k)]).length - 1] = (b, k) := by simp
  by_cases hc : b = a
  · rw [rstep_e h (by rw [hl]; exact hc), if_pos hc, hl]
    simp
  · rw [rstep_n h (by rw [hl]; exact hc), if_neg hc]
    simp
theorem snoc_of {R : List (Int × Int)} (h : 0 < R.length) : R = R.dropLast ++ [R[R.length - 1]] := by
  have h1 : R ≠ [] := by intro e; subst e; simp at h
  rw [← List.getLast_eq_getElem h1]; exact (List.dropLast_concat_getLast h1).symm
theorem flat_app (A B : List (Int × Int)) : flat (A ++ B) = flat A ++ flat B := by simp [flat]
theorem flat_1 (a k : Int) : flat [(a, k)] = List.replicate k.toNat a := by simp [flat]
theorem flat_rstep {n : Nat} {R : List (Int × Int)} (a : Int) (h : rOk n R) : flat (rstep R a) = flat R ++ [a] := by
  rcases Nat.eq_zero_or_pos R.length with h0 | h0
  · have := List.eq_nil_of_length_eq_zero h0; subst this
    rw [rstep_0, flat_1]; rfl
  · have h1 := snoc_of h0
    have h2 := h.2 _ (List.getElem_mem (show R.length - 1 < R.length by omega))
    generalize R[R.length - 1] = l at h1 h2
    obtain ⟨b, k⟩ := l
    rw [h1, rstep_snoc]
    simp only at h2
    split
    · rename_i hc; subst hc
      rw [flat_app, flat_app, flat_1, flat_1, show (k + 1).toNat = k.toNat + 1 by omega, List.replicate_succ', List.append_assoc]
    · rw [show R.dropLast ++ [(b, k), (a, 1)] = R.dropLast ++ [(b, k)] ++ [(a, 1)] by simp, flat_app, flat_1]; rfl
theorem flat_runs_i (x : List Int) : ∀ i, i ≤ x.length → flat (runs (x.take i)) = x.take i
  | 0, _ => rfl
  | i + 1, h => by
    rw [runs_s (by omega), flat_rstep _ (runs_ok x i (by omega)), flat_runs_i x i (by omega), List.take_succ_eq_append_getElem (by omega)]
theorem flat_runs (x : List Int) : flat (runs x) = x := by
  have := flat_runs_i x x.length (Nat.le_refl _)
  rwa [List.take_length] at this
theorem okR_snoc {T : List (Int × Int)} {l : Int × Int} : okR (T ++ [l]) ↔ okR T ∧ (1 ≤ l.1 ∧ l.1 ≤ 65535) ∧ 1 ≤ l.2 ∧ ∀ h : 0 < T.length, ¬ (T[T.length - 1]).1 = l.1 := by
  constructor
  · intro h
    refine ⟨fun j hj => ?_, ?_⟩
    · have := h j (by simp; omega)
      unfold okAt at this ⊢
      simp only [List.getElem_append_left hj] at this
      refine ⟨this.1, this.2.1, fun h0 => ?_⟩
      have h3 := this.2.2 h0
      rwa [List.getElem_append_left (by omega)] at h3
    · have := h T.length (by simp)
      unfold okAt at this
      simp only [List.getElem_append_right (Nat.le_refl _), Nat.sub_self, List.getElem_cons_zero] at this
      refine ⟨this.1, this.2.1, fun h0 => ?_⟩
      have h3 := this.2.2 h0
      rwa [List.getElem_append_left (by omega)] at h3
  · rintro ⟨h1, h2, h3, h4⟩ j hj
    rcases Nat.lt_or_ge j T.length with hl | hl
    · have := h1 j hl
      unfold okAt at this ⊢
      simp only [List.getElem_append_left hl]
      refine ⟨this.1, this.2.1, fun h0 => ?_⟩
      rw [List.getElem_append_left (by omega)]
      exact this.2.2 h0
    · obtain rfl : j = T.length := by simp at hj; omega
      unfold okAt
      simp only [List.getElem_append_right (Nat.le_refl _), Nat.sub_self, List.getElem_cons_zero]
      refine ⟨h2, h3, fun h0 => ?_⟩
      rw [List.getElem_append_left (by omega)]
      exact h4 h0
theorem okR_nil : okR [] := fun j h => by simp at h
theorem okR_rstep {R : List (Int × Int)} {a : Int} (ha : 1 ≤ a ∧ a ≤ 65535) (h : okR R) : okR (rstep R a) := by
  rcases Nat.eq_zero_or_pos R.length with h0 | h0
  · have := List.eq_nil_of_length_eq_zero h0; subst this
    rw [rstep_0, ← List.nil_append [(a, (1 : Int))], okR_snoc]
    exact ⟨okR_nil, ha, by simp, fun h => by simp at h⟩
  · have h1 := snoc_of h0
    generalize R[R.length - 1] = l at h1
    obtain ⟨b, k⟩ := l
    rw [h1] at h ⊢
    generalize R.dropLast = T at h ⊢
    have hh := okR_snoc.1 h
    rw [rstep_snoc]
    split
    · rename_i hc; subst hc
      exact okR_snoc.2 ⟨hh.1, ha, by have := hh.2.2.1; simp only at this ⊢; omega, hh.2.2.2⟩
    · rename_i hc
      rw [show T ++ [(b, k), (a, (1 : Int))] = T ++ [(b, k)] ++ [(a, 1)] by simp, okR_snoc]
      exact ⟨h, ha, by simp, fun _ => by simpa using hc⟩
theorem okR_runs_i {x : List Int} (h : ∀ a ∈ x, 1 ≤ a ∧ a ≤ 65535) : ∀ i, i ≤ x.length → okR (runs (x.take i))
  | 0, _ => okR_nil
  | i + 1, hi => by
    rw [runs_s (by omega)]
    exact okR_rstep (h _ (List.getElem_mem _)) (okR_runs_i h i (by omega))
theorem okR_runs {x : List Int} (h : ∀ a ∈ x, 1 ≤ a ∧ a ≤ 65535) : okR (runs x) := by
  have := okR_runs_i h x.length (Nat.le_refl _)
  rwa [List.take_length] at this
theorem foldl_rep (T : List (Int × Int)) (a : Int) : ∀ (n : Nat) (k : Int), (List.replicate n a).foldl rstep (T ++ [(a, k)]) = T ++ [(a, k + n)]
  | 0, k => by simp
  | n + 1, k => by
    rw [List.replicate_succ, List.foldl_cons, rstep_snoc, if_pos rfl, foldl_rep T a n (k + 1)]
    congr 3; omega
theorem runs_flat_i {R : List (Int × Int)} (h : okR R) : ∀ i, i ≤ R.length → runs (flat (R.take i)) = R.take i
  | 0, _ => rfl
  | i + 1, hi => by
    have hlt : i < R.length := by omega
    have ih := runs_flat_i h i (by omega)
    obtain ⟨h1, h2, h3⟩ := h i hlt
    rw [flat_s hlt, runs, List.foldl_append, show List.foldl rstep [] (flat (R.take i)) = R.take i from ih, List.take_succ_eq_append_getElem hlt]
    obtain ⟨n, hn⟩ : ∃ n : Nat, R[i].2 = ((n + 1 : Nat) : Int) := ⟨R[i].2.toNat - 1, by omega⟩
    have hp : R[i] = (R[i].1, ((n + 1 : Nat) : Int)) := Prod.ext rfl hn
    rw [hn, Int.toNat_natCast, List.replicate_succ, List.foldl_cons]
    have hs : rstep (R.take i) R[i].1 = R.take i ++ [(R[i].1, 1)] := by
      rcases Nat.eq_zero_or_pos i with h0 | h0
      · subst h0; rfl
      · have hl : (R.take i).length = i := by simp; omega
        refine rstep_n (by omega) ?_
        simp only [hl, List.getElem_take]
        exact h3 h0
    rw [hs, foldl_rep]
    conv => rhs; rw [hp]
    congr 3; omega
theorem runs_flat {R : List (Int × Int)} (h : okR R) : runs (flat R) = R := by
  have := runs_flat_i h R.length (Nat.le_refl _)
  rwa [List.take_length] at this
theorem flat_mem {R : List (Int × Int)} (h : okR R) : ∀ a ∈ flat R, 1 ≤ a ∧ a ≤ 65535 := by
  intro a ha
  rw [flat, List.mem_flatten] at ha
  obtain ⟨l, hl, ha⟩ := ha
  obtain ⟨r, hr, rfl⟩ := List.mem_map.1 hl
  obtain ⟨i, hi, rfl⟩ := List.mem_iff_getElem.1 hr
  rw [(List.mem_replicate.1 ha).2]
  exact (h i hi).1
/-- A path that may be is what its runs tell. -/
theorem of_runs {x : List Int} (h : mayP x) : ofE (runs x) = 0 ∧ ofP (runs x) = x := by
  have h1 := okR_runs h.2
  have h2 := flat_runs x
  exact ⟨by rw [ofE, if_pos h1, h2, if_pos h.1], by rw [ofP, h2, if_pos ⟨h1, h.1⟩]⟩
/-- What runs tell has these runs, and may be. -/
theorem runs_of {R : List (Int × Int)} (h : ofE R = 0) : runs (ofP R) = R ∧ mayP (ofP R) := by
  unfold ofE at h
  by_cases h1 : okR R
  · rw [if_pos h1] at h
    by_cases h2 : (flat R).length ≤ 16
    · rw [ofP, if_pos ⟨h1, h2⟩]
      exact ⟨runs_flat h1, h2, flat_mem h1⟩
    · rw [if_neg h2] at h; simp at h
  · rw [if_neg h1] at h; simp at h
end Go.Proofs.Ytfpaegklkdfmmaa.Av
namespace Go.Proofs.Ytfpaegklkdfmmaa.Av
open Go.RowKit
set_option linter.unusedSimpArgs false
set_option linter.unusedVariables false
set_option maxHeartbeats 10000000
theorem Vw.ms {M : MS} {id off n : Nat} {cd : Bool} {x : List Int} {r0 : List AV} (hid : id < M.length) (hM : M[id]? = some (some (intsA x ++ r0))) (hn : off + n = x.length) : Vw M (.ms id off n 1 cd) (x.drop off) := by
  refine ⟨?_, fun G => ?_, rfl⟩
  · rw [List.length_drop]; simp only [lenOf]; congr 1; omega
  · rw [view_ms, List.getElem?_append_left hid, hM, viewD_s, if_pos (by rw [List.length_append, ints_len]; omega), Nat.mul_one]
    rw [List.drop_append_of_le_length (by rw [ints_len]; omega), List.take_append_of_le_length (by rw [List.length_drop, ints_len]; omega), ints_drop, List.take_of_length_le (by rw [ints_len, List.length_drop]; omega)]
theorem Vw.ms0 {M : MS} {id : Nat} {cd : Bool} {x : List Int} {r0 : List AV} (hid : id < M.length) (hM : M[id]? = some (some (intsA x ++ r0))) : Vw M (.ms id 0 x.length 1 cd) x := by
  have := Vw.ms (cd := cd) (off := 0) (n := x.length) hid hM (by omega)
  rwa [List.drop_zero] at this
theorem t20m {id n : Nat} {cd : Bool} {yv : AV} {x y : List Int} {M : MS} (vy : Vw M yv y) (hid : id < M.length) (hM : M[id]? = some (some (intsA x))) (hn : n = x.length) (hx : x.length ≤ 1000000) (hy : y.length ≤ 1000000) (hle : y.length ≤ x.length) : ev pr 20 [.ms id 0 n 1 cd, yv] M = some (.q (.flat (.bool (decide (x.drop (x.length - y.length) = y))))) := by
  subst hn
  have y0 := vy.v0; have y1 := vy.len; have y2 := vy.cell
  have hv := fun cd => Vw.ms0 (cd := cd) (r0 := []) hid (by rw [List.append_nil]; exact hM)
  have v0 := (hv cd).v0
  rcases Nat.lt_or_ge y.length x.length with hlt | hge
  · rcases Nat.eq_zero_or_pos y.length with h0 | h0
    · have h0' := List.eq_nil_of_length_eq_zero h0; subst h0'
      have h38 : ∀ nl cd, ev pr 38 [.list 1 [] nl cd, yv] M = some (.q (.flat (.bool true))) := fun nl cd => t38 (Vw.list M [] nl cd) vy (by simp) hy
      have e0 : decide (x.drop (x.length - ([] : List Int).length) = []) = true := decide_eq_true (by simp)
      rw [e0]
      clear vy hv e0 h0
      simp only [List.length_nil] at y1
      refine ev_fn' A20 ?_
      repeat' (first | ((with_reducible first | apply S_0 | apply S_q1 | apply S_g | apply S_c); exact sgc) | (with_reducible first | apply SO_q | apply SG_t | apply SG_f0 | apply SG_f1 | apply S_nil | apply T_n | apply W_seq | apply W_region | apply SO_x | apply SC_t | apply SC_f | apply W_block | apply W_ret | apply W_skip | apply W_exit | apply T_r | apply T_e | apply B_n | apply B_e) | (with_reducible apply B_ne; focus decide) | (with_reducible first | apply B_r | apply R_e | apply R_r | apply H_e | apply H_r | apply G_e | apply G_r) | (with_reducible apply SC_n) | ((with_reducible first | apply SC_d | apply SG_d | apply SG_n | apply SC_b | apply SG_b) <;> intro hc <;> try simp only [decide_eq_true_eq, decide_eq_false_iff_not, Classical.not_not, Bool.not_eq_true', Bool.not_eq_false'] at hc))
      · (first | exact fincR | exact fincN)
      · exfalso; omega
    · have h38 := fun cd => t38 (Vw.ms (cd := cd) (off := x.length - y.length) (n := y.length) (r0 := []) hid (by rw [List.append_nil]; exact hM) (by omega)) vy (by rw [List.length_drop]; omega) hy
      have hk : x.length - (x.length - y.length) = y.length := by omega
      clear vy hv
      refine ev_fn' A20 ?_
      repeat' (first | ((with_reducible first | apply S_0 | apply S_q1 | apply S_g | apply S_c); exact sgc) | (with_reducible first | apply SO_q | apply SG_t | apply SG_f0 | apply SG_f1 | apply S_nil | apply T_n | apply W_seq | apply W_region | apply SO_x | apply SC_t | apply SC_f | apply W_block | apply W_ret | apply W_skip | apply W_exit | apply T_r | apply T_e | apply B_n | apply B_e) | (with_reducible apply B_ne; focus decide) | (with_reducible first | apply B_r | apply R_e | apply R_r | apply H_e | apply H_r | apply G_e | apply G_r) | (with_reducible apply SC_n) | ((with_reducible first | apply SC_d | apply SG_d | apply SG_n | apply SC_b | apply SG_b) <;> intro hc <;> try simp only [decide_eq_true_eq, decide_eq_false_iff_not, Classical.not_not, Bool.not_eq_true', Bool.not_eq_false'] at hc))
      · (first | exact fincR | exact fincN)
      · exfalso; omega
  · have he : y.length = x.length := by omega
    have h38 := fun cd => t38 (hv cd) vy hx hy
    have e0 : x.drop (x.length - y.length) = x := by rw [he, Nat.sub_self, List.drop_zero]
    rw [e0]
    rw [he] at y1
    clear vy hv e0 he
    refine ev_fn' A20 ?_
    repeat' (first | ((with_reducible first | apply S_0 | apply S_q1 | apply S_g | apply S_c); exact sgc) | (with_reducible first | apply SO_q | apply SG_t | apply SG_f0 | apply SG_f1 | apply S_nil | apply T_n | apply W_seq | apply W_region | apply SO_x | apply SC_t | apply SC_f | apply W_block | apply W_ret | apply W_skip | apply W_exit | apply T_r | apply T_e | apply B_n | apply B_e) | (with_reducible apply B_ne; focus decide) | (with_reducible first | apply B_r | apply R_e | apply R_r | apply H_e | apply H_r | apply G_e | apply G_r) | (with_reducible apply SC_n) | ((with_reducible first | apply SC_d | apply SG_d | apply SG_n | apply SC_b | apply SG_b) <;> intro hc <;> try simp only [decide_eq_true_eq, decide_eq_false_iff_not, Classical.not_not, Bool.not_eq_true', Bool.not_eq_false'] at hc))
    · (first | exact fincR | exact fincN)
    · exfalso; omega
end Go.Proofs.Ytfpaegklkdfmmaa.Av
