/- Runs that are the same; a number many times. -/
import Derived.Test.YtfpaegklkdfmmaaX5
namespace Go.Proofs.Ytfpaegklkdfmmaa.Av
open Go.RowKit
set_option linter.unusedSimpArgs false
set_option linter.unusedVariables false
set_option maxHeartbeats 10000000
theorem t16 {x y : List (Int × Int)} {nx cx ny cy : Bool} {M : MS} (hx : x.length ≤ 1000000) (hy : y.length ≤ 1000000) : ev pr 16 [.list 2 (rnsA x) nx cx, .list 2 (rnsA y) ny cy] M = some (.q (.flat (.bool (decide (x = y))))) := by
  refine ev_fn' A16 ?_
  repeat' (first | ((with_reducible first | apply S_0 | apply S_q1 | apply S_g | apply S_c); exact sgc) | (with_reducible first | apply SO_q | apply SG_t | apply SG_f0 | apply SG_f1 | apply S_nil | apply T_n | apply W_seq | apply W_region | apply SO_x | apply SC_t | apply SC_f | apply W_block | apply W_ret | apply W_skip | apply W_exit | apply T_r | apply T_e | apply B_n | apply B_e) | (with_reducible apply B_ne; focus decide) | (with_reducible first | apply B_r | apply R_e | apply R_r | apply H_e | apply H_r | apply G_e | apply G_r) | (with_reducible apply SC_n) | ((with_reducible first | apply SC_d | apply SG_d | apply SG_n | apply SC_b | apply SG_b) <;> intro hc <;> try simp only [decide_eq_true_eq, decide_eq_false_iff_not, Classical.not_not, Bool.not_eq_true', Bool.not_eq_false'] at hc))
  · (refine ⟨by first | exact .inr rfl | exact .inl rfl, ?_⟩; simp (disch := first | assumption | decide | omega | exact List.getElem_mem _ | exact allI_ints _ | exact allI_rns _ | (simp only [List.length_take, List.length_drop, List.length_append, List.length_cons, List.length_nil, List.length_replicate, List.length_map, ints_len, rns_len]; omega)) only [resA, rvA, tupA, fin, frzV, frzTup, frzA, frz, isI, isI.all, Option.bind_some, go_sem, if_pos, if_neg, Nat.reduceBEq, Nat.reduceEqDiff, ↓reduceIte, Nat.reduceSub, Nat.reduceAdd, Int.reduceToNat, reduceCtorEq, Nat.reduceLeDiff, Nat.reduceLT, Nat.reduceMul, Nat.reduceDiv, Int.reduceLT, Int.reduceLE, Int.reduceEq, Int.reduceNe, Int.reduceAdd, Int.reduceSub, Int.reduceNeg, Int.reduceGT, Int.reduceGE, Int.reduceBEq, Int.reduceBNe, Int.reduceMul, *])
    have : ¬ x = y := by rintro rfl; omega
    simp only [this, decide_false]
  have hn : x.length ≤ y.length ∧ y.length ≤ x.length := by omega
  clear hc
  refine W_rng 5 0 x.length (fun i _ => x.take i = y.take i) (by simp only [asg, asgO, List.append_nil, List.nil_append, List.cons_append]; rfl) (by exact svc) (by omega) (by simp) ?_
  rintro i e _ hi hk e5 hl
  repeat' (first | ((with_reducible first | apply S_0 | apply S_q1 | apply S_g | apply S_c); exact sgc) | (with_reducible first | apply SO_q | apply SG_t | apply SG_f0 | apply SG_f1 | apply S_nil | apply T_n | apply W_seq | apply W_region | apply SO_x | apply SC_t | apply SC_f | apply W_block | apply W_ret | apply W_skip | apply W_exit | apply T_r | apply T_e | apply B_n | apply B_e) | (with_reducible apply B_ne; focus decide) | (with_reducible first | apply B_r | apply R_e | apply R_r | apply H_e | apply H_r | apply G_e | apply G_r) | (with_reducible apply SC_n) | ((with_reducible first | apply SC_d | apply SG_d | apply SG_n | apply SC_b | apply SG_b) <;> intro hc <;> try simp only [decide_eq_true_eq, decide_eq_false_iff_not, Classical.not_not, Bool.not_eq_true', Bool.not_eq_false'] at hc))
  · have h1 : i < x.length := by omega
    have h2 : i < y.length := by omega
    have hc' : x[i] = y[i] := Prod.ext (by simp only [beq_iff_eq, List.cons.injEq] at hc; exact hc.1) (by simp only [beq_iff_eq, List.cons.injEq] at hc; exact hc.2.1)
    exact H_n (by exact svc) (by omega) (takes_ext hl h1 h2 hc')
  · (refine ⟨by first | exact .inr rfl | exact .inl rfl, ?_⟩; simp (disch := first | assumption | decide | omega | exact List.getElem_mem _ | exact allI_ints _ | exact allI_rns _ | (simp only [List.length_take, List.length_drop, List.length_append, List.length_cons, List.length_nil, List.length_replicate, List.length_map, ints_len, rns_len]; omega)) only [resA, rvA, tupA, fin, frzV, frzTup, frzA, frz, isI, isI.all, Option.bind_some, go_sem, if_pos, if_neg, Nat.reduceBEq, Nat.reduceEqDiff, ↓reduceIte, Nat.reduceSub, Nat.reduceAdd, Int.reduceToNat, reduceCtorEq, Nat.reduceLeDiff, Nat.reduceLT, Nat.reduceMul, Nat.reduceDiv, Int.reduceLT, Int.reduceLE, Int.reduceEq, Int.reduceNe, Int.reduceAdd, Int.reduceSub, Int.reduceNeg, Int.reduceGT, Int.reduceGE, Int.reduceBEq, Int.reduceBNe, Int.reduceMul, *])
    have : ¬ x = y := by rintro rfl; simp at hc
    simp only [this, decide_false]
  · (refine ⟨by first | exact .inr rfl | exact .inl rfl, ?_⟩; simp (disch := first | assumption | decide | omega | exact List.getElem_mem _ | exact allI_ints _ | exact allI_rns _ | (simp only [List.length_take, List.length_drop, List.length_append, List.length_cons, List.length_nil, List.length_replicate, List.length_map, ints_len, rns_len]; omega)) only [resA, rvA, tupA, fin, frzV, frzTup, frzA, frz, isI, isI.all, Option.bind_some, go_sem, if_pos, if_neg, Nat.reduceBEq, Nat.reduceEqDiff, ↓reduceIte, Nat.reduceSub, Nat.reduceAdd, Int.reduceToNat, reduceCtorEq, Nat.reduceLeDiff, Nat.reduceLT, Nat.reduceMul, Nat.reduceDiv, Int.reduceLT, Int.reduceLE, Int.reduceEq, Int.reduceNe, Int.reduceAdd, Int.reduceSub, Int.reduceNeg, Int.reduceGT, Int.reduceGE, Int.reduceBEq, Int.reduceBNe, Int.reduceMul, *])
    have : x = y := eq_of_takes hl (by omega) (by omega)
    simp only [this, decide_true]
theorem w64' : ∀ n : Fin 17, IntKind.u64.wrap ((n.val : Nat) : Int) = (n.val : Nat) := by decide
theorem wi64' : ∀ n : Fin 17, IntKind.i64.wrap ((n.val : Nat) : Int) = (n.val : Nat) := by decide
theorem w64 (n : Nat) (h : n ≤ 16) : IntKind.u64.wrap (n : Int) = n := w64' ⟨n, by omega⟩
theorem wi64 (n : Nat) (h : n ≤ 16) : IntKind.i64.wrap (n : Int) = n := wi64' ⟨n, by omega⟩
section
variable {p : Pr} {base : Nat} {env : Env} {M : MS} {D : List Nat} {d : Option Nat} {r : List AOp} {R : Env → MS → List Nat → Prop}
/-- A copy into a block of the call's own. -/
theorem S_copy {sz id off len n : Nat} {cd : Bool} {x y : O} {cs old : List AV} (hx : x.ev env = .ms id off len sz cd) (hv : view M (y.ev env) = some cs) (hl : lenOf (y.ev env) = some n) (hM : M[id]? = some (some old)) (hA : allI cs = true)
    (h1 : off + len * sz ≤ old.length) (h2 : Nat.min n len * sz ≤ cs.length) (hb : base ≤ id) (h : WS p base 0 r (updO env d (.flat (.int .i64 (Nat.min n len : Nat)))) (M.set id (some (splice old off (cs.take (Nat.min n len * sz))))) D R) :
    WS p base 0 (⟨d, .copy sz x y, none⟩ :: r) env M D R := by
  have hq : evI (ev p) base env M D (.copy sz x y) = some (.x (.flat (.int .i64 (Nat.min n len : Nat))) (M.set id (some (splice old off (cs.take (Nat.min n len * sz))))) D) := by
    simp only [evI, hx, hv, hl, hM]
    rw [if_pos ⟨trivial, hA, h1, h2⟩, dirt_out hb]
  exact S_0 hq (SO_x h)
end
theorem mul46 (n : Nat) (hn : n ≤ 16) (M : MS) : ev pr 46 [.flat (.int .u64 1), .flat (.int .u64 n)] M = some (.q (.tup [.flat (.int .u64 0), .flat (.int .u64 n)])) := by
  rw [ev_ext (by rfl)]
  have h : n = 0 ∨ n = 1 ∨ n = 2 ∨ n = 3 ∨ n = 4 ∨ n = 5 ∨ n = 6 ∨ n = 7 ∨ n = 8 ∨ n = 9 ∨ n = 10 ∨ n = 11 ∨ n = 12 ∨ n = 13 ∨ n = 14 ∨ n = 15 ∨ n = 16 := by omega
  rcases h with rfl | rfl | rfl | rfl | rfl | rfl | rfl | rfl | rfl | rfl | rfl | rfl | rfl | rfl | rfl | rfl | rfl <;> (show pr.ext 46 _ M = _; kernel_rfl)
/-- A number, as often as is asked. -/
theorem t31 {a : Int} {n : Nat} {M : MS} (hn : n ≤ 16) : ∃ cd, ev pr 31 [.list 1 [.flat (.int .i64 a)] false true, .flat (.int .i64 n)] M = some (.x (.ms M.length 0 n 1 cd) (M ++ [some (List.replicate n (.flat (.int .i64 a)))]) []) := by
  have h46 := fun M => mul46 n hn M
  have u1 : IntKind.u64.wrap 1 = 1 := by decide
  have u2 := w64 n hn
  have u3 := wi64 n hn
  have u4 : (n : Int) ≤ LIM := by unfold LIM; omega
  have u5 : ∀ z : AV, (List.replicate n [z]).flatten = List.replicate n z := fun z => by simp
  refine ⟨true, ?_⟩
  refine ev_fn' A31 ?_
  repeat' (first | ((with_reducible first | apply S_0 | apply S_q1 | apply S_g | apply S_c); exact sgc) | (with_reducible first | apply SO_q | apply SG_t | apply SG_f0 | apply SG_f1 | apply S_nil | apply T_n | apply W_seq | apply W_region | apply SO_x | apply SC_t | apply SC_f | apply W_block | apply W_ret | apply W_skip | apply W_exit | apply T_r | apply T_e | apply B_n | apply B_e) | (with_reducible apply B_ne; focus decide) | (with_reducible first | apply B_r | apply R_e | apply R_r | apply H_e | apply H_r | apply G_e | apply G_r) | (with_reducible apply SC_n) | ((with_reducible first | apply SC_d | apply SG_d | apply SG_n | apply SC_b | apply SG_b) <;> intro hc <;> try simp only [decide_eq_true_eq, decide_eq_false_iff_not, Classical.not_not, Bool.not_eq_true', Bool.not_eq_false'] at hc))
  · exfalso; omega
  · exfalso; omega
  refine S_copy (id := M.length) (off := 0) (len := n) (cd := true) (old := List.replicate n (.flat (.int .i64 0))) (cs := [.flat (.int .i64 a)]) (n := 1) (by exact svc) (by exact svc) (by exact svc) (by simp) rfl (by simp) ?_ (by simp) ?_
  · simp only [List.length_cons, List.length_nil, Nat.mul_one]; exact Nat.min_le_left _ _
  rcases Nat.eq_zero_or_pos n with h0 | h0
  · subst h0
    have e1 : Nat.min 1 0 = 0 := rfl
    have e2 : splice [] 0 ([] : List AV) = [] := rfl
    have e3 : (M ++ [some ([] : List AV)]).set M.length (some []) = M ++ [some []] := by rw [set_app0]; rfl
    have e4 : List.replicate 0 (AV.flat (.int .i64 a)) = [] := rfl
    have e5 : List.replicate 0 (AV.flat (.int .i64 0)) = [] := rfl
    simp only [e1, e5, List.take_zero, Nat.zero_mul, e2, e3, e4]
    repeat' (first | ((with_reducible first | apply S_0 | apply S_q1 | apply S_g | apply S_c); exact sgc) | (with_reducible first | apply SO_q | apply SG_t | apply SG_f0 | apply SG_f1 | apply S_nil | apply T_n | apply W_seq | apply W_region | apply SO_x | apply SC_t | apply SC_f | apply W_block | apply W_ret | apply W_skip | apply W_exit | apply T_r | apply T_e | apply B_n | apply B_e) | (with_reducible apply B_ne; focus decide) | (with_reducible first | apply B_r | apply R_e | apply R_r | apply H_e | apply H_r | apply G_e | apply G_r) | (with_reducible apply SC_n) | ((with_reducible first | apply SC_d | apply SG_d | apply SG_n | apply SC_b | apply SG_b) <;> intro hc <;> try simp only [decide_eq_true_eq, decide_eq_false_iff_not, Classical.not_not, Bool.not_eq_true', Bool.not_eq_false'] at hc))
    refine W_loop1 ?_
    repeat' (first | ((with_reducible first | apply S_0 | apply S_q1 | apply S_g | apply S_c); exact sgc) | (with_reducible first | apply SO_q | apply SG_t | apply SG_f0 | apply SG_f1 | apply S_nil | apply T_n | apply W_seq | apply W_region | apply SO_x | apply SC_t | apply SC_f | apply W_block | apply W_ret | apply W_skip | apply W_exit | apply T_r | apply T_e | apply B_n | apply B_e) | (with_reducible apply B_ne; focus decide) | (with_reducible first | apply B_r | apply R_e | apply R_r | apply H_e | apply H_r | apply G_e | apply G_r) | (with_reducible apply SC_n) | ((with_reducible first | apply SC_d | apply SG_d | apply SG_n | apply SC_b | apply SG_b) <;> intro hc <;> try simp only [decide_eq_true_eq, decide_eq_false_iff_not, Classical.not_not, Bool.not_eq_true', Bool.not_eq_false'] at hc))
    (first | exact fincR | exact fincN)
  have e1 : Nat.min 1 n = 1 := Nat.min_eq_left h0
  have rp : ∀ k, k ≤ n → splice (List.replicate k (AV.flat (.int .i64 a)) ++ List.replicate (n - k) (AV.flat (.int .i64 0))) k (List.replicate (Nat.min k (n - k)) (AV.flat (.int .i64 a))) = List.replicate (k + Nat.min k (n - k)) (AV.flat (.int .i64 a)) ++ List.replicate (n - (k + Nat.min k (n - k))) (AV.flat (.int .i64 0)) := by
    intro k hk
    simp only [splice]
    rw [List.take_left' (by simp), List.replicate_append_replicate, List.length_replicate, List.drop_append, List.drop_of_length_le (by simp), List.nil_append, List.drop_replicate, List.length_replicate]
    congr 2
    omega
  have e3 : (M ++ [some (List.replicate n (AV.flat (.int .i64 0)))]).set M.length (some (splice (List.replicate n (AV.flat (.int .i64 0))) 0 [AV.flat (.int .i64 a)])) = M ++ [some (List.replicate 1 (AV.flat (.int .i64 a)) ++ List.replicate (n - 1) (AV.flat (.int .i64 0)))] := by
    rw [set_app0]
    simp [splice, List.drop_replicate]
  simp only [e1, Nat.one_mul, List.take_succ_cons, List.take_zero, e3]
  repeat' (first | ((with_reducible first | apply S_0 | apply S_q1 | apply S_g | apply S_c); exact sgc) | (with_reducible first | apply SO_q | apply SG_t | apply SG_f0 | apply SG_f1 | apply S_nil | apply T_n | apply W_seq | apply W_region | apply SO_x | apply SC_t | apply SC_f | apply W_block | apply W_ret | apply W_skip | apply W_exit | apply T_r | apply T_e | apply B_n | apply B_e) | (with_reducible apply B_ne; focus decide) | (with_reducible first | apply B_r | apply R_e | apply R_r | apply H_e | apply H_r | apply G_e | apply G_r) | (with_reducible apply SC_n) | ((with_reducible first | apply SC_d | apply SG_d | apply SG_n | apply SC_b | apply SG_b) <;> intro hc <;> try simp only [decide_eq_true_eq, decide_eq_false_iff_not, Classical.not_not, Bool.not_eq_true', Bool.not_eq_false'] at hc))
  refine W_whl (fun q e m d => ∃ k : Nat, q = n - k ∧ 1 ≤ k ∧ k ≤ n ∧ e 8 = .flat (.int .i64 k) ∧ m = M ++ [some (List.replicate k (.flat (.int .i64 a)) ++ List.replicate (n - k) (.flat (.int .i64 0)))] ∧ d = []) (n - 1) (by simp only [asg, asgO, List.append_nil, List.nil_append, List.cons_append]; rfl)
    ⟨1, rfl, by omega, by omega, by exact svc, rfl, rfl⟩ ?_
  rintro q e m d hk ⟨k, rfl, hk1, hkn, e8, rfl, rfl⟩
  have k7 : e 7 = .ms M.length 0 n 1 true := by rw [hk 7 rfl]; exact svc
  clear hk
  have v1 : (List.replicate k (AV.flat (.int .i64 a)) ++ List.replicate (n - k) (AV.flat (.int .i64 0))).take k = List.replicate k (AV.flat (.int .i64 a)) := List.take_left' (by simp)
  have hal : allI (List.replicate k (AV.flat (.int .i64 a))) = true := by
    clear e1 rp e3 v1 k7 e8 hk1 hkn
    induction k with
    | zero => rfl
    | succ k ih => rw [List.replicate_succ]; simp only [allI, isI, ih, Bool.and_self]
  repeat' (first | ((with_reducible first | apply S_0 | apply S_q1 | apply S_g | apply S_c); exact sgc) | (with_reducible first | apply SO_q | apply SG_t | apply SG_f0 | apply SG_f1 | apply S_nil | apply T_n | apply W_seq | apply W_region | apply SO_x | apply SC_t | apply SC_f | apply W_block | apply W_ret | apply W_skip | apply W_exit | apply T_r | apply T_e | apply B_n | apply B_e) | (with_reducible apply B_ne; focus decide) | (with_reducible first | apply B_r | apply R_e | apply R_r | apply H_e | apply H_r | apply G_e | apply G_r) | (with_reducible apply SC_n) | ((with_reducible first | apply SC_d | apply SG_d | apply SG_n | apply SC_b | apply SG_b) <;> intro hc <;> try simp only [decide_eq_true_eq, decide_eq_false_iff_not, Classical.not_not, Bool.not_eq_true', Bool.not_eq_false'] at hc))
  · refine S_copy (id := M.length) (off := k) (len := n - k) (cd := true) (old := List.replicate k (AV.flat (.int .i64 a)) ++ List.replicate (n - k) (.flat (.int .i64 0))) (cs := List.replicate k (AV.flat (.int .i64 a))) (n := k) (by exact svc) (by exact svc) (by exact svc) (by simp) hal (by simp) ?_ (by simp) ?_
    · simp only [List.length_replicate, Nat.mul_one]; exact Nat.min_le_left _ _
    have e5 : (List.replicate k (AV.flat (.int .i64 a))).take (Nat.min k (n - k)) = List.replicate (Nat.min k (n - k)) (AV.flat (.int .i64 a)) := by
      rw [List.take_replicate]; congr 1; exact Nat.min_eq_left (Nat.min_le_left _ _)
    have hkn' : k < n := by omega
    rw [Nat.mul_one, e5, rp k hkn, set_app0]
    have hmin : 1 ≤ Nat.min k (n - k) ∧ k + Nat.min k (n - k) ≤ n := by
      rw [show Nat.min k (n - k) = min k (n - k) from rfl]; omega
    generalize Nat.min k (n - k) = j at hmin
    clear e5 rp e3 v1
    repeat' (first | ((with_reducible first | apply S_0 | apply S_q1 | apply S_g | apply S_c); exact sgc) | (with_reducible first | apply SO_q | apply SG_t | apply SG_f0 | apply SG_f1 | apply S_nil | apply T_n | apply W_seq | apply W_region | apply SO_x | apply SC_t | apply SC_f | apply W_block | apply W_ret | apply W_skip | apply W_exit | apply T_r | apply T_e | apply B_n | apply B_e) | (with_reducible apply B_ne; focus decide) | (with_reducible first | apply B_r | apply R_e | apply R_r | apply H_e | apply H_r | apply G_e | apply G_r) | (with_reducible apply SC_n) | ((with_reducible first | apply SC_d | apply SG_d | apply SG_n | apply SC_b | apply SG_b) <;> intro hc <;> try simp only [decide_eq_true_eq, decide_eq_false_iff_not, Classical.not_not, Bool.not_eq_true', Bool.not_eq_false'] at hc))
    exact R_n _ (by omega) ⟨k + j, rfl, by omega, by omega, by exact svc, rfl, rfl⟩
  · have hk2 : k = n := by omega
    have hk3 : List.replicate k (AV.flat (.int .i64 a)) ++ List.replicate (n - k) (.flat (.int .i64 0)) = List.replicate n (AV.flat (.int .i64 a)) := by rw [hk2]; simp
    clear v1 hal rp e3
    rw [hk3]
    clear hk3 hk2
    (first | exact fincR | exact fincN)
end Go.Proofs.Ytfpaegklkdfmmaa.Av
namespace Go.Proofs.Ytfpaegklkdfmmaa.Av
open Go.RowKit
set_option linter.unusedSimpArgs false
set_option linter.unusedVariables false
set_option maxHeartbeats 10000000
/-- The path that runs tell. -/
def flat (R : List (Int × Int)) : List Int := (R.map fun r => List.replicate r.2.toNat r.1).flatten
theorem flat_s {R : List (Int × Int)} {i : Nat} (h : i < R.length) : flat (R.take (i + 1)) = flat (R.take i) ++ List.replicate R[i].2.toNat R[i].1 := by
  rw [flat, List.take_succ_eq_append_getElem h, List.map_append, List.flatten_append]; simp [flat]
def okAt (R : List (Int × Int)) (j : Nat) (h : j < R.length) : Prop := (1 ≤ R[j].1 ∧ R[j].1 ≤ 65535) ∧ 1 ≤ R[j].2 ∧ ∀ _ : 0 < j, ¬ R[j - 1].1 = R[j].1
/-- 4.2: runs may be. -/
def okR (R : List (Int × Int)) : Prop := ∀ j (h : j < R.length), okAt R j h
noncomputable instance (R : List (Int × Int)) : Decidable (okR R) := Classical.propDecidable _
noncomputable def ofE (R : List (Int × Int)) : Int := if okR R then if (flat R).length ≤ 16 then 0 else 2 else 1
noncomputable def ofP (R : List (Int × Int)) : List Int := if okR R ∧ (flat R).length ≤ 16 then flat R else []
theorem flat_mono (R : List (Int × Int)) (i : Nat) : (flat (R.take i)).length ≤ (flat R).length := by
  have h : flat R = flat (R.take i) ++ flat (R.drop i) := by
    rw [flat, flat, flat, ← List.flatten_append, ← List.map_append, List.take_append_drop]
  rw [h, List.length_append]; omega
theorem Own.finT {base lo : Nat} {m : MS} {x : AV} {sz : Nat} {cs : List AV} {v : Value} (h : Own lo m x sz cs) (hb : base ≤ lo) : Av.fin base false (.tup [x, .flat v]) m [] = some (.q (.tup [lst sz cs, .flat v])) := by
  obtain ⟨m', h1⟩ := h.frzG hb
  rcases h.own with ⟨rfl, _⟩ | ⟨id, _, _, rfl, _⟩
  · simp only [Av.fin, Bool.false_eq_true, if_false, frzV, frzTup, frzA, h1]
    simp only [Av.frz, isI, if_true, Option.map_some]
    exact if_pos rfl
  · simp only [Av.fin, Bool.false_eq_true, if_false, frzV, frzTup, frzA, h1]
    simp only [Av.frz, isI, if_true, Option.map_some]
    exact if_pos rfl
theorem ints_rep (a : Int) (n : Nat) : intsA (List.replicate n a) = List.replicate n (.flat (.int .i64 a)) := by simp [intsA]
theorem allI_rep (a : Int) (n : Nat) : allI (List.replicate n (.flat (.int .i64 a))) = true := by rw [← ints_rep]; exact allI_ints _
theorem t14 {R : List (Int × Int)} {nl cd : Bool} {M : MS} (hl : R.length ≤ 1000000) (h64 : ∀ a ∈ R, I64 a.1 ∧ I64 a.2) : ev pr 14 [.list 2 (rnsA R) nl cd] M = some (.q (.tup [lst 1 (intsA (ofP R)), .flat (.int .i64 (ofE R))])) := by
  have h31 := fun a n M h => @t31 a n M h
  refine ev_fn' A14 ?_
  repeat' (first | ((with_reducible first | apply S_0 | apply S_q1 | apply S_g | apply S_c); exact sgc) | (with_reducible first | apply SO_q | apply SG_t | apply SG_f0 | apply SG_f1 | apply S_nil | apply T_n | apply W_seq | apply W_region | apply SO_x | apply SC_t | apply SC_f | apply W_block | apply W_ret | apply W_skip | apply W_exit | apply T_r | apply T_e | apply B_n | apply B_e) | (with_reducible apply B_ne; focus decide) | (with_reducible first | apply B_r | apply R_e | apply R_r | apply H_e | apply H_r | apply G_e | apply G_r) | (with_reducible apply SC_n) | ((with_reducible first | apply SC_d | apply SG_d | apply SG_n | apply SC_b | apply SG_b) <;> intro hc <;> try simp only [decide_eq_true_eq, decide_eq_false_iff_not, Classical.not_not, Bool.not_eq_true', Bool.not_eq_false'] at hc))
  refine W_rngM 11 0 R.length (fun i e m => ∃ G, m = M ++ G ∧ ∀ j, j < i → ∀ h : j < R.length, okAt R j h) (by simp only [asg, asgO, List.append_nil, List.nil_append, List.cons_append]; rfl) (by exact svc) (by omega)
    ⟨[], by simp, fun j hj => by omega⟩ ?_
  rintro i e _ _ hi hk e11 ⟨G, rfl, hO⟩
  have k0 : e 0 = .list 2 (rnsA R) nl cd := by rw [hk 0 rfl]; exact svc
  have k9 : e 9 = .list 2 (rnsA R) nl cd := by rw [hk 9 rfl]; exact svc
  have k10 : e 10 = .flat (.int .i64 R.length) := by rw [hk 10 rfl]; exact svc
  clear hk
  rcases Nat.lt_or_ge i R.length with hlt | hlt
  · have hlt' : (i : Int) < R.length := by omega
    have bad : ¬ okAt R i hlt → lst 1 (intsA (ofP R)) = .list 1 [] true true ∧ ofE R = 1 := fun h => by
      have h1 : ¬ okR R := fun hh => h (hh i hlt)
      refine ⟨?_, by rw [ofE, if_neg h1]⟩
      rw [ofP, if_neg fun hh => h1 hh.1]; rfl
    clear h31 h64
    repeat' (first | ((with_reducible first | apply S_0 | apply S_q1 | apply S_g | apply S_c); exact sgc) | (with_reducible first | apply SO_q | apply SG_t | apply SG_f0 | apply SG_f1 | apply S_nil | apply T_n | apply W_seq | apply W_region | apply SO_x | apply SC_t | apply SC_f | apply W_block | apply W_ret | apply W_skip | apply W_exit | apply T_r | apply T_e | apply B_n | apply B_e) | (with_reducible apply B_ne; focus decide) | (with_reducible first | apply B_r | apply R_e | apply R_r | apply H_e | apply H_r | apply G_e | apply G_r) | (with_reducible apply SC_n) | ((with_reducible first | apply SC_d | apply SG_d | apply SG_n | apply SC_b | apply SG_b) <;> intro hc <;> try simp only [decide_eq_true_eq, decide_eq_false_iff_not, Classical.not_not, Bool.not_eq_true', Bool.not_eq_false'] at hc))
    · obtain ⟨b1, b2⟩ := bad fun h => hc h.1
      rw [b1, b2]
      clear b1 b2 bad
      (first | exact fincR | exact fincN)
    · obtain ⟨b1, b2⟩ := bad fun h => by have := h.2.1; omega
      rw [b1, b2]
      clear b1 b2 bad
      (first | exact fincR | exact fincN)
    · have i0 : 0 < i := by omega
      obtain ⟨b1, b2⟩ := bad fun h => h.2.2 i0 hc
      rw [b1, b2]
      clear b1 b2 bad hc
      (first | exact fincR | exact fincN)
    · clear bad
      exact G_n (by exact svc) hlt ⟨_, by first | rfl | simp only [List.append_assoc], ext1 hO fun _ => ⟨by assumption, by omega, fun _ => hc⟩⟩
    · clear bad
      exact G_n (by exact svc) hlt ⟨_, by first | rfl | simp only [List.append_assoc], ext1 hO fun _ => ⟨by assumption, by omega, fun h => by omega⟩⟩
  · have hlt' : ¬ (i : Int) < R.length := by omega
    have hR : okR R := fun j h => hO j (by omega) h
    clear hO
    repeat' (first | ((with_reducible first | apply S_0 | apply S_q1 | apply S_g | apply S_c); exact sgc) | (with_reducible first | apply SO_q | apply SG_t | apply SG_f0 | apply SG_f1 | apply S_nil | apply T_n | apply W_seq | apply W_region | apply SO_x | apply SC_t | apply SC_f | apply W_block | apply W_ret | apply W_skip | apply W_exit | apply T_r | apply T_e | apply B_n | apply B_e) | (with_reducible apply B_ne; focus decide) | (with_reducible first | apply B_r | apply R_e | apply R_r | apply H_e | apply H_r | apply G_e | apply G_r) | (with_reducible apply SC_n) | ((with_reducible first | apply SC_d | apply SG_d | apply SG_n | apply SC_b | apply SG_b) <;> intro hc <;> try simp only [decide_eq_true_eq, decide_eq_false_iff_not, Classical.not_not, Bool.not_eq_true', Bool.not_eq_false'] at hc))
    clear k9 k10
    refine W_rngM 43 0 R.length (fun i e m => ∃ v G, e 6 = v ∧ m = M ++ G ∧ Own M.length (M ++ G) v 1 (intsA (flat (R.take i))) ∧ (flat (R.take i)).length ≤ 16) (by simp only [asg, asgO, List.append_nil, List.nil_append, List.cons_append]; rfl) (by exact svc) (by omega)
      ⟨.list 1 [] true true, G, by exact svc, rfl, by simpa [flat, intsA] using Own.nil _ _ (by decide), by simp [flat]⟩ ?_
    rintro i e' _ _ hi' hk e43 ⟨w, G, e6, rfl, hO, h16⟩
    have k41 : e' 41 = .list 2 (rnsA R) nl cd := by rw [hk 41 rfl]; exact svc
    have k42 : e' 42 = .flat (.int .i64 R.length) := by rw [hk 42 rfl]; exact svc
    clear hk
    rcases Nat.lt_or_ge i R.length with hlt | hlt
    · have hlt' : (i : Int) < R.length := by omega
      obtain ⟨o1, o2, o3⟩ := hR i hlt
      obtain ⟨n, hn⟩ : ∃ n : Nat, R[i].2 = n := ⟨R[i].2.toNat, by omega⟩
      have hf := flat_s hlt
      have hf' := flat_mono R (i + 1)
      rw [hf, hn, Int.toNat_natCast] at hf'
      rw [hn, Int.toNat_natCast] at hf
      simp only [List.length_append, List.length_replicate] at hf'
      have hO1 := hO
      generalize flat (R.take i) = L at hO h16 hf hf' hO1
      have v0 := hO.view
      have v1 := hO.lenOf
      rw [ints_len, Nat.div_one] at v1
      have hO2 := hO.growG [some [.flat (.int .i64 R[i].1), .flat (.int .i64 n)]]
      have v0' := hO2.view
      rcases Nat.lt_or_ge 16 (L.length + n) with h17 | h17
      · have b1 : lst 1 (intsA (ofP R)) = .list 1 [] true true := by rw [ofP, if_neg fun hh => by have := hh.2; omega]; rfl
        have b2 : ofE R = 2 := by rw [ofE, if_pos hR, if_neg (by omega)]
        rw [b1, b2]
        clear hf hf' hR h64 h31 b1 b2 hO hO1 hO2
        repeat' (first | ((with_reducible first | apply S_0 | apply S_q1 | apply S_g | apply S_c); exact sgc) | (with_reducible first | apply SO_q | apply SG_t | apply SG_f0 | apply SG_f1 | apply S_nil | apply T_n | apply W_seq | apply W_region | apply SO_x | apply SC_t | apply SC_f | apply W_block | apply W_ret | apply W_skip | apply W_exit | apply T_r | apply T_e | apply B_n | apply B_e) | (with_reducible apply B_ne; focus decide) | (with_reducible first | apply B_r | apply R_e | apply R_r | apply H_e | apply H_r | apply G_e | apply G_r) | (with_reducible apply SC_n) | ((with_reducible first | apply SC_d | apply SG_d | apply SG_n | apply SC_b | apply SG_b) <;> intro hc <;> try simp only [decide_eq_true_eq, decide_eq_false_iff_not, Classical.not_not, Bool.not_eq_true', Bool.not_eq_false'] at hc))
        · (first | exact fincR | exact fincN)
        · exfalso; omega
      · obtain ⟨c1, h31⟩ := h31 R[i].1 n (M ++ (G ++ [some [.flat (.int .i64 R[i].1), .flat (.int .i64 n)]])) (by omega)
        have hO3 := hO2.growG [some (List.replicate n (.flat (.int .i64 R[i].1)))]
        have hal := allI_rep R[i].1 n
        have htk : List.take n (List.replicate n (AV.flat (.int .i64 R[i].1))) = List.replicate n (.flat (.int .i64 R[i].1)) := by rw [List.take_replicate, Nat.min_self]
        have hf0 : Hid (flat (R.take (i + 1)) = L ++ List.replicate n R[i].1) := hf
        clear hf hf' h64 hO hO1 o3
        repeat' (first | ((with_reducible first | apply S_0 | apply S_q1 | apply S_g | apply S_c); exact sgc) | (with_reducible first | apply SO_q | apply SG_t | apply SG_f0 | apply SG_f1 | apply S_nil | apply T_n | apply W_seq | apply W_region | apply SO_x | apply SC_t | apply SC_f | apply W_block | apply W_ret | apply W_skip | apply W_exit | apply T_r | apply T_e | apply B_n | apply B_e) | (with_reducible apply B_ne; focus decide) | (with_reducible first | apply B_r | apply R_e | apply R_r | apply H_e | apply H_r | apply G_e | apply G_r) | (with_reducible apply SC_n) | ((with_reducible first | apply SC_d | apply SG_d | apply SG_n | apply SC_b | apply SG_b) <;> intro hc <;> try simp only [decide_eq_true_eq, decide_eq_false_iff_not, Classical.not_not, Bool.not_eq_true', Bool.not_eq_false'] at hc))
        · exfalso; omega
        (refine S_ownG (cs := intsA L) M (G ++ [some [.flat (.int .i64 R[i].1), .flat (.int .i64 n)]] ++ [some (List.replicate n (.flat (.int .i64 R[i].1)))]) (by assumption) (by first | rfl | simp only [List.append_assoc, List.cons_append, List.nil_append]) (by exact sgc) (by exact sgc) (by exact sgc) (by exact sgc) (by exact sgc) (by (first | assumption | omega | (simp only [ints_len, Nat.div_one, Nat.one_mul, Nat.mul_one, List.length_map, rns_len, half, List.length_cons, List.length_nil, List.length_append]; omega))) (by (first | assumption | omega | (simp only [ints_len, Nat.div_one, Nat.one_mul, Nat.mul_one, List.length_map, rns_len, half, List.length_cons, List.length_nil, List.length_append]; omega))) (by first | omega | (simp; done) | (simp; omega)) ?_)
        intro v' G' hO'
        repeat' (first | ((with_reducible first | apply S_0 | apply S_q1 | apply S_g | apply S_c); exact sgc) | (with_reducible first | apply SO_q | apply SG_t | apply SG_f0 | apply SG_f1 | apply S_nil | apply T_n | apply W_seq | apply W_region | apply SO_x | apply SC_t | apply SC_f | apply W_block | apply W_ret | apply W_skip | apply W_exit | apply T_r | apply T_e | apply B_n | apply B_e) | (with_reducible apply B_ne; focus decide) | (with_reducible first | apply B_r | apply R_e | apply R_r | apply H_e | apply H_r | apply G_e | apply G_r) | (with_reducible apply SC_n) | ((with_reducible first | apply SC_d | apply SG_d | apply SG_n | apply SC_b | apply SG_b) <;> intro hc <;> try simp only [decide_eq_true_eq, decide_eq_false_iff_not, Classical.not_not, Bool.not_eq_true', Bool.not_eq_false'] at hc))
        refine G_n (by exact svc) hlt ⟨v', G', by exact svc, rfl, ?_, ?_⟩
        · rw [show flat _ = _ from hf0, intsA, List.map_append, List.map_replicate]; exact hO'
        · rw [show flat _ = _ from hf0, List.length_append, List.length_replicate]; exact h17
    · have hlt' : ¬ (i : Int) < R.length := by omega
      obtain rfl : i = R.length := by omega
      rw [List.take_length] at hO h16
      have b1 : ofP R = flat R := by rw [ofP, if_pos ⟨hR, h16⟩]
      have b2 : ofE R = 0 := by rw [ofE, if_pos hR, if_pos h16]
      rw [b1, b2]
      clear hR h64 h31 b1 b2
      repeat' (first | ((with_reducible first | apply S_0 | apply S_q1 | apply S_g | apply S_c); exact sgc) | (with_reducible first | apply SO_q | apply SG_t | apply SG_f0 | apply SG_f1 | apply S_nil | apply T_n | apply W_seq | apply W_region | apply SO_x | apply SC_t | apply SC_f | apply W_block | apply W_ret | apply W_skip | apply W_exit | apply T_r | apply T_e | apply B_n | apply B_e) | (with_reducible apply B_ne; focus decide) | (with_reducible first | apply B_r | apply R_e | apply R_r | apply H_e | apply H_r | apply G_e | apply G_r) | (with_reducible apply SC_n) | ((with_reducible first | apply SC_d | apply SG_d | apply SG_n | apply SC_b | apply SG_b) <;> intro hc <;> try simp only [decide_eq_true_eq, decide_eq_false_iff_not, Classical.not_not, Bool.not_eq_true', Bool.not_eq_false'] at hc))
      refine ⟨.inr rfl, ?_⟩
      simp only [resA, rvA, tupA, Option.bind_some]
      exact hO.finT (Nat.le_refl _)
end Go.Proofs.Ytfpaegklkdfmmaa.Av
namespace Go.Proofs.Ytfpaegklkdfmmaa.Av
open Go.RowKit
set_option linter.unusedSimpArgs false
set_option linter.unusedVariables false
set_option maxHeartbeats 10000000
theorem t15 {R : List (Int × Int)} {nl cd : Bool} {M : MS} (hl : R.length ≤ 1000000) (h64 : ∀ a ∈ R, I64 a.1 ∧ I64 a.2) : ev pr 15 [.list 2 (rnsA R) nl cd] M = some (.q (.tup [lst 1 (intsA (ofP R)), .flat (.int .i64 (ofE R))])) := by
  refine ev_fn' A15 ?_
  repeat' (first | ((with_reducible first | apply S_0 | apply S_q1 | apply S_g | apply S_c); exact sgc) | (with_reducible first | apply SO_q | apply SG_t | apply SG_f0 | apply SG_f1 | apply S_nil | apply T_n | apply W_seq | apply W_region | apply SO_x | apply SC_t | apply SC_f | apply W_block | apply W_ret | apply W_skip | apply W_exit | apply T_r | apply T_e | apply B_n | apply B_e) | (with_reducible apply B_ne; focus decide) | (with_reducible first | apply B_r | apply R_e | apply R_r | apply H_e | apply H_r | apply G_e | apply G_r) | (with_reducible apply SC_n) | ((with_reducible first | apply SC_d | apply SG_d | apply SG_n | apply SC_b | apply SG_b) <;> intro hc <;> try simp only [decide_eq_true_eq, decide_eq_false_iff_not, Classical.not_not, Bool.not_eq_true', Bool.not_eq_false'] at hc))
  refine W_rng 4 0 R.length (fun i e => ∀ j, j < i → ∀ h : j < R.length, okAt R j h) (by simp only [asg, asgO, List.append_nil, List.nil_append, List.cons_append]; rfl) (by exact svc) (by omega) (fun j hj => by omega) ?_
  rintro i e _ hi hk e4 hO
  have k0 : e 0 = .list 2 (rnsA R) nl cd := by rw [hk 0 rfl]; exact svc
  clear hk
  rcases Nat.lt_or_ge i R.length with hlt | hlt
  · have hlt' : (i : Int) < R.length := by omega
    have bad : ¬ okAt R i hlt → lst 1 (intsA (ofP R)) = .list 1 [] true true ∧ ofE R = 1 := fun h => by
      have h1 : ¬ okR R := fun hh => h (hh i hlt)
      refine ⟨?_, by rw [ofE, if_neg h1]⟩
      rw [ofP, if_neg fun hh => h1 hh.1]; rfl
    clear h64
    repeat' (first | ((with_reducible first | apply S_0 | apply S_q1 | apply S_g | apply S_c); exact sgc) | (with_reducible first | apply SO_q | apply SG_t | apply SG_f0 | apply SG_f1 | apply S_nil | apply T_n | apply W_seq | apply W_region | apply SO_x | apply SC_t | apply SC_f | apply W_block | apply W_ret | apply W_skip | apply W_exit | apply T_r | apply T_e | apply B_n | apply B_e) | (with_reducible apply B_ne; focus decide) | (with_reducible first | apply B_r | apply R_e | apply R_r | apply H_e | apply H_r | apply G_e | apply G_r) | (with_reducible apply SC_n) | ((with_reducible first | apply SC_d | apply SG_d | apply SG_n | apply SC_b | apply SG_b) <;> intro hc <;> try simp only [decide_eq_true_eq, decide_eq_false_iff_not, Classical.not_not, Bool.not_eq_true', Bool.not_eq_false'] at hc))
    · obtain ⟨b1, b2⟩ := bad fun h => hc h.1
      rw [b1, b2]
      clear b1 b2 bad
      (first | exact fincR | exact fincN)
    · obtain ⟨b1, b2⟩ := bad fun h => by have := h.2.1; omega
      rw [b1, b2]
      clear b1 b2 bad
      (first | exact fincR | exact fincN)
    · have i0 : 0 < i := by omega
      obtain ⟨b1, b2⟩ := bad fun h => h.2.2 i0 (by omega)
      rw [b1, b2]
      clear b1 b2 bad hc
      (first | exact fincR | exact fincN)
    · clear bad
      exact H_n (by exact svc) hlt (ext1 hO fun _ => ⟨by assumption, by omega, fun _ h => hc h.symm⟩)
    · clear bad
      exact H_n (by exact svc) hlt (ext1 hO fun _ => ⟨by assumption, by omega, fun h => by omega⟩)
  · have hlt' : ¬ (i : Int) < R.length := by omega
    have hR : okR R := fun j h => hO j (by omega) h
    clear hO
    repeat' (first | ((with_reducible first | apply S_0 | apply S_q1 | apply S_g | apply S_c); exact sgc) | (with_reducible first | apply SO_q | apply SG_t | apply SG_f0 | apply SG_f1 | apply S_nil | apply T_n | apply W_seq | apply W_region | apply SO_x | apply SC_t | apply SC_f | apply W_block | apply W_ret | apply W_skip | apply W_exit | apply T_r | apply T_e | apply B_n | apply B_e) | (with_reducible apply B_ne; focus decide) | (with_reducible first | apply B_r | apply R_e | apply R_r | apply H_e | apply H_r | apply G_e | apply G_r) | (with_reducible apply SC_n) | ((with_reducible first | apply SC_d | apply SG_d | apply SG_n | apply SC_b | apply SG_b) <;> intro hc <;> try simp only [decide_eq_true_eq, decide_eq_false_iff_not, Classical.not_not, Bool.not_eq_true', Bool.not_eq_false'] at hc))
    refine W_rngM 6 0 R.length (fun i e m => ∃ v G, e 5 = v ∧ m = M ++ G ∧ Own M.length (M ++ G) v 1 (intsA (flat (R.take i))) ∧ (flat (R.take i)).length ≤ 16) (by simp only [asg, asgO, List.append_nil, List.nil_append, List.cons_append]; rfl) (by exact svc) (by omega)
      ⟨.list 1 [] true true, [], by exact svc, by simp, by simpa [flat, intsA] using Own.nil _ _ (by decide), by simp [flat]⟩ ?_
    rintro i e' _ _ hi' hk e6 ⟨w, G, e5, rfl, hO, h16⟩
    have k0' : e' 0 = .list 2 (rnsA R) nl cd := by rw [hk 0 rfl]; exact svc
    clear hk k0
    rcases Nat.lt_or_ge i R.length with hlt | hlt
    · have hlt' : (i : Int) < R.length := by omega
      obtain ⟨o1, o2, o3⟩ := hR i hlt
      obtain ⟨n, hn⟩ : ∃ n : Nat, R[i].2 = n := ⟨R[i].2.toNat, by omega⟩
      have hf := flat_s hlt
      have hf' := flat_mono R (i + 1)
      rw [hf, hn, Int.toNat_natCast] at hf'
      rw [hn, Int.toNat_natCast] at hf
      simp only [List.length_append, List.length_replicate] at hf'
      generalize flat (R.take i) = L at hO h16 hf hf'
      have n64 : (n : Int) ≤ 9223372036854775807 := by
        have := (h64 _ (List.getElem_mem hlt)).2
        rw [hn] at this
        exact this.2
      clear h64 o3
      have b1 : 16 < (flat R).length → lst 1 (intsA (ofP R)) = .list 1 [] true true ∧ ofE R = 2 := fun h => by
        refine ⟨?_, by rw [ofE, if_pos hR, if_neg (by omega)]⟩
        rw [ofP, if_neg fun hh => by have := hh.2; omega]; rfl
      have hf0 : Hid (flat (R.take (i + 1)) = L ++ List.replicate n R[i].1) := hf
      clear hf
      repeat' (first | ((with_reducible first | apply S_0 | apply S_q1 | apply S_g | apply S_c); exact sgc) | (with_reducible first | apply SO_q | apply SG_t | apply SG_f0 | apply SG_f1 | apply S_nil | apply T_n | apply W_seq | apply W_region | apply SO_x | apply SC_t | apply SC_f | apply W_block | apply W_ret | apply W_skip | apply W_exit | apply T_r | apply T_e | apply B_n | apply B_e) | (with_reducible apply B_ne; focus decide) | (with_reducible first | apply B_r | apply R_e | apply R_r | apply H_e | apply H_r | apply G_e | apply G_r) | (with_reducible apply SC_n) | ((with_reducible first | apply SC_d | apply SG_d | apply SG_n | apply SC_b | apply SG_b) <;> intro hc <;> try simp only [decide_eq_true_eq, decide_eq_false_iff_not, Classical.not_not, Bool.not_eq_true', Bool.not_eq_false'] at hc))
      refine W_rngM 7 0 n (fun k e m => ∃ v G, e 5 = v ∧ m = M ++ G ∧ Own M.length (M ++ G) v 1 (intsA (L ++ List.replicate k R[i].1)) ∧ L.length + k ≤ 16) (by simp only [asg, asgO, List.append_nil, List.nil_append, List.cons_append]; rfl) (by exact svc) (by omega)
        ⟨w, G, by exact svc, rfl, by simpa using hO, by omega⟩ ?_
      rintro k e'' _ _ hk' hkk e7 ⟨w', G', e5', rfl, hO', h16'⟩
      have k0'' : e'' 0 = .list 2 (rnsA R) nl cd := by rw [hkk 0 rfl]; exact svc
      have k6 : e'' 6 = .flat (.int .i64 i) := by rw [hkk 6 rfl]; exact svc
      clear hkk hO
      have v0 := hO'.view
      have v1 := hO'.lenOf
      rw [ints_len, Nat.div_one, List.length_append, List.length_replicate] at v1
      rcases Nat.lt_or_ge k n with hkn | hkn
      · have hkn' : (k : Int) < n := by omega
        repeat' (first | ((with_reducible first | apply S_0 | apply S_q1 | apply S_g | apply S_c); exact sgc) | (with_reducible first | apply SO_q | apply SG_t | apply SG_f0 | apply SG_f1 | apply S_nil | apply T_n | apply W_seq | apply W_region | apply SO_x | apply SC_t | apply SC_f | apply W_block | apply W_ret | apply W_skip | apply W_exit | apply T_r | apply T_e | apply B_n | apply B_e) | (with_reducible apply B_ne; focus decide) | (with_reducible first | apply B_r | apply R_e | apply R_r | apply H_e | apply H_r | apply G_e | apply G_r) | (with_reducible apply SC_n) | ((with_reducible first | apply SC_d | apply SG_d | apply SG_n | apply SC_b | apply SG_b) <;> intro hc <;> try simp only [decide_eq_true_eq, decide_eq_false_iff_not, Classical.not_not, Bool.not_eq_true', Bool.not_eq_false'] at hc))
        · obtain ⟨b2, b3⟩ := b1 (by omega)
          rw [b2, b3]
          clear b1 b2 b3 hc
          (first | exact fincR | exact fincN)
        clear b1
        (refine S_ownG (cs := intsA (L ++ List.replicate k R[i].1)) M G' (by assumption) (by first | rfl | simp only [List.append_assoc, List.cons_append, List.nil_append]) (by exact sgc) (by exact sgc) (by exact sgc) (by exact sgc) (by exact sgc) (by (first | assumption | omega | (simp only [ints_len, Nat.div_one, Nat.one_mul, Nat.mul_one, List.length_map, rns_len, half, List.length_cons, List.length_nil, List.length_append, List.length_replicate]; omega))) (by (first | assumption | omega | (simp only [ints_len, Nat.div_one, Nat.one_mul, Nat.mul_one, List.length_map, rns_len, half, List.length_cons, List.length_nil, List.length_append, List.length_replicate]; omega))) (by first | omega | (simp; done) | (simp; omega)) ?_)
        intro v' G2 hO2
        repeat' (first | ((with_reducible first | apply S_0 | apply S_q1 | apply S_g | apply S_c); exact sgc) | (with_reducible first | apply SO_q | apply SG_t | apply SG_f0 | apply SG_f1 | apply S_nil | apply T_n | apply W_seq | apply W_region | apply SO_x | apply SC_t | apply SC_f | apply W_block | apply W_ret | apply W_skip | apply W_exit | apply T_r | apply T_e | apply B_n | apply B_e) | (with_reducible apply B_ne; focus decide) | (with_reducible first | apply B_r | apply R_e | apply R_r | apply H_e | apply H_r | apply G_e | apply G_r) | (with_reducible apply SC_n) | ((with_reducible first | apply SC_d | apply SG_d | apply SG_n | apply SC_b | apply SG_b) <;> intro hc <;> try simp only [decide_eq_true_eq, decide_eq_false_iff_not, Classical.not_not, Bool.not_eq_true', Bool.not_eq_false'] at hc))
        refine G_n (by exact svc) hkn ⟨v', G2, by exact svc, rfl, ?_, by omega⟩
        rw [List.replicate_succ', ← List.append_assoc, intsA, List.map_append]
        exact hO2
      · have hkn' : ¬ (k : Int) < n := by omega
        obtain rfl : k = n := by omega
        clear b1
        repeat' (first | ((with_reducible first | apply S_0 | apply S_q1 | apply S_g | apply S_c); exact sgc) | (with_reducible first | apply SO_q | apply SG_t | apply SG_f0 | apply SG_f1 | apply S_nil | apply T_n | apply W_seq | apply W_region | apply SO_x | apply SC_t | apply SC_f | apply W_block | apply W_ret | apply W_skip | apply W_exit | apply T_r | apply T_e | apply B_n | apply B_e) | (with_reducible apply B_ne; focus decide) | (with_reducible first | apply B_r | apply R_e | apply R_r | apply H_e | apply H_r | apply G_e | apply G_r) | (with_reducible apply SC_n) | ((with_reducible first | apply SC_d | apply SG_d | apply SG_n | apply SC_b | apply SG_b) <;> intro hc <;> try simp only [decide_eq_true_eq, decide_eq_false_iff_not, Classical.not_not, Bool.not_eq_true', Bool.not_eq_false'] at hc))
        refine G_n (by exact svc) hlt ⟨w', G', by exact svc, rfl, ?_, ?_⟩
        · rw [show flat _ = _ from hf0]; exact hO'
        · rw [show flat _ = _ from hf0, List.length_append, List.length_replicate]; exact h16'
    · have hlt' : ¬ (i : Int) < R.length := by omega
      obtain rfl : i = R.length := by omega
      rw [List.take_length] at hO h16
      have b1 : ofP R = flat R := by rw [ofP, if_pos ⟨hR, h16⟩]
      have b2 : ofE R = 0 := by rw [ofE, if_pos hR, if_pos h16]
      rw [b1, b2]
      clear hR h64 b1 b2
      repeat' (first | ((with_reducible first | apply S_0 | apply S_q1 | apply S_g | apply S_c); exact sgc) | (with_reducible first | apply SO_q | apply SG_t | apply SG_f0 | apply SG_f1 | apply S_nil | apply T_n | apply W_seq | apply W_region | apply SO_x | apply SC_t | apply SC_f | apply W_block | apply W_ret | apply W_skip | apply W_exit | apply T_r | apply T_e | apply B_n | apply B_e) | (with_reducible apply B_ne; focus decide) | (with_reducible first | apply B_r | apply R_e | apply R_r | apply H_e | apply H_r | apply G_e | apply G_r) | (with_reducible apply SC_n) | ((with_reducible first | apply SC_d | apply SG_d | apply SG_n | apply SC_b | apply SG_b) <;> intro hc <;> try simp only [decide_eq_true_eq, decide_eq_false_iff_not, Classical.not_not, Bool.not_eq_true', Bool.not_eq_false'] at hc))
      refine ⟨.inr rfl, ?_⟩
      simp only [resA, rvA, tupA, Option.bind_some]
      exact hO.finT (Nat.le_refl _)
end Go.Proofs.Ytfpaegklkdfmmaa.Av
