/- What the small functions come to. -/
import Derived.Test.YtfpaegklkdfmmaaX4
namespace Go.Proofs.Ytfpaegklkdfmmaa.Av
open Go.RowKit
set_option linter.unusedSimpArgs false
set_option linter.unusedVariables false
set_option maxHeartbeats 10000000
theorem take_drop_len {α : Type} (l : List α) (k : Nat) : (l.drop k).take (l.length - k) = l.drop k := by
  rw [← List.length_drop, List.take_length]
attribute [go_sem] take_drop_len Option.bind_some
attribute [go_sem low] lenM_eq
/-- A row of numbers that reads so, whatever comes to memory. -/
structure Vw (M : MS) (sv : AV) (x : List Int) : Prop where
  len : lenOf sv = some x.length
  vw : ∀ G, view (M ++ G) sv = some (intsA x)
  cell : cellsOf sv = some [sv]
theorem Vw.v0 {M : MS} {sv : AV} {x : List Int} (h : Vw M sv x) : view M sv = some (intsA x) := by
  have := h.vw []; rwa [List.append_nil] at this
theorem Vw.ext {M : MS} {sv : AV} {x : List Int} (h : Vw M sv x) (G : MS) : Vw (M ++ G) sv x :=
  ⟨h.len, fun G' => by rw [List.append_assoc]; exact h.vw _, h.cell⟩
theorem Vw.list (M : MS) (x : List Int) (nl cd : Bool) : Vw M (.list 1 (intsA x) nl cd) x :=
  ⟨by simp only [lenOf, ints_len, Nat.div_one], fun _ => rfl, rfl⟩
theorem t8 {xv : AV} {x : List Int} {M : MS} (h : lenOf xv = some x.length) (hx : x.length ≤ 9223372036854775807) : ev pr 8 [xv] M = some (.q (.flat (.bool (decide (x.length ≤ 300))))) := by
  refine ev_fn' A8 ?_
  repeat' (first | ((with_reducible first | apply S_0 | apply S_q1 | apply S_g | apply S_c); exact sgc) | (with_reducible first | apply SO_q | apply SG_t | apply SG_f0 | apply SG_f1 | apply S_nil | apply T_n | apply W_seq | apply W_region | apply SO_x | apply SC_t | apply SC_f | apply W_block | apply W_ret | apply W_skip | apply W_exit | apply T_r | apply T_e | apply B_n | apply B_e) | (with_reducible apply B_ne; focus decide) | (with_reducible first | apply B_r | apply R_e | apply R_r | apply H_e | apply H_r | apply G_e | apply G_r) | (with_reducible apply SC_n) | ((with_reducible first | apply SC_d | apply SG_d | apply SG_n | apply SC_b | apply SG_b) <;> intro hc <;> try simp only [decide_eq_true_eq, decide_eq_false_iff_not, Classical.not_not, Bool.not_eq_true', Bool.not_eq_false'] at hc))
  (refine ⟨by first | exact .inr rfl | exact .inl rfl, ?_⟩; simp (disch := first | assumption | decide | omega | exact List.getElem_mem _ | exact allI_ints _ | exact allI_rns _ | (simp only [List.length_take, List.length_drop, List.length_append, List.length_cons, List.length_nil, List.length_replicate, List.length_map, ints_len, rns_len]; omega)) only [resA, rvA, tupA, fin, frzV, frzTup, frzA, frz, isI, isI.all, Option.bind_some, go_sem, if_pos, if_neg, Nat.reduceBEq, Nat.reduceEqDiff, ↓reduceIte, Nat.reduceSub, Nat.reduceAdd, Int.reduceToNat, reduceCtorEq, Nat.reduceLeDiff, Nat.reduceLT, Nat.reduceMul, Nat.reduceDiv, Int.reduceLT, Int.reduceLE, Int.reduceEq, Int.reduceNe, Int.reduceAdd, Int.reduceSub, Int.reduceNeg, Int.reduceGT, Int.reduceGE, Int.reduceBEq, Int.reduceBNe, Int.reduceMul, *])
  have : ((x.length : Int) ≤ 300) = (x.length ≤ 300) := by rw [eq_iff_iff]; omega
  simp only [this]
theorem t30 (n : Int) (M : MS) : ev pr 30 [.flat (.int .i64 n)] M = some (.q (.flat (.bool (decide (1 ≤ n ∧ n ≤ 65535))))) := by
  refine ev_fn' A30 ?_
  repeat' (first | ((with_reducible first | apply S_0 | apply S_q1 | apply S_g | apply S_c); exact sgc) | (with_reducible first | apply SO_q | apply SG_t | apply SG_f0 | apply SG_f1 | apply S_nil | apply T_n | apply W_seq | apply W_region | apply SO_x | apply SC_t | apply SC_f | apply W_block | apply W_ret | apply W_skip | apply W_exit | apply T_r | apply T_e | apply B_n | apply B_e) | (with_reducible apply B_ne; focus decide) | (with_reducible first | apply B_r | apply R_e | apply R_r | apply H_e | apply H_r | apply G_e | apply G_r) | (with_reducible apply SC_n) | ((with_reducible first | apply SC_d | apply SG_d | apply SG_n | apply SC_b | apply SG_b) <;> intro hc <;> try simp only [decide_eq_true_eq, decide_eq_false_iff_not, Classical.not_not, Bool.not_eq_true', Bool.not_eq_false'] at hc))
  · (first | exact fincR | exact fincN)
  · (first | exact fincR | exact fincN)
theorem t33 (n : Int) (M : MS) : ev pr 33 [.flat (.int .i64 n)] M = some (.q (.flat (.bool (decide (1 ≤ n ∧ n ≤ 65535))))) := by
  refine ev_fn' A33 ?_
  repeat' (first | ((with_reducible first | apply S_0 | apply S_q1 | apply S_g | apply S_c); exact sgc) | (with_reducible first | apply SO_q | apply SG_t | apply SG_f0 | apply SG_f1 | apply S_nil | apply T_n | apply W_seq | apply W_region | apply SO_x | apply SC_t | apply SC_f | apply W_block | apply W_ret | apply W_skip | apply W_exit | apply T_r | apply T_e | apply B_n | apply B_e) | (with_reducible apply B_ne; focus decide) | (with_reducible first | apply B_r | apply R_e | apply R_r | apply H_e | apply H_r | apply G_e | apply G_r) | (with_reducible apply SC_n) | ((with_reducible first | apply SC_d | apply SG_d | apply SG_n | apply SC_b | apply SG_b) <;> intro hc <;> try simp only [decide_eq_true_eq, decide_eq_false_iff_not, Classical.not_not, Bool.not_eq_true', Bool.not_eq_false'] at hc))
  · (refine ⟨by first | exact .inr rfl | exact .inl rfl, ?_⟩; simp (disch := first | assumption | decide | omega | exact List.getElem_mem _ | exact allI_ints _ | exact allI_rns _ | (simp only [List.length_take, List.length_drop, List.length_append, List.length_cons, List.length_nil, List.length_replicate, List.length_map, ints_len, rns_len]; omega)) only [resA, rvA, tupA, fin, frzV, frzTup, frzA, frz, isI, isI.all, Option.bind_some, go_sem, if_pos, if_neg, Nat.reduceBEq, Nat.reduceEqDiff, ↓reduceIte, Nat.reduceSub, Nat.reduceAdd, Int.reduceToNat, reduceCtorEq, Nat.reduceLeDiff, Nat.reduceLT, Nat.reduceMul, Nat.reduceDiv, Int.reduceLT, Int.reduceLE, Int.reduceEq, Int.reduceNe, Int.reduceAdd, Int.reduceSub, Int.reduceNeg, Int.reduceGT, Int.reduceGE, Int.reduceBEq, Int.reduceBNe, Int.reduceMul, *])
    have : (n < 65536) = (1 ≤ n ∧ n ≤ 65535) := by rw [eq_iff_iff]; omega
    simp only [this]
  · (refine ⟨by first | exact .inr rfl | exact .inl rfl, ?_⟩; simp (disch := first | assumption | decide | omega | exact List.getElem_mem _ | exact allI_ints _ | exact allI_rns _ | (simp only [List.length_take, List.length_drop, List.length_append, List.length_cons, List.length_nil, List.length_replicate, List.length_map, ints_len, rns_len]; omega)) only [resA, rvA, tupA, fin, frzV, frzTup, frzA, frz, isI, isI.all, Option.bind_some, go_sem, if_pos, if_neg, Nat.reduceBEq, Nat.reduceEqDiff, ↓reduceIte, Nat.reduceSub, Nat.reduceAdd, Int.reduceToNat, reduceCtorEq, Nat.reduceLeDiff, Nat.reduceLT, Nat.reduceMul, Nat.reduceDiv, Int.reduceLT, Int.reduceLE, Int.reduceEq, Int.reduceNe, Int.reduceAdd, Int.reduceSub, Int.reduceNeg, Int.reduceGT, Int.reduceGE, Int.reduceBEq, Int.reduceBNe, Int.reduceMul, *])
    have : ¬ (1 ≤ n ∧ n ≤ 65535) := by omega
    simp only [this, decide_false]
theorem t49 (n : Int) (M : MS) : ev pr 49 [.flat (.int .i64 n)] M = some (.q (.flat (.bool false))) := by
  refine ev_fn' A49 ?_
  repeat' (first | ((with_reducible first | apply S_0 | apply S_q1 | apply S_g | apply S_c); exact sgc) | (with_reducible first | apply SO_q | apply SG_t | apply SG_f0 | apply SG_f1 | apply S_nil | apply T_n | apply W_seq | apply W_region | apply SO_x | apply SC_t | apply SC_f | apply W_block | apply W_ret | apply W_skip | apply W_exit | apply T_r | apply T_e | apply B_n | apply B_e) | (with_reducible apply B_ne; focus decide) | (with_reducible first | apply B_r | apply R_e | apply R_r | apply H_e | apply H_r | apply G_e | apply G_r) | (with_reducible apply SC_n) | ((with_reducible first | apply SC_d | apply SG_d | apply SG_n | apply SC_b | apply SG_b) <;> intro hc <;> try simp only [decide_eq_true_eq, decide_eq_false_iff_not, Classical.not_not, Bool.not_eq_true', Bool.not_eq_false'] at hc))
  (first | exact fincR | exact fincN)
def cmpI (a b : Int) : Int := if a < b then -1 else if b < a then 1 else 0
attribute [go_sem] t30 t33 t49
theorem t41 (a b : Int) (M : MS) : ev pr 41 [.flat (.int .i64 a), .flat (.int .i64 b)] M = some (.q (.flat (.int .i64 (cmpI a b)))) := by
  refine ev_fn' A41 ?_
  repeat' (first | ((with_reducible first | apply S_0 | apply S_q1 | apply S_g | apply S_c); exact sgc) | (with_reducible first | apply SO_q | apply SG_t | apply SG_f0 | apply SG_f1 | apply S_nil | apply T_n | apply W_seq | apply W_region | apply SO_x | apply SC_t | apply SC_f | apply W_block | apply W_ret | apply W_skip | apply W_exit | apply T_r | apply T_e | apply B_n | apply B_e) | (with_reducible apply B_ne; focus decide) | (with_reducible first | apply B_r | apply R_e | apply R_r | apply H_e | apply H_r | apply G_e | apply G_r) | (with_reducible apply SC_n) | ((with_reducible first | apply SC_d | apply SG_d | apply SG_n | apply SC_b | apply SG_b) <;> intro hc <;> try simp only [decide_eq_true_eq, decide_eq_false_iff_not, Classical.not_not, Bool.not_eq_true', Bool.not_eq_false'] at hc))
  · (refine ⟨by first | exact .inr rfl | exact .inl rfl, ?_⟩; simp (disch := first | assumption | decide | omega | exact List.getElem_mem _ | exact allI_ints _ | exact allI_rns _ | (simp only [List.length_take, List.length_drop, List.length_append, List.length_cons, List.length_nil, List.length_replicate, List.length_map, ints_len, rns_len]; omega)) only [resA, rvA, tupA, fin, frzV, frzTup, frzA, frz, isI, isI.all, Option.bind_some, go_sem, if_pos, if_neg, Nat.reduceBEq, Nat.reduceEqDiff, ↓reduceIte, Nat.reduceSub, Nat.reduceAdd, Int.reduceToNat, reduceCtorEq, Nat.reduceLeDiff, Nat.reduceLT, Nat.reduceMul, Nat.reduceDiv, Int.reduceLT, Int.reduceLE, Int.reduceEq, Int.reduceNe, Int.reduceAdd, Int.reduceSub, Int.reduceNeg, Int.reduceGT, Int.reduceGE, Int.reduceBEq, Int.reduceBNe, Int.reduceMul, *])
    simp only [cmpI, hc, if_true]
  · (refine ⟨by first | exact .inr rfl | exact .inl rfl, ?_⟩; simp (disch := first | assumption | decide | omega | exact List.getElem_mem _ | exact allI_ints _ | exact allI_rns _ | (simp only [List.length_take, List.length_drop, List.length_append, List.length_cons, List.length_nil, List.length_replicate, List.length_map, ints_len, rns_len]; omega)) only [resA, rvA, tupA, fin, frzV, frzTup, frzA, frz, isI, isI.all, Option.bind_some, go_sem, if_pos, if_neg, Nat.reduceBEq, Nat.reduceEqDiff, ↓reduceIte, Nat.reduceSub, Nat.reduceAdd, Int.reduceToNat, reduceCtorEq, Nat.reduceLeDiff, Nat.reduceLT, Nat.reduceMul, Nat.reduceDiv, Int.reduceLT, Int.reduceLE, Int.reduceEq, Int.reduceNe, Int.reduceAdd, Int.reduceSub, Int.reduceNeg, Int.reduceGT, Int.reduceGE, Int.reduceBEq, Int.reduceBNe, Int.reduceMul, *])
    simp only [cmpI]; rw [if_neg (by omega), if_pos (by omega)]
  · (refine ⟨by first | exact .inr rfl | exact .inl rfl, ?_⟩; simp (disch := first | assumption | decide | omega | exact List.getElem_mem _ | exact allI_ints _ | exact allI_rns _ | (simp only [List.length_take, List.length_drop, List.length_append, List.length_cons, List.length_nil, List.length_replicate, List.length_map, ints_len, rns_len]; omega)) only [resA, rvA, tupA, fin, frzV, frzTup, frzA, frz, isI, isI.all, Option.bind_some, go_sem, if_pos, if_neg, Nat.reduceBEq, Nat.reduceEqDiff, ↓reduceIte, Nat.reduceSub, Nat.reduceAdd, Int.reduceToNat, reduceCtorEq, Nat.reduceLeDiff, Nat.reduceLT, Nat.reduceMul, Nat.reduceDiv, Int.reduceLT, Int.reduceLE, Int.reduceEq, Int.reduceNe, Int.reduceAdd, Int.reduceSub, Int.reduceNeg, Int.reduceGT, Int.reduceGE, Int.reduceBEq, Int.reduceBNe, Int.reduceMul, *])
    simp only [cmpI]; rw [if_neg (by omega), if_neg (by omega)]
attribute [go_sem] t41
theorem t40 (a b : Int) (M : MS) : ev pr 40 [.list 1 [.flat (.int .i64 a), .flat (.int .i64 b)] false true] M = some (.q (.flat (.int .i64 (if a = 0 then b else a)))) := by
  refine ev_fn' A40 ?_
  repeat' (first | ((with_reducible first | apply S_0 | apply S_q1 | apply S_g | apply S_c); exact sgc) | (with_reducible first | apply SO_q | apply SG_t | apply SG_f0 | apply SG_f1 | apply S_nil | apply T_n | apply W_seq | apply W_region | apply SO_x | apply SC_t | apply SC_f | apply W_block | apply W_ret | apply W_skip | apply W_exit | apply T_r | apply T_e | apply B_n | apply B_e) | (with_reducible apply B_ne; focus decide) | (with_reducible first | apply B_r | apply R_e | apply R_r | apply H_e | apply H_r | apply G_e | apply G_r) | (with_reducible apply SC_n) | ((with_reducible first | apply SC_d | apply SG_d | apply SG_n | apply SC_b | apply SG_b) <;> intro hc <;> try simp only [decide_eq_true_eq, decide_eq_false_iff_not, Classical.not_not, Bool.not_eq_true', Bool.not_eq_false'] at hc))
  refine W_loop1 ?_
  repeat' (first | ((with_reducible first | apply S_0 | apply S_q1 | apply S_g | apply S_c); exact sgc) | (with_reducible first | apply SO_q | apply SG_t | apply SG_f0 | apply SG_f1 | apply S_nil | apply T_n | apply W_seq | apply W_region | apply SO_x | apply SC_t | apply SC_f | apply W_block | apply W_ret | apply W_skip | apply W_exit | apply T_r | apply T_e | apply B_n | apply B_e) | (with_reducible apply B_ne; focus decide) | (with_reducible first | apply B_r | apply R_e | apply R_r | apply H_e | apply H_r | apply G_e | apply G_r) | (with_reducible apply SC_n) | ((with_reducible first | apply SC_d | apply SG_d | apply SG_n | apply SC_b | apply SG_b) <;> intro hc <;> try simp only [decide_eq_true_eq, decide_eq_false_iff_not, Classical.not_not, Bool.not_eq_true', Bool.not_eq_false'] at hc))
  · (first | exact fincR | exact fincN)
  refine W_loop1 ?_
  repeat' (first | ((with_reducible first | apply S_0 | apply S_q1 | apply S_g | apply S_c); exact sgc) | (with_reducible first | apply SO_q | apply SG_t | apply SG_f0 | apply SG_f1 | apply S_nil | apply T_n | apply W_seq | apply W_region | apply SO_x | apply SC_t | apply SC_f | apply W_block | apply W_ret | apply W_skip | apply W_exit | apply T_r | apply T_e | apply B_n | apply B_e) | (with_reducible apply B_ne; focus decide) | (with_reducible first | apply B_r | apply R_e | apply R_r | apply H_e | apply H_r | apply G_e | apply G_r) | (with_reducible apply SC_n) | ((with_reducible first | apply SC_d | apply SG_d | apply SG_n | apply SC_b | apply SG_b) <;> intro hc <;> try simp only [decide_eq_true_eq, decide_eq_false_iff_not, Classical.not_not, Bool.not_eq_true', Bool.not_eq_false'] at hc))
  · (first | exact fincR | exact fincN)
  refine W_loop1 ?_
  repeat' (first | ((with_reducible first | apply S_0 | apply S_q1 | apply S_g | apply S_c); exact sgc) | (with_reducible first | apply SO_q | apply SG_t | apply SG_f0 | apply SG_f1 | apply S_nil | apply T_n | apply W_seq | apply W_region | apply SO_x | apply SC_t | apply SC_f | apply W_block | apply W_ret | apply W_skip | apply W_exit | apply T_r | apply T_e | apply B_n | apply B_e) | (with_reducible apply B_ne; focus decide) | (with_reducible first | apply B_r | apply R_e | apply R_r | apply H_e | apply H_r | apply G_e | apply G_r) | (with_reducible apply SC_n) | ((with_reducible first | apply SC_d | apply SG_d | apply SG_n | apply SC_b | apply SG_b) <;> intro hc <;> try simp only [decide_eq_true_eq, decide_eq_false_iff_not, Classical.not_not, Bool.not_eq_true', Bool.not_eq_false'] at hc))
  (first | exact fincR | exact fincN)
/-- The document's order of two lists from a place on. -/
def lexI : List Int → List Int → Int
  | [], [] => 0
  | [], _ :: _ => -1
  | _ :: _, [] => 1
  | a :: xs, b :: ys => if a < b then -1 else if b < a then 1 else lexI xs ys
theorem lexI_step {x y : List Int} {i : Nat} (h : i < x.length) (h' : i < y.length) : lexI (x.drop i) (y.drop i) = if x[i] < y[i] then -1 else if y[i] < x[i] then 1 else lexI (x.drop (i + 1)) (y.drop (i + 1)) := by
  rw [List.drop_eq_getElem_cons h, List.drop_eq_getElem_cons h', lexI]
theorem lexI_out {x y : List Int} {i : Nat} (h : i < x.length) (h' : y.length ≤ i) : lexI (x.drop i) (y.drop i) = 1 := by
  rw [List.drop_eq_getElem_cons h, List.drop_eq_nil_of_le h', lexI]
theorem lexI_in {x y : List Int} {i : Nat} (h : x.length ≤ i) (h' : i < y.length) : lexI (x.drop i) (y.drop i) = -1 := by
  rw [List.drop_eq_getElem_cons h', List.drop_eq_nil_of_le h, lexI]
theorem lexI_end {x y : List Int} {i : Nat} (h : x.length ≤ i) (h' : y.length ≤ i) : lexI (x.drop i) (y.drop i) = 0 := by
  rw [List.drop_eq_nil_of_le h, List.drop_eq_nil_of_le h', lexI]
theorem t42 (x y : List Int) (nx cx ny cy : Bool) (M : MS) (hx : x.length ≤ 1000000) (hy : y.length ≤ 1000000) : ev pr 42 [.list 1 (intsA x) nx cx, .list 1 (intsA y) ny cy] M = some (.q (.flat (.int .i64 (lexI x y)))) := by
  refine ev_fn' A42 ?_
  repeat' (first | ((with_reducible first | apply S_0 | apply S_q1 | apply S_g | apply S_c); exact sgc) | (with_reducible first | apply SO_q | apply SG_t | apply SG_f0 | apply SG_f1 | apply S_nil | apply T_n | apply W_seq | apply W_region | apply SO_x | apply SC_t | apply SC_f | apply W_block | apply W_ret | apply W_skip | apply W_exit | apply T_r | apply T_e | apply B_n | apply B_e) | (with_reducible apply B_ne; focus decide) | (with_reducible first | apply B_r | apply R_e | apply R_r | apply H_e | apply H_r | apply G_e | apply G_r) | (with_reducible apply SC_n) | ((with_reducible first | apply SC_d | apply SG_d | apply SG_n | apply SC_b | apply SG_b) <;> intro hc <;> try simp only [decide_eq_true_eq, decide_eq_false_iff_not, Classical.not_not, Bool.not_eq_true', Bool.not_eq_false'] at hc))
  refine W_rng 11 0 x.length (fun i _ => i ≤ y.length ∧ lexI (x.drop i) (y.drop i) = lexI x y) (by simp only [asg, asgO, List.append_nil, List.nil_append, List.cons_append]; rfl) (by exact svc) (by omega) ⟨by omega, by simp⟩ ?_
  rintro i e _ hi hk e11 ⟨hi', hl⟩
  repeat' (first | ((with_reducible first | apply S_0 | apply S_q1 | apply S_g | apply S_c); exact sgc) | (with_reducible first | apply SO_q | apply SG_t | apply SG_f0 | apply SG_f1 | apply S_nil | apply T_n | apply W_seq | apply W_region | apply SO_x | apply SC_t | apply SC_f | apply W_block | apply W_ret | apply W_skip | apply W_exit | apply T_r | apply T_e | apply B_n | apply B_e) | (with_reducible apply B_ne; focus decide) | (with_reducible first | apply B_r | apply R_e | apply R_r | apply H_e | apply H_r | apply G_e | apply G_r) | (with_reducible apply SC_n) | ((with_reducible first | apply SC_d | apply SG_d | apply SG_n | apply SC_b | apply SG_b) <;> intro hc <;> try simp only [decide_eq_true_eq, decide_eq_false_iff_not, Classical.not_not, Bool.not_eq_true', Bool.not_eq_false'] at hc))
  · (refine ⟨by first | exact .inr rfl | exact .inl rfl, ?_⟩; simp (disch := first | assumption | decide | omega | exact List.getElem_mem _ | exact allI_ints _ | exact allI_rns _ | (simp only [List.length_take, List.length_drop, List.length_append, List.length_cons, List.length_nil, List.length_replicate, List.length_map, ints_len, rns_len]; omega)) only [resA, rvA, tupA, fin, frzV, frzTup, frzA, frz, isI, isI.all, Option.bind_some, go_sem, if_pos, if_neg, Nat.reduceBEq, Nat.reduceEqDiff, ↓reduceIte, Nat.reduceSub, Nat.reduceAdd, Int.reduceToNat, reduceCtorEq, Nat.reduceLeDiff, Nat.reduceLT, Nat.reduceMul, Nat.reduceDiv, Int.reduceLT, Int.reduceLE, Int.reduceEq, Int.reduceNe, Int.reduceAdd, Int.reduceSub, Int.reduceNeg, Int.reduceGT, Int.reduceGE, Int.reduceBEq, Int.reduceBNe, Int.reduceMul, *])
    rw [← hl, lexI_out (by omega) (by omega)]
  · (refine ⟨by first | exact .inr rfl | exact .inl rfl, ?_⟩; simp (disch := first | assumption | decide | omega | exact List.getElem_mem _ | exact allI_ints _ | exact allI_rns _ | (simp only [List.length_take, List.length_drop, List.length_append, List.length_cons, List.length_nil, List.length_replicate, List.length_map, ints_len, rns_len]; omega)) only [resA, rvA, tupA, fin, frzV, frzTup, frzA, frz, isI, isI.all, Option.bind_some, go_sem, if_pos, if_neg, Nat.reduceBEq, Nat.reduceEqDiff, ↓reduceIte, Nat.reduceSub, Nat.reduceAdd, Int.reduceToNat, reduceCtorEq, Nat.reduceLeDiff, Nat.reduceLT, Nat.reduceMul, Nat.reduceDiv, Int.reduceLT, Int.reduceLE, Int.reduceEq, Int.reduceNe, Int.reduceAdd, Int.reduceSub, Int.reduceNeg, Int.reduceGT, Int.reduceGE, Int.reduceBEq, Int.reduceBNe, Int.reduceMul, *])
    have h1 : i < x.length := by omega
    have h2 : i < y.length := by omega
    rw [← hl, lexI_step h1 h2]
    simp only [cmpI] at hc ⊢
    split
    · rfl
    · split
      · rfl
      · rename_i ha hb; simp [ha, hb] at hc
  · have h1 : i < x.length := by omega
    have h2 : i < y.length := by omega
    rw [lexI_step h1 h2] at hl
    refine H_n (by exact svc) (by omega) ⟨by omega, ?_⟩
    simp only [cmpI] at hc
    split at hl
    · rename_i ha; simp [ha] at hc
    · split at hl
      · rename_i ha hb; simp [ha, hb] at hc
      · exact hl
  · (refine ⟨by first | exact .inr rfl | exact .inl rfl, ?_⟩; simp (disch := first | assumption | decide | omega | exact List.getElem_mem _ | exact allI_ints _ | exact allI_rns _ | (simp only [List.length_take, List.length_drop, List.length_append, List.length_cons, List.length_nil, List.length_replicate, List.length_map, ints_len, rns_len]; omega)) only [resA, rvA, tupA, fin, frzV, frzTup, frzA, frz, isI, isI.all, Option.bind_some, go_sem, if_pos, if_neg, Nat.reduceBEq, Nat.reduceEqDiff, ↓reduceIte, Nat.reduceSub, Nat.reduceAdd, Int.reduceToNat, reduceCtorEq, Nat.reduceLeDiff, Nat.reduceLT, Nat.reduceMul, Nat.reduceDiv, Int.reduceLT, Int.reduceLE, Int.reduceEq, Int.reduceNe, Int.reduceAdd, Int.reduceSub, Int.reduceNeg, Int.reduceGT, Int.reduceGE, Int.reduceBEq, Int.reduceBNe, Int.reduceMul, *])
    rw [← hl, lexI_in (by omega) (by omega)]
  · (refine ⟨by first | exact .inr rfl | exact .inl rfl, ?_⟩; simp (disch := first | assumption | decide | omega | exact List.getElem_mem _ | exact allI_ints _ | exact allI_rns _ | (simp only [List.length_take, List.length_drop, List.length_append, List.length_cons, List.length_nil, List.length_replicate, List.length_map, ints_len, rns_len]; omega)) only [resA, rvA, tupA, fin, frzV, frzTup, frzA, frz, isI, isI.all, Option.bind_some, go_sem, if_pos, if_neg, Nat.reduceBEq, Nat.reduceEqDiff, ↓reduceIte, Nat.reduceSub, Nat.reduceAdd, Int.reduceToNat, reduceCtorEq, Nat.reduceLeDiff, Nat.reduceLT, Nat.reduceMul, Nat.reduceDiv, Int.reduceLT, Int.reduceLE, Int.reduceEq, Int.reduceNe, Int.reduceAdd, Int.reduceSub, Int.reduceNeg, Int.reduceGT, Int.reduceGE, Int.reduceBEq, Int.reduceBNe, Int.reduceMul, *])
    rw [← hl, lexI_end (by omega) (by omega)]
end Go.Proofs.Ytfpaegklkdfmmaa.Av
namespace Go.Proofs.Ytfpaegklkdfmmaa.Av
open Go.RowKit
set_option linter.unusedSimpArgs false
set_option linter.unusedVariables false
set_option maxHeartbeats 10000000
attribute [go_sem] t40
/-- 4.4: by length, then by the first number that is another. -/
def cmpL (x y : List Int) : Int := if (x.length : Int) < y.length then -1 else if (y.length : Int) < x.length then 1 else lexI x y
theorem t23 (x y : List Int) (nx cx ny cy : Bool) (M : MS) (hx : x.length ≤ 1000000) (hy : y.length ≤ 1000000) : ev pr 23 [.list 1 (intsA x) nx cx, .list 1 (intsA y) ny cy] M = some (.q (.flat (.int .i64 (cmpL x y)))) := by
  have h42 := t42 x y nx cx ny cy M hx hy
  refine ev_fn' A23 ?_
  repeat' (first | ((with_reducible first | apply S_0 | apply S_q1 | apply S_g | apply S_c); exact sgc) | (with_reducible first | apply SO_q | apply SG_t | apply SG_f0 | apply SG_f1 | apply S_nil | apply T_n | apply W_seq | apply W_region | apply SO_x | apply SC_t | apply SC_f | apply W_block | apply W_ret | apply W_skip | apply W_exit | apply T_r | apply T_e | apply B_n | apply B_e) | (with_reducible apply B_ne; focus decide) | (with_reducible first | apply B_r | apply R_e | apply R_r | apply H_e | apply H_r | apply G_e | apply G_r) | (with_reducible apply SC_n) | ((with_reducible first | apply SC_d | apply SG_d | apply SG_n | apply SC_b | apply SG_b) <;> intro hc <;> try simp only [decide_eq_true_eq, decide_eq_false_iff_not, Classical.not_not, Bool.not_eq_true', Bool.not_eq_false'] at hc))
  (refine ⟨by first | exact .inr rfl | exact .inl rfl, ?_⟩; simp (disch := first | assumption | decide | omega | exact List.getElem_mem _ | exact allI_ints _ | exact allI_rns _ | (simp only [List.length_take, List.length_drop, List.length_append, List.length_cons, List.length_nil, List.length_replicate, List.length_map, ints_len, rns_len]; omega)) only [resA, rvA, tupA, fin, frzV, frzTup, frzA, frz, isI, isI.all, Option.bind_some, go_sem, if_pos, if_neg, Nat.reduceBEq, Nat.reduceEqDiff, ↓reduceIte, Nat.reduceSub, Nat.reduceAdd, Int.reduceToNat, reduceCtorEq, Nat.reduceLeDiff, Nat.reduceLT, Nat.reduceMul, Nat.reduceDiv, Int.reduceLT, Int.reduceLE, Int.reduceEq, Int.reduceNe, Int.reduceAdd, Int.reduceSub, Int.reduceNeg, Int.reduceGT, Int.reduceGE, Int.reduceBEq, Int.reduceBNe, Int.reduceMul, *])
  simp only [cmpI, cmpL]
  split
  · simp
  · split <;> simp
theorem t28 {xv yv : AV} {x y : List Int} {M : MS} (vx : Vw M xv x) (vy : Vw M yv y) (hx : x.length ≤ 1000000) (hy : y.length ≤ 1000000) : ev pr 28 [xv, yv] M = some (.q (.flat (.int .i64 (cmpL x y)))) := by
  have x0 := vx.v0; have x1 := vx.len; have y0 := vy.v0; have y1 := vy.len
  clear vx vy
  refine ev_fn' A28 ?_
  repeat' (first | ((with_reducible first | apply S_0 | apply S_q1 | apply S_g | apply S_c); exact sgc) | (with_reducible first | apply SO_q | apply SG_t | apply SG_f0 | apply SG_f1 | apply S_nil | apply T_n | apply W_seq | apply W_region | apply SO_x | apply SC_t | apply SC_f | apply W_block | apply W_ret | apply W_skip | apply W_exit | apply T_r | apply T_e | apply B_n | apply B_e) | (with_reducible apply B_ne; focus decide) | (with_reducible first | apply B_r | apply R_e | apply R_r | apply H_e | apply H_r | apply G_e | apply G_r) | (with_reducible apply SC_n) | ((with_reducible first | apply SC_d | apply SG_d | apply SG_n | apply SC_b | apply SG_b) <;> intro hc <;> try simp only [decide_eq_true_eq, decide_eq_false_iff_not, Classical.not_not, Bool.not_eq_true', Bool.not_eq_false'] at hc))
  · (refine ⟨by first | exact .inr rfl | exact .inl rfl, ?_⟩; simp (disch := first | assumption | decide | omega | exact List.getElem_mem _ | exact allI_ints _ | exact allI_rns _ | (simp only [List.length_take, List.length_drop, List.length_append, List.length_cons, List.length_nil, List.length_replicate, List.length_map, ints_len, rns_len]; omega)) only [resA, rvA, tupA, fin, frzV, frzTup, frzA, frz, isI, isI.all, Option.bind_some, go_sem, if_pos, if_neg, Nat.reduceBEq, Nat.reduceEqDiff, ↓reduceIte, Nat.reduceSub, Nat.reduceAdd, Int.reduceToNat, reduceCtorEq, Nat.reduceLeDiff, Nat.reduceLT, Nat.reduceMul, Nat.reduceDiv, Int.reduceLT, Int.reduceLE, Int.reduceEq, Int.reduceNe, Int.reduceAdd, Int.reduceSub, Int.reduceNeg, Int.reduceGT, Int.reduceGE, Int.reduceBEq, Int.reduceBNe, Int.reduceMul, *])
    simp only [cmpL, hc, if_true]
  · (refine ⟨by first | exact .inr rfl | exact .inl rfl, ?_⟩; simp (disch := first | assumption | decide | omega | exact List.getElem_mem _ | exact allI_ints _ | exact allI_rns _ | (simp only [List.length_take, List.length_drop, List.length_append, List.length_cons, List.length_nil, List.length_replicate, List.length_map, ints_len, rns_len]; omega)) only [resA, rvA, tupA, fin, frzV, frzTup, frzA, frz, isI, isI.all, Option.bind_some, go_sem, if_pos, if_neg, Nat.reduceBEq, Nat.reduceEqDiff, ↓reduceIte, Nat.reduceSub, Nat.reduceAdd, Int.reduceToNat, reduceCtorEq, Nat.reduceLeDiff, Nat.reduceLT, Nat.reduceMul, Nat.reduceDiv, Int.reduceLT, Int.reduceLE, Int.reduceEq, Int.reduceNe, Int.reduceAdd, Int.reduceSub, Int.reduceNeg, Int.reduceGT, Int.reduceGE, Int.reduceBEq, Int.reduceBNe, Int.reduceMul, *])
    simp only [cmpL]
    rw [if_neg (by omega), if_pos (by omega)]
  have hn : x.length = y.length := by omega
  clear hc
  have hL : cmpL x y = lexI x y := by simp only [cmpL]; rw [if_neg (by omega), if_neg (by omega)]
  have hn' : x.length ≤ y.length ∧ y.length ≤ x.length := by omega
  clear hn
  refine W_rng 5 0 x.length (fun i _ => lexI (x.drop i) (y.drop i) = cmpL x y) (by simp only [asg, asgO, List.append_nil, List.nil_append, List.cons_append]; rfl) (by exact svc) (by omega) (by rw [hL]; simp) ?_
  rintro i e _ hi hk e5 hl
  clear hL
  repeat' (first | ((with_reducible first | apply S_0 | apply S_q1 | apply S_g | apply S_c); exact sgc) | (with_reducible first | apply SO_q | apply SG_t | apply SG_f0 | apply SG_f1 | apply S_nil | apply T_n | apply W_seq | apply W_region | apply SO_x | apply SC_t | apply SC_f | apply W_block | apply W_ret | apply W_skip | apply W_exit | apply T_r | apply T_e | apply B_n | apply B_e) | (with_reducible apply B_ne; focus decide) | (with_reducible first | apply B_r | apply R_e | apply R_r | apply H_e | apply H_r | apply G_e | apply G_r) | (with_reducible apply SC_n) | ((with_reducible first | apply SC_d | apply SG_d | apply SG_n | apply SC_b | apply SG_b) <;> intro hc <;> try simp only [decide_eq_true_eq, decide_eq_false_iff_not, Classical.not_not, Bool.not_eq_true', Bool.not_eq_false'] at hc))
  · (refine ⟨by first | exact .inr rfl | exact .inl rfl, ?_⟩; simp (disch := first | assumption | decide | omega | exact List.getElem_mem _ | exact allI_ints _ | exact allI_rns _ | (simp only [List.length_take, List.length_drop, List.length_append, List.length_cons, List.length_nil, List.length_replicate, List.length_map, ints_len, rns_len]; omega)) only [resA, rvA, tupA, fin, frzV, frzTup, frzA, frz, isI, isI.all, Option.bind_some, go_sem, if_pos, if_neg, Nat.reduceBEq, Nat.reduceEqDiff, ↓reduceIte, Nat.reduceSub, Nat.reduceAdd, Int.reduceToNat, reduceCtorEq, Nat.reduceLeDiff, Nat.reduceLT, Nat.reduceMul, Nat.reduceDiv, Int.reduceLT, Int.reduceLE, Int.reduceEq, Int.reduceNe, Int.reduceAdd, Int.reduceSub, Int.reduceNeg, Int.reduceGT, Int.reduceGE, Int.reduceBEq, Int.reduceBNe, Int.reduceMul, *])
    have h1 : i < x.length := by omega
    have h2 : i < y.length := by omega
    rw [← hl, lexI_step h1 h2, if_pos hc]
  · (refine ⟨by first | exact .inr rfl | exact .inl rfl, ?_⟩; simp (disch := first | assumption | decide | omega | exact List.getElem_mem _ | exact allI_ints _ | exact allI_rns _ | (simp only [List.length_take, List.length_drop, List.length_append, List.length_cons, List.length_nil, List.length_replicate, List.length_map, ints_len, rns_len]; omega)) only [resA, rvA, tupA, fin, frzV, frzTup, frzA, frz, isI, isI.all, Option.bind_some, go_sem, if_pos, if_neg, Nat.reduceBEq, Nat.reduceEqDiff, ↓reduceIte, Nat.reduceSub, Nat.reduceAdd, Int.reduceToNat, reduceCtorEq, Nat.reduceLeDiff, Nat.reduceLT, Nat.reduceMul, Nat.reduceDiv, Int.reduceLT, Int.reduceLE, Int.reduceEq, Int.reduceNe, Int.reduceAdd, Int.reduceSub, Int.reduceNeg, Int.reduceGT, Int.reduceGE, Int.reduceBEq, Int.reduceBNe, Int.reduceMul, *])
    have h1 : i < x.length := by omega
    have h2 : i < y.length := by omega
    rw [← hl, lexI_step h1 h2, if_neg (by omega), if_pos (by omega)]
  · have h1 : i < x.length := by omega
    have h2 : i < y.length := by omega
    rw [lexI_step h1 h2, if_neg (by omega), if_neg (by omega)] at hl
    exact H_n (by exact svc) (by omega) hl
  · (refine ⟨by first | exact .inr rfl | exact .inl rfl, ?_⟩; simp (disch := first | assumption | decide | omega | exact List.getElem_mem _ | exact allI_ints _ | exact allI_rns _ | (simp only [List.length_take, List.length_drop, List.length_append, List.length_cons, List.length_nil, List.length_replicate, List.length_map, ints_len, rns_len]; omega)) only [resA, rvA, tupA, fin, frzV, frzTup, frzA, frz, isI, isI.all, Option.bind_some, go_sem, if_pos, if_neg, Nat.reduceBEq, Nat.reduceEqDiff, ↓reduceIte, Nat.reduceSub, Nat.reduceAdd, Int.reduceToNat, reduceCtorEq, Nat.reduceLeDiff, Nat.reduceLT, Nat.reduceMul, Nat.reduceDiv, Int.reduceLT, Int.reduceLE, Int.reduceEq, Int.reduceNe, Int.reduceAdd, Int.reduceSub, Int.reduceNeg, Int.reduceGT, Int.reduceGE, Int.reduceBEq, Int.reduceBNe, Int.reduceMul, *])
    rw [← hl, lexI_end (by omega) (by omega)]
theorem lexI_eq : ∀ {x y : List Int}, lexI x y = 0 ↔ x = y
  | [], [] => by simp [lexI]
  | [], _ :: _ => by simp [lexI]
  | _ :: _, [] => by simp [lexI]
  | a :: x, b :: y => by
    simp only [lexI, List.cons.injEq]
    split
    · rename_i h; constructor
      · intro h; omega
      · rintro ⟨rfl, _⟩; omega
    · split
      · constructor
        · intro h; omega
        · rintro ⟨rfl, _⟩; omega
      · rw [lexI_eq (x := x)]
        constructor
        · intro h; exact ⟨by omega, h⟩
        · intro h; exact h.2
theorem cmpL_eq {x y : List Int} : cmpL x y = 0 ↔ x = y := by
  simp only [cmpL]
  split
  · rename_i h; constructor
    · intro h; omega
    · rintro rfl; omega
  · split
    · constructor
      · intro h; omega
      · rintro rfl; omega
    · exact lexI_eq
theorem t12 {xv yv : AV} {x y : List Int} {M : MS} (vx : Vw M xv x) (vy : Vw M yv y) (hx : x.length ≤ 1000000) (hy : y.length ≤ 1000000) : ev pr 12 [xv, yv] M = some (.q (.flat (.bool (decide (x = y))))) := by
  have h28 := t28 vx vy hx hy
  have x1 := vx.cell; have y1 := vy.cell
  clear vx vy
  refine ev_fn' A12 ?_
  repeat' (first | ((with_reducible first | apply S_0 | apply S_q1 | apply S_g | apply S_c); exact sgc) | (with_reducible first | apply SO_q | apply SG_t | apply SG_f0 | apply SG_f1 | apply S_nil | apply T_n | apply W_seq | apply W_region | apply SO_x | apply SC_t | apply SC_f | apply W_block | apply W_ret | apply W_skip | apply W_exit | apply T_r | apply T_e | apply B_n | apply B_e) | (with_reducible apply B_ne; focus decide) | (with_reducible first | apply B_r | apply R_e | apply R_r | apply H_e | apply H_r | apply G_e | apply G_r) | (with_reducible apply SC_n) | ((with_reducible first | apply SC_d | apply SG_d | apply SG_n | apply SC_b | apply SG_b) <;> intro hc <;> try simp only [decide_eq_true_eq, decide_eq_false_iff_not, Classical.not_not, Bool.not_eq_true', Bool.not_eq_false'] at hc))
  (refine ⟨by first | exact .inr rfl | exact .inl rfl, ?_⟩; simp (disch := first | assumption | decide | omega | exact List.getElem_mem _ | exact allI_ints _ | exact allI_rns _ | (simp only [List.length_take, List.length_drop, List.length_append, List.length_cons, List.length_nil, List.length_replicate, List.length_map, ints_len, rns_len]; omega)) only [resA, rvA, tupA, fin, frzV, frzTup, frzA, frz, isI, isI.all, Option.bind_some, go_sem, if_pos, if_neg, Nat.reduceBEq, Nat.reduceEqDiff, ↓reduceIte, Nat.reduceSub, Nat.reduceAdd, Int.reduceToNat, reduceCtorEq, Nat.reduceLeDiff, Nat.reduceLT, Nat.reduceMul, Nat.reduceDiv, Int.reduceLT, Int.reduceLE, Int.reduceEq, Int.reduceNe, Int.reduceAdd, Int.reduceSub, Int.reduceNeg, Int.reduceGT, Int.reduceGE, Int.reduceBEq, Int.reduceBNe, Int.reduceMul, *])
  simp only [cmpL_eq]
theorem eq_of_takes {α : Type} {x y : List α} {i : Nat} (h : x.take i = y.take i) (hi : x.length ≤ i) (hy : y.length ≤ i) : x = y := by
  rwa [List.take_of_length_le hi, List.take_of_length_le hy] at h
theorem takes_ext {α : Type} {x y : List α} {i : Nat} (h : x.take i = y.take i) (hx : i < x.length) (hy : i < y.length) (he : x[i] = y[i]) : x.take (i + 1) = y.take (i + 1) := by
  rw [List.take_succ_eq_append_getElem hx, List.take_succ_eq_append_getElem hy, h, he]
theorem t38 {xv yv : AV} {x y : List Int} {M : MS} (vx : Vw M xv x) (vy : Vw M yv y) (hx : x.length ≤ 1000000) (hy : y.length ≤ 1000000) : ev pr 38 [xv, yv] M = some (.q (.flat (.bool (decide (x = y))))) := by
  have x0 := vx.v0; have x1 := vx.len; have y0 := vy.v0; have y1 := vy.len
  clear vx vy
  refine ev_fn' A38 ?_
  repeat' (first | ((with_reducible first | apply S_0 | apply S_q1 | apply S_g | apply S_c); exact sgc) | (with_reducible first | apply SO_q | apply SG_t | apply SG_f0 | apply SG_f1 | apply S_nil | apply T_n | apply W_seq | apply W_region | apply SO_x | apply SC_t | apply SC_f | apply W_block | apply W_ret | apply W_skip | apply W_exit | apply T_r | apply T_e | apply B_n | apply B_e) | (with_reducible apply B_ne; focus decide) | (with_reducible first | apply B_r | apply R_e | apply R_r | apply H_e | apply H_r | apply G_e | apply G_r) | (with_reducible apply SC_n) | ((with_reducible first | apply SC_d | apply SG_d | apply SG_n | apply SC_b | apply SG_b) <;> intro hc <;> try simp only [decide_eq_true_eq, decide_eq_false_iff_not, Classical.not_not, Bool.not_eq_true', Bool.not_eq_false'] at hc))
  · (refine ⟨by first | exact .inr rfl | exact .inl rfl, ?_⟩; simp (disch := first | assumption | decide | omega | exact List.getElem_mem _ | exact allI_ints _ | exact allI_rns _ | (simp only [List.length_take, List.length_drop, List.length_append, List.length_cons, List.length_nil, List.length_replicate, List.length_map, ints_len, rns_len]; omega)) only [resA, rvA, tupA, fin, frzV, frzTup, frzA, frz, isI, isI.all, Option.bind_some, go_sem, if_pos, if_neg, Nat.reduceBEq, Nat.reduceEqDiff, ↓reduceIte, Nat.reduceSub, Nat.reduceAdd, Int.reduceToNat, reduceCtorEq, Nat.reduceLeDiff, Nat.reduceLT, Nat.reduceMul, Nat.reduceDiv, Int.reduceLT, Int.reduceLE, Int.reduceEq, Int.reduceNe, Int.reduceAdd, Int.reduceSub, Int.reduceNeg, Int.reduceGT, Int.reduceGE, Int.reduceBEq, Int.reduceBNe, Int.reduceMul, *])
    have hn : ¬ (x.length : Int) = y.length := by omega
    have : ¬ x = y := by rintro rfl; exact hn rfl
    simp only [this, decide_false]
  have hn' : x.length ≤ y.length ∧ y.length ≤ x.length := by omega
  clear hc
  refine W_rng 13 0 x.length (fun i _ => x.take i = y.take i) (by simp only [asg, asgO, List.append_nil, List.nil_append, List.cons_append]; rfl) (by exact svc) (by omega) (by simp) ?_
  rintro i e _ hi hk e13 hl
  repeat' (first | ((with_reducible first | apply S_0 | apply S_q1 | apply S_g | apply S_c); exact sgc) | (with_reducible first | apply SO_q | apply SG_t | apply SG_f0 | apply SG_f1 | apply S_nil | apply T_n | apply W_seq | apply W_region | apply SO_x | apply SC_t | apply SC_f | apply W_block | apply W_ret | apply W_skip | apply W_exit | apply T_r | apply T_e | apply B_n | apply B_e) | (with_reducible apply B_ne; focus decide) | (with_reducible first | apply B_r | apply R_e | apply R_r | apply H_e | apply H_r | apply G_e | apply G_r) | (with_reducible apply SC_n) | ((with_reducible first | apply SC_d | apply SG_d | apply SG_n | apply SC_b | apply SG_b) <;> intro hc <;> try simp only [decide_eq_true_eq, decide_eq_false_iff_not, Classical.not_not, Bool.not_eq_true', Bool.not_eq_false'] at hc))
  · (refine ⟨by first | exact .inr rfl | exact .inl rfl, ?_⟩; simp (disch := first | assumption | decide | omega | exact List.getElem_mem _ | exact allI_ints _ | exact allI_rns _ | (simp only [List.length_take, List.length_drop, List.length_append, List.length_cons, List.length_nil, List.length_replicate, List.length_map, ints_len, rns_len]; omega)) only [resA, rvA, tupA, fin, frzV, frzTup, frzA, frz, isI, isI.all, Option.bind_some, go_sem, if_pos, if_neg, Nat.reduceBEq, Nat.reduceEqDiff, ↓reduceIte, Nat.reduceSub, Nat.reduceAdd, Int.reduceToNat, reduceCtorEq, Nat.reduceLeDiff, Nat.reduceLT, Nat.reduceMul, Nat.reduceDiv, Int.reduceLT, Int.reduceLE, Int.reduceEq, Int.reduceNe, Int.reduceAdd, Int.reduceSub, Int.reduceNeg, Int.reduceGT, Int.reduceGE, Int.reduceBEq, Int.reduceBNe, Int.reduceMul, *])
    have : ¬ x = y := by
      rintro rfl
      exact hc rfl
    simp only [this, decide_false]
  · refine H_n (by exact svc) (by omega) (takes_ext hl (by omega) (by omega) ?_)
    omega
  · (refine ⟨by first | exact .inr rfl | exact .inl rfl, ?_⟩; simp (disch := first | assumption | decide | omega | exact List.getElem_mem _ | exact allI_ints _ | exact allI_rns _ | (simp only [List.length_take, List.length_drop, List.length_append, List.length_cons, List.length_nil, List.length_replicate, List.length_map, ints_len, rns_len]; omega)) only [resA, rvA, tupA, fin, frzV, frzTup, frzA, frz, isI, isI.all, Option.bind_some, go_sem, if_pos, if_neg, Nat.reduceBEq, Nat.reduceEqDiff, ↓reduceIte, Nat.reduceSub, Nat.reduceAdd, Int.reduceToNat, reduceCtorEq, Nat.reduceLeDiff, Nat.reduceLT, Nat.reduceMul, Nat.reduceDiv, Int.reduceLT, Int.reduceLE, Int.reduceEq, Int.reduceNe, Int.reduceAdd, Int.reduceSub, Int.reduceNeg, Int.reduceGT, Int.reduceGE, Int.reduceBEq, Int.reduceBNe, Int.reduceMul, *])
    have : x = y := eq_of_takes hl (by omega) (by omega)
    simp only [this, decide_true]
end Go.Proofs.Ytfpaegklkdfmmaa.Av
namespace Go.Proofs.Ytfpaegklkdfmmaa.Av
open Go.RowKit
set_option linter.unusedSimpArgs false
set_option linter.unusedVariables false
set_option maxHeartbeats 10000000
theorem t21 {xv : AV} {x : List Int} {M : MS} (vx : Vw M xv x) (hx : x.length ≤ 1000000) : ev pr 21 [xv] M = some (.q (.flat (.int .i64 (x.headD 0)))) := by
  have x0 := vx.v0; have x1 := vx.len
  clear vx
  refine ev_fn' A21 ?_
  repeat' (first | ((with_reducible first | apply S_0 | apply S_q1 | apply S_g | apply S_c); exact sgc) | (with_reducible first | apply SO_q | apply SG_t | apply SG_f0 | apply SG_f1 | apply S_nil | apply T_n | apply W_seq | apply W_region | apply SO_x | apply SC_t | apply SC_f | apply W_block | apply W_ret | apply W_skip | apply W_exit | apply T_r | apply T_e | apply B_n | apply B_e) | (with_reducible apply B_ne; focus decide) | (with_reducible first | apply B_r | apply R_e | apply R_r | apply H_e | apply H_r | apply G_e | apply G_r) | (with_reducible apply SC_n) | ((with_reducible first | apply SC_d | apply SG_d | apply SG_n | apply SC_b | apply SG_b) <;> intro hc <;> try simp only [decide_eq_true_eq, decide_eq_false_iff_not, Classical.not_not, Bool.not_eq_true', Bool.not_eq_false'] at hc))
  · (refine ⟨by first | exact .inr rfl | exact .inl rfl, ?_⟩; simp (disch := first | assumption | decide | omega | exact List.getElem_mem _ | exact allI_ints _ | exact allI_rns _ | (simp only [List.length_take, List.length_drop, List.length_append, List.length_cons, List.length_nil, List.length_replicate, List.length_map, ints_len, rns_len]; omega)) only [resA, rvA, tupA, fin, frzV, frzTup, frzA, frz, isI, isI.all, Option.bind_some, go_sem, if_pos, if_neg, Nat.reduceBEq, Nat.reduceEqDiff, ↓reduceIte, Nat.reduceSub, Nat.reduceAdd, Int.reduceToNat, reduceCtorEq, Nat.reduceLeDiff, Nat.reduceLT, Nat.reduceMul, Nat.reduceDiv, Int.reduceLT, Int.reduceLE, Int.reduceEq, Int.reduceNe, Int.reduceAdd, Int.reduceSub, Int.reduceNeg, Int.reduceGT, Int.reduceGE, Int.reduceBEq, Int.reduceBNe, Int.reduceMul, *])
    have : x = [] := List.eq_nil_of_length_eq_zero (by omega)
    rw [this]; rfl
  · have h1 : 0 < x.length := by omega
    (refine ⟨by first | exact .inr rfl | exact .inl rfl, ?_⟩; simp (disch := first | assumption | decide | omega | exact List.getElem_mem _ | exact allI_ints _ | exact allI_rns _ | (simp only [List.length_take, List.length_drop, List.length_append, List.length_cons, List.length_nil, List.length_replicate, List.length_map, ints_len, rns_len]; omega)) only [resA, rvA, tupA, fin, frzV, frzTup, frzA, frz, isI, isI.all, Option.bind_some, go_sem, if_pos, if_neg, Nat.reduceBEq, Nat.reduceEqDiff, ↓reduceIte, Nat.reduceSub, Nat.reduceAdd, Int.reduceToNat, reduceCtorEq, Nat.reduceLeDiff, Nat.reduceLT, Nat.reduceMul, Nat.reduceDiv, Int.reduceLT, Int.reduceLE, Int.reduceEq, Int.reduceNe, Int.reduceAdd, Int.reduceSub, Int.reduceNeg, Int.reduceGT, Int.reduceGE, Int.reduceBEq, Int.reduceBNe, Int.reduceMul, *])
    cases x with
    | nil => simp at h1
    | cons a x => rfl
theorem t25 {xv : AV} {x : List Int} {M : MS} (vx : Vw M xv x) (hx : x.length ≤ 1000000) : ev pr 25 [xv] M = some (.q (.flat (.int .i64 ((x[x.length - 1]?).getD 0)))) := by
  have x0 := vx.v0; have x1 := vx.len
  clear vx
  refine ev_fn' A25 ?_
  repeat' (first | ((with_reducible first | apply S_0 | apply S_q1 | apply S_g | apply S_c); exact sgc) | (with_reducible first | apply SO_q | apply SG_t | apply SG_f0 | apply SG_f1 | apply S_nil | apply T_n | apply W_seq | apply W_region | apply SO_x | apply SC_t | apply SC_f | apply W_block | apply W_ret | apply W_skip | apply W_exit | apply T_r | apply T_e | apply B_n | apply B_e) | (with_reducible apply B_ne; focus decide) | (with_reducible first | apply B_r | apply R_e | apply R_r | apply H_e | apply H_r | apply G_e | apply G_r) | (with_reducible apply SC_n) | ((with_reducible first | apply SC_d | apply SG_d | apply SG_n | apply SC_b | apply SG_b) <;> intro hc <;> try simp only [decide_eq_true_eq, decide_eq_false_iff_not, Classical.not_not, Bool.not_eq_true', Bool.not_eq_false'] at hc))
  · (refine ⟨by first | exact .inr rfl | exact .inl rfl, ?_⟩; simp (disch := first | assumption | decide | omega | exact List.getElem_mem _ | exact allI_ints _ | exact allI_rns _ | (simp only [List.length_take, List.length_drop, List.length_append, List.length_cons, List.length_nil, List.length_replicate, List.length_map, ints_len, rns_len]; omega)) only [resA, rvA, tupA, fin, frzV, frzTup, frzA, frz, isI, isI.all, Option.bind_some, go_sem, if_pos, if_neg, Nat.reduceBEq, Nat.reduceEqDiff, ↓reduceIte, Nat.reduceSub, Nat.reduceAdd, Int.reduceToNat, reduceCtorEq, Nat.reduceLeDiff, Nat.reduceLT, Nat.reduceMul, Nat.reduceDiv, Int.reduceLT, Int.reduceLE, Int.reduceEq, Int.reduceNe, Int.reduceAdd, Int.reduceSub, Int.reduceNeg, Int.reduceGT, Int.reduceGE, Int.reduceBEq, Int.reduceBNe, Int.reduceMul, *])
    have : x = [] := List.eq_nil_of_length_eq_zero (by omega)
    rw [this]; rfl
  · have h1 : x.length - 1 < x.length := by omega
    (refine ⟨by first | exact .inr rfl | exact .inl rfl, ?_⟩; simp (disch := first | assumption | decide | omega | exact List.getElem_mem _ | exact allI_ints _ | exact allI_rns _ | (simp only [List.length_take, List.length_drop, List.length_append, List.length_cons, List.length_nil, List.length_replicate, List.length_map, ints_len, rns_len]; omega)) only [resA, rvA, tupA, fin, frzV, frzTup, frzA, frz, isI, isI.all, Option.bind_some, go_sem, if_pos, if_neg, Nat.reduceBEq, Nat.reduceEqDiff, ↓reduceIte, Nat.reduceSub, Nat.reduceAdd, Int.reduceToNat, reduceCtorEq, Nat.reduceLeDiff, Nat.reduceLT, Nat.reduceMul, Nat.reduceDiv, Int.reduceLT, Int.reduceLE, Int.reduceEq, Int.reduceNe, Int.reduceAdd, Int.reduceSub, Int.reduceNeg, Int.reduceGT, Int.reduceGE, Int.reduceBEq, Int.reduceBNe, Int.reduceMul, *])
    simp only [List.getElem?_eq_getElem h1, Option.getD_some]
def idxI : List Int → Int → Int → Int
  | [], _, _ => -1
  | a :: x, v, i => if v = a then i else idxI x v (i + 1)
theorem idxI_mem : ∀ (x : List Int) (v i : Int), 0 ≤ i → (0 ≤ idxI x v i ↔ v ∈ x)
  | [], v, i, h => by simp [idxI]
  | a :: x, v, i, h => by
    simp only [idxI, List.mem_cons]
    split
    · rename_i e; simp [e, h]
    · rename_i e; simp [e, idxI_mem x v (i + 1) (by omega)]
theorem t48 {xv : AV} {x : List Int} {M : MS} (vx : Vw M xv x) (v : Int) (hx : x.length ≤ 1000000) : ev pr 48 [xv, .flat (.int .i64 v)] M = some (.q (.flat (.int .i64 (idxI x v 0)))) := by
  have x0 := vx.v0; have x1 := vx.len
  clear vx
  refine ev_fn' A48 ?_
  repeat' (first | ((with_reducible first | apply S_0 | apply S_q1 | apply S_g | apply S_c); exact sgc) | (with_reducible first | apply SO_q | apply SG_t | apply SG_f0 | apply SG_f1 | apply S_nil | apply T_n | apply W_seq | apply W_region | apply SO_x | apply SC_t | apply SC_f | apply W_block | apply W_ret | apply W_skip | apply W_exit | apply T_r | apply T_e | apply B_n | apply B_e) | (with_reducible apply B_ne; focus decide) | (with_reducible first | apply B_r | apply R_e | apply R_r | apply H_e | apply H_r | apply G_e | apply G_r) | (with_reducible apply SC_n) | ((with_reducible first | apply SC_d | apply SG_d | apply SG_n | apply SC_b | apply SG_b) <;> intro hc <;> try simp only [decide_eq_true_eq, decide_eq_false_iff_not, Classical.not_not, Bool.not_eq_true', Bool.not_eq_false'] at hc))
  refine W_rng 8 0 x.length (fun i _ => idxI (x.drop i) v i = idxI x v 0) (by simp only [asg, asgO, List.append_nil, List.nil_append, List.cons_append]; rfl) (by exact svc) (by omega) (by simp) ?_
  rintro i e _ hi hk e8 hl
  repeat' (first | ((with_reducible first | apply S_0 | apply S_q1 | apply S_g | apply S_c); exact sgc) | (with_reducible first | apply SO_q | apply SG_t | apply SG_f0 | apply SG_f1 | apply S_nil | apply T_n | apply W_seq | apply W_region | apply SO_x | apply SC_t | apply SC_f | apply W_block | apply W_ret | apply W_skip | apply W_exit | apply T_r | apply T_e | apply B_n | apply B_e) | (with_reducible apply B_ne; focus decide) | (with_reducible first | apply B_r | apply R_e | apply R_r | apply H_e | apply H_r | apply G_e | apply G_r) | (with_reducible apply SC_n) | ((with_reducible first | apply SC_d | apply SG_d | apply SG_n | apply SC_b | apply SG_b) <;> intro hc <;> try simp only [decide_eq_true_eq, decide_eq_false_iff_not, Classical.not_not, Bool.not_eq_true', Bool.not_eq_false'] at hc))
  · have h1 : i < x.length := by omega
    have h2 : idxI x v 0 = i := by rw [← hl, List.drop_eq_getElem_cons h1, idxI, if_pos hc]
    clear hc hl
    (first | exact fincR | exact fincN)
  · have h1 : i < x.length := by omega
    rw [List.drop_eq_getElem_cons h1, idxI, if_neg hc] at hl
    exact H_n (by exact svc) (by omega) (by rw [← hl]; rfl)
  · (refine ⟨by first | exact .inr rfl | exact .inl rfl, ?_⟩; simp (disch := first | assumption | decide | omega | exact List.getElem_mem _ | exact allI_ints _ | exact allI_rns _ | (simp only [List.length_take, List.length_drop, List.length_append, List.length_cons, List.length_nil, List.length_replicate, List.length_map, ints_len, rns_len]; omega)) only [resA, rvA, tupA, fin, frzV, frzTup, frzA, frz, isI, isI.all, Option.bind_some, go_sem, if_pos, if_neg, Nat.reduceBEq, Nat.reduceEqDiff, ↓reduceIte, Nat.reduceSub, Nat.reduceAdd, Int.reduceToNat, reduceCtorEq, Nat.reduceLeDiff, Nat.reduceLT, Nat.reduceMul, Nat.reduceDiv, Int.reduceLT, Int.reduceLE, Int.reduceEq, Int.reduceNe, Int.reduceAdd, Int.reduceSub, Int.reduceNeg, Int.reduceGT, Int.reduceGE, Int.reduceBEq, Int.reduceBNe, Int.reduceMul, *])
    rw [← hl, List.drop_eq_nil_of_le (by omega), idxI]
theorem t39 {xv : AV} {x : List Int} {M : MS} (vx : Vw M xv x) (v : Int) (hx : x.length ≤ 1000000) : ev pr 39 [xv, .flat (.int .i64 v)] M = some (.q (.flat (.bool (decide (v ∈ x))))) := by
  have h48 := t48 vx v hx
  have x2 := vx.cell
  clear vx
  refine ev_fn' A39 ?_
  repeat' (first | ((with_reducible first | apply S_0 | apply S_q1 | apply S_g | apply S_c); exact sgc) | (with_reducible first | apply SO_q | apply SG_t | apply SG_f0 | apply SG_f1 | apply S_nil | apply T_n | apply W_seq | apply W_region | apply SO_x | apply SC_t | apply SC_f | apply W_block | apply W_ret | apply W_skip | apply W_exit | apply T_r | apply T_e | apply B_n | apply B_e) | (with_reducible apply B_ne; focus decide) | (with_reducible first | apply B_r | apply R_e | apply R_r | apply H_e | apply H_r | apply G_e | apply G_r) | (with_reducible apply SC_n) | ((with_reducible first | apply SC_d | apply SG_d | apply SG_n | apply SC_b | apply SG_b) <;> intro hc <;> try simp only [decide_eq_true_eq, decide_eq_false_iff_not, Classical.not_not, Bool.not_eq_true', Bool.not_eq_false'] at hc))
  (refine ⟨by first | exact .inr rfl | exact .inl rfl, ?_⟩; simp (disch := first | assumption | decide | omega | exact List.getElem_mem _ | exact allI_ints _ | exact allI_rns _ | (simp only [List.length_take, List.length_drop, List.length_append, List.length_cons, List.length_nil, List.length_replicate, List.length_map, ints_len, rns_len]; omega)) only [resA, rvA, tupA, fin, frzV, frzTup, frzA, frz, isI, isI.all, Option.bind_some, go_sem, if_pos, if_neg, Nat.reduceBEq, Nat.reduceEqDiff, ↓reduceIte, Nat.reduceSub, Nat.reduceAdd, Int.reduceToNat, reduceCtorEq, Nat.reduceLeDiff, Nat.reduceLT, Nat.reduceMul, Nat.reduceDiv, Int.reduceLT, Int.reduceLE, Int.reduceEq, Int.reduceNe, Int.reduceAdd, Int.reduceSub, Int.reduceNeg, Int.reduceGT, Int.reduceGE, Int.reduceBEq, Int.reduceBNe, Int.reduceMul, *])
  have : (0 ≤ idxI x v 0) = (v ∈ x) := by rw [eq_iff_iff]; exact idxI_mem x v 0 (by omega)
  simp only [this]
theorem t22 {xv : AV} {x : List Int} {M : MS} (vx : Vw M xv x) (v : Int) (hx : x.length ≤ 1000000) : ev pr 22 [xv, .flat (.int .i64 v)] M = some (.q (.flat (.bool (decide (v ∈ x))))) := by
  have h39 := t39 vx v hx
  have x2 := vx.cell
  clear vx
  refine ev_fn' A22 ?_
  repeat' (first | ((with_reducible first | apply S_0 | apply S_q1 | apply S_g | apply S_c); exact sgc) | (with_reducible first | apply SO_q | apply SG_t | apply SG_f0 | apply SG_f1 | apply S_nil | apply T_n | apply W_seq | apply W_region | apply SO_x | apply SC_t | apply SC_f | apply W_block | apply W_ret | apply W_skip | apply W_exit | apply T_r | apply T_e | apply B_n | apply B_e) | (with_reducible apply B_ne; focus decide) | (with_reducible first | apply B_r | apply R_e | apply R_r | apply H_e | apply H_r | apply G_e | apply G_r) | (with_reducible apply SC_n) | ((with_reducible first | apply SC_d | apply SG_d | apply SG_n | apply SC_b | apply SG_b) <;> intro hc <;> try simp only [decide_eq_true_eq, decide_eq_false_iff_not, Classical.not_not, Bool.not_eq_true', Bool.not_eq_false'] at hc))
  (first | exact fincR | exact fincN)
theorem t24 {xv : AV} {x : List Int} {M : MS} (vx : Vw M xv x) (v : Int) (hx : x.length ≤ 1000000) : ev pr 24 [xv, .flat (.int .i64 v)] M = some (.q (.flat (.bool (decide (v ∈ x))))) := by
  have x0 := vx.v0; have x1 := vx.len
  clear vx
  refine ev_fn' A24 ?_
  repeat' (first | ((with_reducible first | apply S_0 | apply S_q1 | apply S_g | apply S_c); exact sgc) | (with_reducible first | apply SO_q | apply SG_t | apply SG_f0 | apply SG_f1 | apply S_nil | apply T_n | apply W_seq | apply W_region | apply SO_x | apply SC_t | apply SC_f | apply W_block | apply W_ret | apply W_skip | apply W_exit | apply T_r | apply T_e | apply B_n | apply B_e) | (with_reducible apply B_ne; focus decide) | (with_reducible first | apply B_r | apply R_e | apply R_r | apply H_e | apply H_r | apply G_e | apply G_r) | (with_reducible apply SC_n) | ((with_reducible first | apply SC_d | apply SG_d | apply SG_n | apply SC_b | apply SG_b) <;> intro hc <;> try simp only [decide_eq_true_eq, decide_eq_false_iff_not, Classical.not_not, Bool.not_eq_true', Bool.not_eq_false'] at hc))
  refine W_rng 5 0 x.length (fun i _ => ∀ j, j < i → ∀ h : j < x.length, ¬ x[j] = v) (by simp only [asg, asgO, List.append_nil, List.nil_append, List.cons_append]; rfl) (by exact svc) (by omega) (fun j hj => by omega) ?_
  rintro i e _ hi hk e5 hl
  repeat' (first | ((with_reducible first | apply S_0 | apply S_q1 | apply S_g | apply S_c); exact sgc) | (with_reducible first | apply SO_q | apply SG_t | apply SG_f0 | apply SG_f1 | apply S_nil | apply T_n | apply W_seq | apply W_region | apply SO_x | apply SC_t | apply SC_f | apply W_block | apply W_ret | apply W_skip | apply W_exit | apply T_r | apply T_e | apply B_n | apply B_e) | (with_reducible apply B_ne; focus decide) | (with_reducible first | apply B_r | apply R_e | apply R_r | apply H_e | apply H_r | apply G_e | apply G_r) | (with_reducible apply SC_n) | ((with_reducible first | apply SC_d | apply SG_d | apply SG_n | apply SC_b | apply SG_b) <;> intro hc <;> try simp only [decide_eq_true_eq, decide_eq_false_iff_not, Classical.not_not, Bool.not_eq_true', Bool.not_eq_false'] at hc))
  · have h1 : i < x.length := by omega
    (refine ⟨by first | exact .inr rfl | exact .inl rfl, ?_⟩; simp (disch := first | assumption | decide | omega | exact List.getElem_mem _ | exact allI_ints _ | exact allI_rns _ | (simp only [List.length_take, List.length_drop, List.length_append, List.length_cons, List.length_nil, List.length_replicate, List.length_map, ints_len, rns_len]; omega)) only [resA, rvA, tupA, fin, frzV, frzTup, frzA, frz, isI, isI.all, Option.bind_some, go_sem, if_pos, if_neg, Nat.reduceBEq, Nat.reduceEqDiff, ↓reduceIte, Nat.reduceSub, Nat.reduceAdd, Int.reduceToNat, reduceCtorEq, Nat.reduceLeDiff, Nat.reduceLT, Nat.reduceMul, Nat.reduceDiv, Int.reduceLT, Int.reduceLE, Int.reduceEq, Int.reduceNe, Int.reduceAdd, Int.reduceSub, Int.reduceNeg, Int.reduceGT, Int.reduceGE, Int.reduceBEq, Int.reduceBNe, Int.reduceMul, *])
    have : v ∈ x := by rw [← hc]; exact List.getElem_mem h1
    simp only [this, decide_true]
  · exact H_n (by exact svc) (by omega) (ext1 hl fun _ => hc)
  · (refine ⟨by first | exact .inr rfl | exact .inl rfl, ?_⟩; simp (disch := first | assumption | decide | omega | exact List.getElem_mem _ | exact allI_ints _ | exact allI_rns _ | (simp only [List.length_take, List.length_drop, List.length_append, List.length_cons, List.length_nil, List.length_replicate, List.length_map, ints_len, rns_len]; omega)) only [resA, rvA, tupA, fin, frzV, frzTup, frzA, frz, isI, isI.all, Option.bind_some, go_sem, if_pos, if_neg, Nat.reduceBEq, Nat.reduceEqDiff, ↓reduceIte, Nat.reduceSub, Nat.reduceAdd, Int.reduceToNat, reduceCtorEq, Nat.reduceLeDiff, Nat.reduceLT, Nat.reduceMul, Nat.reduceDiv, Int.reduceLT, Int.reduceLE, Int.reduceEq, Int.reduceNe, Int.reduceAdd, Int.reduceSub, Int.reduceNeg, Int.reduceGT, Int.reduceGE, Int.reduceBEq, Int.reduceBNe, Int.reduceMul, *])
    have : ¬ v ∈ x := fun h => all_of (Q := fun a : Int => ¬ a = v) (by omega) hl v h rfl
    simp only [this, decide_false]
/-- Does x end in y? -/
def endsIn (x y : List Int) : Prop := y.length ≤ x.length ∧ x.drop (x.length - y.length) = y
instance (x y : List Int) : Decidable (endsIn x y) := inferInstanceAs (Decidable (_ ∧ _))
theorem t20 {nx cx : Bool} {yv : AV} {x y : List Int} {M : MS} (vy : Vw M yv y) (hx : x.length ≤ 1000000) (hy : y.length ≤ 1000000) (hn : nx = true → x = []) : ev pr 20 [.list 1 (intsA x) nx cx, yv] M = some (.q (.flat (.bool (decide (endsIn x y))))) := by
  have h38 := fun nl cd (x : List Int) hx => t38 (Vw.list M x nl cd) vy (x := x) (y := y) hx hy
  have y0 := vy.v0; have y1 := vy.len; have y2 := vy.cell
  clear vy
  refine ev_fn' A20 ?_
  repeat' (first | ((with_reducible first | apply S_0 | apply S_q1 | apply S_g | apply S_c); exact sgc) | (with_reducible first | apply SO_q | apply SG_t | apply SG_f0 | apply SG_f1 | apply S_nil | apply T_n | apply W_seq | apply W_region | apply SO_x | apply SC_t | apply SC_f | apply W_block | apply W_ret | apply W_skip | apply W_exit | apply T_r | apply T_e | apply B_n | apply B_e) | (with_reducible apply B_ne; focus decide) | (with_reducible first | apply B_r | apply R_e | apply R_r | apply H_e | apply H_r | apply G_e | apply G_r) | (with_reducible apply SC_n) | ((with_reducible first | apply SC_d | apply SG_d | apply SG_n | apply SC_b | apply SG_b) <;> intro hc <;> try simp only [decide_eq_true_eq, decide_eq_false_iff_not, Classical.not_not, Bool.not_eq_true', Bool.not_eq_false'] at hc))
  · (refine ⟨by first | exact .inr rfl | exact .inl rfl, ?_⟩; simp (disch := first | assumption | decide | omega | exact List.getElem_mem _ | exact allI_ints _ | exact allI_rns _ | (simp only [List.length_take, List.length_drop, List.length_append, List.length_cons, List.length_nil, List.length_replicate, List.length_map, ints_len, rns_len]; omega)) only [resA, rvA, tupA, fin, frzV, frzTup, frzA, frz, isI, isI.all, Option.bind_some, go_sem, if_pos, if_neg, Nat.reduceBEq, Nat.reduceEqDiff, ↓reduceIte, Nat.reduceSub, Nat.reduceAdd, Int.reduceToNat, reduceCtorEq, Nat.reduceLeDiff, Nat.reduceLT, Nat.reduceMul, Nat.reduceDiv, Int.reduceLT, Int.reduceLE, Int.reduceEq, Int.reduceNe, Int.reduceAdd, Int.reduceSub, Int.reduceNeg, Int.reduceGT, Int.reduceGE, Int.reduceBEq, Int.reduceBNe, Int.reduceMul, *])
    have h1 : y.length ≤ x.length := by omega
    simp only [endsIn, h1, true_and]
  · (refine ⟨by first | exact .inr rfl | exact .inl rfl, ?_⟩; simp (disch := first | assumption | decide | omega | exact List.getElem_mem _ | exact allI_ints _ | exact allI_rns _ | (simp only [List.length_take, List.length_drop, List.length_append, List.length_cons, List.length_nil, List.length_replicate, List.length_map, ints_len, rns_len]; omega)) only [resA, rvA, tupA, fin, frzV, frzTup, frzA, frz, isI, isI.all, Option.bind_some, go_sem, if_pos, if_neg, Nat.reduceBEq, Nat.reduceEqDiff, ↓reduceIte, Nat.reduceSub, Nat.reduceAdd, Int.reduceToNat, reduceCtorEq, Nat.reduceLeDiff, Nat.reduceLT, Nat.reduceMul, Nat.reduceDiv, Int.reduceLT, Int.reduceLE, Int.reduceEq, Int.reduceNe, Int.reduceAdd, Int.reduceSub, Int.reduceNeg, Int.reduceGT, Int.reduceGE, Int.reduceBEq, Int.reduceBNe, Int.reduceMul, *])
    have h1 : ¬ y.length ≤ x.length := by omega
    simp only [endsIn, h1, false_and, decide_false]
end Go.Proofs.Ytfpaegklkdfmmaa.Av
namespace Go.Proofs.Ytfpaegklkdfmmaa.Av
open Go.RowKit
set_option linter.unusedSimpArgs false
set_option linter.unusedVariables false
set_option maxHeartbeats 10000000
/-- The first place where something is so; -1: there is none. -/
noncomputable def fst {α : Type} (P : α → Prop) (x : List α) : Int := open Classical in if ∃ a ∈ x, P a then (x.findIdx (fun a => decide (P a)) : Int) else -1
theorem fst_at {α : Type} {P : α → Prop} {x : List α} {i : Nat} (h : i < x.length) (h1 : P x[i]) (h2 : ∀ j, j < i → ∀ h : j < x.length, ¬ P x[j]) : fst P x = i := by
  classical
  unfold fst
  rw [if_pos ⟨_, List.getElem_mem h, h1⟩]
  have : x.findIdx (fun a => decide (P a)) = i := by
    rw [List.findIdx_eq h]
    exact ⟨by simpa using h1, fun j hj => by simpa using h2 j hj (by omega)⟩
  simp only [this]
theorem fst_no {α : Type} {P : α → Prop} {x : List α} (h : ∀ a ∈ x, ¬ P a) : fst P x = -1 := if_neg fun ⟨a, h1, h2⟩ => h a h1 h2
theorem fst_ge {α : Type} {P : α → Prop} {x : List α} : 0 ≤ fst P x ↔ ∃ a ∈ x, P a := by
  unfold fst; split
  · rename_i h; simp [h]
  · rename_i h; simp [h]
theorem fst_lt {α : Type} {P : α → Prop} {x : List α} : fst P x < 0 ↔ ∀ a ∈ x, ¬ P a := by
  have := @fst_ge α P x
  constructor
  · intro h a ha hp
    have := this.2 ⟨a, ha, hp⟩; omega
  · intro h
    rcases Int.lt_or_le (fst P x) 0 with h1 | h1
    · exact h1
    · obtain ⟨a, ha, hp⟩ := this.1 h1; exact absurd hp (h a ha)
theorem fst_spec {α : Type} {P : α → Prop} {x : List α} (h : 0 ≤ fst P x) : ∃ (i : Nat) (hi : i < x.length), fst P x = i ∧ P x[i] ∧ ∀ j, j < i → ∀ h : j < x.length, ¬ P x[j] := by
  classical
  have hm := fst_ge.1 h
  have h1 : x.findIdx (fun a => decide (P a)) < x.length := by
    rw [List.findIdx_lt_length]
    obtain ⟨a, ha, hp⟩ := hm
    exact ⟨a, ha, by simpa using hp⟩
  refine ⟨_, h1, by unfold fst; rw [if_pos hm], by simpa using List.findIdx_getElem (w := h1), fun j hj hl => ?_⟩
  have := List.not_of_lt_findIdx hj
  simpa using this
theorem t37 (a : Int) (M : MS) : ev pr 37 [.flat (.int .i64 a)] M = some (.q (.flat (.bool (decide (¬ (1 ≤ a ∧ a ≤ 65535)))))) := by
  refine ev_fn' A37 ?_
  repeat' (first | ((with_reducible first | apply S_0 | apply S_q1 | apply S_g | apply S_c); exact sgc) | (with_reducible first | apply SO_q | apply SG_t | apply SG_f0 | apply SG_f1 | apply S_nil | apply T_n | apply W_seq | apply W_region | apply SO_x | apply SC_t | apply SC_f | apply W_block | apply W_ret | apply W_skip | apply W_exit | apply T_r | apply T_e | apply B_n | apply B_e) | (with_reducible apply B_ne; focus decide) | (with_reducible first | apply B_r | apply R_e | apply R_r | apply H_e | apply H_r | apply G_e | apply G_r) | (with_reducible apply SC_n) | ((with_reducible first | apply SC_d | apply SG_d | apply SG_n | apply SC_b | apply SG_b) <;> intro hc <;> try simp only [decide_eq_true_eq, decide_eq_false_iff_not, Classical.not_not, Bool.not_eq_true', Bool.not_eq_false'] at hc))
  (refine ⟨by first | exact .inr rfl | exact .inl rfl, ?_⟩; simp (disch := first | assumption | decide | omega | exact List.getElem_mem _ | exact allI_ints _ | exact allI_rns _ | (simp only [List.length_take, List.length_drop, List.length_append, List.length_cons, List.length_nil, List.length_replicate, List.length_map, ints_len, rns_len]; omega)) only [resA, rvA, tupA, fin, frzV, frzTup, frzA, frz, isI, isI.all, Option.bind_some, go_sem, if_pos, if_neg, Nat.reduceBEq, Nat.reduceEqDiff, ↓reduceIte, Nat.reduceSub, Nat.reduceAdd, Int.reduceToNat, reduceCtorEq, Nat.reduceLeDiff, Nat.reduceLT, Nat.reduceMul, Nat.reduceDiv, Int.reduceLT, Int.reduceLE, Int.reduceEq, Int.reduceNe, Int.reduceAdd, Int.reduceSub, Int.reduceNeg, Int.reduceGT, Int.reduceGE, Int.reduceBEq, Int.reduceBNe, Int.reduceMul, *])
  by_cases h : 1 ≤ a ∧ a ≤ 65535 <;> simp [h]
theorem t47 {P : Int → Prop} [DecidablePred P] {xv : AV} {x : List Int} {fn : Nat} {caps : List AV} {M : MS} (vx : Vw M xv x) (hx : x.length ≤ 1000000)
    (h : ∀ a, ev pr fn (.flat (.int .i64 a) :: caps) M = some (.q (.flat (.bool (decide (P a)))))) : ev pr 47 [xv, .clo fn caps] M = some (.q (.flat (.int .i64 (fst P x)))) := by
  have x0 := vx.v0; have x1 := vx.len
  clear vx
  refine ev_fn' A47 ?_
  repeat' (first | ((with_reducible first | apply S_0 | apply S_q1 | apply S_g | apply S_c); exact sgc) | (with_reducible first | apply SO_q | apply SG_t | apply SG_f0 | apply SG_f1 | apply S_nil | apply T_n | apply W_seq | apply W_region | apply SO_x | apply SC_t | apply SC_f | apply W_block | apply W_ret | apply W_skip | apply W_exit | apply T_r | apply T_e | apply B_n | apply B_e) | (with_reducible apply B_ne; focus decide) | (with_reducible first | apply B_r | apply R_e | apply R_r | apply H_e | apply H_r | apply G_e | apply G_r) | (with_reducible apply SC_n) | ((with_reducible first | apply SC_d | apply SG_d | apply SG_n | apply SC_b | apply SG_b) <;> intro hc <;> try simp only [decide_eq_true_eq, decide_eq_false_iff_not, Classical.not_not, Bool.not_eq_true', Bool.not_eq_false'] at hc))
  refine W_rng 8 0 x.length (fun i _ => ∀ j, j < i → ∀ h : j < x.length, ¬ P x[j]) (by simp only [asg, asgO, List.append_nil, List.nil_append, List.cons_append]; rfl) (by exact svc) (by omega) (fun j hj => by omega) ?_
  rintro i e _ hi hk e8 hl
  repeat' (first | ((with_reducible first | apply S_0 | apply S_q1 | apply S_g | apply S_c); exact sgc) | (with_reducible first | apply SO_q | apply SG_t | apply SG_f0 | apply SG_f1 | apply S_nil | apply T_n | apply W_seq | apply W_region | apply SO_x | apply SC_t | apply SC_f | apply W_block | apply W_ret | apply W_skip | apply W_exit | apply T_r | apply T_e | apply B_n | apply B_e) | (with_reducible apply B_ne; focus decide) | (with_reducible first | apply B_r | apply R_e | apply R_r | apply H_e | apply H_r | apply G_e | apply G_r) | (with_reducible apply SC_n) | ((with_reducible first | apply SC_d | apply SG_d | apply SG_n | apply SC_b | apply SG_b) <;> intro hc <;> try simp only [decide_eq_true_eq, decide_eq_false_iff_not, Classical.not_not, Bool.not_eq_true', Bool.not_eq_false'] at hc))
  · (refine ⟨by first | exact .inr rfl | exact .inl rfl, ?_⟩; simp (disch := first | assumption | decide | omega | exact List.getElem_mem _ | exact allI_ints _ | exact allI_rns _ | (simp only [List.length_take, List.length_drop, List.length_append, List.length_cons, List.length_nil, List.length_replicate, List.length_map, ints_len, rns_len]; omega)) only [resA, rvA, tupA, fin, frzV, frzTup, frzA, frz, isI, isI.all, Option.bind_some, go_sem, if_pos, if_neg, Nat.reduceBEq, Nat.reduceEqDiff, ↓reduceIte, Nat.reduceSub, Nat.reduceAdd, Int.reduceToNat, reduceCtorEq, Nat.reduceLeDiff, Nat.reduceLT, Nat.reduceMul, Nat.reduceDiv, Int.reduceLT, Int.reduceLE, Int.reduceEq, Int.reduceNe, Int.reduceAdd, Int.reduceSub, Int.reduceNeg, Int.reduceGT, Int.reduceGE, Int.reduceBEq, Int.reduceBNe, Int.reduceMul, *])
    rw [fst_at (i := i) (by omega) hc hl]
  · exact H_n (by exact svc) (by omega) (ext1 hl fun _ => hc)
  · (refine ⟨by first | exact .inr rfl | exact .inl rfl, ?_⟩; simp (disch := first | assumption | decide | omega | exact List.getElem_mem _ | exact allI_ints _ | exact allI_rns _ | (simp only [List.length_take, List.length_drop, List.length_append, List.length_cons, List.length_nil, List.length_replicate, List.length_map, ints_len, rns_len]; omega)) only [resA, rvA, tupA, fin, frzV, frzTup, frzA, frz, isI, isI.all, Option.bind_some, go_sem, if_pos, if_neg, Nat.reduceBEq, Nat.reduceEqDiff, ↓reduceIte, Nat.reduceSub, Nat.reduceAdd, Int.reduceToNat, reduceCtorEq, Nat.reduceLeDiff, Nat.reduceLT, Nat.reduceMul, Nat.reduceDiv, Int.reduceLT, Int.reduceLE, Int.reduceEq, Int.reduceNe, Int.reduceAdd, Int.reduceSub, Int.reduceNeg, Int.reduceGT, Int.reduceGE, Int.reduceBEq, Int.reduceBNe, Int.reduceMul, *])
    rw [fst_no (all_of (Q := fun a => ¬ P a) (by omega) hl)]
theorem t36 {P : Int → Prop} [DecidablePred P] {xv : AV} {x : List Int} {fn : Nat} {caps : List AV} {M : MS} (vx : Vw M xv x) (hx : x.length ≤ 1000000)
    (h : ∀ a, ev pr fn (.flat (.int .i64 a) :: caps) M = some (.q (.flat (.bool (decide (P a)))))) : ev pr 36 [xv, .clo fn caps] M = some (.q (.flat (.bool (decide (0 ≤ fst P x))))) := by
  have h1 := @t47 P _ xv x fn caps M vx hx h
  have x2 := vx.cell
  clear vx
  refine ev_fn' A36 ?_
  repeat' (first | ((with_reducible first | apply S_0 | apply S_q1 | apply S_g | apply S_c); exact sgc) | (with_reducible first | apply SO_q | apply SG_t | apply SG_f0 | apply SG_f1 | apply S_nil | apply T_n | apply W_seq | apply W_region | apply SO_x | apply SC_t | apply SC_f | apply W_block | apply W_ret | apply W_skip | apply W_exit | apply T_r | apply T_e | apply B_n | apply B_e) | (with_reducible apply B_ne; focus decide) | (with_reducible first | apply B_r | apply R_e | apply R_r | apply H_e | apply H_r | apply G_e | apply G_r) | (with_reducible apply SC_n) | ((with_reducible first | apply SC_d | apply SG_d | apply SG_n | apply SC_b | apply SG_b) <;> intro hc <;> try simp only [decide_eq_true_eq, decide_eq_false_iff_not, Classical.not_not, Bool.not_eq_true', Bool.not_eq_false'] at hc))
  (first | exact fincR | exact fincN)
/-- 4.1: a path may be: at most 16 numbers, each between 1 and 65535. -/
def mayP (x : List Int) : Prop := x.length ≤ 16 ∧ ∀ a ∈ x, 1 ≤ a ∧ a ≤ 65535
instance (x : List Int) : Decidable (mayP x) := inferInstanceAs (Decidable (_ ∧ _))
theorem t19 {xv : AV} {x : List Int} {M : MS} (vx : Vw M xv x) (hx : x.length ≤ 1000000) : ev pr 19 [xv] M = some (.q (.flat (.bool (decide (mayP x))))) := by
  have h36 := t36 (P := fun a => ¬ (1 ≤ a ∧ a ≤ 65535)) (fn := 37) (caps := []) vx hx (fun a => t37 a M)
  have x1 := vx.len; have x2 := vx.cell
  clear vx
  refine ev_fn' A19 ?_
  repeat' (first | ((with_reducible first | apply S_0 | apply S_q1 | apply S_g | apply S_c); exact sgc) | (with_reducible first | apply SO_q | apply SG_t | apply SG_f0 | apply SG_f1 | apply S_nil | apply T_n | apply W_seq | apply W_region | apply SO_x | apply SC_t | apply SC_f | apply W_block | apply W_ret | apply W_skip | apply W_exit | apply T_r | apply T_e | apply B_n | apply B_e) | (with_reducible apply B_ne; focus decide) | (with_reducible first | apply B_r | apply R_e | apply R_r | apply H_e | apply H_r | apply G_e | apply G_r) | (with_reducible apply SC_n) | ((with_reducible first | apply SC_d | apply SG_d | apply SG_n | apply SC_b | apply SG_b) <;> intro hc <;> try simp only [decide_eq_true_eq, decide_eq_false_iff_not, Classical.not_not, Bool.not_eq_true', Bool.not_eq_false'] at hc))
  · (refine ⟨by first | exact .inr rfl | exact .inl rfl, ?_⟩; simp (disch := first | assumption | decide | omega | exact List.getElem_mem _ | exact allI_ints _ | exact allI_rns _ | (simp only [List.length_take, List.length_drop, List.length_append, List.length_cons, List.length_nil, List.length_replicate, List.length_map, ints_len, rns_len]; omega)) only [resA, rvA, tupA, fin, frzV, frzTup, frzA, frz, isI, isI.all, Option.bind_some, go_sem, if_pos, if_neg, Nat.reduceBEq, Nat.reduceEqDiff, ↓reduceIte, Nat.reduceSub, Nat.reduceAdd, Int.reduceToNat, reduceCtorEq, Nat.reduceLeDiff, Nat.reduceLT, Nat.reduceMul, Nat.reduceDiv, Int.reduceLT, Int.reduceLE, Int.reduceEq, Int.reduceNe, Int.reduceAdd, Int.reduceSub, Int.reduceNeg, Int.reduceGT, Int.reduceGE, Int.reduceBEq, Int.reduceBNe, Int.reduceMul, *])
    have h1 : x.length ≤ 16 := by omega
    have h2 : (0 ≤ fst (fun a => ¬ (1 ≤ a ∧ a ≤ 65535)) x) ↔ ∃ a ∈ x, ¬ (1 ≤ a ∧ a ≤ 65535) := fst_ge
    have h3 : mayP x ↔ ¬ 0 ≤ fst (fun a => ¬ (1 ≤ a ∧ a ≤ 65535)) x := by
      rw [h2]
      constructor
      · rintro ⟨_, h⟩ ⟨a, ha, hh⟩; exact hh (h a ha)
      · intro h; exact ⟨h1, fun a ha => Classical.byContradiction fun hh => h ⟨a, ha, hh⟩⟩
    simp only [h3, decide_not]
  · (refine ⟨by first | exact .inr rfl | exact .inl rfl, ?_⟩; simp (disch := first | assumption | decide | omega | exact List.getElem_mem _ | exact allI_ints _ | exact allI_rns _ | (simp only [List.length_take, List.length_drop, List.length_append, List.length_cons, List.length_nil, List.length_replicate, List.length_map, ints_len, rns_len]; omega)) only [resA, rvA, tupA, fin, frzV, frzTup, frzA, frz, isI, isI.all, Option.bind_some, go_sem, if_pos, if_neg, Nat.reduceBEq, Nat.reduceEqDiff, ↓reduceIte, Nat.reduceSub, Nat.reduceAdd, Int.reduceToNat, reduceCtorEq, Nat.reduceLeDiff, Nat.reduceLT, Nat.reduceMul, Nat.reduceDiv, Int.reduceLT, Int.reduceLE, Int.reduceEq, Int.reduceNe, Int.reduceAdd, Int.reduceSub, Int.reduceNeg, Int.reduceGT, Int.reduceGE, Int.reduceBEq, Int.reduceBNe, Int.reduceMul, *])
    have : ¬ mayP x := fun h => by have := h.1; omega
    simp only [this, decide_false]
theorem t32 {nx cx : Bool} {x : List Int} {M : MS} (hx : x.length ≤ 9223372036854775807) : ev pr 32 [.list 1 (intsA x) nx cx] M = some (.q (.flat (.bool (decide (mayP x))))) := by
  refine ev_fn' A32 ?_
  repeat' (first | ((with_reducible first | apply S_0 | apply S_q1 | apply S_g | apply S_c); exact sgc) | (with_reducible first | apply SO_q | apply SG_t | apply SG_f0 | apply SG_f1 | apply S_nil | apply T_n | apply W_seq | apply W_region | apply SO_x | apply SC_t | apply SC_f | apply W_block | apply W_ret | apply W_skip | apply W_exit | apply T_r | apply T_e | apply B_n | apply B_e) | (with_reducible apply B_ne; focus decide) | (with_reducible first | apply B_r | apply R_e | apply R_r | apply H_e | apply H_r | apply G_e | apply G_r) | (with_reducible apply SC_n) | ((with_reducible first | apply SC_d | apply SG_d | apply SG_n | apply SC_b | apply SG_b) <;> intro hc <;> try simp only [decide_eq_true_eq, decide_eq_false_iff_not, Classical.not_not, Bool.not_eq_true', Bool.not_eq_false'] at hc))
  refine W_rng 3 0 x.length (fun i _ => i ≤ 16 ∧ ∀ j, j < i → ∀ h : j < x.length, 1 ≤ x[j] ∧ x[j] ≤ 65535) (by simp only [asg, asgO, List.append_nil, List.nil_append, List.cons_append]; rfl) (by exact svc) (by omega) ⟨by omega, fun j hj => by omega⟩ ?_
  rintro i e _ hi hk e3 ⟨h16, hl⟩
  repeat' (first | ((with_reducible first | apply S_0 | apply S_q1 | apply S_g | apply S_c); exact sgc) | (with_reducible first | apply SO_q | apply SG_t | apply SG_f0 | apply SG_f1 | apply S_nil | apply T_n | apply W_seq | apply W_region | apply SO_x | apply SC_t | apply SC_f | apply W_block | apply W_ret | apply W_skip | apply W_exit | apply T_r | apply T_e | apply B_n | apply B_e) | (with_reducible apply B_ne; focus decide) | (with_reducible first | apply B_r | apply R_e | apply R_r | apply H_e | apply H_r | apply G_e | apply G_r) | (with_reducible apply SC_n) | ((with_reducible first | apply SC_d | apply SG_d | apply SG_n | apply SC_b | apply SG_b) <;> intro hc <;> try simp only [decide_eq_true_eq, decide_eq_false_iff_not, Classical.not_not, Bool.not_eq_true', Bool.not_eq_false'] at hc))
  · (refine ⟨by first | exact .inr rfl | exact .inl rfl, ?_⟩; simp (disch := first | assumption | decide | omega | exact List.getElem_mem _ | exact allI_ints _ | exact allI_rns _ | (simp only [List.length_take, List.length_drop, List.length_append, List.length_cons, List.length_nil, List.length_replicate, List.length_map, ints_len, rns_len]; omega)) only [resA, rvA, tupA, fin, frzV, frzTup, frzA, frz, isI, isI.all, Option.bind_some, go_sem, if_pos, if_neg, Nat.reduceBEq, Nat.reduceEqDiff, ↓reduceIte, Nat.reduceSub, Nat.reduceAdd, Int.reduceToNat, reduceCtorEq, Nat.reduceLeDiff, Nat.reduceLT, Nat.reduceMul, Nat.reduceDiv, Int.reduceLT, Int.reduceLE, Int.reduceEq, Int.reduceNe, Int.reduceAdd, Int.reduceSub, Int.reduceNeg, Int.reduceGT, Int.reduceGE, Int.reduceBEq, Int.reduceBNe, Int.reduceMul, *])
    have : ¬ mayP x := fun h => by have := h.1; omega
    simp only [this, decide_false]
  · exact H_n (by exact svc) (by omega) ⟨by omega, ext1 hl fun _ => hc⟩
  · (refine ⟨by first | exact .inr rfl | exact .inl rfl, ?_⟩; simp (disch := first | assumption | decide | omega | exact List.getElem_mem _ | exact allI_ints _ | exact allI_rns _ | (simp only [List.length_take, List.length_drop, List.length_append, List.length_cons, List.length_nil, List.length_replicate, List.length_map, ints_len, rns_len]; omega)) only [resA, rvA, tupA, fin, frzV, frzTup, frzA, frz, isI, isI.all, Option.bind_some, go_sem, if_pos, if_neg, Nat.reduceBEq, Nat.reduceEqDiff, ↓reduceIte, Nat.reduceSub, Nat.reduceAdd, Int.reduceToNat, reduceCtorEq, Nat.reduceLeDiff, Nat.reduceLT, Nat.reduceMul, Nat.reduceDiv, Int.reduceLT, Int.reduceLE, Int.reduceEq, Int.reduceNe, Int.reduceAdd, Int.reduceSub, Int.reduceNeg, Int.reduceGT, Int.reduceGE, Int.reduceBEq, Int.reduceBNe, Int.reduceMul, *])
    have : ¬ mayP x := fun h => hc (h.2 _ (List.getElem_mem (by omega)))
    simp only [this, decide_false]
  · (refine ⟨by first | exact .inr rfl | exact .inl rfl, ?_⟩; simp (disch := first | assumption | decide | omega | exact List.getElem_mem _ | exact allI_ints _ | exact allI_rns _ | (simp only [List.length_take, List.length_drop, List.length_append, List.length_cons, List.length_nil, List.length_replicate, List.length_map, ints_len, rns_len]; omega)) only [resA, rvA, tupA, fin, frzV, frzTup, frzA, frz, isI, isI.all, Option.bind_some, go_sem, if_pos, if_neg, Nat.reduceBEq, Nat.reduceEqDiff, ↓reduceIte, Nat.reduceSub, Nat.reduceAdd, Int.reduceToNat, reduceCtorEq, Nat.reduceLeDiff, Nat.reduceLT, Nat.reduceMul, Nat.reduceDiv, Int.reduceLT, Int.reduceLE, Int.reduceEq, Int.reduceNe, Int.reduceAdd, Int.reduceSub, Int.reduceNeg, Int.reduceGT, Int.reduceGE, Int.reduceBEq, Int.reduceBNe, Int.reduceMul, *])
    have : mayP x := ⟨by omega, all_of (Q := fun a : Int => 1 ≤ a ∧ a ≤ 65535) (by omega) hl⟩
    simp only [this, decide_true]
/-- A copy. -/
theorem t35e (nl cd : Bool) (M : MS) : ev pr 35 [.list 1 [] nl cd] M = some (.x (.list 1 [] nl true) M []) := by
  refine ev_fn' A35 ?_
  cases nl with
  | true =>
    repeat' (first | ((with_reducible first | apply S_0 | apply S_q1 | apply S_g | apply S_c); exact sgc) | (with_reducible first | apply SO_q | apply SG_t | apply SG_f0 | apply SG_f1 | apply S_nil | apply T_n | apply W_seq | apply W_region | apply SO_x | apply SC_t | apply SC_f | apply W_block | apply W_ret | apply W_skip | apply W_exit | apply T_r | apply T_e | apply B_n | apply B_e) | (with_reducible apply B_ne; focus decide) | (with_reducible first | apply B_r | apply R_e | apply R_r | apply H_e | apply H_r | apply G_e | apply G_r) | (with_reducible apply SC_n) | ((with_reducible first | apply SC_d | apply SG_d | apply SG_n | apply SC_b | apply SG_b) <;> intro hc <;> try simp only [decide_eq_true_eq, decide_eq_false_iff_not, Classical.not_not, Bool.not_eq_true', Bool.not_eq_false'] at hc))
    (first | exact fincR | exact fincN)
  | false =>
    repeat' (first | ((with_reducible first | apply S_0 | apply S_q1 | apply S_g | apply S_c); exact sgc) | (with_reducible first | apply SO_q | apply SG_t | apply SG_f0 | apply SG_f1 | apply S_nil | apply T_n | apply W_seq | apply W_region | apply SO_x | apply SC_t | apply SC_f | apply W_block | apply W_ret | apply W_skip | apply W_exit | apply T_r | apply T_e | apply B_n | apply B_e) | (with_reducible apply B_ne; focus decide) | (with_reducible first | apply B_r | apply R_e | apply R_r | apply H_e | apply H_r | apply G_e | apply G_r) | (with_reducible apply SC_n) | ((with_reducible first | apply SC_d | apply SG_d | apply SG_n | apply SC_b | apply SG_b) <;> intro hc <;> try simp only [decide_eq_true_eq, decide_eq_false_iff_not, Classical.not_not, Bool.not_eq_true', Bool.not_eq_false'] at hc))
    (first | exact fincR | exact fincN)
theorem t35 (l : List Int) (nl cd : Bool) (M : MS) (hne : 0 < l.length) (hl : l.length ≤ 1000000) (hn : nl = true → l = []) : ev pr 35 [.list 1 (intsA l) nl cd] M = some (.x (.ms M.length 0 l.length 1 false) (M ++ [some (intsA l)]) []) := by
  cases nl with
  | true => have := hn rfl; subst this; simp at hne
  | false =>
    have hm : ¬ l.length = 0 := by omega
    refine ev_fn' A35 ?_
    clear hn
    repeat' (first | ((with_reducible first | apply S_0 | apply S_q1 | apply S_g | apply S_c); exact sgc) | (with_reducible first | apply SO_q | apply SG_t | apply SG_f0 | apply SG_f1 | apply S_nil | apply T_n | apply W_seq | apply W_region | apply SO_x | apply SC_t | apply SC_f | apply W_block | apply W_ret | apply W_skip | apply W_exit | apply T_r | apply T_e | apply B_n | apply B_e) | (with_reducible apply B_ne; focus decide) | (with_reducible first | apply B_r | apply R_e | apply R_r | apply H_e | apply H_r | apply G_e | apply G_r) | (with_reducible apply SC_n) | ((with_reducible first | apply SC_d | apply SG_d | apply SG_n | apply SC_b | apply SG_b) <;> intro hc <;> try simp only [decide_eq_true_eq, decide_eq_false_iff_not, Classical.not_not, Bool.not_eq_true', Bool.not_eq_false'] at hc))
    (first | exact fincR | exact fincN)
end Go.Proofs.Ytfpaegklkdfmmaa.Av
namespace Go.Proofs.Ytfpaegklkdfmmaa.Av
open Go.RowKit
set_option linter.unusedSimpArgs false
set_option linter.unusedVariables false
set_option maxHeartbeats 10000000
theorem asInts_ints : ∀ l : List Int, asInts .i64 (intsA l) = some l
  | [] => rfl
  | a :: l => by
    have := asInts_ints l
    simp only [intsA, List.map_cons] at this ⊢
    simp only [asInts, if_true, this, Option.map_some]
theorem t43 (l : List Int) (r0 : List AV) (id : Nat) (cd : Bool) (M : MS) (hM : M[id]? = some (some (intsA l ++ r0))) (hl : l.length ≤ 1000000) : ev pr 43 [.ms id 0 l.length 1 cd] M = some (.x (.flat undef) (M.set id (some (intsA (sorted l) ++ r0))) [id]) := by
  have h0 : (sorted l).length = l.length := sorted_len l
  have hs : sortA [.ms id 0 l.length 1 cd] M = some (.x (.flat undef) (M.set id (some (intsA (sorted l) ++ r0))) [id]) := by
    simp only [sortA, hM]
    rw [if_pos ⟨trivial, by rw [List.length_append, ints_len]; omega, by unfold LIM; omega⟩]
    have e1 : ((intsA l ++ r0).drop 0).take l.length = intsA l := by rw [List.drop_zero]; exact List.take_left' (ints_len l)
    simp only [e1, asInts_ints]
    simp only [splice, List.take_zero, List.nil_append, Nat.zero_add, ints_len, h0]
    rw [List.drop_left' (ints_len l)]
  rw [ev_ext (by rfl)]
  simp only [pr, orC, extS, if_true, hs]
/-- What is left of the first i numbers where each like the one ahead of it goes. -/
def dd (z : List Int) : Nat → List Int
  | 0 => []
  | i + 1 => dd z i ++ (if i = 0 ∨ z.getD i 0 ≠ z.getD (i - 1) 0 then [z.getD i 0] else [])
theorem dd_le (z : List Int) : ∀ i, (dd z i).length ≤ i
  | 0 => by simp [dd]
  | i + 1 => by have := dd_le z i; simp only [dd, List.length_append]; split <;> simp <;> omega
theorem dd_full {z : List Int} : ∀ {i}, i ≤ z.length → (∀ j, j < i → 1 ≤ j → z.getD j 0 ≠ z.getD (j - 1) 0) → dd z i = z.take i
  | 0, _, _ => by simp [dd]
  | i + 1, hi, h => by
    rw [dd, dd_full (by omega) fun j hj => h j (by omega), if_pos, List.take_succ_eq_append_getElem (by omega)]
    · simp [List.getD, List.getElem?_eq_getElem (show i < z.length by omega)]
    · by_cases h0 : i = 0
      · exact .inl h0
      · exact .inr (h i (by omega) (by omega))
theorem dd_lt {z : List Int} {k : Nat} : ∀ {i}, k < i → 1 ≤ k → z.getD k 0 = z.getD (k - 1) 0 → (dd z i).length < i
  | 0, h, _, _ => by omega
  | i + 1, h, h1, he => by
    simp only [dd, List.length_append]
    by_cases hk : k = i
    · subst hk
      have := dd_le z k
      rw [if_neg fun h => h.elim (fun hh => by omega) fun hh => hh he]; simp; omega
    · have := dd_lt (i := i) (by omega) h1 he
      split <;> simp <;> omega
theorem dd_pos {z : List Int} : ∀ {i}, 0 < i → 1 ≤ (dd z i).length
  | 1, _ => by simp [dd]
  | i + 2, _ => by
    have := dd_pos (z := z) (i := i + 1) (by omega)
    rw [dd, List.length_append]; omega
theorem get_of {z : List Int} {j : Nat} (h : j < z.length) : z.getD j 0 = z[j] := by simp [List.getD, List.getElem?_eq_getElem h]
theorem put_ok {c : List AV} {dl : List Int} {v : Int} {n : Nat} (hc : c.length = n) (hd : dl.length < n) : (intsA dl ++ AV.flat (.int .i64 v) :: c.drop (dl.length + 1)).length = n ∧
    (intsA dl ++ AV.flat (.int .i64 v) :: c.drop (dl.length + 1)).take (dl.length + 1) = intsA (dl ++ [v]) ∧ ∀ j, dl.length < j → (intsA dl ++ AV.flat (.int .i64 v) :: c.drop (dl.length + 1))[j]? = c[j]? := by
  refine ⟨by simp only [List.length_append, ints_len, List.length_cons, List.length_drop]; omega, ?_, fun j hj => ?_⟩
  · have : intsA dl ++ AV.flat (.int .i64 v) :: c.drop (dl.length + 1) = intsA (dl ++ [v]) ++ c.drop (dl.length + 1) := by simp [intsA]
    rw [this, List.take_left' (by simp [intsA])]
  · rw [List.getElem?_append_right (by rw [ints_len]; omega), ints_len]
    obtain ⟨q, rfl⟩ : ∃ q, j = dl.length + 1 + q := ⟨j - dl.length - 1, by omega⟩
    rw [show dl.length + 1 + q - dl.length = q + 1 by omega, List.getElem?_cons_succ, List.getElem?_drop]
theorem take_ints_app (z : List Int) (r0 : List AV) : (intsA z ++ r0).take z.length = intsA z := List.take_left' (ints_len z)
attribute [go_sem] take_ints_app
theorem t34 (z : List Int) (r0 : List AV) (id : Nat) (cd : Bool) (M : MS) (hid : id < M.length) (hM : M[id]? = some (some (intsA z ++ r0))) (hz : z.length ≤ 1000000) : ∃ out, ev pr 34 [.ms id 0 z.length 1 cd] M = some out ∧
    ∃ (D : List Nat) (rest : List AV) (cd' : Bool), (∀ x ∈ D, x = id) ∧ out = .x (.ms id 0 (dd z z.length).length 1 cd') (M.set id (some (intsA (dd z z.length) ++ rest))) D := by
  have hcat : (intsA z ++ r0).length = z.length + r0.length := by rw [List.length_append, ints_len]
  have hself : M.set id (some (intsA z ++ r0)) = M := by
    apply List.ext_getElem?
    intro i
    by_cases hi : id = i
    · subst hi; rw [List.getElem?_set_self hid, hM]
    · rw [List.getElem?_set_ne hi]
  refine ev_fnE A34 ?_
  repeat' (first | ((with_reducible first | apply S_0 | apply S_q1 | apply S_g | apply S_c); exact sgc) | (with_reducible first | apply SO_q | apply SG_t | apply SG_f0 | apply SG_f1 | apply S_nil | apply T_n | apply W_seq | apply W_region | apply SO_x | apply SC_t | apply SC_f | apply W_block | apply W_ret | apply W_skip | apply W_exit | apply T_r | apply T_e | apply B_n | apply B_e) | (with_reducible apply B_ne; focus decide) | (with_reducible first | apply B_r | apply R_e | apply R_r | apply H_e | apply H_r | apply G_e | apply G_r) | (with_reducible apply SC_n) | ((with_reducible first | apply SC_d | apply SG_d | apply SG_n | apply SC_b | apply SG_b) <;> intro hc <;> try simp only [decide_eq_true_eq, decide_eq_false_iff_not, Classical.not_not, Bool.not_eq_true', Bool.not_eq_false'] at hc))
  · (refine ⟨by first | exact .inr rfl | exact .inl rfl, ?_⟩; simp (disch := first | assumption | decide | omega | exact List.getElem_mem _ | exact allI_ints _ | exact allI_rns _ | (simp only [List.length_take, List.length_drop, List.length_append, List.length_cons, List.length_nil, List.length_replicate, List.length_map, ints_len, rns_len]; omega)) only [resA, rvA, tupA, fin, frzV, frzTup, frzA, frz, isI, isI.all, Option.bind_some, go_sem, if_pos, if_neg, Nat.reduceBEq, Nat.reduceEqDiff, ↓reduceIte, Nat.reduceSub, Nat.reduceAdd, Int.reduceToNat, reduceCtorEq, Nat.reduceLeDiff, Nat.reduceLT, Nat.reduceMul, Nat.reduceDiv, Int.reduceLT, Int.reduceLE, Int.reduceEq, Int.reduceNe, Int.reduceAdd, Int.reduceSub, Int.reduceNeg, Int.reduceGT, Int.reduceGE, Int.reduceBEq, Int.reduceBNe, Int.reduceMul, *])
    refine ⟨_, rfl, [], r0, cd, by simp, ?_⟩
    have : dd z z.length = z := by rw [dd_full (Nat.le_refl _) (fun j h1 h2 => by omega), List.take_length]
    rw [this, hself]
  refine W_rng 3 1 z.length (fun k _ => ∀ j, j < k → 1 ≤ j → z.getD j 0 ≠ z.getD (j - 1) 0) (by simp only [asg, asgO, List.append_nil, List.nil_append, List.cons_append]; rfl) (by exact svc) (by omega) (fun j h1 h2 => by omega) ?_
  rintro k e hk1 hkz hk e3 hl
  repeat' (first | ((with_reducible first | apply S_0 | apply S_q1 | apply S_g | apply S_c); exact sgc) | (with_reducible first | apply SO_q | apply SG_t | apply SG_f0 | apply SG_f1 | apply S_nil | apply T_n | apply W_seq | apply W_region | apply SO_x | apply SC_t | apply SC_f | apply W_block | apply W_ret | apply W_skip | apply W_exit | apply T_r | apply T_e | apply B_n | apply B_e) | (with_reducible apply B_ne; focus decide) | (with_reducible first | apply B_r | apply R_e | apply R_r | apply H_e | apply H_r | apply G_e | apply G_r) | (with_reducible apply SC_n) | ((with_reducible first | apply SC_d | apply SG_d | apply SG_n | apply SC_b | apply SG_b) <;> intro hc <;> try simp only [decide_eq_true_eq, decide_eq_false_iff_not, Classical.not_not, Bool.not_eq_true', Bool.not_eq_false'] at hc))
  · have hkl : k < z.length := by omega
    have he : z.getD k 0 = z.getD (k - 1) 0 := by rw [get_of hkl, get_of (by omega)]; exact hc
    have hddk : dd z (k + 1) = dd z k := by rw [dd, if_neg fun h => h.elim (fun hh => by omega) fun hh => hh he, List.append_nil]
    have hddk' : (dd z k).length = k := by rw [dd_full (by omega) hl, List.length_take]; omega
    have htk : (intsA z).take k = intsA (dd z k) := by rw [dd_full (by omega) hl, ints_take]
    refine W_whl (fun n e m d => ∃ i c, n = z.length - k - i ∧ 1 ≤ i ∧ i ≤ z.length - k ∧ e 5 = .flat (.int .i64 (i : Nat)) ∧ e 3 = .flat (.int .i64 (dd z (k + i)).length) ∧ (∀ x ∈ d, x = id) ∧ m = M.set id (some c) ∧ c.length = z.length + r0.length ∧
      c.take (dd z (k + i)).length = intsA (dd z (k + i)) ∧ ∀ j, k + i ≤ j + 1 → j < z.length → c[j]? = some (.flat (.int .i64 (z.getD j 0)))) (z.length - k - 1) (by simp only [asg, asgO, List.append_nil, List.nil_append, List.cons_append]; rfl)
      ⟨1, intsA z ++ r0, rfl, by omega, by omega, by exact svc, by rw [hddk, hddk']; exact svc, by simp, hself.symm, hcat, by rw [hddk, hddk', List.take_append_of_le_length (by rw [ints_len]; omega), htk], fun j h1 h2 => by rw [List.getElem?_append_left (by rw [ints_len]; exact h2), ints_get, List.getElem?_eq_getElem h2, get_of h2]; rfl⟩ ?_
    rintro n e' m d hk' ⟨i, c, rfl, hi1, hik, e5, e3', hd, rfl, hcl, htc, hcj⟩
    have q1 : c[k + i - 1]? = some (.flat (.int .i64 (z.getD (k + i - 1) 0))) := hcj _ (by omega) (by omega)
    have e0' : e' 0 = .ms id 0 z.length 1 cd := by rw [hk' 0 rfl]; exact svc
    have e4' : e' 4 = .ms id k (z.length - k) 1 cd := by rw [hk' 4 rfl]; exact svc
    clear hk' hk hl htk
    have hd1 := dd_lt (z := z) (k := k) (i := k + i) (by omega) hk1 he
    have hd2 : 1 ≤ (dd z (k + i)).length := dd_pos (by omega)
    have hq : ∀ j (h : j < ((c.drop k).take (z.length - k)).length), i ≤ j + 1 → ((c.drop k).take (z.length - k))[j] = .flat (.int .i64 (z.getD (k + j) 0)) := by
      intro j h h1
      simp only [List.length_take, List.length_drop] at h
      have := hcj (k + j) (by omega) (by omega)
      rw [List.getElem?_eq_getElem (by omega)] at this
      rw [List.getElem_take, List.getElem_drop]
      exact Option.some.inj this
    clear q1
    repeat' (first | ((with_reducible first | apply S_0 | apply S_q1 | apply S_g | apply S_c); exact sgc) | (with_reducible first | apply SO_q | apply SG_t | apply SG_f0 | apply SG_f1 | apply S_nil | apply T_n | apply W_seq | apply W_region | apply SO_x | apply SC_t | apply SC_f | apply W_block | apply W_ret | apply W_skip | apply W_exit | apply T_r | apply T_e | apply B_n | apply B_e) | (with_reducible apply B_ne; focus decide) | (with_reducible first | apply B_r | apply R_e | apply R_r | apply H_e | apply H_r | apply G_e | apply G_r) | (with_reducible apply SC_n) | ((with_reducible first | apply SC_d | apply SG_d | apply SG_n | apply SC_b | apply SG_b) <;> intro hc <;> try simp only [decide_eq_true_eq, decide_eq_false_iff_not, Classical.not_not, Bool.not_eq_true', Bool.not_eq_false'] at hc))
    · have hki : k + (i - 1) = k + i - 1 := by omega
      have hn : dd z (k + (i + 1)) = dd z (k + i) ++ [z.getD (k + i) 0] := by
        rw [← Nat.add_assoc, dd, if_pos (.inr (by rw [← hki]; exact hc))]
      have hl1 : (dd z (k + (i + 1))).length = (dd z (k + i)).length + 1 := by rw [hn]; simp
      obtain ⟨p1, p2, p3⟩ := put_ok (v := z.getD (k + i) 0) hcl (show (dd z (k + i)).length < z.length + r0.length by omega)
      refine R_n _ (by omega) ⟨i + 1, _, rfl, by omega, by omega, by exact svc, by rw [hl1]; exact svc, ?_, rfl, p1, ?_, ?_⟩
      · intro x hx
        rcases List.mem_cons.1 hx with h | h
        · exact h
        · exact hd x h
      · rw [hl1, hn]; exact p2
      · intro j h1 h2
        rw [p3 j (by omega)]; exact hcj j (by omega) h2
    · have hki : k + (i - 1) = k + i - 1 := by omega
      have hn : dd z (k + (i + 1)) = dd z (k + i) := by
        rw [← Nat.add_assoc, dd, if_neg fun h => h.elim (fun hh => by omega) fun hh => hh (by rw [← hki]; exact hc), List.append_nil]
      refine R_n _ (by omega) ⟨i + 1, c, rfl, by omega, by omega, by exact svc, by rw [hn]; exact svc, hd, rfl, hcl, by rw [hn]; exact htc, fun j h1 h2 => hcj j (by omega) h2⟩
    · have hkz : k + i = z.length := by omega
      (refine ⟨by first | exact .inr rfl | exact .inl rfl, ?_⟩; simp (disch := first | assumption | decide | omega | exact List.getElem_mem _ | exact allI_ints _ | exact allI_rns _ | (simp only [List.length_take, List.length_drop, List.length_append, List.length_cons, List.length_nil, List.length_replicate, List.length_map, ints_len, rns_len]; omega)) only [resA, rvA, tupA, fin, frzV, frzTup, frzA, frz, isI, isI.all, Option.bind_some, go_sem, if_pos, if_neg, Nat.reduceBEq, Nat.reduceEqDiff, ↓reduceIte, Nat.reduceSub, Nat.reduceAdd, Int.reduceToNat, reduceCtorEq, Nat.reduceLeDiff, Nat.reduceLT, Nat.reduceMul, Nat.reduceDiv, Int.reduceLT, Int.reduceLE, Int.reduceEq, Int.reduceNe, Int.reduceAdd, Int.reduceSub, Int.reduceNeg, Int.reduceGT, Int.reduceGE, Int.reduceBEq, Int.reduceBNe, Int.reduceMul, *])
      refine ⟨_, rfl, _, _, _, ?_, rfl⟩
      intro x hx
      rcases List.mem_cons.1 hx with h | h
      · exact h
      · exact hd x h
  · refine H_n (by exact svc) (by omega) (ext1 hl fun _ => ?_)
    rw [get_of (by omega), get_of (by omega)]; exact hc
  · (refine ⟨by first | exact .inr rfl | exact .inl rfl, ?_⟩; simp (disch := first | assumption | decide | omega | exact List.getElem_mem _ | exact allI_ints _ | exact allI_rns _ | (simp only [List.length_take, List.length_drop, List.length_append, List.length_cons, List.length_nil, List.length_replicate, List.length_map, ints_len, rns_len]; omega)) only [resA, rvA, tupA, fin, frzV, frzTup, frzA, frz, isI, isI.all, Option.bind_some, go_sem, if_pos, if_neg, Nat.reduceBEq, Nat.reduceEqDiff, ↓reduceIte, Nat.reduceSub, Nat.reduceAdd, Int.reduceToNat, reduceCtorEq, Nat.reduceLeDiff, Nat.reduceLT, Nat.reduceMul, Nat.reduceDiv, Int.reduceLT, Int.reduceLE, Int.reduceEq, Int.reduceNe, Int.reduceAdd, Int.reduceSub, Int.reduceNeg, Int.reduceGT, Int.reduceGE, Int.reduceBEq, Int.reduceBNe, Int.reduceMul, *])
    refine ⟨_, rfl, [], r0, cd, by simp, ?_⟩
    have : dd z z.length = z := by rw [dd_full (Nat.le_refl _) (fun j h1 h2 => hl j (by omega) h2), List.take_length]
    rw [this, hself]
/-- In sorted rows what stands twice stands side by side. -/
theorem dd_sorted {z : List Int} (hs : z.Pairwise (· ≤ ·)) : (dd z z.length).length = z.length ↔ z.Nodup := by
  have mono : ∀ a b (ha : a < b) (hb : b < z.length), z[a]'(by omega) ≤ z[b] := fun a b ha hb => List.pairwise_iff_getElem.1 hs a b (by omega) hb ha
  constructor
  · intro h
    have hne : ∀ k, 1 ≤ k → k < z.length → z.getD k 0 ≠ z.getD (k - 1) 0 := fun k h1 h2 he => by
      have := dd_lt (z := z) (k := k) (i := z.length) h2 h1 he; omega
    have lt1 : ∀ k, 1 ≤ k → (h2 : k < z.length) → z[k - 1] < z[k] := fun k h1 h2 => by
      have h3 := hne k h1 h2
      rw [get_of h2, get_of (by omega)] at h3
      have := mono (k - 1) k (by omega) h2
      omega
    rw [List.nodup_iff_pairwise_ne, List.pairwise_iff_getElem]
    intro i j hi hj hij
    have h1 := lt1 j (by omega) hj
    by_cases hh : i = j - 1
    · subst hh; omega
    · have := mono i (j - 1) (by omega) (by omega); omega
  · intro h
    rw [dd_full (Nat.le_refl _), List.take_length]
    intro j h1 h2 he
    rw [get_of h1, get_of (by omega)] at he
    rw [List.nodup_iff_pairwise_ne, List.pairwise_iff_getElem] at h
    exact h (j - 1) j (by omega) h1 (by omega) he.symm
theorem filter_own {D : List Nat} {n id : Nat} (h : ∀ x ∈ D, x = id) (hn : n ≤ id) : D.filter (fun x => decide (x < n)) = [] := by
  rw [List.filter_eq_nil_iff]
  intro a ha
  have := h a ha
  simp only [decide_eq_true_eq]; omega
end Go.Proofs.Ytfpaegklkdfmmaa.Av
namespace Go.Proofs.Ytfpaegklkdfmmaa.Av
open Go.RowKit
set_option linter.unusedSimpArgs false
set_option linter.unusedVariables false
set_option maxHeartbeats 10000000
/-- One number more: the last run grows, or a run begins. -/
def rstep (R : List (Int × Int)) (a : Int) : List (Int × Int) := if h : 0 < R.length then if (R[R.length - 1]).1 = a then R.set (R.length - 1) (a, (R[R.length - 1]).2 + 1) else R ++ [(a, 1)] else [(a, 1)]
def runs (x : List Int) : List (Int × Int) := x.foldl rstep []
theorem rstep_0 (a : Int) : rstep [] a = [(a, 1)] := rfl
theorem rstep_e {R : List (Int × Int)} {a : Int} (h : 0 < R.length) (hc : (R[R.length - 1]).1 = a) : rstep R a = R.set (R.length - 1) (a, (R[R.length - 1]).2 + 1) := by
  rw [rstep, dif_pos h, if_pos hc]
theorem rstep_n {R : List (Int × Int)} {a : Int} (h : 0 < R.length) (hc : ¬ (R[R.length - 1]).1 = a) : rstep R a = R ++ [(a, 1)] := by
  rw [rstep, dif_pos h, if_neg hc]
theorem runs_s {x : List Int} {i : Nat} (h : i < x.length) : runs (x.take (i + 1)) = rstep (runs (x.take i)) x[i] := by
  rw [runs, List.take_succ_eq_append_getElem h, List.foldl_append]; rfl
theorem rstep_pos (R : List (Int × Int)) (a : Int) : ∃ h : 0 < (rstep R a).length, ((rstep R a)[(rstep R a).length - 1]).1 = a := by
  rcases Nat.eq_zero_or_pos R.length with h | h
  · have := List.eq_nil_of_length_eq_zero h; subst this; exact ⟨by simp [rstep_0], by simp [rstep_0]⟩
  · by_cases hc : (R[R.length - 1]).1 = a
    · simp only [rstep_e h hc]; exact ⟨by simpa using h, by simp⟩
    · simp only [rstep_n h hc]; exact ⟨by simp, by simp⟩
/-- What every run has: a number of x, and a count. -/
def rOk (n : Nat) (R : List (Int × Int)) : Prop := R.length ≤ n ∧ ∀ r ∈ R, 1 ≤ r.2 ∧ r.2 ≤ n
theorem rstep_ok {n : Nat} {R : List (Int × Int)} (a : Int) (h : rOk n R) : rOk (n + 1) (rstep R a) := by
  obtain ⟨h1, h2⟩ := h
  rcases Nat.eq_zero_or_pos R.length with h | h
  · have := List.eq_nil_of_length_eq_zero h; subst this
    rw [rstep_0]; refine ⟨by simp, fun r hr => ?_⟩
    simp only [List.mem_singleton] at hr; subst hr; simp only; omega
  · by_cases hc : (R[R.length - 1]).1 = a
    · rw [rstep_e h hc]
      refine ⟨by simp; omega, fun r hr => ?_⟩
      rcases List.mem_or_eq_of_mem_set hr with h3 | rfl
      · have := h2 r h3; omega
      · have := h2 _ (List.getElem_mem (show R.length - 1 < R.length by omega)); simp only; omega
    · rw [rstep_n h hc]
      refine ⟨by simp; omega, fun r hr => ?_⟩
      rcases List.mem_append.1 hr with h3 | h3
      · have := h2 r h3; omega
      · simp only [List.mem_singleton] at h3; subst h3; simp only; omega
theorem runs_ok (x : List Int) : ∀ i, i ≤ x.length → rOk i (runs (x.take i))
  | 0, _ => ⟨by simp [runs], by simp [runs]⟩
  | i + 1, h => by rw [runs_s (by omega)]; exact rstep_ok _ (runs_ok x i (by omega))
theorem rns_put1 {R : List (Int × Int)} {k : Nat} (h : k < R.length) (v : Int) : splice (rnsA R) (k * 2 + 1) [.flat (.int .i64 v)] = rnsA (R.set k (R[k].1, v)) := by
  have e : R = R.take k ++ R[k] :: R.drop (k + 1) := by rw [← List.drop_eq_getElem_cons h, List.take_append_drop]
  have e2 : R.set k (R[k].1, v) = R.take k ++ (R[k].1, v) :: R.drop (k + 1) := by rw [List.set_eq_take_append_cons_drop, if_pos h]
  rw [e2, rns_app, rns_cons]
  have h1 : (rnsA R).take (k * 2 + 1) = rnsA (R.take k) ++ [.flat (.int .i64 R[k].1)] := by
    rw [List.take_add, rns_take, rns_at R k h]; rfl
  have h2 : (rnsA R).drop (k * 2 + 1 + 1) = rnsA (R.drop (k + 1)) := by rw [← rns_drop]; congr 1; omega
  simp only [splice, List.length_cons, List.length_nil, Nat.zero_add, h1, h2, List.append_assoc, List.cons_append, List.nil_append]
theorem rns_one (a b : Int) : [AV.flat (.int .i64 a), AV.flat (.int .i64 b)] = rnsA [(a, b)] := rfl
theorem t13 {x : List Int} {nx cx : Bool} {M : MS} (hx : x.length ≤ 1000000) : ev pr 13 [.list 1 (intsA x) nx cx] M = some (.q (lst 2 (rnsA (runs x)))) := by
  refine ev_fn' A13 ?_
  repeat' (first | ((with_reducible first | apply S_0 | apply S_q1 | apply S_g | apply S_c); exact sgc) | (with_reducible first | apply SO_q | apply SG_t | apply SG_f0 | apply SG_f1 | apply S_nil | apply T_n | apply W_seq | apply W_region | apply SO_x | apply SC_t | apply SC_f | apply W_block | apply W_ret | apply W_skip | apply W_exit | apply T_r | apply T_e | apply B_n | apply B_e) | (with_reducible apply B_ne; focus decide) | (with_reducible first | apply B_r | apply R_e | apply R_r | apply H_e | apply H_r | apply G_e | apply G_r) | (with_reducible apply SC_n) | ((with_reducible first | apply SC_d | apply SG_d | apply SG_n | apply SC_b | apply SG_b) <;> intro hc <;> try simp only [decide_eq_true_eq, decide_eq_false_iff_not, Classical.not_not, Bool.not_eq_true', Bool.not_eq_false'] at hc))
  refine W_rngM 9 0 x.length (fun i e m => ∃ v G, e 3 = v ∧ m = M ++ G ∧ Own M.length (M ++ G) v 2 (rnsA (runs (x.take i)))) (by simp only [asg, asgO, List.append_nil, List.nil_append, List.cons_append]; rfl) (by exact svc) (by omega)
    ⟨.list 2 [] true true, [], by exact svc, by simp, by simpa [runs, rnsA] using Own.nil _ _ (by decide)⟩ ?_
  rintro i e _ _ hi hk e9 ⟨w, G, e3, rfl, hO⟩
  have k7 : e 7 = .list 1 (intsA x) nx cx := by rw [hk 7 rfl]; exact svc
  have k8 : e 8 = .flat (.int .i64 x.length) := by rw [hk 8 rfl]; exact svc
  clear hk
  rcases Nat.lt_or_ge i x.length with hlt | hlt
  · have hlt' : (i : Int) < x.length := by omega
    have hs := runs_s hlt
    obtain ⟨r1, r2⟩ := runs_ok x i hi
    generalize runs (x.take i) = R at hO hs r1 r2
    have v0 := hO.view
    have v1 := hO.lenOf
    rw [rns_len, half] at v1
    rcases Nat.eq_zero_or_pos R.length with h0 | h0
    · have h0' := List.eq_nil_of_length_eq_zero h0; subst h0'
      rw [rstep_0] at hs
      repeat' (first | ((with_reducible first | apply S_0 | apply S_q1 | apply S_g | apply S_c); exact sgc) | (with_reducible first | apply SO_q | apply SG_t | apply SG_f0 | apply SG_f1 | apply S_nil | apply T_n | apply W_seq | apply W_region | apply SO_x | apply SC_t | apply SC_f | apply W_block | apply W_ret | apply W_skip | apply W_exit | apply T_r | apply T_e | apply B_n | apply B_e) | (with_reducible apply B_ne; focus decide) | (with_reducible first | apply B_r | apply R_e | apply R_r | apply H_e | apply H_r | apply G_e | apply G_r) | (with_reducible apply SC_n) | ((with_reducible first | apply SC_d | apply SG_d | apply SG_n | apply SC_b | apply SG_b) <;> intro hc <;> try simp only [decide_eq_true_eq, decide_eq_false_iff_not, Classical.not_not, Bool.not_eq_true', Bool.not_eq_false'] at hc))
      (refine S_ownG (cs := rnsA []) M G (by assumption) (by first | rfl | simp only [List.append_assoc, List.cons_append, List.nil_append]) (by exact sgc) (by exact sgc) (by exact sgc) (by exact sgc) (by exact sgc) (by (first | assumption | omega | (simp only [ints_len, Nat.div_one, Nat.one_mul, Nat.mul_one, List.length_map, rns_len, half, List.length_cons, List.length_nil, List.length_append, List.length_replicate]; omega))) (by (first | assumption | omega | (simp only [ints_len, Nat.div_one, Nat.one_mul, Nat.mul_one, List.length_map, rns_len, half, List.length_cons, List.length_nil, List.length_append, List.length_replicate]; omega))) (by first | omega | (simp; done) | (simp; omega)) ?_)
      intro v' G' hO2
      repeat' (first | ((with_reducible first | apply S_0 | apply S_q1 | apply S_g | apply S_c); exact sgc) | (with_reducible first | apply SO_q | apply SG_t | apply SG_f0 | apply SG_f1 | apply S_nil | apply T_n | apply W_seq | apply W_region | apply SO_x | apply SC_t | apply SC_f | apply W_block | apply W_ret | apply W_skip | apply W_exit | apply T_r | apply T_e | apply B_n | apply B_e) | (with_reducible apply B_ne; focus decide) | (with_reducible first | apply B_r | apply R_e | apply R_r | apply H_e | apply H_r | apply G_e | apply G_r) | (with_reducible apply SC_n) | ((with_reducible first | apply SC_d | apply SG_d | apply SG_n | apply SC_b | apply SG_b) <;> intro hc <;> try simp only [decide_eq_true_eq, decide_eq_false_iff_not, Classical.not_not, Bool.not_eq_true', Bool.not_eq_false'] at hc))
      refine G_n (by exact svc) hlt ⟨v', G', by exact svc, rfl, ?_⟩
      rw [hs]; exact hO2
    · have hR : R.length - 1 < R.length := by omega
      have r3 := r2 _ (List.getElem_mem hR)
      clear r2
      repeat' (first | ((with_reducible first | apply S_0 | apply S_q1 | apply S_g | apply S_c); exact sgc) | (with_reducible first | apply SO_q | apply SG_t | apply SG_f0 | apply SG_f1 | apply S_nil | apply T_n | apply W_seq | apply W_region | apply SO_x | apply SC_t | apply SC_f | apply W_block | apply W_ret | apply W_skip | apply W_exit | apply T_r | apply T_e | apply B_n | apply B_e) | (with_reducible apply B_ne; focus decide) | (with_reducible first | apply B_r | apply R_e | apply R_r | apply H_e | apply H_r | apply G_e | apply G_r) | (with_reducible apply SC_n) | ((with_reducible first | apply SC_d | apply SG_d | apply SG_n | apply SC_b | apply SG_b) <;> intro hc <;> try simp only [decide_eq_true_eq, decide_eq_false_iff_not, Classical.not_not, Bool.not_eq_true', Bool.not_eq_false'] at hc))
      · have hc' : (R[R.length - 1]).1 = x[i] := by simpa using hc
        rw [rstep_e h0 hc'] at hs
        clear hc
        (refine S_putG M G hO (by first | rfl | simp only [List.append_assoc, List.cons_append, List.nil_append]) (by exact sgc) (by exact sgc) (by exact sgc) (by first | exact rfl | simp) (by (first | assumption | omega | (simp only [ints_len, Nat.div_one, Nat.one_mul, Nat.mul_one, List.length_map, rns_len, half, List.length_cons, List.length_nil, List.length_append, List.length_replicate]; omega))) (by decide) (by first | omega | (simp; done) | (simp; omega)) ?_)
        intro G' hO2
        rw [rns_put1 hR, hc'] at hO2
        clear hO v0
        repeat' (first | ((with_reducible first | apply S_0 | apply S_q1 | apply S_g | apply S_c); exact sgc) | (with_reducible first | apply SO_q | apply SG_t | apply SG_f0 | apply SG_f1 | apply S_nil | apply T_n | apply W_seq | apply W_region | apply SO_x | apply SC_t | apply SC_f | apply W_block | apply W_ret | apply W_skip | apply W_exit | apply T_r | apply T_e | apply B_n | apply B_e) | (with_reducible apply B_ne; focus decide) | (with_reducible first | apply B_r | apply R_e | apply R_r | apply H_e | apply H_r | apply G_e | apply G_r) | (with_reducible apply SC_n) | ((with_reducible first | apply SC_d | apply SG_d | apply SG_n | apply SC_b | apply SG_b) <;> intro hc <;> try simp only [decide_eq_true_eq, decide_eq_false_iff_not, Classical.not_not, Bool.not_eq_true', Bool.not_eq_false'] at hc))
        refine G_n (by exact svc) hlt ⟨w, G', by exact svc, rfl, ?_⟩
        rw [hs]; exact hO2
      · have hc' : ¬ (R[R.length - 1]).1 = x[i] := by simpa using hc
        rw [rstep_n h0 hc'] at hs
        clear hc
        (refine S_ownG (cs := rnsA R) M G (by assumption) (by first | rfl | simp only [List.append_assoc, List.cons_append, List.nil_append]) (by exact sgc) (by exact sgc) (by exact sgc) (by exact sgc) (by exact sgc) (by (first | assumption | omega | (simp only [ints_len, Nat.div_one, Nat.one_mul, Nat.mul_one, List.length_map, rns_len, half, List.length_cons, List.length_nil, List.length_append, List.length_replicate]; omega))) (by (first | assumption | omega | (simp only [ints_len, Nat.div_one, Nat.one_mul, Nat.mul_one, List.length_map, rns_len, half, List.length_cons, List.length_nil, List.length_append, List.length_replicate]; omega))) (by first | omega | (simp; done) | (simp; omega)) ?_)
        intro v' G' hO2
        repeat' (first | ((with_reducible first | apply S_0 | apply S_q1 | apply S_g | apply S_c); exact sgc) | (with_reducible first | apply SO_q | apply SG_t | apply SG_f0 | apply SG_f1 | apply S_nil | apply T_n | apply W_seq | apply W_region | apply SO_x | apply SC_t | apply SC_f | apply W_block | apply W_ret | apply W_skip | apply W_exit | apply T_r | apply T_e | apply B_n | apply B_e) | (with_reducible apply B_ne; focus decide) | (with_reducible first | apply B_r | apply R_e | apply R_r | apply H_e | apply H_r | apply G_e | apply G_r) | (with_reducible apply SC_n) | ((with_reducible first | apply SC_d | apply SG_d | apply SG_n | apply SC_b | apply SG_b) <;> intro hc <;> try simp only [decide_eq_true_eq, decide_eq_false_iff_not, Classical.not_not, Bool.not_eq_true', Bool.not_eq_false'] at hc))
        refine G_n (by exact svc) hlt ⟨v', G', by exact svc, rfl, ?_⟩
        rw [hs, rns_app]; exact hO2
      · exfalso; omega
  · have hlt' : ¬ (i : Int) < x.length := by omega
    obtain rfl : i = x.length := by omega
    rw [List.take_length] at hO
    repeat' (first | ((with_reducible first | apply S_0 | apply S_q1 | apply S_g | apply S_c); exact sgc) | (with_reducible first | apply SO_q | apply SG_t | apply SG_f0 | apply SG_f1 | apply S_nil | apply T_n | apply W_seq | apply W_region | apply SO_x | apply SC_t | apply SC_f | apply W_block | apply W_ret | apply W_skip | apply W_exit | apply T_r | apply T_e | apply B_n | apply B_e) | (with_reducible apply B_ne; focus decide) | (with_reducible first | apply B_r | apply R_e | apply R_r | apply H_e | apply H_r | apply G_e | apply G_r) | (with_reducible apply SC_n) | ((with_reducible first | apply SC_d | apply SG_d | apply SG_n | apply SC_b | apply SG_b) <;> intro hc <;> try simp only [decide_eq_true_eq, decide_eq_false_iff_not, Classical.not_not, Bool.not_eq_true', Bool.not_eq_false'] at hc))
    have hf := hO.finG (base := M.length) (Nat.le_refl _)
    (refine ⟨by first | exact .inr rfl | exact .inl rfl, ?_⟩; simp (disch := first | assumption | decide | omega | exact List.getElem_mem _ | exact allI_ints _ | exact allI_rns _ | (simp only [List.length_take, List.length_drop, List.length_append, List.length_cons, List.length_nil, List.length_replicate, List.length_map, ints_len, rns_len]; omega)) only [resA, rvA, tupA, Option.bind_some, go_sem, if_pos, if_neg, Nat.reduceBEq, Nat.reduceEqDiff, ↓reduceIte, Nat.reduceSub, Nat.reduceAdd, Int.reduceToNat, reduceCtorEq, Nat.reduceLeDiff, Nat.reduceLT, Nat.reduceMul, Nat.reduceDiv, Int.reduceLT, Int.reduceLE, Int.reduceEq, Int.reduceNe, Int.reduceAdd, Int.reduceSub, Int.reduceNeg, Int.reduceGT, Int.reduceGE, Int.reduceBEq, Int.reduceBNe, Int.reduceMul, *])
theorem runs_last {x : List Int} {i : Nat} (h0 : 0 < i) (hi : i ≤ x.length) : ∃ h : 0 < (runs (x.take i)).length, ((runs (x.take i))[(runs (x.take i)).length - 1]).1 = x[i - 1] := by
  obtain ⟨j, rfl⟩ : ∃ j, i = j + 1 := ⟨i - 1, by omega⟩
  have h := rstep_pos (runs (x.take j)) (x[j]'(by omega))
  simp only [runs_s (show j < x.length by omega)]
  exact h
theorem runs_last' {x : List Int} {i : Nat} {R : List (Int × Int)} (hR : runs (x.take i) = R) (h0 : 0 < i) (hi : i ≤ x.length) : ∃ h : 0 < R.length, (R[R.length - 1]).1 = x[i - 1] := by
  subst hR; exact runs_last h0 hi
theorem t17 {x : List Int} {nx cx : Bool} {M : MS} (hx : x.length ≤ 1000000) : ev pr 17 [.list 1 (intsA x) nx cx] M = some (.q (lst 2 (rnsA (runs x)))) := by
  refine ev_fn' A17 ?_
  repeat' (first | ((with_reducible first | apply S_0 | apply S_q1 | apply S_g | apply S_c); exact sgc) | (with_reducible first | apply SO_q | apply SG_t | apply SG_f0 | apply SG_f1 | apply S_nil | apply T_n | apply W_seq | apply W_region | apply SO_x | apply SC_t | apply SC_f | apply W_block | apply W_ret | apply W_skip | apply W_exit | apply T_r | apply T_e | apply B_n | apply B_e) | (with_reducible apply B_ne; focus decide) | (with_reducible first | apply B_r | apply R_e | apply R_r | apply H_e | apply H_r | apply G_e | apply G_r) | (with_reducible apply SC_n) | ((with_reducible first | apply SC_d | apply SG_d | apply SG_n | apply SC_b | apply SG_b) <;> intro hc <;> try simp only [decide_eq_true_eq, decide_eq_false_iff_not, Classical.not_not, Bool.not_eq_true', Bool.not_eq_false'] at hc))
  refine W_rngM 4 0 x.length (fun i e m => ∃ v G, e 3 = v ∧ m = M ++ G ∧ Own M.length (M ++ G) v 2 (rnsA (runs (x.take i)))) (by simp only [asg, asgO, List.append_nil, List.nil_append, List.cons_append]; rfl) (by exact svc) (by omega)
    ⟨.list 2 [] true true, [], by exact svc, by simp, by simpa [runs, rnsA] using Own.nil _ _ (by decide)⟩ ?_
  rintro i e _ _ hi hk e4 ⟨w, G, e3, rfl, hO⟩
  have k0 : e 0 = .list 1 (intsA x) nx cx := by rw [hk 0 rfl]; exact svc
  clear hk
  rcases Nat.lt_or_ge i x.length with hlt | hlt
  · have hlt' : (i : Int) < x.length := by omega
    have hs := runs_s hlt
    obtain ⟨r1, r2⟩ := runs_ok x i hi
    generalize hR0 : runs (x.take i) = R at hO hs r1 r2
    have v0 := hO.view
    have v1 := hO.lenOf
    rw [rns_len, half] at v1
    rcases Nat.eq_zero_or_pos i with h0 | h0
    · have h0' : R = [] := by rw [← hR0, h0]; rfl
      subst h0'
      rw [rstep_0] at hs
      clear hR0
      repeat' (first | ((with_reducible first | apply S_0 | apply S_q1 | apply S_g | apply S_c); exact sgc) | (with_reducible first | apply SO_q | apply SG_t | apply SG_f0 | apply SG_f1 | apply S_nil | apply T_n | apply W_seq | apply W_region | apply SO_x | apply SC_t | apply SC_f | apply W_block | apply W_ret | apply W_skip | apply W_exit | apply T_r | apply T_e | apply B_n | apply B_e) | (with_reducible apply B_ne; focus decide) | (with_reducible first | apply B_r | apply R_e | apply R_r | apply H_e | apply H_r | apply G_e | apply G_r) | (with_reducible apply SC_n) | ((with_reducible first | apply SC_d | apply SG_d | apply SG_n | apply SC_b | apply SG_b) <;> intro hc <;> try simp only [decide_eq_true_eq, decide_eq_false_iff_not, Classical.not_not, Bool.not_eq_true', Bool.not_eq_false'] at hc))
      (refine S_ownG (cs := rnsA []) M G (by assumption) (by first | rfl | simp only [List.append_assoc, List.cons_append, List.nil_append]) (by exact sgc) (by exact sgc) (by exact sgc) (by exact sgc) (by exact sgc) (by (first | assumption | omega | (simp only [ints_len, Nat.div_one, Nat.one_mul, Nat.mul_one, List.length_map, rns_len, half, List.length_cons, List.length_nil, List.length_append, List.length_replicate]; omega))) (by (first | assumption | omega | (simp only [ints_len, Nat.div_one, Nat.one_mul, Nat.mul_one, List.length_map, rns_len, half, List.length_cons, List.length_nil, List.length_append, List.length_replicate]; omega))) (by first | omega | (simp; done) | (simp; omega)) ?_)
      intro v' G' hO2
      repeat' (first | ((with_reducible first | apply S_0 | apply S_q1 | apply S_g | apply S_c); exact sgc) | (with_reducible first | apply SO_q | apply SG_t | apply SG_f0 | apply SG_f1 | apply S_nil | apply T_n | apply W_seq | apply W_region | apply SO_x | apply SC_t | apply SC_f | apply W_block | apply W_ret | apply W_skip | apply W_exit | apply T_r | apply T_e | apply B_n | apply B_e) | (with_reducible apply B_ne; focus decide) | (with_reducible first | apply B_r | apply R_e | apply R_r | apply H_e | apply H_r | apply G_e | apply G_r) | (with_reducible apply SC_n) | ((with_reducible first | apply SC_d | apply SG_d | apply SG_n | apply SC_b | apply SG_b) <;> intro hc <;> try simp only [decide_eq_true_eq, decide_eq_false_iff_not, Classical.not_not, Bool.not_eq_true', Bool.not_eq_false'] at hc))
      refine G_n (by exact svc) hlt ⟨v', G', by exact svc, rfl, ?_⟩
      rw [hs]; subst h0; exact hO2
      · exfalso; omega
    · obtain ⟨h1, h2⟩ := runs_last' hR0 h0 hi
      have hR : R.length - 1 < R.length := by omega
      have r3 := r2 _ (List.getElem_mem hR)
      have h2' : Hid ((R[R.length - 1]).1 = x[i - 1]) := h2
      have hs' : Hid (runs (List.take (i + 1) x) = rstep R x[i]) := hs
      clear r2 hR0 h2 hs
      repeat' (first | ((with_reducible first | apply S_0 | apply S_q1 | apply S_g | apply S_c); exact sgc) | (with_reducible first | apply SO_q | apply SG_t | apply SG_f0 | apply SG_f1 | apply S_nil | apply T_n | apply W_seq | apply W_region | apply SO_x | apply SC_t | apply SC_f | apply W_block | apply W_ret | apply W_skip | apply W_exit | apply T_r | apply T_e | apply B_n | apply B_e) | (with_reducible apply B_ne; focus decide) | (with_reducible first | apply B_r | apply R_e | apply R_r | apply H_e | apply H_r | apply G_e | apply G_r) | (with_reducible apply SC_n) | ((with_reducible first | apply SC_d | apply SG_d | apply SG_n | apply SC_b | apply SG_b) <;> intro hc <;> try simp only [decide_eq_true_eq, decide_eq_false_iff_not, Classical.not_not, Bool.not_eq_true', Bool.not_eq_false'] at hc))
      · have hc' : (R[R.length - 1]).1 = x[i] := Eq.trans h2' hc.symm
        have hs : runs (List.take (i + 1) x) = rstep R x[i] := hs'
        rw [rstep_e h1 hc'] at hs
        clear hc
        (refine S_putG M G hO (by first | rfl | simp only [List.append_assoc, List.cons_append, List.nil_append]) (by exact sgc) (by exact sgc) (by exact sgc) (by first | exact rfl | simp) (by (first | assumption | omega | (simp only [ints_len, Nat.div_one, Nat.one_mul, Nat.mul_one, List.length_map, rns_len, half, List.length_cons, List.length_nil, List.length_append, List.length_replicate]; omega))) (by decide) (by first | omega | (simp; done) | (simp; omega)) ?_)
        intro G' hO2
        rw [rns_put1 hR, hc'] at hO2
        clear hO v0
        repeat' (first | ((with_reducible first | apply S_0 | apply S_q1 | apply S_g | apply S_c); exact sgc) | (with_reducible first | apply SO_q | apply SG_t | apply SG_f0 | apply SG_f1 | apply S_nil | apply T_n | apply W_seq | apply W_region | apply SO_x | apply SC_t | apply SC_f | apply W_block | apply W_ret | apply W_skip | apply W_exit | apply T_r | apply T_e | apply B_n | apply B_e) | (with_reducible apply B_ne; focus decide) | (with_reducible first | apply B_r | apply R_e | apply R_r | apply H_e | apply H_r | apply G_e | apply G_r) | (with_reducible apply SC_n) | ((with_reducible first | apply SC_d | apply SG_d | apply SG_n | apply SC_b | apply SG_b) <;> intro hc <;> try simp only [decide_eq_true_eq, decide_eq_false_iff_not, Classical.not_not, Bool.not_eq_true', Bool.not_eq_false'] at hc))
        refine G_n (by exact svc) hlt ⟨w, G', by exact svc, rfl, ?_⟩
        rw [hs]; exact hO2
      · have hc' : ¬ (R[R.length - 1]).1 = x[i] := fun h => hc (h.symm.trans h2')
        have hs : runs (List.take (i + 1) x) = rstep R x[i] := hs'
        rw [rstep_n h1 hc'] at hs
        clear hc
        (refine S_ownG (cs := rnsA R) M G (by assumption) (by first | rfl | simp only [List.append_assoc, List.cons_append, List.nil_append]) (by exact sgc) (by exact sgc) (by exact sgc) (by exact sgc) (by exact sgc) (by (first | assumption | omega | (simp only [ints_len, Nat.div_one, Nat.one_mul, Nat.mul_one, List.length_map, rns_len, half, List.length_cons, List.length_nil, List.length_append, List.length_replicate]; omega))) (by (first | assumption | omega | (simp only [ints_len, Nat.div_one, Nat.one_mul, Nat.mul_one, List.length_map, rns_len, half, List.length_cons, List.length_nil, List.length_append, List.length_replicate]; omega))) (by first | omega | (simp; done) | (simp; omega)) ?_)
        intro v' G' hO2
        repeat' (first | ((with_reducible first | apply S_0 | apply S_q1 | apply S_g | apply S_c); exact sgc) | (with_reducible first | apply SO_q | apply SG_t | apply SG_f0 | apply SG_f1 | apply S_nil | apply T_n | apply W_seq | apply W_region | apply SO_x | apply SC_t | apply SC_f | apply W_block | apply W_ret | apply W_skip | apply W_exit | apply T_r | apply T_e | apply B_n | apply B_e) | (with_reducible apply B_ne; focus decide) | (with_reducible first | apply B_r | apply R_e | apply R_r | apply H_e | apply H_r | apply G_e | apply G_r) | (with_reducible apply SC_n) | ((with_reducible first | apply SC_d | apply SG_d | apply SG_n | apply SC_b | apply SG_b) <;> intro hc <;> try simp only [decide_eq_true_eq, decide_eq_false_iff_not, Classical.not_not, Bool.not_eq_true', Bool.not_eq_false'] at hc))
        refine G_n (by exact svc) hlt ⟨v', G', by exact svc, rfl, ?_⟩
        rw [hs, rns_app]; exact hO2
      · exfalso; omega
  · have hlt' : ¬ (i : Int) < x.length := by omega
    obtain rfl : i = x.length := by omega
    rw [List.take_length] at hO
    repeat' (first | ((with_reducible first | apply S_0 | apply S_q1 | apply S_g | apply S_c); exact sgc) | (with_reducible first | apply SO_q | apply SG_t | apply SG_f0 | apply SG_f1 | apply S_nil | apply T_n | apply W_seq | apply W_region | apply SO_x | apply SC_t | apply SC_f | apply W_block | apply W_ret | apply W_skip | apply W_exit | apply T_r | apply T_e | apply B_n | apply B_e) | (with_reducible apply B_ne; focus decide) | (with_reducible first | apply B_r | apply R_e | apply R_r | apply H_e | apply H_r | apply G_e | apply G_r) | (with_reducible apply SC_n) | ((with_reducible first | apply SC_d | apply SG_d | apply SG_n | apply SC_b | apply SG_b) <;> intro hc <;> try simp only [decide_eq_true_eq, decide_eq_false_iff_not, Classical.not_not, Bool.not_eq_true', Bool.not_eq_false'] at hc))
    have hf := hO.finG (base := M.length) (Nat.le_refl _)
    (refine ⟨by first | exact .inr rfl | exact .inl rfl, ?_⟩; simp (disch := first | assumption | decide | omega | exact List.getElem_mem _ | exact allI_ints _ | exact allI_rns _ | (simp only [List.length_take, List.length_drop, List.length_append, List.length_cons, List.length_nil, List.length_replicate, List.length_map, ints_len, rns_len]; omega)) only [resA, rvA, tupA, Option.bind_some, go_sem, if_pos, if_neg, Nat.reduceBEq, Nat.reduceEqDiff, ↓reduceIte, Nat.reduceSub, Nat.reduceAdd, Int.reduceToNat, reduceCtorEq, Nat.reduceLeDiff, Nat.reduceLT, Nat.reduceMul, Nat.reduceDiv, Int.reduceLT, Int.reduceLE, Int.reduceEq, Int.reduceNe, Int.reduceAdd, Int.reduceSub, Int.reduceNeg, Int.reduceGT, Int.reduceGE, Int.reduceBEq, Int.reduceBNe, Int.reduceMul, *])
end Go.Proofs.Ytfpaegklkdfmmaa.Av
namespace Go.Proofs.Ytfpaegklkdfmmaa.Av
open Go.RowKit
set_option linter.unusedSimpArgs false
set_option linter.unusedVariables false
set_option maxHeartbeats 10000000
def short (x : List Int) : List Int := dd x x.length
theorem t34e (nl cd : Bool) (M : MS) : ev pr 34 [.list 1 [] nl cd] M = some (.x (.list 1 [] nl cd) M []) := by
  refine ev_fn' A34 ?_
  repeat' (first | ((with_reducible first | apply S_0 | apply S_q1 | apply S_g | apply S_c); exact sgc) | (with_reducible first | apply SO_q | apply SG_t | apply SG_f0 | apply SG_f1 | apply S_nil | apply T_n | apply W_seq | apply W_region | apply SO_x | apply SC_t | apply SC_f | apply W_block | apply W_ret | apply W_skip | apply W_exit | apply T_r | apply T_e | apply B_n | apply B_e) | (with_reducible apply B_ne; focus decide) | (with_reducible first | apply B_r | apply R_e | apply R_r | apply H_e | apply H_r | apply G_e | apply G_r) | (with_reducible apply SC_n) | ((with_reducible first | apply SC_d | apply SG_d | apply SG_n | apply SC_b | apply SG_b) <;> intro hc <;> try simp only [decide_eq_true_eq, decide_eq_false_iff_not, Classical.not_not, Bool.not_eq_true', Bool.not_eq_false'] at hc))
  (first | exact fincR | exact fincN)
theorem t18e (nl cd : Bool) (M : MS) : ev pr 18 [.list 1 [] nl cd] M = some (.x (.list 1 [] nl true) M []) := by
  have h1 := t35e nl cd M
  have h2 := t34e nl true M
  refine ev_fn' A18 ?_
  repeat' (first | ((with_reducible first | apply S_0 | apply S_q1 | apply S_g | apply S_c); exact sgc) | (with_reducible first | apply SO_q | apply SG_t | apply SG_f0 | apply SG_f1 | apply S_nil | apply T_n | apply W_seq | apply W_region | apply SO_x | apply SC_t | apply SC_f | apply W_block | apply W_ret | apply W_skip | apply W_exit | apply T_r | apply T_e | apply B_n | apply B_e) | (with_reducible apply B_ne; focus decide) | (with_reducible first | apply B_r | apply R_e | apply R_r | apply H_e | apply H_r | apply G_e | apply G_r) | (with_reducible apply SC_n) | ((with_reducible first | apply SC_d | apply SG_d | apply SG_n | apply SC_b | apply SG_b) <;> intro hc <;> try simp only [decide_eq_true_eq, decide_eq_false_iff_not, Classical.not_not, Bool.not_eq_true', Bool.not_eq_false'] at hc))
  (first | exact fincR | exact fincN)
theorem t18 {x : List Int} {nl cd : Bool} {M : MS} (hne : 0 < x.length) (hl : x.length ≤ 1000000) (hn : nl = true → x = []) : ∃ rest cd', ev pr 18 [.list 1 (intsA x) nl cd] M = some (.x (.ms M.length 0 (short x).length 1 cd') (M ++ [some (intsA (short x) ++ rest)]) []) := by
  have h1 := t35 x nl cd M hne hl hn
  obtain ⟨_, h3, D, rest, cd', hD, rfl⟩ := t34 x [] M.length false (M ++ [some (intsA x)]) (by simp) (by simp) hl
  have h4 := filter_own hD (Nat.le_refl M.length)
  have e2 : (M ++ [some (intsA x)]).set M.length (some (intsA (dd x x.length) ++ rest)) = M ++ [some (intsA (dd x x.length) ++ rest)] := by rw [set_app0]; rfl
  rw [e2] at h3
  refine ⟨rest, cd', ?_⟩
  unfold short
  clear e2 hD hn
  refine ev_fn' A18 ?_
  repeat' (first | ((with_reducible first | apply S_0 | apply S_q1 | apply S_g | apply S_c); exact sgc) | (with_reducible first | apply SO_q | apply SG_t | apply SG_f0 | apply SG_f1 | apply S_nil | apply T_n | apply W_seq | apply W_region | apply SO_x | apply SC_t | apply SC_f | apply W_block | apply W_ret | apply W_skip | apply W_exit | apply T_r | apply T_e | apply B_n | apply B_e) | (with_reducible apply B_ne; focus decide) | (with_reducible first | apply B_r | apply R_e | apply R_r | apply H_e | apply H_r | apply G_e | apply G_r) | (with_reducible apply SC_n) | ((with_reducible first | apply SC_d | apply SG_d | apply SG_n | apply SC_b | apply SG_b) <;> intro hc <;> try simp only [decide_eq_true_eq, decide_eq_false_iff_not, Classical.not_not, Bool.not_eq_true', Bool.not_eq_false'] at hc))
  (first | exact fincR | exact fincN)
theorem dd_runs (x : List Int) : ∀ i, i ≤ x.length → dd x i = (runs (x.take i)).map (·.1)
  | 0, _ => rfl
  | i + 1, h => by
    have ih := dd_runs x i (by omega)
    have hi : i < x.length := by omega
    rw [dd, ih, runs_s hi, get_of hi]
    rcases Nat.eq_zero_or_pos i with h0 | h0
    · rw [if_pos (.inl h0)]; subst h0; rfl
    · obtain ⟨h1, h2⟩ := runs_last h0 (by omega : i ≤ x.length)
      rw [get_of (by omega)]
      by_cases hc : ((runs (x.take i))[(runs (x.take i)).length - 1]).1 = x[i]
      · rw [rstep_e h1 hc, if_neg (fun h => h.elim (fun hh => by omega) fun hh => hh (hc.symm.trans h2)), List.append_nil, List.map_set]
        apply List.ext_getElem (by simp)
        intro j hj1 hj2
        rw [List.getElem_set]
        split
        · rename_i he; subst he; rw [List.getElem_map, hc]
        · rfl
      · rw [rstep_n h1 hc, if_pos (.inr fun hh => hc (h2.trans hh.symm)), List.map_append]; rfl
theorem short_runs (x : List Int) : short x = (runs x).map (·.1) := by
  have := dd_runs x x.length (Nat.le_refl _)
  rwa [List.take_length] at this
/-- 4.3: a path has a loop: a number in two of its runs. -/
def loops (x : List Int) : Prop := ¬ (short x).Nodup
noncomputable instance (x : List Int) : Decidable (loops x) := Classical.propDecidable _
theorem t26 {x : List Int} {nl cd : Bool} {M : MS} (hl : x.length ≤ 1000000) (hn : nl = true → x = []) : ev pr 26 [.list 1 (intsA x) nl cd] M = some (.q (.flat (.bool (decide (loops x))))) := by
  rcases Nat.eq_zero_or_pos x.length with h0 | h0
  · have h0' := List.eq_nil_of_length_eq_zero h0; subst h0'
    have h18 := fun M => t18e nl cd M
    have h34 := fun M => t34e nl true M
    have hL : ¬ loops [] := fun h => h (by simp [short, dd])
    have h43 : ∀ M, ev pr 43 [.list 1 [] nl true] M = some (.q (.flat undef)) := fun M => by
      rw [ev_ext (by rfl)]
      rfl
    simp only [hL, decide_false]
    show ev pr 26 [.list 1 [] nl cd] M = _
    refine ev_fn' A26 ?_
    repeat' (first | ((with_reducible first | apply S_0 | apply S_q1 | apply S_g | apply S_c); exact sgc) | (with_reducible first | apply SO_q | apply SG_t | apply SG_f0 | apply SG_f1 | apply S_nil | apply T_n | apply W_seq | apply W_region | apply SO_x | apply SC_t | apply SC_f | apply W_block | apply W_ret | apply W_skip | apply W_exit | apply T_r | apply T_e | apply B_n | apply B_e) | (with_reducible apply B_ne; focus decide) | (with_reducible first | apply B_r | apply R_e | apply R_r | apply H_e | apply H_r | apply G_e | apply G_r) | (with_reducible apply SC_n) | ((with_reducible first | apply SC_d | apply SG_d | apply SG_n | apply SC_b | apply SG_b) <;> intro hc <;> try simp only [decide_eq_true_eq, decide_eq_false_iff_not, Classical.not_not, Bool.not_eq_true', Bool.not_eq_false'] at hc))
    (first | exact fincR | exact fincN)
  · obtain ⟨r1, c1, h18⟩ := @t18 x nl cd M h0 hl hn
    have hs : (short x).length ≤ 1000000 := by have := dd_le x x.length; unfold short; omega
    have h43 := t43 (short x) r1 M.length c1 (M ++ [some (intsA (short x) ++ r1)]) (by simp) hs
    have e2 : (M ++ [some (intsA (short x) ++ r1)]).set M.length (some (intsA (sorted (short x)) ++ r1)) = M ++ [some (intsA (sorted (short x)) ++ r1)] := by rw [set_app0]; rfl
    rw [e2] at h43
    have hz : (sorted (short x)).length = (short x).length := sorted_len _
    obtain ⟨_, h34, D, r2, c2, hD, rfl⟩ := t34 (sorted (short x)) r1 M.length c1 (M ++ [some (intsA (sorted (short x)) ++ r1)]) (by simp) (by simp) (by omega)
    have e3 : (M ++ [some (intsA (sorted (short x)) ++ r1)]).set M.length (some (intsA (dd (sorted (short x)) (sorted (short x)).length) ++ r2)) = M ++ [some (intsA (dd (sorted (short x)) (sorted (short x)).length) ++ r2)] := by rw [set_app0]; rfl
    rw [e3] at h34
    obtain ⟨r3, c3, h18'⟩ := @t18 x nl cd (M ++ [some (intsA (dd (sorted (short x)) (sorted (short x)).length) ++ r2)]) h0 hl hn
    have h4 := filter_own hD (Nat.le_refl M.length)
    have h5 := dd_sorted (sorted_pw (short x))
    have h6 : (sorted (short x)).Nodup ↔ (short x).Nodup := (sorted_perm (short x)).nodup_iff
    have h7 : List.filter (fun x => decide (x < M.length)) [M.length] = [] := by simp
    have h8 := dd_le (sorted (short x)) (sorted (short x)).length
    rw [hz] at h34 h18' h5 h8
    have hL : loops x ↔ (dd (sorted (short x)) (short x).length).length < (short x).length := by
      unfold loops; rw [← h6, ← h5]; omega
    simp only [hL]
    clear e2 e3 hD hz h5 h6 hL
    refine ev_fn' A26 ?_
    repeat' (first | ((with_reducible first | apply S_0 | apply S_q1 | apply S_g | apply S_c); exact sgc) | (with_reducible first | apply SO_q | apply SG_t | apply SG_f0 | apply SG_f1 | apply S_nil | apply T_n | apply W_seq | apply W_region | apply SO_x | apply SC_t | apply SC_f | apply W_block | apply W_ret | apply W_skip | apply W_exit | apply T_r | apply T_e | apply B_n | apply B_e) | (with_reducible apply B_ne; focus decide) | (with_reducible first | apply B_r | apply R_e | apply R_r | apply H_e | apply H_r | apply G_e | apply G_r) | (with_reducible apply SC_n) | ((with_reducible first | apply SC_d | apply SG_d | apply SG_n | apply SC_b | apply SG_b) <;> intro hc <;> try simp only [decide_eq_true_eq, decide_eq_false_iff_not, Classical.not_not, Bool.not_eq_true', Bool.not_eq_false'] at hc))
    (refine ⟨by first | exact .inr rfl | exact .inl rfl, ?_⟩; simp (disch := first | assumption | decide | omega | exact List.getElem_mem _ | exact allI_ints _ | exact allI_rns _ | (simp only [List.length_take, List.length_drop, List.length_append, List.length_cons, List.length_nil, List.length_replicate, List.length_map, ints_len, rns_len]; omega)) only [resA, rvA, tupA, fin, frzV, frzTup, frzA, frz, isI, isI.all, Option.bind_some, go_sem, if_pos, if_neg, Nat.reduceBEq, Nat.reduceEqDiff, ↓reduceIte, Nat.reduceSub, Nat.reduceAdd, Int.reduceToNat, reduceCtorEq, Nat.reduceLeDiff, Nat.reduceLT, Nat.reduceMul, Nat.reduceDiv, Int.reduceLT, Int.reduceLE, Int.reduceEq, Int.reduceNe, Int.reduceAdd, Int.reduceSub, Int.reduceNeg, Int.reduceGT, Int.reduceGE, Int.reduceBEq, Int.reduceBNe, Int.reduceMul, *])
    simp only [Int.ofNat_lt]
theorem t27 {x : List Int} {nx cx : Bool} {M : MS} (hx : x.length ≤ 1000000) : ev pr 27 [.list 1 (intsA x) nx cx] M = some (.q (.flat (.bool (decide (loops x))))) := by
  have h17 := fun M => @t17 x nx cx M hx
  have hle := (runs_ok x x.length (Nat.le_refl _)).1
  rw [List.take_length] at hle
  have hN : ∀ R, runs x = R → (loops x ↔ ∃ i j, ∃ (hj : j < i) (hi : i < R.length), (R[i]).1 = (R[j]).1) := by
    rintro _ rfl
    unfold loops
    rw [short_runs, List.nodup_iff_pairwise_ne, List.pairwise_iff_getElem]
    constructor
    · intro h
      refine Classical.byContradiction fun hh => h fun i j hi hj hij he => hh ⟨j, i, hij, by simpa using hj, ?_⟩
      simpa using he.symm
    · rintro ⟨i, j, hj, hi, he⟩ h
      exact h j i (by simpa using Nat.lt_trans hj hi) (by simpa using hi) hj (by simpa using he.symm)
  generalize hR : runs x = R at h17 hle
  replace hN := hN R hR
  clear hR
  unfold lst at h17
  generalize (rnsA R).isEmpty = q at h17
  refine ev_fn' A27 ?_
  repeat' (first | ((with_reducible first | apply S_0 | apply S_q1 | apply S_g | apply S_c); exact sgc) | (with_reducible first | apply SO_q | apply SG_t | apply SG_f0 | apply SG_f1 | apply S_nil | apply T_n | apply W_seq | apply W_region | apply SO_x | apply SC_t | apply SC_f | apply W_block | apply W_ret | apply W_skip | apply W_exit | apply T_r | apply T_e | apply B_n | apply B_e) | (with_reducible apply B_ne; focus decide) | (with_reducible first | apply B_r | apply R_e | apply R_r | apply H_e | apply H_r | apply G_e | apply G_r) | (with_reducible apply SC_n) | ((with_reducible first | apply SC_d | apply SG_d | apply SG_n | apply SC_b | apply SG_b) <;> intro hc <;> try simp only [decide_eq_true_eq, decide_eq_false_iff_not, Classical.not_not, Bool.not_eq_true', Bool.not_eq_false'] at hc))
  refine W_rng 4 0 R.length (fun i _ => ∀ a, a < i → ∀ b, b < a → ∀ h : a < R.length, ∀ h' : b < R.length, ¬ (R[a]).1 = (R[b]).1) (by simp only [asg, asgO, List.append_nil, List.nil_append, List.cons_append]; rfl) (by exact svc) (by omega) (fun a ha => by omega) ?_
  rintro i e _ hi hk e4 hl
  have k3 : e 3 = .list 2 (rnsA R) q q := by rw [hk 3 rfl]; exact svc
  clear hk
  have hN' : Hid (loops x ↔ ∃ i j, ∃ (hj : j < i) (hi : i < R.length), (R[i]).1 = (R[j]).1) := hN
  clear hN
  rcases Nat.lt_or_ge i R.length with hlt | hlt
  · have hlt' : (i : Int) < R.length := by omega
    repeat' (first | ((with_reducible first | apply S_0 | apply S_q1 | apply S_g | apply S_c); exact sgc) | (with_reducible first | apply SO_q | apply SG_t | apply SG_f0 | apply SG_f1 | apply S_nil | apply T_n | apply W_seq | apply W_region | apply SO_x | apply SC_t | apply SC_f | apply W_block | apply W_ret | apply W_skip | apply W_exit | apply T_r | apply T_e | apply B_n | apply B_e) | (with_reducible apply B_ne; focus decide) | (with_reducible first | apply B_r | apply R_e | apply R_r | apply H_e | apply H_r | apply G_e | apply G_r) | (with_reducible apply SC_n) | ((with_reducible first | apply SC_d | apply SG_d | apply SG_n | apply SC_b | apply SG_b) <;> intro hc <;> try simp only [decide_eq_true_eq, decide_eq_false_iff_not, Classical.not_not, Bool.not_eq_true', Bool.not_eq_false'] at hc))
    refine W_rng 5 0 i (fun j _ => ∀ b, b < j → ∀ h' : b < R.length, ¬ (R[i]).1 = (R[b]).1) (by simp only [asg, asgO, List.append_nil, List.nil_append, List.cons_append]; rfl) (by exact svc) (by omega) (fun a ha => by omega) ?_
    rintro j e' _ hj hk' e5 hl'
    have k4 : e' 4 = .flat (.int .i64 i) := by rw [hk' 4 rfl]; exact svc
    have k3' : e' 3 = .list 2 (rnsA R) q q := by rw [hk' 3 rfl]; exact svc
    clear hk'
    rcases Nat.lt_or_ge j i with hjl | hjl
    · have hjl' : (j : Int) < i := by omega
      repeat' (first | ((with_reducible first | apply S_0 | apply S_q1 | apply S_g | apply S_c); exact sgc) | (with_reducible first | apply SO_q | apply SG_t | apply SG_f0 | apply SG_f1 | apply S_nil | apply T_n | apply W_seq | apply W_region | apply SO_x | apply SC_t | apply SC_f | apply W_block | apply W_ret | apply W_skip | apply W_exit | apply T_r | apply T_e | apply B_n | apply B_e) | (with_reducible apply B_ne; focus decide) | (with_reducible first | apply B_r | apply R_e | apply R_r | apply H_e | apply H_r | apply G_e | apply G_r) | (with_reducible apply SC_n) | ((with_reducible first | apply SC_d | apply SG_d | apply SG_n | apply SC_b | apply SG_b) <;> intro hc <;> try simp only [decide_eq_true_eq, decide_eq_false_iff_not, Classical.not_not, Bool.not_eq_true', Bool.not_eq_false'] at hc))
      · have hc' : Hid ((R[i]).1 = (R[j]).1) := hc
        clear hc
        have hN2 : loops x := by
          rw [show (loops x ↔ _) from hN']
          exact ⟨i, j, hjl, hlt, hc'⟩
        (first | exact fincR | exact fincN)
      · exact H_n (by exact svc) (by omega) (ext1 hl' fun _ => hc)
    · have hjl' : ¬ (j : Int) < i := by omega
      obtain rfl : j = i := by omega
      repeat' (first | ((with_reducible first | apply S_0 | apply S_q1 | apply S_g | apply S_c); exact sgc) | (with_reducible first | apply SO_q | apply SG_t | apply SG_f0 | apply SG_f1 | apply S_nil | apply T_n | apply W_seq | apply W_region | apply SO_x | apply SC_t | apply SC_f | apply W_block | apply W_ret | apply W_skip | apply W_exit | apply T_r | apply T_e | apply B_n | apply B_e) | (with_reducible apply B_ne; focus decide) | (with_reducible first | apply B_r | apply R_e | apply R_r | apply H_e | apply H_r | apply G_e | apply G_r) | (with_reducible apply SC_n) | ((with_reducible first | apply SC_d | apply SG_d | apply SG_n | apply SC_b | apply SG_b) <;> intro hc <;> try simp only [decide_eq_true_eq, decide_eq_false_iff_not, Classical.not_not, Bool.not_eq_true', Bool.not_eq_false'] at hc))
      exact H_n (by exact svc) hlt (ext1 hl fun b hb _ => hl' b hb)
  · have hlt' : ¬ (i : Int) < R.length := by omega
    obtain rfl : i = R.length := by omega
    have hN2 : ¬ loops x := by
      rw [show (loops x ↔ _) from hN']
      rintro ⟨a, b, hb, ha, he⟩
      exact hl a ha b hb ha (by omega) he
    repeat' (first | ((with_reducible first | apply S_0 | apply S_q1 | apply S_g | apply S_c); exact sgc) | (with_reducible first | apply SO_q | apply SG_t | apply SG_f0 | apply SG_f1 | apply S_nil | apply T_n | apply W_seq | apply W_region | apply SO_x | apply SC_t | apply SC_f | apply W_block | apply W_ret | apply W_skip | apply W_exit | apply T_r | apply T_e | apply B_n | apply B_e) | (with_reducible apply B_ne; focus decide) | (with_reducible first | apply B_r | apply R_e | apply R_r | apply H_e | apply H_r | apply G_e | apply G_r) | (with_reducible apply SC_n) | ((with_reducible first | apply SC_d | apply SG_d | apply SG_n | apply SC_b | apply SG_b) <;> intro hc <;> try simp only [decide_eq_true_eq, decide_eq_false_iff_not, Classical.not_not, Bool.not_eq_true', Bool.not_eq_false'] at hc))
    (first | exact fincR | exact fincN)
end Go.Proofs.Ytfpaegklkdfmmaa.Av
