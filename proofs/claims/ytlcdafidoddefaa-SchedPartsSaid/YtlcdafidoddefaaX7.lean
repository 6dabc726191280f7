/- What the small functions come to: lists that are the same, paths, what is gone through. -/
import Derived.Test.YtlcdafidoddefaaX6
namespace Go.Proofs.Ytlcdafidoddefaa.Av
open Go.RowKit
set_option linter.unusedSimpArgs false
set_option linter.unusedVariables false
set_option maxHeartbeats 10000000
theorem eq_of_takes {α : Type} {x y : List α} {i : Nat} (h : x.take i = y.take i) (hi : x.length ≤ i) (hy : y.length ≤ i) : x = y := by
  rwa [List.take_of_length_le hi, List.take_of_length_le hy] at h
theorem takes_ext {α : Type} {x y : List α} {i : Nat} (h : x.take i = y.take i) (hx : i < x.length) (hy : i < y.length) (he : x[i] = y[i]) : x.take (i + 1) = y.take (i + 1) := by
  rw [List.take_succ_eq_append_getElem hx, List.take_succ_eq_append_getElem hy, h, he]
theorem t16 (x y : List Int) (nx cx ny cy : Bool) (M : MS) (hx : x.length ≤ 9223372036854775807) : ev pr 16 [.list 1 (intsA x) nx cx, .list 1 (intsA y) ny cy] M = some (.q (.flat (.bool (decide (x = y))))) := by
  refine ev_fn' A16 ?_
  repeat' (first | ((with_reducible first | apply S_0 | apply S_q1 | apply S_g | apply S_c); exact sgc) | refine Stp.h ?_ | (with_reducible apply B_ne; focus decide) | ((with_reducible first | apply SC_d | apply SG_d | apply SG_n | apply SC_b | apply SG_b) <;> intro hc <;> try simp only [dq1, dq2, dq3, dq4, dq5] at hc))
  · (refine ⟨by first | exact .inr rfl | exact .inl rfl, ?_⟩; simp (disch := first | assumption | decide | omega | exact Pth.le _ | exact Rks.le _ | exact List.getElem_mem _ | exact allI_ints _ | exact allI_rks _ | exact allI_pths _ | exact Pth.nil _ | exact Rks.nil _ | (intro hh; simp only [Pth.nil _ hh, List.take_nil, List.drop_nil]; done) | (intro hh; simp only [Rks.nil _ hh, List.take_nil, List.drop_nil]; done) | (simp only [List.length_take, List.length_drop, List.length_append, List.length_cons, List.length_nil, List.length_replicate, List.length_map, ints_len]; omega)) only [resA, rvA, tupA, fin, frzV, frzTup, frzA, frz, isI, isI.all, Option.bind_some, go_sem, if_pos, if_neg, Nat.reduceBEq, Nat.reduceEqDiff, ↓reduceIte, Nat.reduceSub, Nat.reduceAdd, Int.reduceToNat, reduceCtorEq, Nat.reduceLeDiff, Nat.reduceLT, Nat.reduceMul, Nat.reduceDiv, Int.reduceLT, Int.reduceLE, Int.reduceEq, Int.reduceNe, Int.reduceAdd, Int.reduceSub, Int.reduceNeg, Int.reduceGT, Int.reduceGE, Int.reduceBEq, Int.reduceBNe, Int.reduceMul, *])
    have : ¬ x = y := by rintro rfl; exact hc rfl
    simp only [this, decide_false]
  have hn : x.length = y.length := by omega
  clear hc
  refine W_rng 5 0 x.length (fun i _ => x.take i = y.take i) (by simp only [asg, asgO, List.append_nil, List.nil_append, List.cons_append]; rfl) (by exact svc) (by omega) (by simp) ?_
  rintro i e _ hi hk e5 hl
  repeat' (first | ((with_reducible first | apply S_0 | apply S_q1 | apply S_g | apply S_c); exact sgc) | refine Stp.h ?_ | (with_reducible apply B_ne; focus decide) | ((with_reducible first | apply SC_d | apply SG_d | apply SG_n | apply SC_b | apply SG_b) <;> intro hc <;> try simp only [dq1, dq2, dq3, dq4, dq5] at hc))
  · (refine ⟨by first | exact .inr rfl | exact .inl rfl, ?_⟩; simp (disch := first | assumption | decide | omega | exact Pth.le _ | exact Rks.le _ | exact List.getElem_mem _ | exact allI_ints _ | exact allI_rks _ | exact allI_pths _ | exact Pth.nil _ | exact Rks.nil _ | (intro hh; simp only [Pth.nil _ hh, List.take_nil, List.drop_nil]; done) | (intro hh; simp only [Rks.nil _ hh, List.take_nil, List.drop_nil]; done) | (simp only [List.length_take, List.length_drop, List.length_append, List.length_cons, List.length_nil, List.length_replicate, List.length_map, ints_len]; omega)) only [resA, rvA, tupA, fin, frzV, frzTup, frzA, frz, isI, isI.all, Option.bind_some, go_sem, if_pos, if_neg, Nat.reduceBEq, Nat.reduceEqDiff, ↓reduceIte, Nat.reduceSub, Nat.reduceAdd, Int.reduceToNat, reduceCtorEq, Nat.reduceLeDiff, Nat.reduceLT, Nat.reduceMul, Nat.reduceDiv, Int.reduceLT, Int.reduceLE, Int.reduceEq, Int.reduceNe, Int.reduceAdd, Int.reduceSub, Int.reduceNeg, Int.reduceGT, Int.reduceGE, Int.reduceBEq, Int.reduceBNe, Int.reduceMul, *])
    have h1 : i < x.length := by omega
    have : ¬ x = y := by
      rintro rfl
      exact hc rfl
    simp only [this, decide_false]
  · refine H_n (by exact svc) (by omega) (takes_ext hl (by omega) (by omega) ?_)
    omega
  · (refine ⟨by first | exact .inr rfl | exact .inl rfl, ?_⟩; simp (disch := first | assumption | decide | omega | exact Pth.le _ | exact Rks.le _ | exact List.getElem_mem _ | exact allI_ints _ | exact allI_rks _ | exact allI_pths _ | exact Pth.nil _ | exact Rks.nil _ | (intro hh; simp only [Pth.nil _ hh, List.take_nil, List.drop_nil]; done) | (intro hh; simp only [Rks.nil _ hh, List.take_nil, List.drop_nil]; done) | (simp only [List.length_take, List.length_drop, List.length_append, List.length_cons, List.length_nil, List.length_replicate, List.length_map, ints_len]; omega)) only [resA, rvA, tupA, fin, frzV, frzTup, frzA, frz, isI, isI.all, Option.bind_some, go_sem, if_pos, if_neg, Nat.reduceBEq, Nat.reduceEqDiff, ↓reduceIte, Nat.reduceSub, Nat.reduceAdd, Int.reduceToNat, reduceCtorEq, Nat.reduceLeDiff, Nat.reduceLT, Nat.reduceMul, Nat.reduceDiv, Int.reduceLT, Int.reduceLE, Int.reduceEq, Int.reduceNe, Int.reduceAdd, Int.reduceSub, Int.reduceNeg, Int.reduceGT, Int.reduceGE, Int.reduceBEq, Int.reduceBNe, Int.reduceMul, *])
    have : x = y := eq_of_takes hl (by omega) (by omega)
    simp only [this, decide_true]
theorem t49 (x y : List Int) (nx cx ny cy : Bool) (M : MS) (hx : x.length ≤ 9223372036854775807) : ev pr 49 [.list 1 (intsA x) nx cx, .list 1 (intsA y) ny cy] M = some (.q (.flat (.bool (decide (x = y))))) := by
  refine ev_fn' A49 ?_
  repeat' (first | ((with_reducible first | apply S_0 | apply S_q1 | apply S_g | apply S_c); exact sgc) | refine Stp.h ?_ | (with_reducible apply B_ne; focus decide) | ((with_reducible first | apply SC_d | apply SG_d | apply SG_n | apply SC_b | apply SG_b) <;> intro hc <;> try simp only [dq1, dq2, dq3, dq4, dq5] at hc))
  · (refine ⟨by first | exact .inr rfl | exact .inl rfl, ?_⟩; simp (disch := first | assumption | decide | omega | exact Pth.le _ | exact Rks.le _ | exact List.getElem_mem _ | exact allI_ints _ | exact allI_rks _ | exact allI_pths _ | exact Pth.nil _ | exact Rks.nil _ | (intro hh; simp only [Pth.nil _ hh, List.take_nil, List.drop_nil]; done) | (intro hh; simp only [Rks.nil _ hh, List.take_nil, List.drop_nil]; done) | (simp only [List.length_take, List.length_drop, List.length_append, List.length_cons, List.length_nil, List.length_replicate, List.length_map, ints_len]; omega)) only [resA, rvA, tupA, fin, frzV, frzTup, frzA, frz, isI, isI.all, Option.bind_some, go_sem, if_pos, if_neg, Nat.reduceBEq, Nat.reduceEqDiff, ↓reduceIte, Nat.reduceSub, Nat.reduceAdd, Int.reduceToNat, reduceCtorEq, Nat.reduceLeDiff, Nat.reduceLT, Nat.reduceMul, Nat.reduceDiv, Int.reduceLT, Int.reduceLE, Int.reduceEq, Int.reduceNe, Int.reduceAdd, Int.reduceSub, Int.reduceNeg, Int.reduceGT, Int.reduceGE, Int.reduceBEq, Int.reduceBNe, Int.reduceMul, *])
    have : ¬ x = y := by rintro rfl; exact hc rfl
    simp only [this, decide_false]
  have hn : x.length = y.length := by omega
  clear hc
  refine W_rng 13 0 x.length (fun i _ => x.take i = y.take i) (by simp only [asg, asgO, List.append_nil, List.nil_append, List.cons_append]; rfl) (by exact svc) (by omega) (by simp) ?_
  rintro i e _ hi hk e5 hl
  repeat' (first | ((with_reducible first | apply S_0 | apply S_q1 | apply S_g | apply S_c); exact sgc) | refine Stp.h ?_ | (with_reducible apply B_ne; focus decide) | ((with_reducible first | apply SC_d | apply SG_d | apply SG_n | apply SC_b | apply SG_b) <;> intro hc <;> try simp only [dq1, dq2, dq3, dq4, dq5] at hc))
  · (refine ⟨by first | exact .inr rfl | exact .inl rfl, ?_⟩; simp (disch := first | assumption | decide | omega | exact Pth.le _ | exact Rks.le _ | exact List.getElem_mem _ | exact allI_ints _ | exact allI_rks _ | exact allI_pths _ | exact Pth.nil _ | exact Rks.nil _ | (intro hh; simp only [Pth.nil _ hh, List.take_nil, List.drop_nil]; done) | (intro hh; simp only [Rks.nil _ hh, List.take_nil, List.drop_nil]; done) | (simp only [List.length_take, List.length_drop, List.length_append, List.length_cons, List.length_nil, List.length_replicate, List.length_map, ints_len]; omega)) only [resA, rvA, tupA, fin, frzV, frzTup, frzA, frz, isI, isI.all, Option.bind_some, go_sem, if_pos, if_neg, Nat.reduceBEq, Nat.reduceEqDiff, ↓reduceIte, Nat.reduceSub, Nat.reduceAdd, Int.reduceToNat, reduceCtorEq, Nat.reduceLeDiff, Nat.reduceLT, Nat.reduceMul, Nat.reduceDiv, Int.reduceLT, Int.reduceLE, Int.reduceEq, Int.reduceNe, Int.reduceAdd, Int.reduceSub, Int.reduceNeg, Int.reduceGT, Int.reduceGE, Int.reduceBEq, Int.reduceBNe, Int.reduceMul, *])
    have : ¬ x = y := by
      rintro rfl
      exact hc rfl
    simp only [this, decide_false]
  · refine H_n (by exact svc) (by omega) (takes_ext hl (by omega) (by omega) ?_)
    omega
  · (refine ⟨by first | exact .inr rfl | exact .inl rfl, ?_⟩; simp (disch := first | assumption | decide | omega | exact Pth.le _ | exact Rks.le _ | exact List.getElem_mem _ | exact allI_ints _ | exact allI_rks _ | exact allI_pths _ | exact Pth.nil _ | exact Rks.nil _ | (intro hh; simp only [Pth.nil _ hh, List.take_nil, List.drop_nil]; done) | (intro hh; simp only [Rks.nil _ hh, List.take_nil, List.drop_nil]; done) | (simp only [List.length_take, List.length_drop, List.length_append, List.length_cons, List.length_nil, List.length_replicate, List.length_map, ints_len]; omega)) only [resA, rvA, tupA, fin, frzV, frzTup, frzA, frz, isI, isI.all, Option.bind_some, go_sem, if_pos, if_neg, Nat.reduceBEq, Nat.reduceEqDiff, ↓reduceIte, Nat.reduceSub, Nat.reduceAdd, Int.reduceToNat, reduceCtorEq, Nat.reduceLeDiff, Nat.reduceLT, Nat.reduceMul, Nat.reduceDiv, Int.reduceLT, Int.reduceLE, Int.reduceEq, Int.reduceNe, Int.reduceAdd, Int.reduceSub, Int.reduceNeg, Int.reduceGT, Int.reduceGE, Int.reduceBEq, Int.reduceBNe, Int.reduceMul, *])
    have : x = y := eq_of_takes hl (by omega) (by omega)
    simp only [this, decide_true]
theorem t65 (x : List Int) (v : Int) (nx cx : Bool) (M : MS) (hx : x.length ≤ 9223372036854775807) : ev pr 65 [.list 1 (intsA x) nx cx, .flat (.int .i64 v)] M = some (.q (.flat (.bool (decide (v ∈ x))))) := by
  refine ev_fn' A65 ?_
  repeat' (first | ((with_reducible first | apply S_0 | apply S_q1 | apply S_g | apply S_c); exact sgc) | refine Stp.h ?_ | (with_reducible apply B_ne; focus decide) | ((with_reducible first | apply SC_d | apply SG_d | apply SG_n | apply SC_b | apply SG_b) <;> intro hc <;> try simp only [dq1, dq2, dq3, dq4, dq5] at hc))
  refine W_rng 5 0 x.length (fun i _ => ∀ j, j < i → ∀ h : j < x.length, ¬ x[j] = v) (by simp only [asg, asgO, List.append_nil, List.nil_append, List.cons_append]; rfl) (by exact svc) (by omega) (fun j hj => by omega) ?_
  rintro i e _ hi hk e5 hl
  repeat' (first | ((with_reducible first | apply S_0 | apply S_q1 | apply S_g | apply S_c); exact sgc) | refine Stp.h ?_ | (with_reducible apply B_ne; focus decide) | ((with_reducible first | apply SC_d | apply SG_d | apply SG_n | apply SC_b | apply SG_b) <;> intro hc <;> try simp only [dq1, dq2, dq3, dq4, dq5] at hc))
  · (refine ⟨by first | exact .inr rfl | exact .inl rfl, ?_⟩; simp (disch := first | assumption | decide | omega | exact Pth.le _ | exact Rks.le _ | exact List.getElem_mem _ | exact allI_ints _ | exact allI_rks _ | exact allI_pths _ | exact Pth.nil _ | exact Rks.nil _ | (intro hh; simp only [Pth.nil _ hh, List.take_nil, List.drop_nil]; done) | (intro hh; simp only [Rks.nil _ hh, List.take_nil, List.drop_nil]; done) | (simp only [List.length_take, List.length_drop, List.length_append, List.length_cons, List.length_nil, List.length_replicate, List.length_map, ints_len]; omega)) only [resA, rvA, tupA, fin, frzV, frzTup, frzA, frz, isI, isI.all, Option.bind_some, go_sem, if_pos, if_neg, Nat.reduceBEq, Nat.reduceEqDiff, ↓reduceIte, Nat.reduceSub, Nat.reduceAdd, Int.reduceToNat, reduceCtorEq, Nat.reduceLeDiff, Nat.reduceLT, Nat.reduceMul, Nat.reduceDiv, Int.reduceLT, Int.reduceLE, Int.reduceEq, Int.reduceNe, Int.reduceAdd, Int.reduceSub, Int.reduceNeg, Int.reduceGT, Int.reduceGE, Int.reduceBEq, Int.reduceBNe, Int.reduceMul, *])
    have : v ∈ x := by rw [← hc]; exact List.getElem_mem _
    simp only [this, decide_true]
  · exact H_n (by exact svc) (by omega) (ext1 hl fun _ => hc)
  · (refine ⟨by first | exact .inr rfl | exact .inl rfl, ?_⟩; simp (disch := first | assumption | decide | omega | exact Pth.le _ | exact Rks.le _ | exact List.getElem_mem _ | exact allI_ints _ | exact allI_rks _ | exact allI_pths _ | exact Pth.nil _ | exact Rks.nil _ | (intro hh; simp only [Pth.nil _ hh, List.take_nil, List.drop_nil]; done) | (intro hh; simp only [Rks.nil _ hh, List.take_nil, List.drop_nil]; done) | (simp only [List.length_take, List.length_drop, List.length_append, List.length_cons, List.length_nil, List.length_replicate, List.length_map, ints_len]; omega)) only [resA, rvA, tupA, fin, frzV, frzTup, frzA, frz, isI, isI.all, Option.bind_some, go_sem, if_pos, if_neg, Nat.reduceBEq, Nat.reduceEqDiff, ↓reduceIte, Nat.reduceSub, Nat.reduceAdd, Int.reduceToNat, reduceCtorEq, Nat.reduceLeDiff, Nat.reduceLT, Nat.reduceMul, Nat.reduceDiv, Int.reduceLT, Int.reduceLE, Int.reduceEq, Int.reduceNe, Int.reduceAdd, Int.reduceSub, Int.reduceNeg, Int.reduceGT, Int.reduceGE, Int.reduceBEq, Int.reduceBNe, Int.reduceMul, *])
    have : ¬ v ∈ x := fun hm => all_of (Q := fun a => ¬ a = v) (by omega) hl v hm rfl
    simp only [this, decide_false]
attribute [go_sem] t16 t49 t65
end Go.Proofs.Ytlcdafidoddefaa.Av
namespace Go.Proofs.Ytlcdafidoddefaa.Av
open Go.RowKit
set_option linter.unusedSimpArgs false
set_option linter.unusedVariables false
set_option maxHeartbeats 10000000
theorem t17 (n : Int) (x : List Rks) (nx cx : Bool) (M : MS) (hx : x.length ≤ 9223372036854775807) : ev pr 17 [.agg [.flat (.int .i64 n), .list 1 (x.map Rks.av) nx cx]] M = some (.q (.flat (.bool (decide (SmallX x))))) := by
  refine ev_fn' A17 ?_
  repeat' (first | ((with_reducible first | apply S_0 | apply S_q1 | apply S_g | apply S_c); exact sgc) | refine Stp.h ?_ | (with_reducible apply B_ne; focus decide) | ((with_reducible first | apply SC_d | apply SG_d | apply SG_n | apply SC_b | apply SG_b) <;> intro hc <;> try simp only [dq1, dq2, dq3, dq4, dq5] at hc))
  · (refine ⟨by first | exact .inr rfl | exact .inl rfl, ?_⟩; simp (disch := first | assumption | decide | omega | exact Pth.le _ | exact Rks.le _ | exact List.getElem_mem _ | exact allI_ints _ | exact allI_rks _ | exact allI_pths _ | exact Pth.nil _ | exact Rks.nil _ | (intro hh; simp only [Pth.nil _ hh, List.take_nil, List.drop_nil]; done) | (intro hh; simp only [Rks.nil _ hh, List.take_nil, List.drop_nil]; done) | (simp only [List.length_take, List.length_drop, List.length_append, List.length_cons, List.length_nil, List.length_replicate, List.length_map, ints_len]; omega)) only [resA, rvA, tupA, fin, frzV, frzTup, frzA, frz, isI, isI.all, Option.bind_some, go_sem, if_pos, if_neg, Nat.reduceBEq, Nat.reduceEqDiff, ↓reduceIte, Nat.reduceSub, Nat.reduceAdd, Int.reduceToNat, reduceCtorEq, Nat.reduceLeDiff, Nat.reduceLT, Nat.reduceMul, Nat.reduceDiv, Int.reduceLT, Int.reduceLE, Int.reduceEq, Int.reduceNe, Int.reduceAdd, Int.reduceSub, Int.reduceNeg, Int.reduceGT, Int.reduceGE, Int.reduceBEq, Int.reduceBNe, Int.reduceMul, *])
    have : ¬ SmallX x := fun h => by have := h.1; omega
    simp only [this, decide_false]
  refine W_rng 3 0 x.length (fun i _ => ∀ j, j < i → ∀ h : j < x.length, x[j].l.length ≤ 70 ∧ ∀ q ∈ x[j].l, q.p.l.length ≤ 20) (by simp only [asg, asgO, List.append_nil, List.nil_append, List.cons_append]; rfl) (by exact svc) (by omega) (fun j hj => by omega) ?_
  rintro i e _ hi hk e3 hl
  repeat' (first | ((with_reducible first | apply S_0 | apply S_q1 | apply S_g | apply S_c); exact sgc) | refine Stp.h ?_ | (with_reducible apply B_ne; focus decide) | ((with_reducible first | apply SC_d | apply SG_d | apply SG_n | apply SC_b | apply SG_b) <;> intro hc <;> try simp only [dq1, dq2, dq3, dq4, dq5] at hc))
  · (refine ⟨by first | exact .inr rfl | exact .inl rfl, ?_⟩; simp (disch := first | assumption | decide | omega | exact Pth.le _ | exact Rks.le _ | exact List.getElem_mem _ | exact allI_ints _ | exact allI_rks _ | exact allI_pths _ | exact Pth.nil _ | exact Rks.nil _ | (intro hh; simp only [Pth.nil _ hh, List.take_nil, List.drop_nil]; done) | (intro hh; simp only [Rks.nil _ hh, List.take_nil, List.drop_nil]; done) | (simp only [List.length_take, List.length_drop, List.length_append, List.length_cons, List.length_nil, List.length_replicate, List.length_map, ints_len]; omega)) only [resA, rvA, tupA, fin, frzV, frzTup, frzA, frz, isI, isI.all, Option.bind_some, go_sem, if_pos, if_neg, Nat.reduceBEq, Nat.reduceEqDiff, ↓reduceIte, Nat.reduceSub, Nat.reduceAdd, Int.reduceToNat, reduceCtorEq, Nat.reduceLeDiff, Nat.reduceLT, Nat.reduceMul, Nat.reduceDiv, Int.reduceLT, Int.reduceLE, Int.reduceEq, Int.reduceNe, Int.reduceAdd, Int.reduceSub, Int.reduceNeg, Int.reduceGT, Int.reduceGE, Int.reduceBEq, Int.reduceBNe, Int.reduceMul, *])
    have : ¬ SmallX x := fun h => by have := (h.2 _ (List.getElem_mem (show i < x.length by omega))).1; omega
    simp only [this, decide_false]
  · have h1 : i < x.length := by omega
    refine W_rng 4 0 x[i].l.length (fun k _ => ∀ j, j < k → ∀ h : j < x[i].l.length, x[i].l[j].p.l.length ≤ 20) (by simp only [asg, asgO, List.append_nil, List.nil_append, List.cons_append]; rfl) (by exact svc) (by omega) (fun j hj => by omega) ?_
    rintro k e' _ hk1 hk2 e4 hl2
    have e3' : e' 3 = .flat (.int .i64 i) := by rw [hk2 3 rfl]; exact svc
    repeat' (first | ((with_reducible first | apply S_0 | apply S_q1 | apply S_g | apply S_c); exact sgc) | refine Stp.h ?_ | (with_reducible apply B_ne; focus decide) | ((with_reducible first | apply SC_d | apply SG_d | apply SG_n | apply SC_b | apply SG_b) <;> intro hc <;> try simp only [dq1, dq2, dq3, dq4, dq5] at hc))
    · (refine ⟨by first | exact .inr rfl | exact .inl rfl, ?_⟩; simp (disch := first | assumption | decide | omega | exact Pth.le _ | exact Rks.le _ | exact List.getElem_mem _ | exact allI_ints _ | exact allI_rks _ | exact allI_pths _ | exact Pth.nil _ | exact Rks.nil _ | (intro hh; simp only [Pth.nil _ hh, List.take_nil, List.drop_nil]; done) | (intro hh; simp only [Rks.nil _ hh, List.take_nil, List.drop_nil]; done) | (simp only [List.length_take, List.length_drop, List.length_append, List.length_cons, List.length_nil, List.length_replicate, List.length_map, ints_len]; omega)) only [resA, rvA, tupA, fin, frzV, frzTup, frzA, frz, isI, isI.all, Option.bind_some, go_sem, if_pos, if_neg, Nat.reduceBEq, Nat.reduceEqDiff, ↓reduceIte, Nat.reduceSub, Nat.reduceAdd, Int.reduceToNat, reduceCtorEq, Nat.reduceLeDiff, Nat.reduceLT, Nat.reduceMul, Nat.reduceDiv, Int.reduceLT, Int.reduceLE, Int.reduceEq, Int.reduceNe, Int.reduceAdd, Int.reduceSub, Int.reduceNeg, Int.reduceGT, Int.reduceGE, Int.reduceBEq, Int.reduceBNe, Int.reduceMul, *])
      have : ¬ SmallX x := fun h => by have := (h.2 _ (List.getElem_mem h1)).2 _ (List.getElem_mem (show k < x[i].l.length by omega)); omega
      simp only [this, decide_false]
    · exact H_n (by exact svc) (by omega) (ext1 hl2 fun _ => by omega)
    · exact H_n (by exact svc) (by omega) (ext1 hl fun _ => ⟨by omega, all_of (Q := fun a : Rnk => a.p.l.length ≤ 20) (by omega) hl2⟩)
  · (refine ⟨by first | exact .inr rfl | exact .inl rfl, ?_⟩; simp (disch := first | assumption | decide | omega | exact Pth.le _ | exact Rks.le _ | exact List.getElem_mem _ | exact allI_ints _ | exact allI_rks _ | exact allI_pths _ | exact Pth.nil _ | exact Rks.nil _ | (intro hh; simp only [Pth.nil _ hh, List.take_nil, List.drop_nil]; done) | (intro hh; simp only [Rks.nil _ hh, List.take_nil, List.drop_nil]; done) | (simp only [List.length_take, List.length_drop, List.length_append, List.length_cons, List.length_nil, List.length_replicate, List.length_map, ints_len]; omega)) only [resA, rvA, tupA, fin, frzV, frzTup, frzA, frz, isI, isI.all, Option.bind_some, go_sem, if_pos, if_neg, Nat.reduceBEq, Nat.reduceEqDiff, ↓reduceIte, Nat.reduceSub, Nat.reduceAdd, Int.reduceToNat, reduceCtorEq, Nat.reduceLeDiff, Nat.reduceLT, Nat.reduceMul, Nat.reduceDiv, Int.reduceLT, Int.reduceLE, Int.reduceEq, Int.reduceNe, Int.reduceAdd, Int.reduceSub, Int.reduceNeg, Int.reduceGT, Int.reduceGE, Int.reduceBEq, Int.reduceBNe, Int.reduceMul, *])
    have : SmallX x := ⟨by omega, all_of (Q := fun a : Rks => a.l.length ≤ 70 ∧ ∀ q ∈ a.l, q.p.l.length ≤ 20) (by omega) hl⟩
    simp only [this, decide_true]
theorem t75 (x : List Int) (nx cx : Bool) (M : MS) (hx : x.length ≤ 9223372036854775807) (hn : nx = true → x = []) : ev pr 75 [.list 1 (intsA x) nx cx] M = some (.q (.flat (.bool (decide x.Nodup)))) := by
  refine ev_fn' A75 ?_
  cases nx with
  | true =>
    have := hn rfl
    subst this
    clear hn
    repeat' (first | ((with_reducible first | apply S_0 | apply S_q1 | apply S_g | apply S_c); exact sgc) | refine Stp.h ?_ | (with_reducible apply B_ne; focus decide) | ((with_reducible first | apply SC_d | apply SG_d | apply SG_n | apply SC_b | apply SG_b) <;> intro hc <;> try simp only [dq1, dq2, dq3, dq4, dq5] at hc))
    refine W_rng 3 0 0 (fun i _ => True) (by simp only [asg, asgO, List.append_nil, List.nil_append, List.cons_append]; rfl) (by exact svc) (by omega) trivial ?_
    rintro i e _ hi hk e3 hl
    have : i = 0 := by omega
    subst this
    repeat' (first | ((with_reducible first | apply S_0 | apply S_q1 | apply S_g | apply S_c); exact sgc) | refine Stp.h ?_ | (with_reducible apply B_ne; focus decide) | ((with_reducible first | apply SC_d | apply SG_d | apply SG_n | apply SC_b | apply SG_b) <;> intro hc <;> try simp only [dq1, dq2, dq3, dq4, dq5] at hc))
    (refine ⟨by first | exact .inr rfl | exact .inl rfl, ?_⟩; simp (disch := first | assumption | decide | omega | exact Pth.le _ | exact Rks.le _ | exact List.getElem_mem _ | exact allI_ints _ | exact allI_rks _ | exact allI_pths _ | exact Pth.nil _ | exact Rks.nil _ | (intro hh; simp only [Pth.nil _ hh, List.take_nil, List.drop_nil]; done) | (intro hh; simp only [Rks.nil _ hh, List.take_nil, List.drop_nil]; done) | (simp only [List.length_take, List.length_drop, List.length_append, List.length_cons, List.length_nil, List.length_replicate, List.length_map, ints_len]; omega)) only [resA, rvA, tupA, fin, frzV, frzTup, frzA, frz, isI, isI.all, Option.bind_some, go_sem, if_pos, if_neg, Nat.reduceBEq, Nat.reduceEqDiff, ↓reduceIte, Nat.reduceSub, Nat.reduceAdd, Int.reduceToNat, reduceCtorEq, Nat.reduceLeDiff, Nat.reduceLT, Nat.reduceMul, Nat.reduceDiv, Int.reduceLT, Int.reduceLE, Int.reduceEq, Int.reduceNe, Int.reduceAdd, Int.reduceSub, Int.reduceNeg, Int.reduceGT, Int.reduceGE, Int.reduceBEq, Int.reduceBNe, Int.reduceMul, *])
    rfl
  | false =>
    clear hn
    repeat' (first | ((with_reducible first | apply S_0 | apply S_q1 | apply S_g | apply S_c); exact sgc) | refine Stp.h ?_ | (with_reducible apply B_ne; focus decide) | ((with_reducible first | apply SC_d | apply SG_d | apply SG_n | apply SC_b | apply SG_b) <;> intro hc <;> try simp only [dq1, dq2, dq3, dq4, dq5] at hc))
    refine W_rng 3 0 x.length (fun i _ => (x.take i).Nodup) (by simp only [asg, asgO, List.append_nil, List.nil_append, List.cons_append]; rfl) (by exact svc) (by omega) (by simp) ?_
    rintro i e _ hi hk e3 hl
    repeat' (first | ((with_reducible first | apply S_0 | apply S_q1 | apply S_g | apply S_c); exact sgc) | refine Stp.h ?_ | (with_reducible apply B_ne; focus decide) | ((with_reducible first | apply SC_d | apply SG_d | apply SG_n | apply SC_b | apply SG_b) <;> intro hc <;> try simp only [dq1, dq2, dq3, dq4, dq5] at hc))
    · (refine ⟨by first | exact .inr rfl | exact .inl rfl, ?_⟩; simp (disch := first | assumption | decide | omega | exact Pth.le _ | exact Rks.le _ | exact List.getElem_mem _ | exact allI_ints _ | exact allI_rks _ | exact allI_pths _ | exact Pth.nil _ | exact Rks.nil _ | (intro hh; simp only [Pth.nil _ hh, List.take_nil, List.drop_nil]; done) | (intro hh; simp only [Rks.nil _ hh, List.take_nil, List.drop_nil]; done) | (simp only [List.length_take, List.length_drop, List.length_append, List.length_cons, List.length_nil, List.length_replicate, List.length_map, ints_len]; omega)) only [resA, rvA, tupA, fin, frzV, frzTup, frzA, frz, isI, isI.all, Option.bind_some, go_sem, if_pos, if_neg, Nat.reduceBEq, Nat.reduceEqDiff, ↓reduceIte, Nat.reduceSub, Nat.reduceAdd, Int.reduceToNat, reduceCtorEq, Nat.reduceLeDiff, Nat.reduceLT, Nat.reduceMul, Nat.reduceDiv, Int.reduceLT, Int.reduceLE, Int.reduceEq, Int.reduceNe, Int.reduceAdd, Int.reduceSub, Int.reduceNeg, Int.reduceGT, Int.reduceGE, Int.reduceBEq, Int.reduceBNe, Int.reduceMul, *])
      have hx0 : i < x.length := by omega
      have : ¬ x.Nodup := fun h => by
        have hsp : x = x.take i ++ x[i] :: x.drop (i + 1) := by rw [← List.drop_eq_getElem_cons hx0, List.take_append_drop]
        rw [hsp, List.nodup_append] at h
        exact h.2.2 x[i] hc x[i] List.mem_cons_self rfl
      simp only [this, decide_false]
    · have hx0 : i < x.length := by omega
      refine H_n (by exact svc) hx0 ?_
      rw [List.take_succ_eq_append_getElem hx0, List.nodup_append]
      exact ⟨hl, by simp, fun a ha b hb => by simp at hb; subst hb; rintro rfl; exact hc ha⟩
    · (refine ⟨by first | exact .inr rfl | exact .inl rfl, ?_⟩; simp (disch := first | assumption | decide | omega | exact Pth.le _ | exact Rks.le _ | exact List.getElem_mem _ | exact allI_ints _ | exact allI_rks _ | exact allI_pths _ | exact Pth.nil _ | exact Rks.nil _ | (intro hh; simp only [Pth.nil _ hh, List.take_nil, List.drop_nil]; done) | (intro hh; simp only [Rks.nil _ hh, List.take_nil, List.drop_nil]; done) | (simp only [List.length_take, List.length_drop, List.length_append, List.length_cons, List.length_nil, List.length_replicate, List.length_map, ints_len]; omega)) only [resA, rvA, tupA, fin, frzV, frzTup, frzA, frz, isI, isI.all, Option.bind_some, go_sem, if_pos, if_neg, Nat.reduceBEq, Nat.reduceEqDiff, ↓reduceIte, Nat.reduceSub, Nat.reduceAdd, Int.reduceToNat, reduceCtorEq, Nat.reduceLeDiff, Nat.reduceLT, Nat.reduceMul, Nat.reduceDiv, Int.reduceLT, Int.reduceLE, Int.reduceEq, Int.reduceNe, Int.reduceAdd, Int.reduceSub, Int.reduceNeg, Int.reduceGT, Int.reduceGE, Int.reduceBEq, Int.reduceBNe, Int.reduceMul, *])
      have : x.Nodup := by rwa [List.take_of_length_le (by omega)] at hl
      simp only [this, decide_true]
attribute [go_sem] t17 t75
end Go.Proofs.Ytlcdafidoddefaa.Av
namespace Go.Proofs.Ytlcdafidoddefaa.Av
open Go.RowKit
set_option linter.unusedSimpArgs false
set_option linter.unusedVariables false
set_option maxHeartbeats 10000000
theorem paths_len (l : List Rnk) : (paths l).length = l.length := by simp [paths]
theorem paths_get (l : List Rnk) (i : Nat) (h : i < (paths l).length) : (paths l)[i] = (l[i]'(by simpa [paths] using h)).p.l := by simp [paths]
theorem t47 (x : List Rnk) (nx cx : Bool) (y : List Int) (ny cy : Bool) (M : MS) (hx : x.length ≤ 9223372036854775807) : ev pr 47 [.list 2 (rksA x) nx cx, .list 1 (intsA y) ny cy] M = some (.q (.flat (.int .i64 (place (paths x) y)))) := by
  refine ev_fn' A47 ?_
  repeat' (first | ((with_reducible first | apply S_0 | apply S_q1 | apply S_g | apply S_c); exact sgc) | refine Stp.h ?_ | (with_reducible apply B_ne; focus decide) | ((with_reducible first | apply SC_d | apply SG_d | apply SG_n | apply SC_b | apply SG_b) <;> intro hc <;> try simp only [dq1, dq2, dq3, dq4, dq5] at hc))
  refine W_rng 5 0 x.length (fun i _ => ∀ j, j < i → ∀ h : j < x.length, x[j].p.l ≠ y) (by simp only [asg, asgO, List.append_nil, List.nil_append, List.cons_append]; rfl) (by exact svc) (by omega) (fun j hj => by omega) ?_
  rintro i e _ hi hk e5 hl
  repeat' (first | ((with_reducible first | apply S_0 | apply S_q1 | apply S_g | apply S_c); exact sgc) | refine Stp.h ?_ | (with_reducible apply B_ne; focus decide) | ((with_reducible first | apply SC_d | apply SG_d | apply SG_n | apply SC_b | apply SG_b) <;> intro hc <;> try simp only [dq1, dq2, dq3, dq4, dq5] at hc))
  · (refine ⟨by first | exact .inr rfl | exact .inl rfl, ?_⟩; simp (disch := first | assumption | decide | omega | exact Pth.le _ | exact Rks.le _ | exact List.getElem_mem _ | exact allI_ints _ | exact allI_rks _ | exact allI_pths _ | exact Pth.nil _ | exact Rks.nil _ | (intro hh; simp only [Pth.nil _ hh, List.take_nil, List.drop_nil]; done) | (intro hh; simp only [Rks.nil _ hh, List.take_nil, List.drop_nil]; done) | (simp only [List.length_take, List.length_drop, List.length_append, List.length_cons, List.length_nil, List.length_replicate, List.length_map, ints_len]; omega)) only [resA, rvA, tupA, fin, frzV, frzTup, frzA, frz, isI, isI.all, Option.bind_some, go_sem, if_pos, if_neg, Nat.reduceBEq, Nat.reduceEqDiff, ↓reduceIte, Nat.reduceSub, Nat.reduceAdd, Int.reduceToNat, reduceCtorEq, Nat.reduceLeDiff, Nat.reduceLT, Nat.reduceMul, Nat.reduceDiv, Int.reduceLT, Int.reduceLE, Int.reduceEq, Int.reduceNe, Int.reduceAdd, Int.reduceSub, Int.reduceNeg, Int.reduceGT, Int.reduceGE, Int.reduceBEq, Int.reduceBNe, Int.reduceMul, *])
    rw [place_at (i := i) (by rw [paths_len]; omega) (by rw [paths_get]; exact hc) (fun j hj h => by rw [paths_get]; exact hl j hj _)]
  · exact H_n (by exact svc) (by omega) (ext1 hl fun _ => hc)
  · (refine ⟨by first | exact .inr rfl | exact .inl rfl, ?_⟩; simp (disch := first | assumption | decide | omega | exact Pth.le _ | exact Rks.le _ | exact List.getElem_mem _ | exact allI_ints _ | exact allI_rks _ | exact allI_pths _ | exact Pth.nil _ | exact Rks.nil _ | (intro hh; simp only [Pth.nil _ hh, List.take_nil, List.drop_nil]; done) | (intro hh; simp only [Rks.nil _ hh, List.take_nil, List.drop_nil]; done) | (simp only [List.length_take, List.length_drop, List.length_append, List.length_cons, List.length_nil, List.length_replicate, List.length_map, ints_len]; omega)) only [resA, rvA, tupA, fin, frzV, frzTup, frzA, frz, isI, isI.all, Option.bind_some, go_sem, if_pos, if_neg, Nat.reduceBEq, Nat.reduceEqDiff, ↓reduceIte, Nat.reduceSub, Nat.reduceAdd, Int.reduceToNat, reduceCtorEq, Nat.reduceLeDiff, Nat.reduceLT, Nat.reduceMul, Nat.reduceDiv, Int.reduceLT, Int.reduceLE, Int.reduceEq, Int.reduceNe, Int.reduceAdd, Int.reduceSub, Int.reduceNeg, Int.reduceGT, Int.reduceGE, Int.reduceBEq, Int.reduceBNe, Int.reduceMul, *])
    rw [place_no]
    intro hm
    obtain ⟨a, ha, rfl⟩ := List.mem_map.1 hm
    exact all_of (Q := fun r : Rnk => r.p.l ≠ a.p.l) (by omega) hl a ha rfl
theorem pathOk_iff {x : List Int} {v n : Int} (h1 : 2 ≤ x.length) (h2 : x[0] = v) (h3 : x[x.length - 1] = 0) (h4 : x.Nodup) : PathOk x v n ↔ ∀ a ∈ x, 0 ≤ a ∧ a < n := by
  refine ⟨fun h => h.2.2.2.2, fun h => ⟨h1, ?_, ?_, h4, h⟩⟩
  · rw [List.getElem?_eq_getElem (by omega), h2]
  · rw [List.getElem?_eq_getElem (by omega), h3]
theorem t46 (x : List Int) (nx cx : Bool) (v n : Int) (M : MS) (hx : x.length ≤ 9223372036854775807) (hn : nx = true → x = []) : ev pr 46 [.list 1 (intsA x) nx cx, .flat (.int .i64 v), .flat (.int .i64 n)] M = some (.q (.flat (.bool (decide (PathOk x v n))))) := by
  refine ev_fn' A46 ?_
  repeat' (first | ((with_reducible first | apply S_0 | apply S_q1 | apply S_g | apply S_c); exact sgc) | refine Stp.h ?_ | (with_reducible apply B_ne; focus decide) | ((with_reducible first | apply SC_d | apply SG_d | apply SG_n | apply SC_b | apply SG_b) <;> intro hc <;> try simp only [dq1, dq2, dq3, dq4, dq5] at hc))
  · (refine ⟨by first | exact .inr rfl | exact .inl rfl, ?_⟩; simp (disch := first | assumption | decide | omega | exact Pth.le _ | exact Rks.le _ | exact List.getElem_mem _ | exact allI_ints _ | exact allI_rks _ | exact allI_pths _ | exact Pth.nil _ | exact Rks.nil _ | (intro hh; simp only [Pth.nil _ hh, List.take_nil, List.drop_nil]; done) | (intro hh; simp only [Rks.nil _ hh, List.take_nil, List.drop_nil]; done) | (simp only [List.length_take, List.length_drop, List.length_append, List.length_cons, List.length_nil, List.length_replicate, List.length_map, ints_len]; omega)) only [resA, rvA, tupA, fin, frzV, frzTup, frzA, frz, isI, isI.all, Option.bind_some, go_sem, if_pos, if_neg, Nat.reduceBEq, Nat.reduceEqDiff, ↓reduceIte, Nat.reduceSub, Nat.reduceAdd, Int.reduceToNat, reduceCtorEq, Nat.reduceLeDiff, Nat.reduceLT, Nat.reduceMul, Nat.reduceDiv, Int.reduceLT, Int.reduceLE, Int.reduceEq, Int.reduceNe, Int.reduceAdd, Int.reduceSub, Int.reduceNeg, Int.reduceGT, Int.reduceGE, Int.reduceBEq, Int.reduceBNe, Int.reduceMul, *])
    have : ¬ PathOk x v n := fun h => by have := h.1; omega
    simp only [this, decide_false]
  · have h1 : 0 < x.length := by omega
    (refine ⟨by first | exact .inr rfl | exact .inl rfl, ?_⟩; simp (disch := first | assumption | decide | omega | exact Pth.le _ | exact Rks.le _ | exact List.getElem_mem _ | exact allI_ints _ | exact allI_rks _ | exact allI_pths _ | exact Pth.nil _ | exact Rks.nil _ | (intro hh; simp only [Pth.nil _ hh, List.take_nil, List.drop_nil]; done) | (intro hh; simp only [Rks.nil _ hh, List.take_nil, List.drop_nil]; done) | (simp only [List.length_take, List.length_drop, List.length_append, List.length_cons, List.length_nil, List.length_replicate, List.length_map, ints_len]; omega)) only [resA, rvA, tupA, fin, frzV, frzTup, frzA, frz, isI, isI.all, Option.bind_some, go_sem, if_pos, if_neg, Nat.reduceBEq, Nat.reduceEqDiff, ↓reduceIte, Nat.reduceSub, Nat.reduceAdd, Int.reduceToNat, reduceCtorEq, Nat.reduceLeDiff, Nat.reduceLT, Nat.reduceMul, Nat.reduceDiv, Int.reduceLT, Int.reduceLE, Int.reduceEq, Int.reduceNe, Int.reduceAdd, Int.reduceSub, Int.reduceNeg, Int.reduceGT, Int.reduceGE, Int.reduceBEq, Int.reduceBNe, Int.reduceMul, *])
    have : ¬ PathOk x v n := fun h => by have := h.2.1; rw [List.getElem?_eq_getElem h1] at this; exact hc (Option.some.inj this)
    simp only [this, decide_false]
  · have h1 : x.length - 1 < x.length := by omega
    (refine ⟨by first | exact .inr rfl | exact .inl rfl, ?_⟩; simp (disch := first | assumption | decide | omega | exact Pth.le _ | exact Rks.le _ | exact List.getElem_mem _ | exact allI_ints _ | exact allI_rks _ | exact allI_pths _ | exact Pth.nil _ | exact Rks.nil _ | (intro hh; simp only [Pth.nil _ hh, List.take_nil, List.drop_nil]; done) | (intro hh; simp only [Rks.nil _ hh, List.take_nil, List.drop_nil]; done) | (simp only [List.length_take, List.length_drop, List.length_append, List.length_cons, List.length_nil, List.length_replicate, List.length_map, ints_len]; omega)) only [resA, rvA, tupA, fin, frzV, frzTup, frzA, frz, isI, isI.all, Option.bind_some, go_sem, if_pos, if_neg, Nat.reduceBEq, Nat.reduceEqDiff, ↓reduceIte, Nat.reduceSub, Nat.reduceAdd, Int.reduceToNat, reduceCtorEq, Nat.reduceLeDiff, Nat.reduceLT, Nat.reduceMul, Nat.reduceDiv, Int.reduceLT, Int.reduceLE, Int.reduceEq, Int.reduceNe, Int.reduceAdd, Int.reduceSub, Int.reduceNeg, Int.reduceGT, Int.reduceGE, Int.reduceBEq, Int.reduceBNe, Int.reduceMul, *])
    have : ¬ PathOk x v n := fun h => by have := h.2.2.1; rw [List.getElem?_eq_getElem h1] at this; exact hc (Option.some.inj this)
    simp only [this, decide_false]
  · have h1 : 2 ≤ x.length := by omega
    refine W_rng 7 0 x.length (fun i _ => ∀ j, j < i → ∀ h : j < x.length, 0 ≤ x[j] ∧ x[j] < n) (by simp only [asg, asgO, List.append_nil, List.nil_append, List.cons_append]; rfl) (by exact svc) (by omega) (fun j hj => by omega) ?_
    rintro i e _ hi hk e7 hl
    repeat' (first | ((with_reducible first | apply S_0 | apply S_q1 | apply S_g | apply S_c); exact sgc) | refine Stp.h ?_ | (with_reducible apply B_ne; focus decide) | ((with_reducible first | apply SC_d | apply SG_d | apply SG_n | apply SC_b | apply SG_b) <;> intro hc <;> try simp only [dq1, dq2, dq3, dq4, dq5] at hc))
    · (refine ⟨by first | exact .inr rfl | exact .inl rfl, ?_⟩; simp (disch := first | assumption | decide | omega | exact Pth.le _ | exact Rks.le _ | exact List.getElem_mem _ | exact allI_ints _ | exact allI_rks _ | exact allI_pths _ | exact Pth.nil _ | exact Rks.nil _ | (intro hh; simp only [Pth.nil _ hh, List.take_nil, List.drop_nil]; done) | (intro hh; simp only [Rks.nil _ hh, List.take_nil, List.drop_nil]; done) | (simp only [List.length_take, List.length_drop, List.length_append, List.length_cons, List.length_nil, List.length_replicate, List.length_map, ints_len]; omega)) only [resA, rvA, tupA, fin, frzV, frzTup, frzA, frz, isI, isI.all, Option.bind_some, go_sem, if_pos, if_neg, Nat.reduceBEq, Nat.reduceEqDiff, ↓reduceIte, Nat.reduceSub, Nat.reduceAdd, Int.reduceToNat, reduceCtorEq, Nat.reduceLeDiff, Nat.reduceLT, Nat.reduceMul, Nat.reduceDiv, Int.reduceLT, Int.reduceLE, Int.reduceEq, Int.reduceNe, Int.reduceAdd, Int.reduceSub, Int.reduceNeg, Int.reduceGT, Int.reduceGE, Int.reduceBEq, Int.reduceBNe, Int.reduceMul, *])
      have : ¬ PathOk x v n := fun h => by have := h.2.2.2.2 _ (List.getElem_mem (show i < x.length by omega)); omega
      simp only [this, decide_false]
    · (refine ⟨by first | exact .inr rfl | exact .inl rfl, ?_⟩; simp (disch := first | assumption | decide | omega | exact Pth.le _ | exact Rks.le _ | exact List.getElem_mem _ | exact allI_ints _ | exact allI_rks _ | exact allI_pths _ | exact Pth.nil _ | exact Rks.nil _ | (intro hh; simp only [Pth.nil _ hh, List.take_nil, List.drop_nil]; done) | (intro hh; simp only [Rks.nil _ hh, List.take_nil, List.drop_nil]; done) | (simp only [List.length_take, List.length_drop, List.length_append, List.length_cons, List.length_nil, List.length_replicate, List.length_map, ints_len]; omega)) only [resA, rvA, tupA, fin, frzV, frzTup, frzA, frz, isI, isI.all, Option.bind_some, go_sem, if_pos, if_neg, Nat.reduceBEq, Nat.reduceEqDiff, ↓reduceIte, Nat.reduceSub, Nat.reduceAdd, Int.reduceToNat, reduceCtorEq, Nat.reduceLeDiff, Nat.reduceLT, Nat.reduceMul, Nat.reduceDiv, Int.reduceLT, Int.reduceLE, Int.reduceEq, Int.reduceNe, Int.reduceAdd, Int.reduceSub, Int.reduceNeg, Int.reduceGT, Int.reduceGE, Int.reduceBEq, Int.reduceBNe, Int.reduceMul, *])
      have : ¬ PathOk x v n := fun h => by have := h.2.2.2.2 _ (List.getElem_mem (show i < x.length by omega)); omega
      simp only [this, decide_false]
    · exact H_n (by exact svc) (by omega) (ext1 hl fun _ => by omega)
    · (refine ⟨by first | exact .inr rfl | exact .inl rfl, ?_⟩; simp (disch := first | assumption | decide | omega | exact Pth.le _ | exact Rks.le _ | exact List.getElem_mem _ | exact allI_ints _ | exact allI_rks _ | exact allI_pths _ | exact Pth.nil _ | exact Rks.nil _ | (intro hh; simp only [Pth.nil _ hh, List.take_nil, List.drop_nil]; done) | (intro hh; simp only [Rks.nil _ hh, List.take_nil, List.drop_nil]; done) | (simp only [List.length_take, List.length_drop, List.length_append, List.length_cons, List.length_nil, List.length_replicate, List.length_map, ints_len]; omega)) only [resA, rvA, tupA, fin, frzV, frzTup, frzA, frz, isI, isI.all, Option.bind_some, go_sem, if_pos, if_neg, Nat.reduceBEq, Nat.reduceEqDiff, ↓reduceIte, Nat.reduceSub, Nat.reduceAdd, Int.reduceToNat, reduceCtorEq, Nat.reduceLeDiff, Nat.reduceLT, Nat.reduceMul, Nat.reduceDiv, Int.reduceLT, Int.reduceLE, Int.reduceEq, Int.reduceNe, Int.reduceAdd, Int.reduceSub, Int.reduceNeg, Int.reduceGT, Int.reduceGE, Int.reduceBEq, Int.reduceBNe, Int.reduceMul, *])
      have : PathOk x v n := (pathOk_iff h1 ‹x[0] = v› ‹x[x.length - 1] = 0› ‹x.Nodup›).2 (all_of (Q := fun a : Int => 0 ≤ a ∧ a < n) (by omega) hl)
      simp only [this, decide_true]
  · (refine ⟨by first | exact .inr rfl | exact .inl rfl, ?_⟩; simp (disch := first | assumption | decide | omega | exact Pth.le _ | exact Rks.le _ | exact List.getElem_mem _ | exact allI_ints _ | exact allI_rks _ | exact allI_pths _ | exact Pth.nil _ | exact Rks.nil _ | (intro hh; simp only [Pth.nil _ hh, List.take_nil, List.drop_nil]; done) | (intro hh; simp only [Rks.nil _ hh, List.take_nil, List.drop_nil]; done) | (simp only [List.length_take, List.length_drop, List.length_append, List.length_cons, List.length_nil, List.length_replicate, List.length_map, ints_len]; omega)) only [resA, rvA, tupA, fin, frzV, frzTup, frzA, frz, isI, isI.all, Option.bind_some, go_sem, if_pos, if_neg, Nat.reduceBEq, Nat.reduceEqDiff, ↓reduceIte, Nat.reduceSub, Nat.reduceAdd, Int.reduceToNat, reduceCtorEq, Nat.reduceLeDiff, Nat.reduceLT, Nat.reduceMul, Nat.reduceDiv, Int.reduceLT, Int.reduceLE, Int.reduceEq, Int.reduceNe, Int.reduceAdd, Int.reduceSub, Int.reduceNeg, Int.reduceGT, Int.reduceGE, Int.reduceBEq, Int.reduceBNe, Int.reduceMul, *])
    have : ¬ PathOk x v n := fun h => hc h.2.2.2.1
    simp only [this, decide_false]
attribute [go_sem] t47 t46
theorem lok_no {l : List Rnk} {v n : Int} {i : Nat} (hi : i < l.length) (h : ¬ (i < 64 ∧ l[i].r = i ∧ PathOk l[i].p.l v n ∧ l[i].p.l ∉ paths (l.take i))) : ¬ LOk l v n := fun hl => h ⟨by have := hl.1; omega, hl.2 i hi⟩
theorem lok_yes {l : List Rnk} {v n : Int} {i : Nat} (hi : l.length ≤ i) (h : ∀ j, j < i → ∀ h : j < l.length, j < 64 ∧ l[j].r = j ∧ PathOk l[j].p.l v n ∧ l[j].p.l ∉ paths (l.take j)) : LOk l v n := by
  refine ⟨?_, fun j hj => (h j (by omega) hj).2⟩
  by_cases h0 : l.length = 0
  · omega
  · have := (h (l.length - 1) (by omega) (by omega)).1; omega
theorem t19 (n : Int) (x : List Rks) (nx cx : Bool) (M : MS) (hx : x.length ≤ 9223372036854775807) : ev pr 19 [.agg [.flat (.int .i64 n), .list 1 (x.map Rks.av) nx cx]] M = some (.q (.flat (.bool (decide (MayX n x))))) := by
  refine ev_fn' A19 ?_
  repeat' (first | ((with_reducible first | apply S_0 | apply S_q1 | apply S_g | apply S_c); exact sgc) | refine Stp.h ?_ | (with_reducible apply B_ne; focus decide) | ((with_reducible first | apply SC_d | apply SG_d | apply SG_n | apply SC_b | apply SG_b) <;> intro hc <;> try simp only [dq1, dq2, dq3, dq4, dq5] at hc))
  · (refine ⟨by first | exact .inr rfl | exact .inl rfl, ?_⟩; simp (disch := first | assumption | decide | omega | exact Pth.le _ | exact Rks.le _ | exact List.getElem_mem _ | exact allI_ints _ | exact allI_rks _ | exact allI_pths _ | exact Pth.nil _ | exact Rks.nil _ | (intro hh; simp only [Pth.nil _ hh, List.take_nil, List.drop_nil]; done) | (intro hh; simp only [Rks.nil _ hh, List.take_nil, List.drop_nil]; done) | (simp only [List.length_take, List.length_drop, List.length_append, List.length_cons, List.length_nil, List.length_replicate, List.length_map, ints_len]; omega)) only [resA, rvA, tupA, fin, frzV, frzTup, frzA, frz, isI, isI.all, Option.bind_some, go_sem, if_pos, if_neg, Nat.reduceBEq, Nat.reduceEqDiff, ↓reduceIte, Nat.reduceSub, Nat.reduceAdd, Int.reduceToNat, reduceCtorEq, Nat.reduceLeDiff, Nat.reduceLT, Nat.reduceMul, Nat.reduceDiv, Int.reduceLT, Int.reduceLE, Int.reduceEq, Int.reduceNe, Int.reduceAdd, Int.reduceSub, Int.reduceNeg, Int.reduceGT, Int.reduceGE, Int.reduceBEq, Int.reduceBNe, Int.reduceMul, *])
    have : ¬ MayX n x := fun h => by have := h.1; omega
    simp only [this, decide_false]
  · (refine ⟨by first | exact .inr rfl | exact .inl rfl, ?_⟩; simp (disch := first | assumption | decide | omega | exact Pth.le _ | exact Rks.le _ | exact List.getElem_mem _ | exact allI_ints _ | exact allI_rks _ | exact allI_pths _ | exact Pth.nil _ | exact Rks.nil _ | (intro hh; simp only [Pth.nil _ hh, List.take_nil, List.drop_nil]; done) | (intro hh; simp only [Rks.nil _ hh, List.take_nil, List.drop_nil]; done) | (simp only [List.length_take, List.length_drop, List.length_append, List.length_cons, List.length_nil, List.length_replicate, List.length_map, ints_len]; omega)) only [resA, rvA, tupA, fin, frzV, frzTup, frzA, frz, isI, isI.all, Option.bind_some, go_sem, if_pos, if_neg, Nat.reduceBEq, Nat.reduceEqDiff, ↓reduceIte, Nat.reduceSub, Nat.reduceAdd, Int.reduceToNat, reduceCtorEq, Nat.reduceLeDiff, Nat.reduceLT, Nat.reduceMul, Nat.reduceDiv, Int.reduceLT, Int.reduceLE, Int.reduceEq, Int.reduceNe, Int.reduceAdd, Int.reduceSub, Int.reduceNeg, Int.reduceGT, Int.reduceGE, Int.reduceBEq, Int.reduceBNe, Int.reduceMul, *])
    have : ¬ MayX n x := fun h => by have := h.2.1; omega
    simp only [this, decide_false]
  · (refine ⟨by first | exact .inr rfl | exact .inl rfl, ?_⟩; simp (disch := first | assumption | decide | omega | exact Pth.le _ | exact Rks.le _ | exact List.getElem_mem _ | exact allI_ints _ | exact allI_rks _ | exact allI_pths _ | exact Pth.nil _ | exact Rks.nil _ | (intro hh; simp only [Pth.nil _ hh, List.take_nil, List.drop_nil]; done) | (intro hh; simp only [Rks.nil _ hh, List.take_nil, List.drop_nil]; done) | (simp only [List.length_take, List.length_drop, List.length_append, List.length_cons, List.length_nil, List.length_replicate, List.length_map, ints_len]; omega)) only [resA, rvA, tupA, fin, frzV, frzTup, frzA, frz, isI, isI.all, Option.bind_some, go_sem, if_pos, if_neg, Nat.reduceBEq, Nat.reduceEqDiff, ↓reduceIte, Nat.reduceSub, Nat.reduceAdd, Int.reduceToNat, reduceCtorEq, Nat.reduceLeDiff, Nat.reduceLT, Nat.reduceMul, Nat.reduceDiv, Int.reduceLT, Int.reduceLE, Int.reduceEq, Int.reduceNe, Int.reduceAdd, Int.reduceSub, Int.reduceNeg, Int.reduceGT, Int.reduceGE, Int.reduceBEq, Int.reduceBNe, Int.reduceMul, *])
    have : ¬ MayX n x := fun h => hc h.2.2.1
    simp only [this, decide_false]
  · (refine ⟨by first | exact .inr rfl | exact .inl rfl, ?_⟩; simp (disch := first | assumption | decide | omega | exact Pth.le _ | exact Rks.le _ | exact List.getElem_mem _ | exact allI_ints _ | exact allI_rks _ | exact allI_pths _ | exact Pth.nil _ | exact Rks.nil _ | (intro hh; simp only [Pth.nil _ hh, List.take_nil, List.drop_nil]; done) | (intro hh; simp only [Rks.nil _ hh, List.take_nil, List.drop_nil]; done) | (simp only [List.length_take, List.length_drop, List.length_append, List.length_cons, List.length_nil, List.length_replicate, List.length_map, ints_len]; omega)) only [resA, rvA, tupA, fin, frzV, frzTup, frzA, frz, isI, isI.all, Option.bind_some, go_sem, if_pos, if_neg, Nat.reduceBEq, Nat.reduceEqDiff, ↓reduceIte, Nat.reduceSub, Nat.reduceAdd, Int.reduceToNat, reduceCtorEq, Nat.reduceLeDiff, Nat.reduceLT, Nat.reduceMul, Nat.reduceDiv, Int.reduceLT, Int.reduceLE, Int.reduceEq, Int.reduceNe, Int.reduceAdd, Int.reduceSub, Int.reduceNeg, Int.reduceGT, Int.reduceGE, Int.reduceBEq, Int.reduceBNe, Int.reduceMul, *])
    have : ¬ MayX n x := fun h => hc (by have := h.2.2.2.1 (by omega); rw [this]; rfl)
    simp only [this, decide_false]
  have h0 : 0 < x.length := by omega
  have h00 : x[0].l = [] := List.eq_nil_of_length_eq_zero (by omega)
  clear hc
  refine W_rng 3 1 x.length (fun i _ => ∀ j, j < i → ∀ h : j < x.length, 1 ≤ j → LOk x[j].l j n) (by simp only [asg, asgO, List.append_nil, List.nil_append, List.cons_append]; rfl) (by exact svc) (by omega) (fun j hj _ _ => by omega) ?_
  rintro i e hi1 hi hk e3 hl
  repeat' (first | ((with_reducible first | apply S_0 | apply S_q1 | apply S_g | apply S_c); exact sgc) | refine Stp.h ?_ | (with_reducible apply B_ne; focus decide) | ((with_reducible first | apply SC_d | apply SG_d | apply SG_n | apply SC_b | apply SG_b) <;> intro hc <;> try simp only [dq1, dq2, dq3, dq4, dq5] at hc))
  · have hx1 : i < x.length := by omega
    refine W_rng 5 0 x[i].l.length (fun k _ => ∀ j, j < k → ∀ h : j < x[i].l.length, j < 64 ∧ x[i].l[j].r = j ∧ PathOk x[i].l[j].p.l i n ∧ x[i].l[j].p.l ∉ paths (x[i].l.take j)) (by simp only [asg, asgO, List.append_nil, List.nil_append, List.cons_append]; rfl) (by exact svc) (by omega) (fun j hj => by omega) ?_
    rintro k e' _ hk1 hk2 e5 hl2
    have e3' : e' 3 = .flat (.int .i64 i) := by rw [hk2 3 rfl]; exact svc
    have e4' : e' 4 = .list 2 (rksA x[i].l) x[i].nl x[i].cd := by rw [hk2 4 rfl]; exact svc
    have e1' : e' 1 = .mptr M.length 0 := by rw [hk2 1 rfl]; exact svc
    clear hk2 hk
    have hnl := x[i].ok
    repeat' (first | ((with_reducible first | apply S_0 | apply S_q1 | apply S_g | apply S_c); exact sgc) | refine Stp.h ?_ | (with_reducible apply B_ne; focus decide) | ((with_reducible first | apply SC_d | apply SG_d | apply SG_n | apply SC_b | apply SG_b) <;> intro hc <;> try simp only [dq1, dq2, dq3, dq4, dq5] at hc))
    · (refine ⟨by first | exact .inr rfl | exact .inl rfl, ?_⟩; simp (disch := first | assumption | decide | omega | exact Pth.le _ | exact Rks.le _ | exact List.getElem_mem _ | exact allI_ints _ | exact allI_rks _ | exact allI_pths _ | exact Pth.nil _ | exact Rks.nil _ | (intro hh; simp only [Pth.nil _ hh, List.take_nil, List.drop_nil]; done) | (intro hh; simp only [Rks.nil _ hh, List.take_nil, List.drop_nil]; done) | (simp only [List.length_take, List.length_drop, List.length_append, List.length_cons, List.length_nil, List.length_replicate, List.length_map, ints_len]; omega)) only [resA, rvA, tupA, fin, frzV, frzTup, frzA, frz, isI, isI.all, Option.bind_some, go_sem, if_pos, if_neg, Nat.reduceBEq, Nat.reduceEqDiff, ↓reduceIte, Nat.reduceSub, Nat.reduceAdd, Int.reduceToNat, reduceCtorEq, Nat.reduceLeDiff, Nat.reduceLT, Nat.reduceMul, Nat.reduceDiv, Int.reduceLT, Int.reduceLE, Int.reduceEq, Int.reduceNe, Int.reduceAdd, Int.reduceSub, Int.reduceNeg, Int.reduceGT, Int.reduceGE, Int.reduceBEq, Int.reduceBNe, Int.reduceMul, *])
      have : ¬ MayX n x := fun h => lok_no (i := k) (by omega) (fun hh => by omega) (h.2.2.2.2 i hx1 hi1)
      simp only [this, decide_false]
    · (refine ⟨by first | exact .inr rfl | exact .inl rfl, ?_⟩; simp (disch := first | assumption | decide | omega | exact Pth.le _ | exact Rks.le _ | exact List.getElem_mem _ | exact allI_ints _ | exact allI_rks _ | exact allI_pths _ | exact Pth.nil _ | exact Rks.nil _ | (intro hh; simp only [Pth.nil _ hh, List.take_nil, List.drop_nil]; done) | (intro hh; simp only [Rks.nil _ hh, List.take_nil, List.drop_nil]; done) | (simp only [List.length_take, List.length_drop, List.length_append, List.length_cons, List.length_nil, List.length_replicate, List.length_map, ints_len]; omega)) only [resA, rvA, tupA, fin, frzV, frzTup, frzA, frz, isI, isI.all, Option.bind_some, go_sem, if_pos, if_neg, Nat.reduceBEq, Nat.reduceEqDiff, ↓reduceIte, Nat.reduceSub, Nat.reduceAdd, Int.reduceToNat, reduceCtorEq, Nat.reduceLeDiff, Nat.reduceLT, Nat.reduceMul, Nat.reduceDiv, Int.reduceLT, Int.reduceLE, Int.reduceEq, Int.reduceNe, Int.reduceAdd, Int.reduceSub, Int.reduceNeg, Int.reduceGT, Int.reduceGE, Int.reduceBEq, Int.reduceBNe, Int.reduceMul, *])
      have : ¬ MayX n x := fun h => lok_no (i := k) (by omega) (fun hh => hc hh.2.1) (h.2.2.2.2 i hx1 hi1)
      simp only [this, decide_false]
    · (refine ⟨by first | exact .inr rfl | exact .inl rfl, ?_⟩; simp (disch := first | assumption | decide | omega | exact Pth.le _ | exact Rks.le _ | exact List.getElem_mem _ | exact allI_ints _ | exact allI_rks _ | exact allI_pths _ | exact Pth.nil _ | exact Rks.nil _ | (intro hh; simp only [Pth.nil _ hh, List.take_nil, List.drop_nil]; done) | (intro hh; simp only [Rks.nil _ hh, List.take_nil, List.drop_nil]; done) | (simp only [List.length_take, List.length_drop, List.length_append, List.length_cons, List.length_nil, List.length_replicate, List.length_map, ints_len]; omega)) only [resA, rvA, tupA, fin, frzV, frzTup, frzA, frz, isI, isI.all, Option.bind_some, go_sem, if_pos, if_neg, Nat.reduceBEq, Nat.reduceEqDiff, ↓reduceIte, Nat.reduceSub, Nat.reduceAdd, Int.reduceToNat, reduceCtorEq, Nat.reduceLeDiff, Nat.reduceLT, Nat.reduceMul, Nat.reduceDiv, Int.reduceLT, Int.reduceLE, Int.reduceEq, Int.reduceNe, Int.reduceAdd, Int.reduceSub, Int.reduceNeg, Int.reduceGT, Int.reduceGE, Int.reduceBEq, Int.reduceBNe, Int.reduceMul, *])
      have : ¬ MayX n x := fun h => lok_no (i := k) (by omega) (fun hh => hc hh.2.2.1) (h.2.2.2.2 i hx1 hi1)
      simp only [this, decide_false]
    · (refine ⟨by first | exact .inr rfl | exact .inl rfl, ?_⟩; simp (disch := first | assumption | decide | omega | exact Pth.le _ | exact Rks.le _ | exact List.getElem_mem _ | exact allI_ints _ | exact allI_rks _ | exact allI_pths _ | exact Pth.nil _ | exact Rks.nil _ | (intro hh; simp only [Pth.nil _ hh, List.take_nil, List.drop_nil]; done) | (intro hh; simp only [Rks.nil _ hh, List.take_nil, List.drop_nil]; done) | (simp only [List.length_take, List.length_drop, List.length_append, List.length_cons, List.length_nil, List.length_replicate, List.length_map, ints_len]; omega)) only [resA, rvA, tupA, fin, frzV, frzTup, frzA, frz, isI, isI.all, Option.bind_some, go_sem, if_pos, if_neg, Nat.reduceBEq, Nat.reduceEqDiff, ↓reduceIte, Nat.reduceSub, Nat.reduceAdd, Int.reduceToNat, reduceCtorEq, Nat.reduceLeDiff, Nat.reduceLT, Nat.reduceMul, Nat.reduceDiv, Int.reduceLT, Int.reduceLE, Int.reduceEq, Int.reduceNe, Int.reduceAdd, Int.reduceSub, Int.reduceNeg, Int.reduceGT, Int.reduceGE, Int.reduceBEq, Int.reduceBNe, Int.reduceMul, *])
      have : ¬ MayX n x := fun h => lok_no (i := k) (by omega) (fun hh => place_ge.1 (by omega) |> hh.2.2.2) (h.2.2.2.2 i hx1 hi1)
      simp only [this, decide_false]
    · exact H_n (by exact svc) (by omega) (ext1 hl2 fun _ => ⟨by omega, by assumption, by assumption, fun hm => by have := place_ge.2 hm; omega⟩)
    · exact H_n (by exact svc) (by omega) (ext1 hl fun _ _ => lok_yes (by omega) hl2)
  · (refine ⟨by first | exact .inr rfl | exact .inl rfl, ?_⟩; simp (disch := first | assumption | decide | omega | exact Pth.le _ | exact Rks.le _ | exact List.getElem_mem _ | exact allI_ints _ | exact allI_rks _ | exact allI_pths _ | exact Pth.nil _ | exact Rks.nil _ | (intro hh; simp only [Pth.nil _ hh, List.take_nil, List.drop_nil]; done) | (intro hh; simp only [Rks.nil _ hh, List.take_nil, List.drop_nil]; done) | (simp only [List.length_take, List.length_drop, List.length_append, List.length_cons, List.length_nil, List.length_replicate, List.length_map, ints_len]; omega)) only [resA, rvA, tupA, fin, frzV, frzTup, frzA, frz, isI, isI.all, Option.bind_some, go_sem, if_pos, if_neg, Nat.reduceBEq, Nat.reduceEqDiff, ↓reduceIte, Nat.reduceSub, Nat.reduceAdd, Int.reduceToNat, reduceCtorEq, Nat.reduceLeDiff, Nat.reduceLT, Nat.reduceMul, Nat.reduceDiv, Int.reduceLT, Int.reduceLE, Int.reduceEq, Int.reduceNe, Int.reduceAdd, Int.reduceSub, Int.reduceNeg, Int.reduceGT, Int.reduceGE, Int.reduceBEq, Int.reduceBNe, Int.reduceMul, *])
    have : MayX n x := ⟨by omega, by omega, by omega, fun _ => h00, fun v h h1 => hl v (by omega) h h1⟩
    simp only [this, decide_true]
attribute [go_sem] t19
end Go.Proofs.Ytlcdafidoddefaa.Av
namespace Go.Proofs.Ytlcdafidoddefaa.Av
open Go.RowKit
set_option linter.unusedSimpArgs false
set_option linter.unusedVariables false
set_option maxHeartbeats 10000000
/-- The first place where something is so; -1: there is none. -/
noncomputable def fst {α : Type} (P : α → Prop) (x : List α) : Int := open Classical in if ∃ a ∈ x, P a then (x.findIdx (fun a => decide (P a)) : Int) else -1
theorem fst_at {α : Type} {P : α → Prop} {x : List α} {i : Nat} (h : i < x.length) (h1 : P x[i]) (h2 : ∀ j, j < i → ∀ h : j < x.length, ¬ P x[j]) : fst P x = i := by
  classical
  unfold fst
  rw [if_pos ⟨_, List.getElem_mem h, h1⟩]
  have : x.findIdx (fun a => decide (P a)) = i := by
    rw [List.findIdx_eq h]
    exact ⟨by simpa using h1, fun j hj => by simpa using h2 j hj (by omega)⟩
  simp only [this]
theorem fst_no {α : Type} {P : α → Prop} {x : List α} (h : ∀ a ∈ x, ¬ P a) : fst P x = -1 := if_neg fun ⟨a, h1, h2⟩ => h a h1 h2
theorem fst_ge {α : Type} {P : α → Prop} {x : List α} : 0 ≤ fst P x ↔ ∃ a ∈ x, P a := by
  unfold fst; split
  · rename_i h; simp [h]
  · rename_i h; simp [h]
theorem fst_lt {α : Type} {P : α → Prop} {x : List α} : fst P x < 0 ↔ ∀ a ∈ x, ¬ P a := by
  have := @fst_ge α P x
  constructor
  · intro h a ha hp
    have := this.2 ⟨a, ha, hp⟩; omega
  · intro h
    rcases Int.lt_or_le (fst P x) 0 with h1 | h1
    · exact h1
    · obtain ⟨a, ha, hp⟩ := this.1 h1; exact absurd hp (h a ha)
theorem fst_spec {α : Type} {P : α → Prop} {x : List α} (h : 0 ≤ fst P x) : ∃ (i : Nat) (hi : i < x.length), fst P x = i ∧ P x[i] ∧ ∀ j, j < i → ∀ h : j < x.length, ¬ P x[j] := by
  classical
  have hm := fst_ge.1 h
  have h1 : x.findIdx (fun a => decide (P a)) < x.length := by
    rw [List.findIdx_lt_length]
    obtain ⟨a, ha, hp⟩ := hm
    exact ⟨a, ha, by simpa using hp⟩
  refine ⟨_, h1, by unfold fst; rw [if_pos hm], by simpa using List.findIdx_getElem (w := h1), fun j hj hl => ?_⟩
  have := List.not_of_lt_findIdx hj
  simpa using this
theorem t77 {P : Int → Prop} [DecidablePred P] {x : List Int} {nx cx : Bool} {fn : Nat} {caps : List AV} {M : MS} (hx : x.length ≤ 9223372036854775807)
    (h : ∀ a ∈ x, ev pr fn (.flat (.int .i64 a) :: caps) M = some (.q (.flat (.bool (decide (P a)))))) : ev pr 77 [.list 1 (intsA x) nx cx, .clo fn caps] M = some (.q (.flat (.int .i64 (fst P x)))) := by
  refine ev_fn' A77 ?_
  repeat' (first | ((with_reducible first | apply S_0 | apply S_q1 | apply S_g | apply S_c); exact sgc) | refine Stp.h ?_ | (with_reducible apply B_ne; focus decide) | ((with_reducible first | apply SC_d | apply SG_d | apply SG_n | apply SC_b | apply SG_b) <;> intro hc <;> try simp only [dq1, dq2, dq3, dq4, dq5] at hc))
  refine W_rng 8 0 x.length (fun i _ => ∀ j, j < i → ∀ h : j < x.length, ¬ P x[j]) (by simp only [asg, asgO, List.append_nil, List.nil_append, List.cons_append]; rfl) (by exact svc) (by omega) (fun j hj => by omega) ?_
  rintro i e _ hi hk e8 hl
  rcases Nat.lt_or_ge i x.length with hlt | hlt
  · have hm := h _ (List.getElem_mem hlt)
    clear h
    have hlt' : (i : Int) < x.length := by omega
    repeat' (first | ((with_reducible first | apply S_0 | apply S_q1 | apply S_g | apply S_c); exact sgc) | refine Stp.h ?_ | (with_reducible apply B_ne; focus decide) | ((with_reducible first | apply SC_d | apply SG_d | apply SG_n | apply SC_b | apply SG_b) <;> intro hc <;> try simp only [dq1, dq2, dq3, dq4, dq5] at hc))
    · (refine ⟨by first | exact .inr rfl | exact .inl rfl, ?_⟩; simp (disch := first | assumption | decide | omega | exact Pth.le _ | exact Rks.le _ | exact List.getElem_mem _ | exact allI_ints _ | exact allI_rks _ | exact allI_pths _ | exact Pth.nil _ | exact Rks.nil _ | (intro hh; simp only [Pth.nil _ hh, List.take_nil, List.drop_nil]; done) | (intro hh; simp only [Rks.nil _ hh, List.take_nil, List.drop_nil]; done) | (simp only [List.length_take, List.length_drop, List.length_append, List.length_cons, List.length_nil, List.length_replicate, List.length_map, ints_len]; omega)) only [resA, rvA, tupA, fin, frzV, frzTup, frzA, frz, isI, isI.all, Option.bind_some, go_sem, if_pos, if_neg, Nat.reduceBEq, Nat.reduceEqDiff, ↓reduceIte, Nat.reduceSub, Nat.reduceAdd, Int.reduceToNat, reduceCtorEq, Nat.reduceLeDiff, Nat.reduceLT, Nat.reduceMul, Nat.reduceDiv, Int.reduceLT, Int.reduceLE, Int.reduceEq, Int.reduceNe, Int.reduceAdd, Int.reduceSub, Int.reduceNeg, Int.reduceGT, Int.reduceGE, Int.reduceBEq, Int.reduceBNe, Int.reduceMul, *])
      rw [fst_at (i := i) (by omega) hc hl]
    · exact H_n (by exact svc) (by omega) (ext1 hl fun _ => hc)
  · have hlt' : ¬ (i : Int) < x.length := by omega
    repeat' (first | ((with_reducible first | apply S_0 | apply S_q1 | apply S_g | apply S_c); exact sgc) | refine Stp.h ?_ | (with_reducible apply B_ne; focus decide) | ((with_reducible first | apply SC_d | apply SG_d | apply SG_n | apply SC_b | apply SG_b) <;> intro hc <;> try simp only [dq1, dq2, dq3, dq4, dq5] at hc))
    (refine ⟨by first | exact .inr rfl | exact .inl rfl, ?_⟩; simp (disch := first | assumption | decide | omega | exact Pth.le _ | exact Rks.le _ | exact List.getElem_mem _ | exact allI_ints _ | exact allI_rks _ | exact allI_pths _ | exact Pth.nil _ | exact Rks.nil _ | (intro hh; simp only [Pth.nil _ hh, List.take_nil, List.drop_nil]; done) | (intro hh; simp only [Rks.nil _ hh, List.take_nil, List.drop_nil]; done) | (simp only [List.length_take, List.length_drop, List.length_append, List.length_cons, List.length_nil, List.length_replicate, List.length_map, ints_len]; omega)) only [resA, rvA, tupA, fin, frzV, frzTup, frzA, frz, isI, isI.all, Option.bind_some, go_sem, if_pos, if_neg, Nat.reduceBEq, Nat.reduceEqDiff, ↓reduceIte, Nat.reduceSub, Nat.reduceAdd, Int.reduceToNat, reduceCtorEq, Nat.reduceLeDiff, Nat.reduceLT, Nat.reduceMul, Nat.reduceDiv, Int.reduceLT, Int.reduceLE, Int.reduceEq, Int.reduceNe, Int.reduceAdd, Int.reduceSub, Int.reduceNeg, Int.reduceGT, Int.reduceGE, Int.reduceBEq, Int.reduceBNe, Int.reduceMul, *])
    rw [fst_no (all_of (Q := fun a => ¬ P a) (by omega) hl)]
theorem t51 {P : Int → Prop} [DecidablePred P] {x : List Int} {nx cx : Bool} {fn : Nat} {caps : List AV} {M : MS} (hx : x.length ≤ 9223372036854775807)
    (h : ∀ a ∈ x, ev pr fn (.flat (.int .i64 a) :: caps) M = some (.q (.flat (.bool (decide (P a)))))) : ev pr 51 [.list 1 (intsA x) nx cx, .clo fn caps] M = some (.q (.flat (.bool (decide (0 ≤ fst P x))))) := by
  have h1 := @t77 P _ x nx cx fn caps M hx h
  refine ev_fn' A51 ?_
  repeat' (first | ((with_reducible first | apply S_0 | apply S_q1 | apply S_g | apply S_c); exact sgc) | refine Stp.h ?_ | (with_reducible apply B_ne; focus decide) | ((with_reducible first | apply SC_d | apply SG_d | apply SG_n | apply SC_b | apply SG_b) <;> intro hc <;> try simp only [dq1, dq2, dq3, dq4, dq5] at hc))
  (first | exact fincR | exact fincN)
/-- A rank as a value. -/
def Rnk.ag (r : Rnk) : AV := .agg [.list 1 (intsA r.p.l) r.p.nl r.p.cd, .flat (.int .i64 r.r)]
theorem t92 {P : Rnk → Prop} [DecidablePred P] {x : List Rnk} {nx cx : Bool} {fn : Nat} {caps : List AV} {M : MS} (hx : x.length ≤ 9223372036854775807)
    (h : ∀ r ∈ x, ev pr fn (.agg [.list 1 (intsA r.p.l) r.p.nl r.p.cd, .flat (.int .i64 r.r)] :: caps) M = some (.q (.flat (.bool (decide (P r)))))) : ev pr 92 [.list 2 (rksA x) nx cx, .clo fn caps] M = some (.q (.flat (.int .i64 (fst P x)))) := by
  refine ev_fn' A92 ?_
  repeat' (first | ((with_reducible first | apply S_0 | apply S_q1 | apply S_g | apply S_c); exact sgc) | refine Stp.h ?_ | (with_reducible apply B_ne; focus decide) | ((with_reducible first | apply SC_d | apply SG_d | apply SG_n | apply SC_b | apply SG_b) <;> intro hc <;> try simp only [dq1, dq2, dq3, dq4, dq5] at hc))
  refine W_rng 8 0 x.length (fun i _ => ∀ j, j < i → ∀ h : j < x.length, ¬ P x[j]) (by simp only [asg, asgO, List.append_nil, List.nil_append, List.cons_append]; rfl) (by exact svc) (by omega) (fun j hj => by omega) ?_
  rintro i e _ hi hk e8 hl
  repeat' (first | ((with_reducible first | apply S_0 | apply S_q1 | apply S_g | apply S_c); exact sgc) | refine Stp.h ?_ | (with_reducible apply B_ne; focus decide) | ((with_reducible first | apply SC_d | apply SG_d | apply SG_n | apply SC_b | apply SG_b) <;> intro hc <;> try simp only [dq1, dq2, dq3, dq4, dq5] at hc))
  · (refine ⟨by first | exact .inr rfl | exact .inl rfl, ?_⟩; simp (disch := first | assumption | decide | omega | exact Pth.le _ | exact Rks.le _ | exact List.getElem_mem _ | exact allI_ints _ | exact allI_rks _ | exact allI_pths _ | exact Pth.nil _ | exact Rks.nil _ | (intro hh; simp only [Pth.nil _ hh, List.take_nil, List.drop_nil]; done) | (intro hh; simp only [Rks.nil _ hh, List.take_nil, List.drop_nil]; done) | (simp only [List.length_take, List.length_drop, List.length_append, List.length_cons, List.length_nil, List.length_replicate, List.length_map, ints_len]; omega)) only [resA, rvA, tupA, fin, frzV, frzTup, frzA, frz, isI, isI.all, Option.bind_some, go_sem, if_pos, if_neg, Nat.reduceBEq, Nat.reduceEqDiff, ↓reduceIte, Nat.reduceSub, Nat.reduceAdd, Int.reduceToNat, reduceCtorEq, Nat.reduceLeDiff, Nat.reduceLT, Nat.reduceMul, Nat.reduceDiv, Int.reduceLT, Int.reduceLE, Int.reduceEq, Int.reduceNe, Int.reduceAdd, Int.reduceSub, Int.reduceNeg, Int.reduceGT, Int.reduceGE, Int.reduceBEq, Int.reduceBNe, Int.reduceMul, *])
    rw [fst_at (i := i) (by omega) hc hl]
  · exact H_n (by exact svc) (by omega) (ext1 hl fun _ => hc)
  · (refine ⟨by first | exact .inr rfl | exact .inl rfl, ?_⟩; simp (disch := first | assumption | decide | omega | exact Pth.le _ | exact Rks.le _ | exact List.getElem_mem _ | exact allI_ints _ | exact allI_rks _ | exact allI_pths _ | exact Pth.nil _ | exact Rks.nil _ | (intro hh; simp only [Pth.nil _ hh, List.take_nil, List.drop_nil]; done) | (intro hh; simp only [Rks.nil _ hh, List.take_nil, List.drop_nil]; done) | (simp only [List.length_take, List.length_drop, List.length_append, List.length_cons, List.length_nil, List.length_replicate, List.length_map, ints_len]; omega)) only [resA, rvA, tupA, fin, frzV, frzTup, frzA, frz, isI, isI.all, Option.bind_some, go_sem, if_pos, if_neg, Nat.reduceBEq, Nat.reduceEqDiff, ↓reduceIte, Nat.reduceSub, Nat.reduceAdd, Int.reduceToNat, reduceCtorEq, Nat.reduceLeDiff, Nat.reduceLT, Nat.reduceMul, Nat.reduceDiv, Int.reduceLT, Int.reduceLE, Int.reduceEq, Int.reduceNe, Int.reduceAdd, Int.reduceSub, Int.reduceNeg, Int.reduceGT, Int.reduceGE, Int.reduceBEq, Int.reduceBNe, Int.reduceMul, *])
    rw [fst_no (all_of (Q := fun a => ¬ P a) (by omega) hl)]
/-- A copy. -/
theorem t41e (nl cd : Bool) (M : MS) : ev pr 41 [.list 1 [] nl cd] M = some (.x (.list 1 [] nl true) M []) := by
  refine ev_fn' A41 ?_
  cases nl with
  | true =>
    repeat' (first | ((with_reducible first | apply S_0 | apply S_q1 | apply S_g | apply S_c); exact sgc) | refine Stp.h ?_ | (with_reducible apply B_ne; focus decide) | ((with_reducible first | apply SC_d | apply SG_d | apply SG_n | apply SC_b | apply SG_b) <;> intro hc <;> try simp only [dq1, dq2, dq3, dq4, dq5] at hc))
    (first | exact fincR | exact fincN)
  | false =>
    repeat' (first | ((with_reducible first | apply S_0 | apply S_q1 | apply S_g | apply S_c); exact sgc) | refine Stp.h ?_ | (with_reducible apply B_ne; focus decide) | ((with_reducible first | apply SC_d | apply SG_d | apply SG_n | apply SC_b | apply SG_b) <;> intro hc <;> try simp only [dq1, dq2, dq3, dq4, dq5] at hc))
    (first | exact fincR | exact fincN)
theorem t41 (l : List Int) (nl cd : Bool) (M : MS) (hne : 0 < l.length) (hl : l.length ≤ 1000000) (hn : nl = true → l = []) : ev pr 41 [.list 1 (intsA l) nl cd] M = some (.x (.ms M.length 0 l.length 1 false) (M ++ [some (intsA l)]) []) := by
  cases nl with
  | true => have := hn rfl; subst this; simp at hne
  | false =>
    have hm : ¬ l.length = 0 := by omega
    refine ev_fn' A41 ?_
    clear hn
    repeat' (first | ((with_reducible first | apply S_0 | apply S_q1 | apply S_g | apply S_c); exact sgc) | refine Stp.h ?_ | (with_reducible apply B_ne; focus decide) | ((with_reducible first | apply SC_d | apply SG_d | apply SG_n | apply SC_b | apply SG_b) <;> intro hc <;> try simp only [dq1, dq2, dq3, dq4, dq5] at hc))
    (first | exact fincR | exact fincN)
end Go.Proofs.Ytlcdafidoddefaa.Av
namespace Go.Proofs.Ytlcdafidoddefaa.Av
open Go.RowKit
set_option linter.unusedSimpArgs false
set_option linter.unusedVariables false
set_option maxHeartbeats 10000000
theorem asInts_ints : ∀ l : List Int, asInts .i64 (intsA l) = some l
  | [] => rfl
  | a :: l => by
    have := asInts_ints l
    simp only [intsA, List.map_cons] at this ⊢
    simp only [asInts, if_true, this, Option.map_some]
theorem t109 (l : List Int) (id : Nat) (cd : Bool) (M : MS) (hM : M[id]? = some (some (intsA l))) (hl : l.length ≤ 1000000) : ev pr 109 [.ms id 0 l.length 1 cd] M = some (.x (.flat undef) (M.set id (some (intsA (sorted l)))) [id]) := by
  have h0 : (sorted l).length = l.length := sorted_len l
  have hs : sortA [.ms id 0 l.length 1 cd] M = some (.x (.flat undef) (M.set id (some (intsA (sorted l)))) [id]) := by
    simp only [sortA, hM]
    rw [if_pos ⟨trivial, by rw [ints_len]; omega, by unfold LIM; omega⟩]
    have e1 : ((intsA l).drop 0).take l.length = intsA l := by rw [List.drop_zero, ← ints_len l, List.take_length]
    simp only [e1, asInts_ints]
    simp only [splice, List.take_zero, List.nil_append, Nat.zero_add, ints_len, h0]
    rw [← ints_len l, List.drop_length, List.append_nil]
  rw [ev_ext (by rfl)]
  simp only [pr, orC, extS, if_true, hs]
/-- What is left of the first i numbers where each like the one ahead of it goes. -/
def dd (z : List Int) : Nat → List Int
  | 0 => []
  | i + 1 => dd z i ++ (if i = 0 ∨ z.getD i 0 ≠ z.getD (i - 1) 0 then [z.getD i 0] else [])
theorem dd_le (z : List Int) : ∀ i, (dd z i).length ≤ i
  | 0 => by simp [dd]
  | i + 1 => by have := dd_le z i; simp only [dd, List.length_append]; split <;> simp <;> omega
theorem dd_full {z : List Int} : ∀ {i}, i ≤ z.length → (∀ j, j < i → 1 ≤ j → z.getD j 0 ≠ z.getD (j - 1) 0) → dd z i = z.take i
  | 0, _, _ => by simp [dd]
  | i + 1, hi, h => by
    rw [dd, dd_full (by omega) fun j hj => h j (by omega), if_pos, List.take_succ_eq_append_getElem (by omega)]
    · simp [List.getD, List.getElem?_eq_getElem (show i < z.length by omega)]
    · by_cases h0 : i = 0
      · exact .inl h0
      · exact .inr (h i (by omega) (by omega))
theorem dd_lt {z : List Int} {k : Nat} : ∀ {i}, k < i → 1 ≤ k → z.getD k 0 = z.getD (k - 1) 0 → (dd z i).length < i
  | 0, h, _, _ => by omega
  | i + 1, h, h1, he => by
    simp only [dd, List.length_append]
    by_cases hk : k = i
    · subst hk
      have := dd_le z k
      rw [if_neg fun h => h.elim (fun hh => by omega) fun hh => hh he]; simp; omega
    · have := dd_lt (i := i) (by omega) h1 he
      split <;> simp <;> omega
theorem dd_pos {z : List Int} : ∀ {i}, 0 < i → 1 ≤ (dd z i).length
  | 1, _ => by simp [dd]
  | i + 2, _ => by
    have := dd_pos (z := z) (i := i + 1) (by omega)
    rw [dd, List.length_append]; omega
theorem get_of {z : List Int} {j : Nat} (h : j < z.length) : z.getD j 0 = z[j] := by simp [List.getD, List.getElem?_eq_getElem h]
theorem put_ok {c : List AV} {dl : List Int} {v : Int} {n : Nat} (hc : c.length = n) (hd : dl.length < n) : (intsA dl ++ AV.flat (.int .i64 v) :: c.drop (dl.length + 1)).length = n ∧
    (intsA dl ++ AV.flat (.int .i64 v) :: c.drop (dl.length + 1)).take (dl.length + 1) = intsA (dl ++ [v]) ∧ ∀ j, dl.length < j → (intsA dl ++ AV.flat (.int .i64 v) :: c.drop (dl.length + 1))[j]? = c[j]? := by
  refine ⟨by simp only [List.length_append, ints_len, List.length_cons, List.length_drop]; omega, ?_, fun j hj => ?_⟩
  · have : intsA dl ++ AV.flat (.int .i64 v) :: c.drop (dl.length + 1) = intsA (dl ++ [v]) ++ c.drop (dl.length + 1) := by simp [intsA]
    rw [this, List.take_left' (by simp [intsA])]
  · rw [List.getElem?_append_right (by rw [ints_len]; omega), ints_len]
    obtain ⟨q, rfl⟩ : ∃ q, j = dl.length + 1 + q := ⟨j - dl.length - 1, by omega⟩
    rw [show dl.length + 1 + q - dl.length = q + 1 by omega, List.getElem?_cons_succ, List.getElem?_drop]
theorem t110 (z : List Int) (id : Nat) (cd : Bool) (M : MS) (hid : id < M.length) (hM : M[id]? = some (some (intsA z))) (hz : z.length ≤ 1000000) : ∃ out, ev pr 110 [.ms id 0 z.length 1 cd] M = some out ∧
    ∃ (D : List Nat) (rest : List AV) (cd' : Bool), (∀ x ∈ D, x = id) ∧ out = .x (.ms id 0 (dd z z.length).length 1 cd') (M.set id (some (intsA (dd z z.length) ++ rest))) D := by
  have hself : M.set id (some (intsA z)) = M := by
    apply List.ext_getElem?
    intro i
    by_cases hi : id = i
    · subst hi; rw [List.getElem?_set_self hid, hM]
    · rw [List.getElem?_set_ne hi]
  refine ev_fnE A110 ?_
  repeat' (first | ((with_reducible first | apply S_0 | apply S_q1 | apply S_g | apply S_c); exact sgc) | refine Stp.h ?_ | (with_reducible apply B_ne; focus decide) | ((with_reducible first | apply SC_d | apply SG_d | apply SG_n | apply SC_b | apply SG_b) <;> intro hc <;> try simp only [dq1, dq2, dq3, dq4, dq5] at hc))
  · (refine ⟨by first | exact .inr rfl | exact .inl rfl, ?_⟩; simp (disch := first | assumption | decide | omega | exact Pth.le _ | exact Rks.le _ | exact List.getElem_mem _ | exact allI_ints _ | exact allI_rks _ | exact allI_pths _ | exact Pth.nil _ | exact Rks.nil _ | (intro hh; simp only [Pth.nil _ hh, List.take_nil, List.drop_nil]; done) | (intro hh; simp only [Rks.nil _ hh, List.take_nil, List.drop_nil]; done) | (simp only [List.length_take, List.length_drop, List.length_append, List.length_cons, List.length_nil, List.length_replicate, List.length_map, ints_len]; omega)) only [resA, rvA, tupA, fin, frzV, frzTup, frzA, frz, isI, isI.all, Option.bind_some, go_sem, if_pos, if_neg, Nat.reduceBEq, Nat.reduceEqDiff, ↓reduceIte, Nat.reduceSub, Nat.reduceAdd, Int.reduceToNat, reduceCtorEq, Nat.reduceLeDiff, Nat.reduceLT, Nat.reduceMul, Nat.reduceDiv, Int.reduceLT, Int.reduceLE, Int.reduceEq, Int.reduceNe, Int.reduceAdd, Int.reduceSub, Int.reduceNeg, Int.reduceGT, Int.reduceGE, Int.reduceBEq, Int.reduceBNe, Int.reduceMul, *])
    refine ⟨_, rfl, [], [], cd, by simp, ?_⟩
    have : dd z z.length = z := by rw [dd_full (Nat.le_refl _) (fun j h1 h2 => by omega), List.take_length]
    rw [this, List.append_nil, hself]
  refine W_rng 3 1 z.length (fun k _ => ∀ j, j < k → 1 ≤ j → z.getD j 0 ≠ z.getD (j - 1) 0) (by simp only [asg, asgO, List.append_nil, List.nil_append, List.cons_append]; rfl) (by exact svc) (by omega) (fun j h1 h2 => by omega) ?_
  rintro k e hk1 hkz hk e3 hl
  repeat' (first | ((with_reducible first | apply S_0 | apply S_q1 | apply S_g | apply S_c); exact sgc) | refine Stp.h ?_ | (with_reducible apply B_ne; focus decide) | ((with_reducible first | apply SC_d | apply SG_d | apply SG_n | apply SC_b | apply SG_b) <;> intro hc <;> try simp only [dq1, dq2, dq3, dq4, dq5] at hc))
  · have hkl : k < z.length := by omega
    have he : z.getD k 0 = z.getD (k - 1) 0 := by rw [get_of hkl, get_of (by omega)]; exact hc
    have hddk : dd z (k + 1) = dd z k := by rw [dd, if_neg fun h => h.elim (fun hh => by omega) fun hh => hh he, List.append_nil]
    have hddk' : (dd z k).length = k := by rw [dd_full (by omega) hl, List.length_take]; omega
    have htk : (intsA z).take k = intsA (dd z k) := by rw [dd_full (by omega) hl, ints_take]
    refine W_whl (fun n e m d => ∃ i c, n = z.length - k - i ∧ 1 ≤ i ∧ i ≤ z.length - k ∧ e 5 = .flat (.int .i64 (i : Nat)) ∧ e 3 = .flat (.int .i64 (dd z (k + i)).length) ∧ (∀ x ∈ d, x = id) ∧ m = M.set id (some c) ∧ c.length = z.length ∧
      c.take (dd z (k + i)).length = intsA (dd z (k + i)) ∧ ∀ j, k + i ≤ j + 1 → j < z.length → c[j]? = some (.flat (.int .i64 (z.getD j 0)))) (z.length - k - 1) (by simp only [asg, asgO, List.append_nil, List.nil_append, List.cons_append]; rfl)
      ⟨1, intsA z, rfl, by omega, by omega, by exact svc, by rw [hddk, hddk']; exact svc, by simp, hself.symm, ints_len z, by rw [hddk, hddk', htk], fun j h1 h2 => by rw [ints_get, List.getElem?_eq_getElem h2, get_of h2]; rfl⟩ ?_
    rintro n e' m d hk' ⟨i, c, rfl, hi1, hik, e5, e3', hd, rfl, hcl, htc, hcj⟩
    have q1 : c[k + i - 1]? = some (.flat (.int .i64 (z.getD (k + i - 1) 0))) := hcj _ (by omega) (by omega)
    have e0' : e' 0 = .ms id 0 z.length 1 cd := by rw [hk' 0 rfl]; exact svc
    have e4' : e' 4 = .ms id k (z.length - k) 1 cd := by rw [hk' 4 rfl]; exact svc
    clear hk' hk hl htk
    have hd1 := dd_lt (z := z) (k := k) (i := k + i) (by omega) hk1 he
    have hd2 : 1 ≤ (dd z (k + i)).length := dd_pos (by omega)
    have hq : ∀ j (h : j < ((c.drop k).take (z.length - k)).length), i ≤ j + 1 → ((c.drop k).take (z.length - k))[j] = .flat (.int .i64 (z.getD (k + j) 0)) := by
      intro j h h1
      simp only [List.length_take, List.length_drop] at h
      have := hcj (k + j) (by omega) (by omega)
      rw [List.getElem?_eq_getElem (by omega)] at this
      rw [List.getElem_take, List.getElem_drop]
      exact Option.some.inj this
    clear q1
    repeat' (first | ((with_reducible first | apply S_0 | apply S_q1 | apply S_g | apply S_c); exact sgc) | refine Stp.h ?_ | (with_reducible apply B_ne; focus decide) | ((with_reducible first | apply SC_d | apply SG_d | apply SG_n | apply SC_b | apply SG_b) <;> intro hc <;> try simp only [dq1, dq2, dq3, dq4, dq5] at hc))
    · have hki : k + (i - 1) = k + i - 1 := by omega
      have hn : dd z (k + (i + 1)) = dd z (k + i) ++ [z.getD (k + i) 0] := by
        rw [← Nat.add_assoc, dd, if_pos (.inr (by rw [← hki]; exact hc))]
      have hl1 : (dd z (k + (i + 1))).length = (dd z (k + i)).length + 1 := by rw [hn]; simp
      obtain ⟨p1, p2, p3⟩ := put_ok (v := z.getD (k + i) 0) hcl (show (dd z (k + i)).length < z.length by omega)
      refine R_n _ (by omega) ⟨i + 1, _, rfl, by omega, by omega, by exact svc, by rw [hl1]; exact svc, ?_, rfl, p1, ?_, ?_⟩
      · intro x hx
        rcases List.mem_cons.1 hx with h | h
        · exact h
        · exact hd x h
      · rw [hl1, hn]; exact p2
      · intro j h1 h2
        rw [p3 j (by omega)]; exact hcj j (by omega) h2
    · have hki : k + (i - 1) = k + i - 1 := by omega
      have hn : dd z (k + (i + 1)) = dd z (k + i) := by
        rw [← Nat.add_assoc, dd, if_neg fun h => h.elim (fun hh => by omega) fun hh => hh (by rw [← hki]; exact hc), List.append_nil]
      refine R_n _ (by omega) ⟨i + 1, c, rfl, by omega, by omega, by exact svc, by rw [hn]; exact svc, hd, rfl, hcl, by rw [hn]; exact htc, fun j h1 h2 => hcj j (by omega) h2⟩
    · have hkz : k + i = z.length := by omega
      (refine ⟨by first | exact .inr rfl | exact .inl rfl, ?_⟩; simp (disch := first | assumption | decide | omega | exact Pth.le _ | exact Rks.le _ | exact List.getElem_mem _ | exact allI_ints _ | exact allI_rks _ | exact allI_pths _ | exact Pth.nil _ | exact Rks.nil _ | (intro hh; simp only [Pth.nil _ hh, List.take_nil, List.drop_nil]; done) | (intro hh; simp only [Rks.nil _ hh, List.take_nil, List.drop_nil]; done) | (simp only [List.length_take, List.length_drop, List.length_append, List.length_cons, List.length_nil, List.length_replicate, List.length_map, ints_len]; omega)) only [resA, rvA, tupA, fin, frzV, frzTup, frzA, frz, isI, isI.all, Option.bind_some, go_sem, if_pos, if_neg, Nat.reduceBEq, Nat.reduceEqDiff, ↓reduceIte, Nat.reduceSub, Nat.reduceAdd, Int.reduceToNat, reduceCtorEq, Nat.reduceLeDiff, Nat.reduceLT, Nat.reduceMul, Nat.reduceDiv, Int.reduceLT, Int.reduceLE, Int.reduceEq, Int.reduceNe, Int.reduceAdd, Int.reduceSub, Int.reduceNeg, Int.reduceGT, Int.reduceGE, Int.reduceBEq, Int.reduceBNe, Int.reduceMul, *])
      refine ⟨_, rfl, _, _, _, ?_, rfl⟩
      intro x hx
      rcases List.mem_cons.1 hx with h | h
      · exact h
      · exact hd x h
  · refine H_n (by exact svc) (by omega) (ext1 hl fun _ => ?_)
    rw [get_of (by omega), get_of (by omega)]; exact hc
  · (refine ⟨by first | exact .inr rfl | exact .inl rfl, ?_⟩; simp (disch := first | assumption | decide | omega | exact Pth.le _ | exact Rks.le _ | exact List.getElem_mem _ | exact allI_ints _ | exact allI_rks _ | exact allI_pths _ | exact Pth.nil _ | exact Rks.nil _ | (intro hh; simp only [Pth.nil _ hh, List.take_nil, List.drop_nil]; done) | (intro hh; simp only [Rks.nil _ hh, List.take_nil, List.drop_nil]; done) | (simp only [List.length_take, List.length_drop, List.length_append, List.length_cons, List.length_nil, List.length_replicate, List.length_map, ints_len]; omega)) only [resA, rvA, tupA, fin, frzV, frzTup, frzA, frz, isI, isI.all, Option.bind_some, go_sem, if_pos, if_neg, Nat.reduceBEq, Nat.reduceEqDiff, ↓reduceIte, Nat.reduceSub, Nat.reduceAdd, Int.reduceToNat, reduceCtorEq, Nat.reduceLeDiff, Nat.reduceLT, Nat.reduceMul, Nat.reduceDiv, Int.reduceLT, Int.reduceLE, Int.reduceEq, Int.reduceNe, Int.reduceAdd, Int.reduceSub, Int.reduceNeg, Int.reduceGT, Int.reduceGE, Int.reduceBEq, Int.reduceBNe, Int.reduceMul, *])
    refine ⟨_, rfl, [], [], cd, by simp, ?_⟩
    have : dd z z.length = z := by rw [dd_full (Nat.le_refl _) (fun j h1 h2 => hl j (by omega) h2), List.take_length]
    rw [this, List.append_nil, hself]
/-- In sorted rows what stands twice stands side by side. -/
theorem dd_sorted {z : List Int} (hs : z.Pairwise (· ≤ ·)) : (dd z z.length).length = z.length ↔ z.Nodup := by
  have mono : ∀ a b (ha : a < b) (hb : b < z.length), z[a]'(by omega) ≤ z[b] := fun a b ha hb => List.pairwise_iff_getElem.1 hs a b (by omega) hb ha
  constructor
  · intro h
    have hne : ∀ k, 1 ≤ k → k < z.length → z.getD k 0 ≠ z.getD (k - 1) 0 := fun k h1 h2 he => by
      have := dd_lt (z := z) (k := k) (i := z.length) h2 h1 he; omega
    have lt1 : ∀ k, 1 ≤ k → (h2 : k < z.length) → z[k - 1] < z[k] := fun k h1 h2 => by
      have h3 := hne k h1 h2
      rw [get_of h2, get_of (by omega)] at h3
      have := mono (k - 1) k (by omega) h2
      omega
    rw [List.nodup_iff_pairwise_ne, List.pairwise_iff_getElem]
    intro i j hi hj hij
    have h1 := lt1 j (by omega) hj
    by_cases hh : i = j - 1
    · subst hh; omega
    · have := mono i (j - 1) (by omega) (by omega); omega
  · intro h
    rw [dd_full (Nat.le_refl _), List.take_length]
    intro j h1 h2 he
    rw [get_of h1, get_of (by omega)] at he
    rw [List.nodup_iff_pairwise_ne, List.pairwise_iff_getElem] at h
    exact h (j - 1) j (by omega) h1 (by omega) he.symm
theorem filter_own {D : List Nat} {n id : Nat} (h : ∀ x ∈ D, x = id) (hn : n ≤ id) : D.filter (fun x => decide (x < n)) = [] := by
  rw [List.filter_eq_nil_iff]
  intro a ha
  have := h a ha
  simp only [decide_eq_true_eq]; omega
attribute [go_sem] t49
theorem t96 (l : List Int) (nl cd : Bool) (M : MS) (hne : 0 < l.length) (hl : l.length ≤ 1000000) (hn : nl = true → l = []) : ev pr 96 [.list 1 (intsA l) nl cd] M = some (.q (.flat (.bool (decide l.Nodup)))) := by
  have h1 := t41 l nl cd M hne hl hn
  have h2 := t109 l M.length false (M ++ [some (intsA l)]) (by simp) hl
  have e2 : (M ++ [some (intsA l)]).set M.length (some (intsA (sorted l))) = M ++ [some (intsA (sorted l))] := by rw [set_app0]; rfl
  rw [e2] at h2
  obtain ⟨_, h3, D, rest, cd', hD, rfl⟩ := t110 (sorted l) M.length false (M ++ [some (intsA (sorted l))]) (by simp) (by simp) (by rw [sorted_len]; exact hl)
  rw [sorted_len] at h3
  have h4 := filter_own hD (Nat.le_refl M.length)
  have h5 := dd_sorted (sorted_pw l)
  rw [sorted_len] at h5
  have h6 : (sorted l).Nodup ↔ l.Nodup := (sorted_perm l).nodup_iff
  have h7 : List.filter (fun x => decide (x < M.length)) [M.length] = [] := by simp
  clear e2 hD
  refine ev_fn' A96 ?_
  repeat' (first | ((with_reducible first | apply S_0 | apply S_q1 | apply S_g | apply S_c); exact sgc) | refine Stp.h ?_ | (with_reducible apply B_ne; focus decide) | ((with_reducible first | apply SC_d | apply SG_d | apply SG_n | apply SC_b | apply SG_b) <;> intro hc <;> try simp only [dq1, dq2, dq3, dq4, dq5] at hc))
  (refine ⟨by first | exact .inr rfl | exact .inl rfl, ?_⟩; simp (disch := first | assumption | decide | omega | exact Pth.le _ | exact Rks.le _ | exact List.getElem_mem _ | exact allI_ints _ | exact allI_rks _ | exact allI_pths _ | exact Pth.nil _ | exact Rks.nil _ | (intro hh; simp only [Pth.nil _ hh, List.take_nil, List.drop_nil]; done) | (intro hh; simp only [Rks.nil _ hh, List.take_nil, List.drop_nil]; done) | (simp only [List.length_take, List.length_drop, List.length_append, List.length_cons, List.length_nil, List.length_replicate, List.length_map, ints_len]; omega)) only [resA, rvA, tupA, fin, frzV, frzTup, frzA, frz, isI, isI.all, Option.bind_some, go_sem, if_pos, if_neg, Nat.reduceBEq, Nat.reduceEqDiff, ↓reduceIte, Nat.reduceSub, Nat.reduceAdd, Int.reduceToNat, reduceCtorEq, Nat.reduceLeDiff, Nat.reduceLT, Nat.reduceMul, Nat.reduceDiv, Int.reduceLT, Int.reduceLE, Int.reduceEq, Int.reduceNe, Int.reduceAdd, Int.reduceSub, Int.reduceNeg, Int.reduceGT, Int.reduceGE, Int.reduceBEq, Int.reduceBNe, Int.reduceMul, *])
  have : ((((dd (sorted l) l.length).length : Nat) : Int) = l.length) = l.Nodup := by rw [eq_iff_iff, ← h6, ← h5]; omega
  simp only [this]
end Go.Proofs.Ytlcdafidoddefaa.Av
namespace Go.Proofs.Ytlcdafidoddefaa.Av
open Go.RowKit
set_option linter.unusedSimpArgs false
set_option linter.unusedVariables false
set_option maxHeartbeats 10000000
theorem t95 (a n : Int) (id : Nat) (M : MS) (hM : M[id]? = some (some [.flat (.int .i64 n)])) : ev pr 95 [.flat (.int .i64 a), .mptr id 0] M = some (.q (.flat (.bool (decide (a < 0 ∨ n ≤ a))))) := by
  refine ev_fn' A95 ?_
  repeat' (first | ((with_reducible first | apply S_0 | apply S_q1 | apply S_g | apply S_c); exact sgc) | refine Stp.h ?_ | (with_reducible apply B_ne; focus decide) | ((with_reducible first | apply SC_d | apply SG_d | apply SG_n | apply SC_b | apply SG_b) <;> intro hc <;> try simp only [dq1, dq2, dq3, dq4, dq5] at hc))
  · (first | exact fincR | exact fincN)
  · (first | exact fincR | exact fincN)
theorem t87 (x : List Int) (nx cx : Bool) (v n : Int) (M : MS) (hx : x.length ≤ 1000000) (hn : nx = true → x = []) : ev pr 87 [.list 1 (intsA x) nx cx, .flat (.int .i64 v), .flat (.int .i64 n)] M = some (.q (.flat (.bool (decide (PathOk x v n))))) := by
  have h1 := @t51 (fun a => a < 0 ∨ n ≤ a) _ x nx cx 95 [.mptr M.length 0] (M ++ [some [.flat (.int .i64 n)]]) (by omega) (fun a _ => t95 a n _ _ (by simp))
  have h2 := fun h => t96 x nx cx (M ++ [some [.flat (.int .i64 n)]]) h hx hn
  refine ev_fn' A87 ?_
  by_cases h3 : 0 ≤ fst (fun a => a < 0 ∨ n ≤ a) x
  · have h4 : ¬ PathOk x v n := fun h => by
      obtain ⟨a, ha, hb⟩ := fst_ge.1 h3
      have := h.2.2.2.2 a ha
      omega
    simp only [h3, decide_true] at h1
    repeat' (first | ((with_reducible first | apply S_0 | apply S_q1 | apply S_g | apply S_c); exact sgc) | refine Stp.h ?_ | (with_reducible apply B_ne; focus decide) | ((with_reducible first | apply SC_d | apply SG_d | apply SG_n | apply SC_b | apply SG_b) <;> intro hc <;> try simp only [dq1, dq2, dq3, dq4, dq5] at hc))
    (first | exact fincR | exact fincN)
  · have h5 : ∀ a ∈ x, 0 ≤ a ∧ a < n := fun a ha => by
      have := fst_lt.1 (Int.not_le.1 h3) a ha
      omega
    simp only [h3, decide_false] at h1
    repeat' (first | ((with_reducible first | apply S_0 | apply S_q1 | apply S_g | apply S_c); exact sgc) | refine Stp.h ?_ | (with_reducible apply B_ne; focus decide) | ((with_reducible first | apply SC_d | apply SG_d | apply SG_n | apply SC_b | apply SG_b) <;> intro hc <;> try simp only [dq1, dq2, dq3, dq4, dq5] at hc))
    · (refine ⟨by first | exact .inr rfl | exact .inl rfl, ?_⟩; simp (disch := first | assumption | decide | omega | exact Pth.le _ | exact Rks.le _ | exact List.getElem_mem _ | exact allI_ints _ | exact allI_rks _ | exact allI_pths _ | exact Pth.nil _ | exact Rks.nil _ | (intro hh; simp only [Pth.nil _ hh, List.take_nil, List.drop_nil]; done) | (intro hh; simp only [Rks.nil _ hh, List.take_nil, List.drop_nil]; done) | (simp only [List.length_take, List.length_drop, List.length_append, List.length_cons, List.length_nil, List.length_replicate, List.length_map, ints_len]; omega)) only [resA, rvA, tupA, fin, frzV, frzTup, frzA, frz, isI, isI.all, Option.bind_some, go_sem, if_pos, if_neg, Nat.reduceBEq, Nat.reduceEqDiff, ↓reduceIte, Nat.reduceSub, Nat.reduceAdd, Int.reduceToNat, reduceCtorEq, Nat.reduceLeDiff, Nat.reduceLT, Nat.reduceMul, Nat.reduceDiv, Int.reduceLT, Int.reduceLE, Int.reduceEq, Int.reduceNe, Int.reduceAdd, Int.reduceSub, Int.reduceNeg, Int.reduceGT, Int.reduceGE, Int.reduceBEq, Int.reduceBNe, Int.reduceMul, *])
      have h6 := pathOk_iff (v := v) (n := n) (x := x) (by omega) (by assumption) (by assumption)
      by_cases h7 : x.Nodup
      · have := (h6 h7).2 h5
        simp only [h7, this]
      · have : ¬ PathOk x v n := fun h => h7 h.2.2.2.1
        simp only [h7, this]
    · (refine ⟨by first | exact .inr rfl | exact .inl rfl, ?_⟩; simp (disch := first | assumption | decide | omega | exact Pth.le _ | exact Rks.le _ | exact List.getElem_mem _ | exact allI_ints _ | exact allI_rks _ | exact allI_pths _ | exact Pth.nil _ | exact Rks.nil _ | (intro hh; simp only [Pth.nil _ hh, List.take_nil, List.drop_nil]; done) | (intro hh; simp only [Rks.nil _ hh, List.take_nil, List.drop_nil]; done) | (simp only [List.length_take, List.length_drop, List.length_append, List.length_cons, List.length_nil, List.length_replicate, List.length_map, ints_len]; omega)) only [resA, rvA, tupA, fin, frzV, frzTup, frzA, frz, isI, isI.all, Option.bind_some, go_sem, if_pos, if_neg, Nat.reduceBEq, Nat.reduceEqDiff, ↓reduceIte, Nat.reduceSub, Nat.reduceAdd, Int.reduceToNat, reduceCtorEq, Nat.reduceLeDiff, Nat.reduceLT, Nat.reduceMul, Nat.reduceDiv, Int.reduceLT, Int.reduceLE, Int.reduceEq, Int.reduceNe, Int.reduceAdd, Int.reduceSub, Int.reduceNeg, Int.reduceGT, Int.reduceGE, Int.reduceBEq, Int.reduceBNe, Int.reduceMul, *])
      have : ¬ PathOk x v n := fun h => by have := h.2.2.1; rw [List.getElem?_eq_getElem (by omega)] at this; exact hc (Option.some.inj this)
      simp only [this, decide_false]
    · (refine ⟨by first | exact .inr rfl | exact .inl rfl, ?_⟩; simp (disch := first | assumption | decide | omega | exact Pth.le _ | exact Rks.le _ | exact List.getElem_mem _ | exact allI_ints _ | exact allI_rks _ | exact allI_pths _ | exact Pth.nil _ | exact Rks.nil _ | (intro hh; simp only [Pth.nil _ hh, List.take_nil, List.drop_nil]; done) | (intro hh; simp only [Rks.nil _ hh, List.take_nil, List.drop_nil]; done) | (simp only [List.length_take, List.length_drop, List.length_append, List.length_cons, List.length_nil, List.length_replicate, List.length_map, ints_len]; omega)) only [resA, rvA, tupA, fin, frzV, frzTup, frzA, frz, isI, isI.all, Option.bind_some, go_sem, if_pos, if_neg, Nat.reduceBEq, Nat.reduceEqDiff, ↓reduceIte, Nat.reduceSub, Nat.reduceAdd, Int.reduceToNat, reduceCtorEq, Nat.reduceLeDiff, Nat.reduceLT, Nat.reduceMul, Nat.reduceDiv, Int.reduceLT, Int.reduceLE, Int.reduceEq, Int.reduceNe, Int.reduceAdd, Int.reduceSub, Int.reduceNeg, Int.reduceGT, Int.reduceGE, Int.reduceBEq, Int.reduceBNe, Int.reduceMul, *])
      have : ¬ PathOk x v n := fun h => by have := h.2.1; rw [List.getElem?_eq_getElem (by omega)] at this; exact hc (Option.some.inj this)
      simp only [this, decide_false]
    · (refine ⟨by first | exact .inr rfl | exact .inl rfl, ?_⟩; simp (disch := first | assumption | decide | omega | exact Pth.le _ | exact Rks.le _ | exact List.getElem_mem _ | exact allI_ints _ | exact allI_rks _ | exact allI_pths _ | exact Pth.nil _ | exact Rks.nil _ | (intro hh; simp only [Pth.nil _ hh, List.take_nil, List.drop_nil]; done) | (intro hh; simp only [Rks.nil _ hh, List.take_nil, List.drop_nil]; done) | (simp only [List.length_take, List.length_drop, List.length_append, List.length_cons, List.length_nil, List.length_replicate, List.length_map, ints_len]; omega)) only [resA, rvA, tupA, fin, frzV, frzTup, frzA, frz, isI, isI.all, Option.bind_some, go_sem, if_pos, if_neg, Nat.reduceBEq, Nat.reduceEqDiff, ↓reduceIte, Nat.reduceSub, Nat.reduceAdd, Int.reduceToNat, reduceCtorEq, Nat.reduceLeDiff, Nat.reduceLT, Nat.reduceMul, Nat.reduceDiv, Int.reduceLT, Int.reduceLE, Int.reduceEq, Int.reduceNe, Int.reduceAdd, Int.reduceSub, Int.reduceNeg, Int.reduceGT, Int.reduceGE, Int.reduceBEq, Int.reduceBNe, Int.reduceMul, *])
      have : ¬ PathOk x v n := fun h => hc (by have := h.1; omega)
      simp only [this, decide_false]
theorem fst_place (x : List Rnk) (y : List Int) : fst (fun r => r.p.l = y) x = place (paths x) y := by
  by_cases h : 0 ≤ fst (fun r : Rnk => r.p.l = y) x
  · obtain ⟨i, hi, h1, h2, h3⟩ := fst_spec h
    rw [h1, place_at (i := i) (by rw [paths_len]; exact hi) (by rw [paths_get]; exact h2) (fun j hj hl => by rw [paths_get]; exact h3 j hj _)]
  · have h1 := fst_lt.1 (Int.not_le.1 h)
    rw [fst_no h1, place_no]
    intro hm
    obtain ⟨r, hr, h2⟩ := List.mem_map.1 hm
    exact h1 r hr h2
theorem t97 (r : Rnk) (y : List Int) (ny cy : Bool) (id : Nat) (M : MS) (hid : id < M.length) (hM : M[id]? = some (some [.list 1 (intsA y) ny cy])) : ev pr 97 [.agg [.list 1 (intsA r.p.l) r.p.nl r.p.cd, .flat (.int .i64 r.r)], .mptr id 0] M = some (.q (.flat (.bool (decide (r.p.l = y))))) := by
  have hM' : (M ++ [some [.list 1 (intsA r.p.l) r.p.nl r.p.cd, .flat (.int .i64 r.r)]])[id]? = some (some [.list 1 (intsA y) ny cy]) := by rw [List.getElem?_append_left hid, hM]
  refine ev_fn' A97 ?_
  repeat' (first | ((with_reducible first | apply S_0 | apply S_q1 | apply S_g | apply S_c); exact sgc) | refine Stp.h ?_ | (with_reducible apply B_ne; focus decide) | ((with_reducible first | apply SC_d | apply SG_d | apply SG_n | apply SC_b | apply SG_b) <;> intro hc <;> try simp only [dq1, dq2, dq3, dq4, dq5] at hc))
  (first | exact fincR | exact fincN)
theorem t88 (x : List Rnk) (nx cx : Bool) (y : List Int) (ny cy : Bool) (M : MS) (hx : x.length ≤ 9223372036854775807) : ev pr 88 [.list 2 (rksA x) nx cx, .list 1 (intsA y) ny cy] M = some (.q (.flat (.int .i64 (place (paths x) y)))) := by
  have h1 := @t92 (fun r => r.p.l = y) _ x nx cx 97 [.mptr M.length 0] (M ++ [some [.list 1 (intsA y) ny cy]]) hx (fun r hr => t97 r y ny cy _ _ (by simp) (by simp))
  rw [fst_place] at h1
  refine ev_fn' A88 ?_
  repeat' (first | ((with_reducible first | apply S_0 | apply S_q1 | apply S_g | apply S_c); exact sgc) | refine Stp.h ?_ | (with_reducible apply B_ne; focus decide) | ((with_reducible first | apply SC_d | apply SG_d | apply SG_n | apply SC_b | apply SG_b) <;> intro hc <;> try simp only [dq1, dq2, dq3, dq4, dq5] at hc))
  (first | exact fincR | exact fincN)
attribute [go_sem] t87 t88
end Go.Proofs.Ytlcdafidoddefaa.Av
namespace Go.Proofs.Ytlcdafidoddefaa.Av
open Go.RowKit
set_option linter.unusedSimpArgs false
set_option linter.unusedVariables false
set_option maxHeartbeats 10000000
theorem take_drop_len {α : Type} (l : List α) (k : Nat) : (l.drop k).take (l.length - k) = l.drop k := by
  rw [← List.length_drop, List.take_length]
attribute [go_sem] take_drop_len Option.bind_some
attribute [go_sem low] lenM_eq
/-- A row that reads as cells, whatever comes to memory. -/
structure Vw (M : MS) (sv : AV) (cs : List AV) (n : Nat) : Prop where
  len : lenOf sv = some n
  vw : ∀ G, view (M ++ G) sv = some cs
  cell : cellsOf sv = some [sv]
theorem Vw.v0 {M : MS} {sv : AV} {cs : List AV} {n : Nat} (h : Vw M sv cs n) : view M sv = some cs := by
  have := h.vw []; rwa [List.append_nil] at this
theorem Vw.ext {M : MS} {sv : AV} {cs : List AV} {n : Nat} (h : Vw M sv cs n) (G : MS) : Vw (M ++ G) sv cs n :=
  ⟨h.len, fun G' => by rw [List.append_assoc]; exact h.vw _, h.cell⟩
theorem Vw.list (M : MS) {α : Type} (f : α → AV) (s : List α) (nl cd : Bool) : Vw M (.list 1 (s.map f) nl cd) (s.map f) s.length :=
  ⟨by simp [lenOf], fun _ => rfl, rfl⟩
/-- Is a path open? -/
def opn (s : List (List Int)) (p : List Int) : Prop := ∃ u : Nat, p[1]? = some (u : Int) ∧ s[u]? = some (p.drop 1)
noncomputable instance (s : List (List Int)) (p : List Int) : Decidable (opn s p) := Classical.propDecidable _
/-- The best response. -/
noncomputable def resp (s : List (List Int)) (L : List (List Int)) : List Int := (L.find? fun p => decide (opn s p)).getD []
theorem lok_path {l : List Rnk} {v n : Int} (h : LOk l v n) : ∀ r ∈ l, PathOk r.p.l v n := fun r hr => by
  obtain ⟨i, hi, rfl⟩ := List.mem_iff_getElem.1 hr
  exact (h.2 i hi).2.1
theorem path1 {p : List Int} {v n : Int} (h : PathOk p v n) : ∃ h1 : 1 < p.length, 0 ≤ p[1] ∧ p[1] < n := by
  have h1 : 1 < p.length := h.1
  exact ⟨h1, h.2.2.2.2 _ (List.getElem_mem h1)⟩
end Go.Proofs.Ytlcdafidoddefaa.Av
namespace Go.Proofs.Ytlcdafidoddefaa.Av
open Go.RowKit
set_option linter.unusedSimpArgs false
set_option linter.unusedVariables false
set_option maxHeartbeats 10000000
theorem t69 (x : List Rnk) (nx cx : Bool) (v n : Int) (M : MS) (hx : x.length ≤ 9223372036854775807) (hs : ∀ r ∈ x, r.p.l.length ≤ 1000000) (hn : nx = true → x = []) : ev pr 69 [.list 2 (rksA x) nx cx, .flat (.int .i64 v), .flat (.int .i64 n)] M = some (.q (.flat (.bool (decide (LOk x v n))))) := by
  refine ev_fn' A69 ?_
  repeat' (first | ((with_reducible first | apply S_0 | apply S_q1 | apply S_g | apply S_c); exact sgc) | refine Stp.h ?_ | (with_reducible apply B_ne; focus decide) | ((with_reducible first | apply SC_d | apply SG_d | apply SG_n | apply SC_b | apply SG_b) <;> intro hc <;> try simp only [dq1, dq2, dq3, dq4, dq5] at hc))
  · (refine ⟨by first | exact .inr rfl | exact .inl rfl, ?_⟩; simp (disch := first | assumption | decide | omega | exact Pth.le _ | exact Rks.le _ | exact List.getElem_mem _ | exact allI_ints _ | exact allI_rks _ | exact allI_pths _ | exact Pth.nil _ | exact Rks.nil _ | (intro hh; simp only [Pth.nil _ hh, List.take_nil, List.drop_nil]; done) | (intro hh; simp only [Rks.nil _ hh, List.take_nil, List.drop_nil]; done) | (simp only [List.length_take, List.length_drop, List.length_append, List.length_cons, List.length_nil, List.length_replicate, List.length_map, ints_len]; omega)) only [resA, rvA, tupA, fin, frzV, frzTup, frzA, frz, isI, isI.all, Option.bind_some, go_sem, if_pos, if_neg, Nat.reduceBEq, Nat.reduceEqDiff, ↓reduceIte, Nat.reduceSub, Nat.reduceAdd, Int.reduceToNat, reduceCtorEq, Nat.reduceLeDiff, Nat.reduceLT, Nat.reduceMul, Nat.reduceDiv, Int.reduceLT, Int.reduceLE, Int.reduceEq, Int.reduceNe, Int.reduceAdd, Int.reduceSub, Int.reduceNeg, Int.reduceGT, Int.reduceGE, Int.reduceBEq, Int.reduceBNe, Int.reduceMul, *])
    have : ¬ LOk x v n := fun h => by have := h.1; omega
    simp only [this, decide_false]
  refine W_rngM 14 0 x.length (fun i _ m => (∀ j, j < i → ∀ h : j < x.length, j < 64 ∧ x[j].r = j ∧ PathOk x[j].p.l v n ∧ x[j].p.l ∉ paths (x.take j)) ∧ ∃ G, m = M ++ G) (by simp only [asg, asgO, List.append_nil, List.nil_append, List.cons_append]; rfl) (by exact svc) (by omega) ⟨fun j hj => by omega, [], by simp⟩ ?_
  rintro i e _ _ hi hk e14 ⟨hl, G, rfl⟩
  rcases Nat.lt_or_ge i x.length with hlt | hlt
  · have hlt' : (i : Int) < x.length := by omega
    have hs1 := hs _ (List.getElem_mem hlt)
    repeat' (first | ((with_reducible first | apply S_0 | apply S_q1 | apply S_g | apply S_c); exact sgc) | refine Stp.h ?_ | (with_reducible apply B_ne; focus decide) | ((with_reducible first | apply SC_d | apply SG_d | apply SG_n | apply SC_b | apply SG_b) <;> intro hc <;> try simp only [dq1, dq2, dq3, dq4, dq5] at hc))
    · (refine ⟨by first | exact .inr rfl | exact .inl rfl, ?_⟩; simp (disch := first | assumption | decide | omega | exact Pth.le _ | exact Rks.le _ | exact List.getElem_mem _ | exact allI_ints _ | exact allI_rks _ | exact allI_pths _ | exact Pth.nil _ | exact Rks.nil _ | (intro hh; simp only [Pth.nil _ hh, List.take_nil, List.drop_nil]; done) | (intro hh; simp only [Rks.nil _ hh, List.take_nil, List.drop_nil]; done) | (simp only [List.length_take, List.length_drop, List.length_append, List.length_cons, List.length_nil, List.length_replicate, List.length_map, ints_len]; omega)) only [resA, rvA, tupA, fin, frzV, frzTup, frzA, frz, isI, isI.all, Option.bind_some, go_sem, if_pos, if_neg, Nat.reduceBEq, Nat.reduceEqDiff, ↓reduceIte, Nat.reduceSub, Nat.reduceAdd, Int.reduceToNat, reduceCtorEq, Nat.reduceLeDiff, Nat.reduceLT, Nat.reduceMul, Nat.reduceDiv, Int.reduceLT, Int.reduceLE, Int.reduceEq, Int.reduceNe, Int.reduceAdd, Int.reduceSub, Int.reduceNeg, Int.reduceGT, Int.reduceGE, Int.reduceBEq, Int.reduceBNe, Int.reduceMul, *])
      have : ¬ LOk x v n := fun h => lok_no (i := i) (by omega) (fun hh => hc hh.2.1) h
      simp only [this, decide_false]
    · (refine ⟨by first | exact .inr rfl | exact .inl rfl, ?_⟩; simp (disch := first | assumption | decide | omega | exact Pth.le _ | exact Rks.le _ | exact List.getElem_mem _ | exact allI_ints _ | exact allI_rks _ | exact allI_pths _ | exact Pth.nil _ | exact Rks.nil _ | (intro hh; simp only [Pth.nil _ hh, List.take_nil, List.drop_nil]; done) | (intro hh; simp only [Rks.nil _ hh, List.take_nil, List.drop_nil]; done) | (simp only [List.length_take, List.length_drop, List.length_append, List.length_cons, List.length_nil, List.length_replicate, List.length_map, ints_len]; omega)) only [resA, rvA, tupA, fin, frzV, frzTup, frzA, frz, isI, isI.all, Option.bind_some, go_sem, if_pos, if_neg, Nat.reduceBEq, Nat.reduceEqDiff, ↓reduceIte, Nat.reduceSub, Nat.reduceAdd, Int.reduceToNat, reduceCtorEq, Nat.reduceLeDiff, Nat.reduceLT, Nat.reduceMul, Nat.reduceDiv, Int.reduceLT, Int.reduceLE, Int.reduceEq, Int.reduceNe, Int.reduceAdd, Int.reduceSub, Int.reduceNeg, Int.reduceGT, Int.reduceGE, Int.reduceBEq, Int.reduceBNe, Int.reduceMul, *])
      have : ¬ LOk x v n := fun h => lok_no (i := i) (by omega) (fun hh => hc hh.2.2.1) h
      simp only [this, decide_false]
    · (refine ⟨by first | exact .inr rfl | exact .inl rfl, ?_⟩; simp (disch := first | assumption | decide | omega | exact Pth.le _ | exact Rks.le _ | exact List.getElem_mem _ | exact allI_ints _ | exact allI_rks _ | exact allI_pths _ | exact Pth.nil _ | exact Rks.nil _ | (intro hh; simp only [Pth.nil _ hh, List.take_nil, List.drop_nil]; done) | (intro hh; simp only [Rks.nil _ hh, List.take_nil, List.drop_nil]; done) | (simp only [List.length_take, List.length_drop, List.length_append, List.length_cons, List.length_nil, List.length_replicate, List.length_map, ints_len]; omega)) only [resA, rvA, tupA, fin, frzV, frzTup, frzA, frz, isI, isI.all, Option.bind_some, go_sem, if_pos, if_neg, Nat.reduceBEq, Nat.reduceEqDiff, ↓reduceIte, Nat.reduceSub, Nat.reduceAdd, Int.reduceToNat, reduceCtorEq, Nat.reduceLeDiff, Nat.reduceLT, Nat.reduceMul, Nat.reduceDiv, Int.reduceLT, Int.reduceLE, Int.reduceEq, Int.reduceNe, Int.reduceAdd, Int.reduceSub, Int.reduceNeg, Int.reduceGT, Int.reduceGE, Int.reduceBEq, Int.reduceBNe, Int.reduceMul, *])
      have : ¬ LOk x v n := fun h => lok_no (i := i) (by omega) (fun hh => place_ge.1 (by omega) |> hh.2.2.2) h
      simp only [this, decide_false]
    · exact G_n (by exact svc) (by omega) ⟨ext1 hl fun _ => ⟨by omega, by assumption, by assumption, fun hm => by have := place_ge.2 hm; omega⟩, _, rfl⟩
  · have hlt' : ¬ (i : Int) < x.length := by omega
    repeat' (first | ((with_reducible first | apply S_0 | apply S_q1 | apply S_g | apply S_c); exact sgc) | refine Stp.h ?_ | (with_reducible apply B_ne; focus decide) | ((with_reducible first | apply SC_d | apply SG_d | apply SG_n | apply SC_b | apply SG_b) <;> intro hc <;> try simp only [dq1, dq2, dq3, dq4, dq5] at hc))
    (refine ⟨by first | exact .inr rfl | exact .inl rfl, ?_⟩; simp (disch := first | assumption | decide | omega | exact Pth.le _ | exact Rks.le _ | exact List.getElem_mem _ | exact allI_ints _ | exact allI_rks _ | exact allI_pths _ | exact Pth.nil _ | exact Rks.nil _ | (intro hh; simp only [Pth.nil _ hh, List.take_nil, List.drop_nil]; done) | (intro hh; simp only [Rks.nil _ hh, List.take_nil, List.drop_nil]; done) | (simp only [List.length_take, List.length_drop, List.length_append, List.length_cons, List.length_nil, List.length_replicate, List.length_map, ints_len]; omega)) only [resA, rvA, tupA, fin, frzV, frzTup, frzA, frz, isI, isI.all, Option.bind_some, go_sem, if_pos, if_neg, Nat.reduceBEq, Nat.reduceEqDiff, ↓reduceIte, Nat.reduceSub, Nat.reduceAdd, Int.reduceToNat, reduceCtorEq, Nat.reduceLeDiff, Nat.reduceLT, Nat.reduceMul, Nat.reduceDiv, Int.reduceLT, Int.reduceLE, Int.reduceEq, Int.reduceNe, Int.reduceAdd, Int.reduceSub, Int.reduceNeg, Int.reduceGT, Int.reduceGE, Int.reduceBEq, Int.reduceBNe, Int.reduceMul, *])
    have : LOk x v n := lok_yes hlt hl
    simp only [this, decide_true]
attribute [go_sem] t69
theorem small_le {l : List Rks} (h : SmallX l) : ∀ x ∈ l, ∀ r ∈ x.l, r.p.l.length ≤ 1000000 := fun x hx r hr => by
  have := (h.2 x hx).2 r hr; omega
theorem t43 (n : Int) (x : List Rks) (nx cx : Bool) (M : MS) (hS : SmallX x) : ev pr 43 [.agg [.flat (.int .i64 n), .list 1 (x.map Rks.av) nx cx]] M = some (.q (.flat (.bool (decide (MayX n x))))) := by
  have hx12 := hS.1
  refine ev_fn' A43 ?_
  repeat' (first | ((with_reducible first | apply S_0 | apply S_q1 | apply S_g | apply S_c); exact sgc) | refine Stp.h ?_ | (with_reducible apply B_ne; focus decide) | ((with_reducible first | apply SC_d | apply SG_d | apply SG_n | apply SC_b | apply SG_b) <;> intro hc <;> try simp only [dq1, dq2, dq3, dq4, dq5] at hc))
  · (refine ⟨by first | exact .inr rfl | exact .inl rfl, ?_⟩; simp (disch := first | assumption | decide | omega | exact Pth.le _ | exact Rks.le _ | exact List.getElem_mem _ | exact allI_ints _ | exact allI_rks _ | exact allI_pths _ | exact Pth.nil _ | exact Rks.nil _ | (intro hh; simp only [Pth.nil _ hh, List.take_nil, List.drop_nil]; done) | (intro hh; simp only [Rks.nil _ hh, List.take_nil, List.drop_nil]; done) | (simp only [List.length_take, List.length_drop, List.length_append, List.length_cons, List.length_nil, List.length_replicate, List.length_map, ints_len]; omega)) only [resA, rvA, tupA, fin, frzV, frzTup, frzA, frz, isI, isI.all, Option.bind_some, go_sem, if_pos, if_neg, Nat.reduceBEq, Nat.reduceEqDiff, ↓reduceIte, Nat.reduceSub, Nat.reduceAdd, Int.reduceToNat, reduceCtorEq, Nat.reduceLeDiff, Nat.reduceLT, Nat.reduceMul, Nat.reduceDiv, Int.reduceLT, Int.reduceLE, Int.reduceEq, Int.reduceNe, Int.reduceAdd, Int.reduceSub, Int.reduceNeg, Int.reduceGT, Int.reduceGE, Int.reduceBEq, Int.reduceBNe, Int.reduceMul, *])
    have : ¬ MayX n x := fun h => by have := h.1; omega
    simp only [this, decide_false]
  · (refine ⟨by first | exact .inr rfl | exact .inl rfl, ?_⟩; simp (disch := first | assumption | decide | omega | exact Pth.le _ | exact Rks.le _ | exact List.getElem_mem _ | exact allI_ints _ | exact allI_rks _ | exact allI_pths _ | exact Pth.nil _ | exact Rks.nil _ | (intro hh; simp only [Pth.nil _ hh, List.take_nil, List.drop_nil]; done) | (intro hh; simp only [Rks.nil _ hh, List.take_nil, List.drop_nil]; done) | (simp only [List.length_take, List.length_drop, List.length_append, List.length_cons, List.length_nil, List.length_replicate, List.length_map, ints_len]; omega)) only [resA, rvA, tupA, fin, frzV, frzTup, frzA, frz, isI, isI.all, Option.bind_some, go_sem, if_pos, if_neg, Nat.reduceBEq, Nat.reduceEqDiff, ↓reduceIte, Nat.reduceSub, Nat.reduceAdd, Int.reduceToNat, reduceCtorEq, Nat.reduceLeDiff, Nat.reduceLT, Nat.reduceMul, Nat.reduceDiv, Int.reduceLT, Int.reduceLE, Int.reduceEq, Int.reduceNe, Int.reduceAdd, Int.reduceSub, Int.reduceNeg, Int.reduceGT, Int.reduceGE, Int.reduceBEq, Int.reduceBNe, Int.reduceMul, *])
    have : ¬ MayX n x := fun h => by have := h.2.1; omega
    simp only [this, decide_false]
  · (refine ⟨by first | exact .inr rfl | exact .inl rfl, ?_⟩; simp (disch := first | assumption | decide | omega | exact Pth.le _ | exact Rks.le _ | exact List.getElem_mem _ | exact allI_ints _ | exact allI_rks _ | exact allI_pths _ | exact Pth.nil _ | exact Rks.nil _ | (intro hh; simp only [Pth.nil _ hh, List.take_nil, List.drop_nil]; done) | (intro hh; simp only [Rks.nil _ hh, List.take_nil, List.drop_nil]; done) | (simp only [List.length_take, List.length_drop, List.length_append, List.length_cons, List.length_nil, List.length_replicate, List.length_map, ints_len]; omega)) only [resA, rvA, tupA, fin, frzV, frzTup, frzA, frz, isI, isI.all, Option.bind_some, go_sem, if_pos, if_neg, Nat.reduceBEq, Nat.reduceEqDiff, ↓reduceIte, Nat.reduceSub, Nat.reduceAdd, Int.reduceToNat, reduceCtorEq, Nat.reduceLeDiff, Nat.reduceLT, Nat.reduceMul, Nat.reduceDiv, Int.reduceLT, Int.reduceLE, Int.reduceEq, Int.reduceNe, Int.reduceAdd, Int.reduceSub, Int.reduceNeg, Int.reduceGT, Int.reduceGE, Int.reduceBEq, Int.reduceBNe, Int.reduceMul, *])
    have : ¬ MayX n x := fun h => hc h.2.2.1
    simp only [this, decide_false]
  · (refine ⟨by first | exact .inr rfl | exact .inl rfl, ?_⟩; simp (disch := first | assumption | decide | omega | exact Pth.le _ | exact Rks.le _ | exact List.getElem_mem _ | exact allI_ints _ | exact allI_rks _ | exact allI_pths _ | exact Pth.nil _ | exact Rks.nil _ | (intro hh; simp only [Pth.nil _ hh, List.take_nil, List.drop_nil]; done) | (intro hh; simp only [Rks.nil _ hh, List.take_nil, List.drop_nil]; done) | (simp only [List.length_take, List.length_drop, List.length_append, List.length_cons, List.length_nil, List.length_replicate, List.length_map, ints_len]; omega)) only [resA, rvA, tupA, fin, frzV, frzTup, frzA, frz, isI, isI.all, Option.bind_some, go_sem, if_pos, if_neg, Nat.reduceBEq, Nat.reduceEqDiff, ↓reduceIte, Nat.reduceSub, Nat.reduceAdd, Int.reduceToNat, reduceCtorEq, Nat.reduceLeDiff, Nat.reduceLT, Nat.reduceMul, Nat.reduceDiv, Int.reduceLT, Int.reduceLE, Int.reduceEq, Int.reduceNe, Int.reduceAdd, Int.reduceSub, Int.reduceNeg, Int.reduceGT, Int.reduceGE, Int.reduceBEq, Int.reduceBNe, Int.reduceMul, *])
    have : ¬ MayX n x := fun h => by have := h.2.2.2.1 (by omega); rw [this] at hc; simp at hc
    simp only [this, decide_false]
  have h0 : 0 < x.length := by omega
  have h00 : x[0].l = [] := List.eq_nil_of_length_eq_zero (by omega)
  clear hc
  obtain rfl : n = x.length := by omega
  refine W_rng 32 0 x.length (fun i _ => ∀ j, j < i → ∀ h : j < x.length, 1 ≤ j → LOk x[j].l j x.length) (by simp only [asg, asgO, List.append_nil, List.nil_append, List.cons_append]; rfl) (by exact svc) (by omega) (fun j hj _ _ => by omega) ?_
  rintro i e _ hi hk e3 hl
  rcases Nat.lt_or_ge i x.length with hlt | hlt
  · have hlt' : (i : Int) < x.length := by omega
    have hs1 := small_le hS _ (List.getElem_mem hlt)
    have h108 := fun M => t69 x[i].l x[i].nl x[i].cd i x.length M x[i].le hs1 x[i].nil
    repeat' (first | ((with_reducible first | apply S_0 | apply S_q1 | apply S_g | apply S_c); exact sgc) | refine Stp.h ?_ | (with_reducible apply B_ne; focus decide) | ((with_reducible first | apply SC_d | apply SG_d | apply SG_n | apply SC_b | apply SG_b) <;> intro hc <;> try simp only [dq1, dq2, dq3, dq4, dq5] at hc))
    · exact H_n (by exact svc) (by omega) (ext1 hl fun _ _ => by assumption)
    · (refine ⟨by first | exact .inr rfl | exact .inl rfl, ?_⟩; simp (disch := first | assumption | decide | omega | exact Pth.le _ | exact Rks.le _ | exact List.getElem_mem _ | exact allI_ints _ | exact allI_rks _ | exact allI_pths _ | exact Pth.nil _ | exact Rks.nil _ | (intro hh; simp only [Pth.nil _ hh, List.take_nil, List.drop_nil]; done) | (intro hh; simp only [Rks.nil _ hh, List.take_nil, List.drop_nil]; done) | (simp only [List.length_take, List.length_drop, List.length_append, List.length_cons, List.length_nil, List.length_replicate, List.length_map, ints_len]; omega)) only [resA, rvA, tupA, fin, frzV, frzTup, frzA, frz, isI, isI.all, Option.bind_some, go_sem, if_pos, if_neg, Nat.reduceBEq, Nat.reduceEqDiff, ↓reduceIte, Nat.reduceSub, Nat.reduceAdd, Int.reduceToNat, reduceCtorEq, Nat.reduceLeDiff, Nat.reduceLT, Nat.reduceMul, Nat.reduceDiv, Int.reduceLT, Int.reduceLE, Int.reduceEq, Int.reduceNe, Int.reduceAdd, Int.reduceSub, Int.reduceNeg, Int.reduceGT, Int.reduceGE, Int.reduceBEq, Int.reduceBNe, Int.reduceMul, *])
      have : ¬ MayX x.length x := fun h => hc (h.2.2.2.2 i hlt (by omega))
      simp only [this, decide_false]
    · exact H_n (by exact svc) (by omega) (ext1 hl fun _ _ => by omega)
  · have hlt' : ¬ (i : Int) < x.length := by omega
    repeat' (first | ((with_reducible first | apply S_0 | apply S_q1 | apply S_g | apply S_c); exact sgc) | refine Stp.h ?_ | (with_reducible apply B_ne; focus decide) | ((with_reducible first | apply SC_d | apply SG_d | apply SG_n | apply SC_b | apply SG_b) <;> intro hc <;> try simp only [dq1, dq2, dq3, dq4, dq5] at hc))
    (refine ⟨by first | exact .inr rfl | exact .inl rfl, ?_⟩; simp (disch := first | assumption | decide | omega | exact Pth.le _ | exact Rks.le _ | exact List.getElem_mem _ | exact allI_ints _ | exact allI_rks _ | exact allI_pths _ | exact Pth.nil _ | exact Rks.nil _ | (intro hh; simp only [Pth.nil _ hh, List.take_nil, List.drop_nil]; done) | (intro hh; simp only [Rks.nil _ hh, List.take_nil, List.drop_nil]; done) | (simp only [List.length_take, List.length_drop, List.length_append, List.length_cons, List.length_nil, List.length_replicate, List.length_map, ints_len]; omega)) only [resA, rvA, tupA, fin, frzV, frzTup, frzA, frz, isI, isI.all, Option.bind_some, go_sem, if_pos, if_neg, Nat.reduceBEq, Nat.reduceEqDiff, ↓reduceIte, Nat.reduceSub, Nat.reduceAdd, Int.reduceToNat, reduceCtorEq, Nat.reduceLeDiff, Nat.reduceLT, Nat.reduceMul, Nat.reduceDiv, Int.reduceLT, Int.reduceLE, Int.reduceEq, Int.reduceNe, Int.reduceAdd, Int.reduceSub, Int.reduceNeg, Int.reduceGT, Int.reduceGE, Int.reduceBEq, Int.reduceBNe, Int.reduceMul, *])
    have : MayX x.length x := ⟨by omega, by omega, by omega, fun _ => h00, fun v h h1 => hl v (by omega) h h1⟩
    simp only [this, decide_true]
end Go.Proofs.Ytlcdafidoddefaa.Av
namespace Go.Proofs.Ytlcdafidoddefaa.Av
open Go.RowKit
set_option linter.unusedSimpArgs false
set_option linter.unusedVariables false
set_option maxHeartbeats 10000000
/-- The paths of a path's first node. -/
def at0 (l : List Rks) : List Int → List (List Int)
  | [] => []
  | a :: _ => if 0 ≤ a then (match l[a.toNat]? with | some r => paths r.l | none => []) else []
def RkOk (n : Int) (l : List Rks) (p : List Int) : Prop := MayX n l ∧ p ∈ at0 l p
noncomputable instance (n : Int) (l : List Rks) (p : List Int) : Decidable (RkOk n l p) := Classical.propDecidable _
theorem t104_1 (x : List Int) (a : Int) (nx cx ny cy : Bool) (M : MS) (hx : x.length ≤ 9223372036854775807) : ev pr 49 [.list 1 (intsA x) nx cx, .list 1 [.flat (.int .i64 a)] ny cy] M = some (.q (.flat (.bool (decide (x = [a]))))) := t49 x [a] nx cx ny cy M hx
theorem t22_1 (x : List Int) (a : Int) (nx cx ny cy : Bool) (M : MS) (hx : x.length ≤ 9223372036854775807) : ev pr 16 [.list 1 (intsA x) nx cx, .list 1 [.flat (.int .i64 a)] ny cy] M = some (.q (.flat (.bool (decide (x = [a]))))) := t16 x [a] nx cx ny cy M hx
attribute [go_sem] t104_1 t22_1
end Go.Proofs.Ytlcdafidoddefaa.Av
namespace Go.Proofs.Ytlcdafidoddefaa.Av
open Go.RowKit
set_option linter.unusedSimpArgs false
set_option linter.unusedVariables false
set_option maxHeartbeats 10000000
noncomputable def rsp (s : List Pth) (L : List Rnk) : Pth := match L.find? (fun r => decide (opn (pl s) r.p.l)) with
  | some r => r.p
  | none => ⟨[], true, true, fun _ => ⟨rfl, rfl⟩, by simp⟩
end Go.Proofs.Ytlcdafidoddefaa.Av
namespace Go.Proofs.Ytlcdafidoddefaa.Av
open Go.RowKit
set_option linter.unusedSimpArgs false
set_option linter.unusedVariables false
set_option maxHeartbeats 10000000
def plX (l : List Rks) : List (List (List Int)) := l.map fun r => paths r.l
theorem plX_len (l : List Rks) : (plX l).length = l.length := by simp [plX]
theorem plX_get {l : List Rks} {v : Nat} (h : v < l.length) : (plX l).getD v [] = paths l[v].l := by simp [plX, List.getD, h]
theorem pl_getD {s : List Pth} {v : Nat} (h : v < s.length) : (pl s).getD v [] = s[v].l := by simp [pl, List.getD, h]
/-- The nodes below k that haven't their best response. -/
noncomputable def mvs (L : List (List (List Int))) (s : List (List Int)) : Nat → List Int
  | 0 => []
  | k + 1 => open Classical in mvs L s k ++ (if 1 ≤ k ∧ s.getD k [] ≠ resp s (L.getD k []) then [(k : Int)] else [])
def StabP (L : List (List (List Int))) (s : List (List Int)) : Prop := ∀ v, 1 ≤ v → v < L.length → s.getD v [] = resp s (L.getD v [])
noncomputable instance (L : List (List (List Int))) (s : List (List Int)) : Decidable (StabP L s) := Classical.propDecidable _
end Go.Proofs.Ytlcdafidoddefaa.Av
namespace Go.Proofs.Ytlcdafidoddefaa.Av
open Go.RowKit
set_option linter.unusedSimpArgs false
set_option linter.unusedVariables false
set_option maxHeartbeats 10000000
theorem lst_len (x : List Int) : lenOf (lst 1 (intsA x)) = some x.length := by simp [lst, lenOf, intsA]
attribute [go_sem] lst_len
end Go.Proofs.Ytlcdafidoddefaa.Av
namespace Go.Proofs.Ytlcdafidoddefaa.Av
open Go.RowKit
set_option linter.unusedSimpArgs false
set_option linter.unusedVariables false
set_option maxHeartbeats 10000000
/-- A path's copy. -/
def cln (p : Pth) : Pth := ⟨p.l, p.nl, p.l.isEmpty, fun h => by rw [p.nil h]; exact ⟨rfl, rfl⟩, p.le⟩
theorem cln_e {p : Pth} (h : p.l = []) : (cln p).av = .list 1 [] p.nl true := by
  simp only [cln, Pth.av, h]; rfl
theorem cln_n {p : Pth} (h : 0 < p.l.length) : (cln p).av = .list 1 (intsA p.l) false false := by
  have h1 : p.nl = false := by
    cases hn : p.nl with
    | false => rfl
    | true => rw [p.nil hn] at h; simp at h
  have h2 : p.l.isEmpty = false := by
    cases hp : p.l with
    | nil => rw [hp] at h; simp at h
    | cons a b => rfl
  simp only [cln, Pth.av, h1, h2]
end Go.Proofs.Ytlcdafidoddefaa.Av
namespace Go.Proofs.Ytlcdafidoddefaa.Av
open Go.RowKit
set_option linter.unusedSimpArgs false
set_option linter.unusedVariables false
set_option maxHeartbeats 10000000
theorem t70e (nl cd : Bool) (M : MS) : ev pr 70 [.list 2 [] nl cd] M = some (.x (.list 2 [] nl true) M []) := by
  refine ev_fn' A70 ?_
  cases nl with
  | true =>
    repeat' (first | ((with_reducible first | apply S_0 | apply S_q1 | apply S_g | apply S_c); exact sgc) | refine Stp.h ?_ | (with_reducible apply B_ne; focus decide) | ((with_reducible first | apply SC_d | apply SG_d | apply SG_n | apply SC_b | apply SG_b) <;> intro hc <;> try simp only [dq1, dq2, dq3, dq4, dq5] at hc))
    (first | exact fincR | exact fincN)
  | false =>
    repeat' (first | ((with_reducible first | apply S_0 | apply S_q1 | apply S_g | apply S_c); exact sgc) | refine Stp.h ?_ | (with_reducible apply B_ne; focus decide) | ((with_reducible first | apply SC_d | apply SG_d | apply SG_n | apply SC_b | apply SG_b) <;> intro hc <;> try simp only [dq1, dq2, dq3, dq4, dq5] at hc))
    (first | exact fincR | exact fincN)
theorem t70 (l : List Rnk) (nl cd : Bool) (M : MS) (hne : 0 < l.length) (hl : l.length ≤ 1000000) (hn : nl = true → l = []) : ev pr 70 [.list 2 (rksA l) nl cd] M = some (.x (.ms M.length 0 l.length 2 false) (M ++ [some (rksA l)]) []) := by
  cases nl with
  | true => have := hn rfl; subst this; simp at hne
  | false =>
    have hm : ¬ l.length = 0 := by omega
    have hrl := rks_len l
    refine ev_fn' A70 ?_
    clear hn
    repeat' (first | ((with_reducible first | apply S_0 | apply S_q1 | apply S_g | apply S_c); exact sgc) | refine Stp.h ?_ | (with_reducible apply B_ne; focus decide) | ((with_reducible first | apply SC_d | apply SG_d | apply SG_n | apply SC_b | apply SG_b) <;> intro hc <;> try simp only [dq1, dq2, dq3, dq4, dq5] at hc))
    (first | exact fincR | exact fincN)
theorem Own.swap {lo : Nat} {B B' G : MS} {x : AV} {sz : Nat} {cs : List AV} (h : Own lo (B ++ G) x sz cs) (hl : B'.length = B.length) (hlo : B.length ≤ lo) : Own lo (B' ++ G) x sz cs := by
  obtain ⟨a, b, c, e | ⟨f, id, g1, g2, g3, g4⟩⟩ := h
  · exact ⟨a, b, c, .inl e⟩
  · refine ⟨a, b, c, .inr ⟨f, id, g1, by simp at g2 ⊢; omega, g3, ?_⟩⟩
    rw [List.getElem?_append_right (by omega)] at g4 ⊢
    rw [hl]; exact g4
theorem Own.lower {lo lo' : Nat} {m : MS} {x : AV} {sz : Nat} {cs : List AV} (h : Own lo m x sz cs) (hl : lo' ≤ lo) : Own lo' m x sz cs := by
  obtain ⟨a, b, c, e | ⟨f, id, g1, g2⟩⟩ := h
  · exact ⟨a, b, c, .inl e⟩
  · exact ⟨a, b, c, .inr ⟨f, id, by omega, g2⟩⟩
theorem Own.cell {lo : Nat} {m : MS} {x : AV} {sz : Nat} {cs : List AV} (h : Own lo m x sz cs) : cellsOf x = some [x] := by
  obtain ⟨_, _, _, ⟨_, rfl⟩ | ⟨_, id, _, _, rfl, _⟩⟩ := h <;> rfl
def cpQ (q : Rnk) : Rnk := ⟨cln q.p, q.r⟩
def cpI (x : List Rnk) (i : Nat) : List Rnk := (x.take i).map cpQ ++ x.drop i
theorem cpI_len (x : List Rnk) (i : Nat) : (cpI x i).length = x.length := by simp [cpI]; omega
def cpR (r : Rks) : Rks := ⟨r.l.map cpQ, r.nl, r.l.isEmpty, fun h => by rw [r.nil h]; exact ⟨rfl, rfl⟩, by simpa using r.le⟩
theorem rks_app (x y : List Rnk) : rksA (x ++ y) = rksA x ++ rksA y := by simp [rksA]
theorem cpI_step {x : List Rnk} {i : Nat} (h : i < x.length) : rksA (cpI x (i + 1)) = splice (rksA (cpI x i)) (i * 2) [(cln x[i].p).av] := by
  have e1 : cpI x i = (x.take i).map cpQ ++ x[i] :: x.drop (i + 1) := by rw [cpI, List.drop_eq_getElem_cons h]
  have e2 : cpI x (i + 1) = (x.take i).map cpQ ++ cpQ x[i] :: x.drop (i + 1) := by rw [cpI, List.take_succ_eq_append_getElem h, List.map_append]; simp
  rw [e1, e2, rks_app, rks_app, rks_cons, rks_cons, splice]
  have hl : (rksA ((x.take i).map cpQ)).length = i * 2 := by rw [rks_len]; simp; omega
  rw [List.take_left' hl, ← hl, ← List.length_append]
  have : (rksA ((x.take i).map cpQ) ++ x[i].p.av :: AV.flat (.int .i64 x[i].r) :: rksA (x.drop (i + 1))).drop ((rksA ((x.take i).map cpQ)).length + 1) = AV.flat (.int .i64 x[i].r) :: rksA (x.drop (i + 1)) := by
    rw [← List.drop_drop, List.drop_left]; rfl
  rw [List.length_append, List.length_singleton, this]
  simp [cpQ]
theorem cpI_get {x : List Rnk} {i : Nat} (h : i < x.length) : (cpI x i)[i]'(by rw [cpI_len]; exact h) = x[i] := by
  simp only [cpI]
  rw [List.getElem_append_right (by simp; omega)]
  simp [Nat.min_eq_left (Nat.le_of_lt h)]
theorem cpI_all (x : List Rnk) : cpI x x.length = x.map cpQ := by simp [cpI]
theorem cpR_e {r : Rks} (h : r.l = []) : (cpR r).av = .list 2 [] r.nl true := by simp only [cpR, Rks.av, h]; rfl
theorem cpR_n {r : Rks} (h : 0 < r.l.length) : (cpR r).av = .list 2 (rksA (r.l.map cpQ)) false false := by
  have h1 : r.nl = false := by
    cases hn : r.nl with
    | false => rfl
    | true => rw [r.nil hn] at h; simp at h
  have h2 : r.l.isEmpty = false := by
    cases hp : r.l with
    | nil => rw [hp] at h; simp at h
    | cons a b => rfl
  simp only [cpR, Rks.av, h1, h2]
theorem pl_cpQ (x : List Rnk) : paths (x.map cpQ) = paths x := by simp [paths, cpQ, cln, Function.comp_def]
/-- A fact that the reckoning doesn't see. -/
def Hid (p : Prop) : Prop := p
theorem dirt_out {base id : Nat} {D : List Nat} (h : base ≤ id) : dirt base id D = D := if_neg (by omega)
attribute [go_sem] dirt_out
section
variable {p : Pr} {base : Nat} {env : Env} {M : MS} {D : List Nat} {d : Option Nat} {r : List AOp} {R : Env → MS → List Nat → Prop}
end
theorem t44 (n : Int) (l : List Rks) (nl cd : Bool) (M : MS) (hl : l.length ≤ 1000) (hp : ∀ r ∈ l, r.l.length ≤ 1000 ∧ ∀ q ∈ r.l, q.p.l.length ≤ 1000) : ev pr 44 [.agg [.flat (.int .i64 n), .list 1 (l.map Rks.av) nl cd]] M = some (.q (.agg [.flat (.int .i64 n), lst 1 ((l.map cpR).map Rks.av)])) := by
  refine ev_fn' A44 ?_
  obtain ⟨A, hA⟩ : ∃ A : MS, A = M ++ [some [.flat (.int .i64 n), .list 1 (l.map Rks.av) nl cd], some [.flat (.int .i64 0), .list 1 [] true true]] := ⟨_, rfl⟩
  have hAl : A.length = M.length + 2 := by rw [hA]; simp
  have hAm : ∀ X : MS, A ++ X = M ++ (some [.flat (.int .i64 n), .list 1 (l.map Rks.av) nl cd] :: some [.flat (.int .i64 0), .list 1 [] true true] :: X) := by rw [hA]; simp
  clear hA
  repeat' (first | ((with_reducible first | apply S_0 | apply S_q1 | apply S_g | apply S_c); exact sgc) | refine Stp.h ?_ | (with_reducible apply B_ne; focus decide) | ((with_reducible first | apply SC_d | apply SG_d | apply SG_n | apply SC_b | apply SG_b) <;> intro hc <;> try simp only [dq1, dq2, dq3, dq4, dq5] at hc))
  refine W_rngM 14 0 l.length (fun i e m => ∃ w G, m = A ++ [some [.flat (.int .i64 n), w]] ++ G ∧ Own (A ++ [some [.flat (.int .i64 n), w]]).length m w 1 (((l.take i).map cpR).map Rks.av)) (by simp only [asg, asgO, List.append_nil, List.nil_append, List.cons_append]; rfl) (by exact svc) (by omega)
    ⟨.list 1 [] true true, [], by simp [hAm], by simpa using Own.nil _ _ (by decide)⟩ ?_
  rintro i e _ _ hi hk e14 ⟨w, G, rfl, hO⟩
  have k3 : e 3 = .mptr A.length 0 := by rw [hk 3 rfl, hAl]; exact svc
  have k2 : e 2 = .mptr (M.length + 1) 0 := by rw [hk 2 rfl]; exact svc
  have k12 : e 12 = .list 1 (l.map Rks.av) nl cd := by rw [hk 12 rfl]; exact svc
  have k13 : e 13 = .flat (.int .i64 l.length) := by rw [hk 13 rfl]; exact svc
  clear hk
  rcases Nat.lt_or_ge i l.length with hlt | hlt
  · have hlt' : (i : Int) < l.length := by omega
    have hwc := hO.cell
    have hwv := hO.buf
    obtain ⟨hpl, hpq⟩ := hp _ (List.getElem_mem hlt)
    have htl : (((l.take i).map cpR).map Rks.av).length = i := by simp; omega
    have htk : ((l.take (i + 1)).map cpR).map Rks.av = ((l.take i).map cpR).map Rks.av ++ [(cpR l[i]).av] := by
      rw [List.take_succ_eq_append_getElem hlt, List.map_append, List.map_append]; rfl
    have hAl' : M.length + 2 ≤ A.length := by omega
    clear hp hAm hAl
    rcases Nat.eq_zero_or_pos l[i].l.length with h0 | h0
    · have hnil := List.eq_nil_of_length_eq_zero h0
      have h74 : ∀ M, ev pr 70 [.list 2 (rksA []) l[i].nl l[i].cd] M = some (.x (.list 2 [] l[i].nl true) M []) := fun M => t70e l[i].nl l[i].cd M
      rw [cpR_e hnil] at htk
      repeat' (first | ((with_reducible first | apply S_0 | apply S_q1 | apply S_g | apply S_c); exact sgc) | refine Stp.h ?_ | (with_reducible apply B_ne; focus decide) | ((with_reducible first | apply SC_d | apply SG_d | apply SG_n | apply SC_b | apply SG_b) <;> intro hc <;> try simp only [dq1, dq2, dq3, dq4, dq5] at hc))
      refine W_rngM 22 0 0 (fun _ e' m => m = A ++ [some [.flat (.int .i64 n), w]] ++ G) (by simp only [asg, asgO, List.append_nil, List.nil_append, List.cons_append]; rfl) (by exact svc) (by omega) (by simp) ?_
      rintro j e' _ _ hj hk e22 rfl
      have j3 : e' 3 = .mptr A.length 0 := by rw [hk 3 rfl]; exact svc
      have j2 : e' 2 = .mptr (M.length + 1) 0 := by rw [hk 2 rfl]; exact svc
      have j12 : e' 12 = .list 1 (l.map Rks.av) nl cd := by rw [hk 12 rfl]; exact svc
      have j13 : e' 13 = .flat (.int .i64 l.length) := by rw [hk 13 rfl]; exact svc
      have j14 : e' 14 = .flat (.int .i64 i) := by rw [hk 14 rfl]; exact svc
      have j6 : e' 6 = .list 2 [] l[i].nl true := by rw [hk 6 rfl]; exact svc
      have j21 : e' 21 = .flat (.int .i64 0) := by rw [hk 21 rfl]; exact svc
      clear hk k3 k2 k12 k13 e14
      obtain rfl : j = 0 := by omega
      repeat' (first | ((with_reducible first | apply S_0 | apply S_q1 | apply S_g | apply S_c); exact sgc) | refine Stp.h ?_ | (with_reducible apply B_ne; focus decide) | ((with_reducible first | apply SC_d | apply SG_d | apply SG_n | apply SC_b | apply SG_b) <;> intro hc <;> try simp only [dq1, dq2, dq3, dq4, dq5] at hc))
      (refine S_ownG (cs := ((l.take i).map cpR).map Rks.av) (A ++ [some [.flat (.int .i64 n), w]]) G (by assumption) (by first | rfl | simp only [List.append_assoc, List.cons_append, List.nil_append]) (by exact sgc) (by exact sgc) (by exact sgc) (by exact sgc) (by exact sgc) (by (first | assumption | omega | (simp only [ints_len, Nat.div_one, Nat.one_mul, Nat.mul_one, List.length_map, rks_len, half, List.length_cons, List.length_nil, List.length_append, List.length_replicate]; omega))) (by (first | assumption | omega | (simp only [ints_len, Nat.div_one, Nat.one_mul, Nat.mul_one, List.length_map, rks_len, half, List.length_cons, List.length_nil, List.length_append, List.length_replicate]; omega))) (by first | omega | (simp; done) | (simp; omega)) ?_)
      intro v' G' hO2
      rw [← htk] at hO2
      have hvc := hO2.cell
      repeat' (first | ((with_reducible first | apply S_0 | apply S_q1 | apply S_g | apply S_c); exact sgc) | refine Stp.h ?_ | (with_reducible apply B_ne; focus decide) | ((with_reducible first | apply SC_d | apply SG_d | apply SG_n | apply SC_b | apply SG_b) <;> intro hc <;> try simp only [dq1, dq2, dq3, dq4, dq5] at hc))
      refine G_n (by exact svc) hlt ?_
      exact ⟨v', G', by simp, by simpa using hO2.swap (B' := A ++ [some [.flat (.int .i64 n), v']]) (by simp) (by simp)⟩
    · have h74 := fun M => t70 l[i].l l[i].nl l[i].cd M h0 (by omega) l[i].nil
      rw [cpR_n h0] at htk
      obtain ⟨B, hB⟩ : ∃ B, B = A ++ (some [.flat (.int .i64 n), w] :: G) := ⟨_, rfl⟩
      have hBl : A.length + 1 ≤ B.length := by rw [hB]; simp
      have hB3 : ∀ X, (B ++ X)[A.length]? = some (some [.flat (.int .i64 n), w]) := fun X => by rw [hB]; simp
      have hBs : ∀ X c, (B ++ X).set A.length c = A ++ (c :: (G ++ X)) := fun X c => by rw [hB]; simp
      have hrl := rks_len l[i].l
      have hbe : B.length = A.length + (1 + G.length) := by rw [hB]; simp; omega
      rw [show A ++ [some [AV.flat (Value.int IntKind.i64 n), w]] ++ G = B by rw [hB]; simp]
      rw [show A ++ [some [AV.flat (Value.int IntKind.i64 n), w]] ++ G = B by rw [hB]; simp] at hO hwv
      have hH : Hid (B = A ++ (some [.flat (.int .i64 n), w] :: G)) := hB
      clear hB hbe
      repeat' (first | ((with_reducible first | apply S_0 | apply S_q1 | apply S_g | apply S_c); exact sgc) | refine Stp.h ?_ | (with_reducible apply B_ne; focus decide) | ((with_reducible first | apply SC_d | apply SG_d | apply SG_n | apply SC_b | apply SG_b) <;> intro hc <;> try simp only [dq1, dq2, dq3, dq4, dq5] at hc))
      refine W_rngM 22 0 l[i].l.length (fun j e' m => ∃ H, m = B ++ (some (rksA (cpI l[i].l j)) :: H)) (by simp only [asg, asgO, List.append_nil, List.nil_append, List.cons_append]; rfl) (by exact svc) (by omega) ⟨[], by simp [cpI]⟩ ?_
      rintro j e' _ _ hj hk e22 ⟨H, rfl⟩
      have j3 : e' 3 = .mptr A.length 0 := by rw [hk 3 rfl]; exact svc
      have j2 : e' 2 = .mptr (M.length + 1) 0 := by rw [hk 2 rfl]; exact svc
      have j12 : e' 12 = .list 1 (l.map Rks.av) nl cd := by rw [hk 12 rfl]; exact svc
      have j13 : e' 13 = .flat (.int .i64 l.length) := by rw [hk 13 rfl]; exact svc
      have j14 : e' 14 = .flat (.int .i64 i) := by rw [hk 14 rfl]; exact svc
      have j6 : e' 6 = .ms B.length 0 l[i].l.length 2 false := by rw [hk 6 rfl]; exact svc
      have j21 : e' 21 = .flat (.int .i64 l[i].l.length) := by rw [hk 21 rfl]; exact svc
      clear hk k3 k2 k12 k13 e14
      have hcl := cpI_len l[i].l j
      have hrl2 := rks_len (cpI l[i].l j)
      rcases Nat.lt_or_ge j l[i].l.length with hjl | hjl
      · have hjl' : (j : Int) < l[i].l.length := by omega
        have hst := cpI_step hjl
        have hjc : j < (cpI l[i].l j).length := by omega
        have hgt := cpI_get hjl
        have hql := hpq _ (List.getElem_mem hjl)
        have htk0 : List.take l[i].l.length (cpI l[i].l j) = cpI l[i].l j := List.take_of_length_le (by omega)
        clear htk
        rcases Nat.eq_zero_or_pos l[i].l[j].p.l.length with p0 | p0
        · have hnp := List.eq_nil_of_length_eq_zero p0
          have h75 : ∀ M, ev pr 41 [.list 1 (intsA []) l[i].l[j].p.nl l[i].l[j].p.cd] M = some (.x (.list 1 [] l[i].l[j].p.nl true) M []) := fun M => t41e l[i].l[j].p.nl l[i].l[j].p.cd M
          rw [cln_e hnp] at hst
          repeat' (first | ((with_reducible first | apply S_0 | apply S_q1 | apply S_g | apply S_c); exact sgc) | refine Stp.h ?_ | (with_reducible apply B_ne; focus decide) | ((with_reducible first | apply SC_d | apply SG_d | apply SG_n | apply SC_b | apply SG_b) <;> intro hc <;> try simp only [dq1, dq2, dq3, dq4, dq5] at hc))
          refine G_n (by exact svc) hjl ⟨H, ?_⟩
          rw [hst]
          simp only [splice, rks_take, List.length_singleton, rks_at1 _ _ hjc, hgt, List.append_assoc, List.cons_append, List.nil_append]
        · have h75 := fun M => t41 l[i].l[j].p.l l[i].l[j].p.nl l[i].l[j].p.cd M p0 (by omega) l[i].l[j].p.nil
          rw [cln_n p0] at hst
          repeat' (first | ((with_reducible first | apply S_0 | apply S_q1 | apply S_g | apply S_c); exact sgc) | refine Stp.h ?_ | (with_reducible apply B_ne; focus decide) | ((with_reducible first | apply SC_d | apply SG_d | apply SG_n | apply SC_b | apply SG_b) <;> intro hc <;> try simp only [dq1, dq2, dq3, dq4, dq5] at hc))
          refine G_n (by exact svc) hjl ⟨H ++ [none], ?_⟩
          rw [hst]
          simp only [splice, rks_take, List.length_singleton, rks_at1 _ _ hjc, hgt, List.append_assoc, List.cons_append, List.nil_append]
      · have hjl' : ¬ (j : Int) < l[i].l.length := by omega
        obtain rfl : j = l[i].l.length := by omega
        have htq : List.take l[i].l.length (List.map cpQ l[i].l) = List.map cpQ l[i].l := List.take_of_length_le (by simp)
        rw [cpI_all] at *
        repeat' (first | ((with_reducible first | apply S_0 | apply S_q1 | apply S_g | apply S_c); exact sgc) | refine Stp.h ?_ | (with_reducible apply B_ne; focus decide) | ((with_reducible first | apply SC_d | apply SG_d | apply SG_n | apply SC_b | apply SG_b) <;> intro hc <;> try simp only [dq1, dq2, dq3, dq4, dq5] at hc))
        have hB : B = A ++ (some [.flat (.int .i64 n), w] :: G) := hH
        rw [show B ++ none :: H = (A ++ [some [AV.flat (Value.int IntKind.i64 n), w]]) ++ (G ++ none :: H) by rw [hB]; simp]
        replace hO : Own (List.length (A ++ [some [AV.flat (Value.int IntKind.i64 n), w]])) ((A ++ [some [AV.flat (Value.int IntKind.i64 n), w]]) ++ (G ++ none :: H)) w 1 (List.map Rks.av (List.map cpR (List.take i l))) := by
          refine Own.growG ?_ _
          rw [hB] at hO
          simpa using hO
        clear hB hwv
        (refine S_ownG (cs := ((l.take i).map cpR).map Rks.av) (A ++ [some [.flat (.int .i64 n), w]]) (G ++ none :: H) (by assumption) (by first | rfl | simp only [List.append_assoc, List.cons_append, List.nil_append]) (by exact sgc) (by exact sgc) (by exact sgc) (by exact sgc) (by exact sgc) (by (first | assumption | omega | (simp only [ints_len, Nat.div_one, Nat.one_mul, Nat.mul_one, List.length_map, rks_len, half, List.length_cons, List.length_nil, List.length_append, List.length_replicate]; omega))) (by (first | assumption | omega | (simp only [ints_len, Nat.div_one, Nat.one_mul, Nat.mul_one, List.length_map, rks_len, half, List.length_cons, List.length_nil, List.length_append, List.length_replicate]; omega))) (by first | omega | (simp; done) | (simp; omega)) ?_)
        intro v' G' hO2
        rw [← htk] at hO2
        have hvc := hO2.cell
        repeat' (first | ((with_reducible first | apply S_0 | apply S_q1 | apply S_g | apply S_c); exact sgc) | refine Stp.h ?_ | (with_reducible apply B_ne; focus decide) | ((with_reducible first | apply SC_d | apply SG_d | apply SG_n | apply SC_b | apply SG_b) <;> intro hc <;> try simp only [dq1, dq2, dq3, dq4, dq5] at hc))
        refine G_n (by exact svc) hlt ?_
        exact ⟨v', G', by simp, by simpa using hO2.swap (B' := A ++ [some [.flat (.int .i64 n), v']]) (by simp) (by simp)⟩
  · have hlt' : ¬ (i : Int) < l.length := by omega
    obtain rfl : i = l.length := by omega
    rw [List.take_length] at hO
    clear hp
    repeat' (first | ((with_reducible first | apply S_0 | apply S_q1 | apply S_g | apply S_c); exact sgc) | refine Stp.h ?_ | (with_reducible apply B_ne; focus decide) | ((with_reducible first | apply SC_d | apply SG_d | apply SG_n | apply SC_b | apply SG_b) <;> intro hc <;> try simp only [dq1, dq2, dq3, dq4, dq5] at hc))
    have h := (hO.swap (B' := M ++ [some [.flat (.int .i64 n), .list 1 (l.map Rks.av) nl cd], some [.flat (.int .i64 n), w], some [.flat (.int .i64 n), w]]) (by simp [hAl]) (Nat.le_refl _)).lower (lo' := M.length) (by simp [hAl]; omega)
    have h : Own M.length (M ++ some [.flat (.int .i64 n), .list 1 (l.map Rks.av) nl cd] :: some [.flat (.int .i64 n), w] :: some [.flat (.int .i64 n), w] :: G) w 1 ((l.map cpR).map Rks.av) := by simpa using h
    obtain ⟨m', hz⟩ := h.frzG (Nat.le_refl _)
    have hi : isI (lst 1 ((l.map cpR).map Rks.av)) = true := rfl
    refine ⟨.inr rfl, ?_⟩
    simp only [fin, Bool.false_eq_true, if_false, resA, rvA, tupA, aview, go_sem, if_pos, if_neg, Nat.reduceBEq, Nat.reduceEqDiff, ↓reduceIte, Nat.reduceSub, Nat.reduceAdd, Int.reduceToNat, reduceCtorEq, Nat.reduceLeDiff, Nat.reduceLT, Nat.reduceMul, Nat.reduceDiv, Int.reduceLT, Int.reduceLE, Int.reduceEq, Int.reduceNe, Int.reduceAdd, Int.reduceSub, Int.reduceNeg, Int.reduceGT, Int.reduceGE, Int.reduceBEq, Int.reduceBNe, Int.reduceMul, *]
    have hf : ∀ (b : Nat) (m : MS) (v : Value), frz b m (.flat v) = some (.flat v, m) := fun _ _ _ => rfl
    have hi2 : isI (.agg [.flat (.int .i64 n), lst 1 ((l.map cpR).map Rks.av)]) = true := by simp only [isI, isI.all, hi, Bool.and_self]
    simp only [frzV, frzA, frzAll, hf, hz, Option.map_some, hi2, if_true]
end Go.Proofs.Ytlcdafidoddefaa.Av
