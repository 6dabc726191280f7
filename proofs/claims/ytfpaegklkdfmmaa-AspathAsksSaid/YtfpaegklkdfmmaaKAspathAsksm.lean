/- The law AspathAsks, on the evaluator. -/
import Derived.Test.YtfpaegklkdfmmaaX5
import Derived.Test.YtfpaegklkdfmmaaX4
namespace Go.Proofs.Ytfpaegklkdfmmaa.Av
open Go.RowKit
set_option linter.unusedSimpArgs false
set_option linter.unusedVariables false
set_option maxHeartbeats 10000000
theorem law7 {x y : List Int} {nx cx ny cy : Bool} {v : Int} (hx : x.length ≤ 9223372036854775807) (hy : y.length ≤ 9223372036854775807) (hn : nx = true → x = []) (hn' : ny = true → y = []) (M : MS) :
    ev pr 7 [.list 1 (intsA x) nx cx, .list 1 (intsA y) ny cy, .flat (.int .i64 v)] M = some (.q (.flat (.bool true))) := by
  have h8 := fun M => t8 (xv := .list 1 (intsA x) nx cx) (x := x) (M := M) (Vw.list M x nx cx).len hx
  have h8' := fun M => t8 (xv := .list 1 (intsA y) ny cy) (x := y) (M := M) (Vw.list M y ny cy).len hy
  have h9 := fun M => lives M
  by_cases h300 : x.length ≤ 300 ∧ y.length ≤ 300
  · obtain ⟨hx3, hy3⟩ := h300
    have lx : x.length ≤ 1000000 := by omega
    have ly : y.length ≤ 1000000 := by omega
    have h22 := fun M => t22 (Vw.list M x nx cx) v lx
    have h24 := fun M => t24 (Vw.list M x nx cx) v lx
    have h21 := fun M => t21 (Vw.list M x nx cx) lx
    have h25 := fun M => t25 (Vw.list M x nx cx) lx
    have h26 := fun M => t26 (x := x) (nl := nx) (cd := cx) (M := M) lx hn
    have h27 := fun M => t27 (x := x) (nx := nx) (cx := cx) (M := M) lx
    have h23 := fun M => t23 x y nx cx ny cy M lx ly
    have h28 := fun M => t28 (Vw.list M x nx cx) (Vw.list M y ny cy) lx ly
    have h20 := fun M => t20 (x := x) (nx := nx) (cx := cx) (Vw.list M y ny cy) lx ly hn
    have h12 := fun M nl cd (z : List Int) (hz : z.length ≤ 1000000) => t12 (Vw.list M z nl cd) (Vw.list M y ny cy) hz ly
    clear hx hy h8
    have h8 := fun M => t8 (xv := .list 1 (intsA x) nx cx) (x := x) (M := M) (Vw.list M x nx cx).len (by omega)
    rw [show decide (x.length ≤ 300) = true from decide_eq_true hx3] at h8
    rw [show decide (y.length ≤ 300) = true from decide_eq_true hy3] at h8'
    clear hn'
    rcases Nat.eq_zero_or_pos x.length with h0 | h0
    · have h0' := List.eq_nil_of_length_eq_zero h0
      subst h0'
      clear h0
      rw [show ((([] : List Int)[([] : List Int).length - 1]?).getD 0) = 0 from rfl] at h25
      rw [show ([] : List Int).headD 0 = 0 from rfl] at h21
      have e0 : ([] : List Int).length = 0 := rfl
      rcases Nat.eq_zero_or_pos y.length with h1 | h1
      · have h1' := List.eq_nil_of_length_eq_zero h1
        subst h1'
        rw [show decide (endsIn ([] : List Int) []) = true from rfl] at h20
        have h12' := fun M nl cd => h12 M nl cd [] (by simp)
        simp only [decide_true] at h12'
        have h12a : ∀ M nl cd, ev pr 12 [.list 1 [] nl cd, .list 1 (intsA []) ny cy] M = some (.q (.flat (.bool true))) := fun M nl cd => h12' M nl cd
        clear h1 h12
        refine ev_fn' A7 ?_
        repeat' (first | ((with_reducible first | apply S_0 | apply S_q1 | apply S_g | apply S_c); exact sgc) | (with_reducible first | apply SO_q | apply SG_t | apply SG_f0 | apply SG_f1 | apply S_nil | apply T_n | apply W_seq | apply W_region | apply SO_x | apply SC_t | apply SC_f | apply W_block | apply W_ret | apply W_skip | apply W_exit | apply T_r | apply T_e | apply B_n | apply B_e) | (with_reducible apply B_ne; focus decide) | (with_reducible first | apply B_r | apply R_e | apply R_r | apply H_e | apply H_r | apply G_e | apply G_r) | (with_reducible apply SC_n) | ((with_reducible first | apply SC_d | apply SG_d | apply SG_n | apply SC_b | apply SG_b) <;> intro hc <;> try simp only [decide_eq_true_eq, decide_eq_false_iff_not, Classical.not_not, Bool.not_eq_true', Bool.not_eq_false'] at hc))
        all_goals first | (exfalso; omega) | (first | exact fincR | exact fincN)
      · have hE : ¬ endsIn [] y := fun h => by have := h.1; omega
        rw [decide_eq_false hE] at h20
        clear hE
        refine ev_fn' A7 ?_
        repeat' (first | ((with_reducible first | apply S_0 | apply S_q1 | apply S_g | apply S_c); exact sgc) | (with_reducible first | apply SO_q | apply SG_t | apply SG_f0 | apply SG_f1 | apply S_nil | apply T_n | apply W_seq | apply W_region | apply SO_x | apply SC_t | apply SC_f | apply W_block | apply W_ret | apply W_skip | apply W_exit | apply T_r | apply T_e | apply B_n | apply B_e) | (with_reducible apply B_ne; focus decide) | (with_reducible first | apply B_r | apply R_e | apply R_r | apply H_e | apply H_r | apply G_e | apply G_r) | (with_reducible apply SC_n) | ((with_reducible first | apply SC_d | apply SG_d | apply SG_n | apply SC_b | apply SG_b) <;> intro hc <;> try simp only [decide_eq_true_eq, decide_eq_false_iff_not, Classical.not_not, Bool.not_eq_true', Bool.not_eq_false'] at hc))
        all_goals first | (exfalso; omega) | (first | exact fincR | exact fincN)
    · have q1 : x.headD 0 = x[0] := by cases x with | nil => simp at h0 | cons a x => rfl
      have q2 : (x[x.length - 1]?).getD 0 = x[x.length - 1] := by rw [List.getElem?_eq_getElem (by omega)]; rfl
      rw [q1] at h21
      rw [q2] at h25
      clear q1 q2
      rcases Nat.lt_or_ge x.length y.length with h1 | h1
      · have hE : ¬ endsIn x y := fun h => by have := h.1; omega
        rw [decide_eq_false hE] at h20
        clear hE
        refine ev_fn' A7 ?_
        repeat' (first | ((with_reducible first | apply S_0 | apply S_q1 | apply S_g | apply S_c); exact sgc) | (with_reducible first | apply SO_q | apply SG_t | apply SG_f0 | apply SG_f1 | apply S_nil | apply T_n | apply W_seq | apply W_region | apply SO_x | apply SC_t | apply SC_f | apply W_block | apply W_ret | apply W_skip | apply W_exit | apply T_r | apply T_e | apply B_n | apply B_e) | (with_reducible apply B_ne; focus decide) | (with_reducible first | apply B_r | apply R_e | apply R_r | apply H_e | apply H_r | apply G_e | apply G_r) | (with_reducible apply SC_n) | ((with_reducible first | apply SC_d | apply SG_d | apply SG_n | apply SC_b | apply SG_b) <;> intro hc <;> try simp only [decide_eq_true_eq, decide_eq_false_iff_not, Classical.not_not, Bool.not_eq_true', Bool.not_eq_false'] at hc))
        all_goals first | (exfalso; omega) | (first | exact fincR | exact fincN)
      · have hE : endsIn x y ↔ x.drop (x.length - y.length) = y := ⟨fun h => h.2, fun h => ⟨h1, h⟩⟩
        simp only [hE] at h20
        have hm : ((x.length : Int) - if (y.length : Int) < x.length then (y.length : Int) else x.length).toNat = x.length - y.length := by split <;> omega
        clear hE
        refine ev_fn' A7 ?_
        repeat' (first | ((with_reducible first | apply S_0 | apply S_q1 | apply S_g | apply S_c); exact sgc) | (with_reducible first | apply SO_q | apply SG_t | apply SG_f0 | apply SG_f1 | apply S_nil | apply T_n | apply W_seq | apply W_region | apply SO_x | apply SC_t | apply SC_f | apply W_block | apply W_ret | apply W_skip | apply W_exit | apply T_r | apply T_e | apply B_n | apply B_e) | (with_reducible apply B_ne; focus decide) | (with_reducible first | apply B_r | apply R_e | apply R_r | apply H_e | apply H_r | apply G_e | apply G_r) | (with_reducible apply SC_n) | ((with_reducible first | apply SC_d | apply SG_d | apply SG_n | apply SC_b | apply SG_b) <;> intro hc <;> try simp only [decide_eq_true_eq, decide_eq_false_iff_not, Classical.not_not, Bool.not_eq_true', Bool.not_eq_false'] at hc))
        all_goals first | (exfalso; omega) | (refine ⟨by first | exact .inr rfl | exact .inl rfl, ?_⟩; simp (disch := first | assumption | decide | omega | exact List.getElem_mem _ | exact allI_ints _ | exact allI_rns _ | (simp only [List.length_take, List.length_drop, List.length_append, List.length_cons, List.length_nil, List.length_replicate, List.length_map, ints_len, rns_len]; omega)) only [resA, rvA, tupA, fin, frzV, frzTup, frzA, frz, isI, isI.all, Option.bind_some, go_sem, if_pos, if_neg, Nat.reduceBEq, Nat.reduceEqDiff, ↓reduceIte, Nat.reduceSub, Nat.reduceAdd, Int.reduceToNat, reduceCtorEq, Nat.reduceLeDiff, Nat.reduceLT, Nat.reduceMul, Nat.reduceDiv, Int.reduceLT, Int.reduceLE, Int.reduceEq, Int.reduceNe, Int.reduceAdd, Int.reduceSub, Int.reduceNeg, Int.reduceGT, Int.reduceGE, Int.reduceBEq, Int.reduceBNe, Int.reduceMul, *]) | (rw [hm] at hc; simp at hc; done)
  · refine ev_fn' A7 ?_
    repeat' (first | ((with_reducible first | apply S_0 | apply S_q1 | apply S_g | apply S_c); exact sgc) | (with_reducible first | apply SO_q | apply SG_t | apply SG_f0 | apply SG_f1 | apply S_nil | apply T_n | apply W_seq | apply W_region | apply SO_x | apply SC_t | apply SC_f | apply W_block | apply W_ret | apply W_skip | apply W_exit | apply T_r | apply T_e | apply B_n | apply B_e) | (with_reducible apply B_ne; focus decide) | (with_reducible first | apply B_r | apply R_e | apply R_r | apply H_e | apply H_r | apply G_e | apply G_r) | (with_reducible apply SC_n) | ((with_reducible first | apply SC_d | apply SG_d | apply SG_n | apply SC_b | apply SG_b) <;> intro hc <;> try simp only [decide_eq_true_eq, decide_eq_false_iff_not, Classical.not_not, Bool.not_eq_true', Bool.not_eq_false'] at hc))
    all_goals first | (refine ⟨by first | exact .inr rfl | exact .inl rfl, ?_⟩; simp (disch := first | assumption | decide | omega | exact List.getElem_mem _ | exact allI_ints _ | exact allI_rns _ | (simp only [List.length_take, List.length_drop, List.length_append, List.length_cons, List.length_nil, List.length_replicate, List.length_map, ints_len, rns_len]; omega)) only [resA, rvA, tupA, fin, frzV, frzTup, frzA, frz, isI, isI.all, Option.bind_some, go_sem, if_pos, if_neg, Nat.reduceBEq, Nat.reduceEqDiff, ↓reduceIte, Nat.reduceSub, Nat.reduceAdd, Int.reduceToNat, reduceCtorEq, Nat.reduceLeDiff, Nat.reduceLT, Nat.reduceMul, Nat.reduceDiv, Int.reduceLT, Int.reduceLE, Int.reduceEq, Int.reduceNe, Int.reduceAdd, Int.reduceSub, Int.reduceNeg, Int.reduceGT, Int.reduceGE, Int.reduceBEq, Int.reduceBNe, Int.reduceMul, *]) | (exfalso; omega)
theorem law_aspathAsks (x0 x1 x2 : AV) (h0 : (DT.sl 1 (.int .i64)).Arg x0) (h1 : (DT.sl 1 (.int .i64)).Arg x1) (h2 : (DT.int .i64).Arg x2) : ev pr 7 [x0, x1, x2] [] = some (.q (.flat (.bool true))) := by
  obtain ⟨l, nl, cd, rfl, h3, h4⟩ := pth_arg h0
  obtain ⟨l', nl', cd', rfl, h3', h4'⟩ := pth_arg h1
  obtain ⟨n, e, _⟩ : ∃ n, [x2] = [.flat (.int .i64 n)] ∧ (Lit.int .i64 n).wf = true := h2
  cases e
  exact law7 h4 h4' h3 h3' []
end Go.Proofs.Ytfpaegklkdfmmaa.Av
