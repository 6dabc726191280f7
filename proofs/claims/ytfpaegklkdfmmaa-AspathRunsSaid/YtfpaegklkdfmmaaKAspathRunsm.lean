/- The law AspathRuns, on the evaluator. -/
import Derived.Test.YtfpaegklkdfmmaaX6
import Derived.Test.YtfpaegklkdfmmaaX4
namespace Go.Proofs.Ytfpaegklkdfmmaa.Av
open Go.RowKit
set_option linter.unusedSimpArgs false
set_option linter.unusedVariables false
set_option maxHeartbeats 10000000
theorem law4 {x : List Int} {nx cx : Bool} {R : List (Int × Int)} {nl cl : Bool} (hx : x.length ≤ 9223372036854775807) (hy : R.length ≤ 9223372036854775807) (hn : nx = true → x = []) (h64 : ∀ a ∈ R, I64 a.1 ∧ I64 a.2) (M : MS) :
    ev pr 4 [.list 1 (intsA x) nx cx, .list 2 (rnsA R) nl cl] M = some (.q (.flat (.bool true))) := by
  have h8 := fun M => t8 (xv := .list 1 (intsA x) nx cx) (x := x) (M := M) (Vw.list M x nx cx).len hx
  have h9 := fun M => lives M
  by_cases h300 : x.length ≤ 300 ∧ R.length ≤ 300
  · obtain ⟨hx3, hy3⟩ := h300
    have lx : x.length ≤ 1000000 := by omega
    have ly : R.length ≤ 1000000 := by omega
    rw [show decide (x.length ≤ 300) = true from decide_eq_true hx3] at h8
    have h13 := fun M => t13 (x := x) (nx := nx) (cx := cx) (M := M) lx
    have h17 := fun M => t17 (x := x) (nx := nx) (cx := cx) (M := M) lx
    have h14 := fun M => t14 (R := R) (nl := nl) (cd := cl) (M := M) ly h64
    have h15 := fun M => t15 (R := R) (nl := nl) (cd := cl) (M := M) ly h64
    have lr := (runs_ok x x.length (Nat.le_refl _)).1
    rw [List.take_length] at lr
    have hP : (ofP R).length ≤ 16 := by
      unfold ofP; split
      · rename_i h; exact h.2
      · simp
    have h12 := fun M q => t12 (Vw.list M (ofP R) q q) (Vw.list M (ofP R) q q) (by omega) (by omega)
    have h16 := fun M q => t16 (x := runs x) (y := runs x) (nx := q) (cx := q) (ny := q) (cy := q) (M := M) (by omega) (by omega)
    have hS := short_runs x
    clear h64 hx hy
    simp only [decide_true] at h12 h16
    rcases Nat.eq_zero_or_pos x.length with h0 | h0
    · have h0' := List.eq_nil_of_length_eq_zero h0; subst h0'
      have h18 := fun M => t18e nx cx M
      have e0 : runs [] = [] := rfl
      rw [e0] at h13 h17 h16
      unfold lst at h13 h14 h15 h17
      generalize ofP R = P at *
      generalize ofE R = E at *
      generalize (intsA P).isEmpty = q at *
      clear hS
      have e1 : rnsA [] = [] := rfl
      have e2 : intsA [] = [] := rfl
      simp only [e1, e2, List.isEmpty_nil] at h13 h17 h16 h8 ⊢
      refine ev_fn' A4 ?_
      repeat' (first | ((with_reducible first | apply S_0 | apply S_q1 | apply S_g | apply S_c); exact sgc) | (with_reducible first | apply SO_q | apply SG_t | apply SG_f0 | apply SG_f1 | apply S_nil | apply T_n | apply W_seq | apply W_region | apply SO_x | apply SC_t | apply SC_f | apply W_block | apply W_ret | apply W_skip | apply W_exit | apply T_r | apply T_e | apply B_n | apply B_e) | (with_reducible apply B_ne; focus decide) | (with_reducible first | apply B_r | apply R_e | apply R_r | apply H_e | apply H_r | apply G_e | apply G_r) | (with_reducible apply SC_n) | ((with_reducible first | apply SC_d | apply SG_d | apply SG_n | apply SC_b | apply SG_b) <;> intro hc <;> try simp only [decide_eq_true_eq, decide_eq_false_iff_not, Classical.not_not, Bool.not_eq_true', Bool.not_eq_false'] at hc))
      · exfalso; omega
      refine W_loop1 ?_
      repeat' (first | ((with_reducible first | apply S_0 | apply S_q1 | apply S_g | apply S_c); exact sgc) | (with_reducible first | apply SO_q | apply SG_t | apply SG_f0 | apply SG_f1 | apply S_nil | apply T_n | apply W_seq | apply W_region | apply SO_x | apply SC_t | apply SC_f | apply W_block | apply W_ret | apply W_skip | apply W_exit | apply T_r | apply T_e | apply B_n | apply B_e) | (with_reducible apply B_ne; focus decide) | (with_reducible first | apply B_r | apply R_e | apply R_r | apply H_e | apply H_r | apply G_e | apply G_r) | (with_reducible apply SC_n) | ((with_reducible first | apply SC_d | apply SG_d | apply SG_n | apply SC_b | apply SG_b) <;> intro hc <;> try simp only [decide_eq_true_eq, decide_eq_false_iff_not, Classical.not_not, Bool.not_eq_true', Bool.not_eq_false'] at hc))
      (first | exact fincR | exact fincN)
    · have h18 := fun M => @t18 x nx cx M h0 lx hn
      rw [hS] at h18
      unfold lst at h13 h14 h15 h17
      generalize ofP R = P at *
      generalize ofE R = E at *
      generalize (intsA P).isEmpty = q at *
      generalize runs x = Q at *
      generalize (rnsA Q).isEmpty = q2 at *
      obtain ⟨rest, cd, h18⟩ := h18 M
      have htk : List.take Q.length (intsA (Q.map (·.1)) ++ rest) = intsA (Q.map (·.1)) := List.take_left' (by simp [intsA])
      clear hS
      refine ev_fn' A4 ?_
      repeat' (first | ((with_reducible first | apply S_0 | apply S_q1 | apply S_g | apply S_c); exact sgc) | (with_reducible first | apply SO_q | apply SG_t | apply SG_f0 | apply SG_f1 | apply S_nil | apply T_n | apply W_seq | apply W_region | apply SO_x | apply SC_t | apply SC_f | apply W_block | apply W_ret | apply W_skip | apply W_exit | apply T_r | apply T_e | apply B_n | apply B_e) | (with_reducible apply B_ne; focus decide) | (with_reducible first | apply B_r | apply R_e | apply R_r | apply H_e | apply H_r | apply G_e | apply G_r) | (with_reducible apply SC_n) | ((with_reducible first | apply SC_d | apply SG_d | apply SG_n | apply SC_b | apply SG_b) <;> intro hc <;> try simp only [decide_eq_true_eq, decide_eq_false_iff_not, Classical.not_not, Bool.not_eq_true', Bool.not_eq_false'] at hc))
      · exfalso; omega
      refine W_rng 11 0 Q.length (fun i _ => True) (by simp only [asg, asgO, List.append_nil, List.nil_append, List.cons_append]; rfl) (by exact svc) (by omega) trivial ?_
      rintro i e _ hi hk e11 _
      have k5 : e 5 = .list 2 (rnsA Q) q2 q2 := by rw [hk 5 rfl]; exact svc
      have k10 : e 10 = .ms M.length 0 Q.length 1 cd := by rw [hk 10 rfl]; exact svc
      clear hk
      rcases Nat.lt_or_ge i Q.length with hlt | hlt
      · have hlt' : (i : Int) < Q.length := by omega
        repeat' (first | ((with_reducible first | apply S_0 | apply S_q1 | apply S_g | apply S_c); exact sgc) | (with_reducible first | apply SO_q | apply SG_t | apply SG_f0 | apply SG_f1 | apply S_nil | apply T_n | apply W_seq | apply W_region | apply SO_x | apply SC_t | apply SC_f | apply W_block | apply W_ret | apply W_skip | apply W_exit | apply T_r | apply T_e | apply B_n | apply B_e) | (with_reducible apply B_ne; focus decide) | (with_reducible first | apply B_r | apply R_e | apply R_r | apply H_e | apply H_r | apply G_e | apply G_r) | (with_reducible apply SC_n) | ((with_reducible first | apply SC_d | apply SG_d | apply SG_n | apply SC_b | apply SG_b) <;> intro hc <;> try simp only [decide_eq_true_eq, decide_eq_false_iff_not, Classical.not_not, Bool.not_eq_true', Bool.not_eq_false'] at hc))
        all_goals first | exact H_n (by exact svc) hlt trivial | (exfalso; omega)
      · have hlt' : ¬ (i : Int) < Q.length := by omega
        repeat' (first | ((with_reducible first | apply S_0 | apply S_q1 | apply S_g | apply S_c); exact sgc) | (with_reducible first | apply SO_q | apply SG_t | apply SG_f0 | apply SG_f1 | apply S_nil | apply T_n | apply W_seq | apply W_region | apply SO_x | apply SC_t | apply SC_f | apply W_block | apply W_ret | apply W_skip | apply W_exit | apply T_r | apply T_e | apply B_n | apply B_e) | (with_reducible apply B_ne; focus decide) | (with_reducible first | apply B_r | apply R_e | apply R_r | apply H_e | apply H_r | apply G_e | apply G_r) | (with_reducible apply SC_n) | ((with_reducible first | apply SC_d | apply SG_d | apply SG_n | apply SC_b | apply SG_b) <;> intro hc <;> try simp only [decide_eq_true_eq, decide_eq_false_iff_not, Classical.not_not, Bool.not_eq_true', Bool.not_eq_false'] at hc))
        (first | exact fincR | exact fincN)
  · refine ev_fn' A4 ?_
    repeat' (first | ((with_reducible first | apply S_0 | apply S_q1 | apply S_g | apply S_c); exact sgc) | (with_reducible first | apply SO_q | apply SG_t | apply SG_f0 | apply SG_f1 | apply S_nil | apply T_n | apply W_seq | apply W_region | apply SO_x | apply SC_t | apply SC_f | apply W_block | apply W_ret | apply W_skip | apply W_exit | apply T_r | apply T_e | apply B_n | apply B_e) | (with_reducible apply B_ne; focus decide) | (with_reducible first | apply B_r | apply R_e | apply R_r | apply H_e | apply H_r | apply G_e | apply G_r) | (with_reducible apply SC_n) | ((with_reducible first | apply SC_d | apply SG_d | apply SG_n | apply SC_b | apply SG_b) <;> intro hc <;> try simp only [decide_eq_true_eq, decide_eq_false_iff_not, Classical.not_not, Bool.not_eq_true', Bool.not_eq_false'] at hc))
    all_goals first | (refine ⟨by first | exact .inr rfl | exact .inl rfl, ?_⟩; simp (disch := first | assumption | decide | omega | exact List.getElem_mem _ | exact allI_ints _ | exact allI_rns _ | (simp only [List.length_take, List.length_drop, List.length_append, List.length_cons, List.length_nil, List.length_replicate, List.length_map, ints_len, rns_len]; omega)) only [resA, rvA, tupA, fin, frzV, frzTup, frzA, frz, isI, isI.all, Option.bind_some, go_sem, if_pos, if_neg, Nat.reduceBEq, Nat.reduceEqDiff, ↓reduceIte, Nat.reduceSub, Nat.reduceAdd, Int.reduceToNat, reduceCtorEq, Nat.reduceLeDiff, Nat.reduceLT, Nat.reduceMul, Nat.reduceDiv, Int.reduceLT, Int.reduceLE, Int.reduceEq, Int.reduceNe, Int.reduceAdd, Int.reduceSub, Int.reduceNeg, Int.reduceGT, Int.reduceGE, Int.reduceBEq, Int.reduceBNe, Int.reduceMul, *]) | (exfalso; omega)
theorem law_aspathRuns (x0 x1 : AV) (h0 : (DT.sl 1 (.int .i64)).Arg x0) (h1 : (DT.sl 2 dtRun).Arg x1) : ev pr 4 [x0, x1] [] = some (.q (.flat (.bool true))) := by
  obtain ⟨l, nl, cd, rfl, h3, h4⟩ := pth_arg h0
  obtain ⟨R, nr, cr, rfl, _, h5, h6⟩ := runs_arg h1
  exact law4 h4 h5 h3 h6 []
end Go.Proofs.Ytfpaegklkdfmmaa.Av
