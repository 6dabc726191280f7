/- The law TrimKeeps on the evaluator. -/
import Derived.Test.YtopiaiibpacmlaaX11
import Derived.Test.YtopiaiibpacmlaaX4
namespace Go.Proofs.Ytopiaiibpacmlaa.Av
open Go.RowKit
set_option linter.unusedSimpArgs false
set_option linter.unusedVariables false
set_option maxHeartbeats 10000000
theorem law5 (n : Int) (l : List Rks) (nl cd : Bool) (hl : l.length ≤ 9223372036854775807) (M : MS) :
    ev pr 5 [.agg [.flat (.int .i64 n), .list 1 (l.map Rks.av) nl cd]] M = some (.q (.flat (.bool true))) := by
  have h28 := lives24
  obtain ⟨b, h34, hb⟩ := t34 n l nl cd (M ++ [some [.flat (.int .i64 n), .list 1 (l.map Rks.av) nl cd]]) hl
  cases b with
  | false =>
    clear hb
    refine ev_fn' A5 ?_
    repeat' (first | ((with_reducible first | apply S_0 | apply S_q1 | apply S_g | apply S_c); exact sgc) | (with_reducible first | apply SO_q | apply SG_t | apply SG_f0 | apply SG_f1 | apply S_nil | apply T_n | apply W_seq | apply W_region | apply SO_x | apply SC_t | apply SC_f | apply W_block | apply W_ret | apply W_skip | apply W_exit | apply T_r | apply T_e | apply B_n | apply B_e) | (with_reducible apply B_ne; focus decide) | (with_reducible first | apply B_r | apply R_e | apply R_r | apply H_e | apply H_r | apply G_e | apply G_r) | (with_reducible apply SC_n) | ((with_reducible first | apply SC_d | apply SG_d | apply SG_n | apply SC_b | apply SG_b) <;> intro hc <;> try simp only [decide_eq_true_eq, decide_eq_false_iff_not, Classical.not_not, Bool.not_eq_true', Bool.not_eq_false'] at hc))
    (first | exact fincR | exact fincN)
  | true =>
    obtain ⟨hS, hsz⟩ := hb rfl
    have h31 := fun M => t31 n l nl cd M hl
    obtain ⟨x30, h30, hno, hyes⟩ := t30 n l nl cd (M ++ [some [.flat (.int .i64 n), .list 1 (l.map Rks.av) nl cd]]) hS
    by_cases hX : MayX n l
    · replace hsz := hsz hX
      obtain ⟨k, l', rfl, hl', hX', hS', hR, hNF⟩ := hyes hX
      obtain rfl : n = l.length := hX.2.2.1.symm
      have h31' := fun M => t31 l.length l' false false M (by have := hS'.1; omega)
      simp only [hX', decide_true] at h31'
      obtain ⟨o1, a36, f1, n1, c1, rfl, hf1⟩ := t36 (nl := nl) (cd := cd) (M := M ++ [some [.flat (.int .i64 l.length), .list 1 (l.map Rks.av) nl cd], some [.flat (.int .i64 l.length), .list 1 (l'.map Rks.av) false false]]) hX hS hsz
      obtain ⟨o2, b36, f2, n2, c2, rfl, hf2⟩ := t36 (l := l') (nl := false) (cd := false) (M := M ++ [some [.flat (.int .i64 l.length), .list 1 (l.map Rks.av) nl cd], some [.flat (.int .i64 l.length), .list 1 (l'.map Rks.av) false false]]) (by rw [hl']; exact hX') hS' (Nat.le_trans (prod_red hR) hsz)
      have hev := evF_red hR (ok_plX hX)
      have hlen : f1.length ≤ 1000000 := by
        have h1 := congrArg List.length hf1
        rw [List.length_map] at h1
        rw [h1, evF]
        refine Nat.le_trans (List.length_filter_le _ _) ?_
        rw [sts, List.length_map]; omega
      have hst : ∀ a ∈ f1, a.s.length ≤ 1000 := fun a ha => by
        have hm : Sta.l a ∈ evF (plX l) := by rw [← hf1]; exact List.mem_map.2 ⟨a, ha, rfl⟩
        have h1 : 1 ≤ l.length := by have := hX.1; omega
        have := (evF_mem (fun h => by have := congrArg List.length h; rw [plX_len, List.length_nil] at this; omega) hm).1
        rw [plX_len, Sta.l, pl_len] at this
        have := hS.1
        omega
      have h35 := fun M => t35 f1 f2 n1 c1 n2 c2 M hlen hst
      rw [hl'] at b36
      have heq : f1.map Sta.l = f2.map Sta.l := by rw [hf1, hf2, hev]
      simp only [heq, decide_true] at h35
      clear hno hyes hX hS hX' hS' hR hNF hev hf1 hf2 heq hlen hst hsz hb h31
      refine ev_fn' A5 ?_
      repeat' (first | ((with_reducible first | apply S_0 | apply S_q1 | apply S_g | apply S_c); exact sgc) | (with_reducible first | apply SO_q | apply SG_t | apply SG_f0 | apply SG_f1 | apply S_nil | apply T_n | apply W_seq | apply W_region | apply SO_x | apply SC_t | apply SC_f | apply W_block | apply W_ret | apply W_skip | apply W_exit | apply T_r | apply T_e | apply B_n | apply B_e) | (with_reducible apply B_ne; focus decide) | (with_reducible first | apply B_r | apply R_e | apply R_r | apply H_e | apply H_r | apply G_e | apply G_r) | (with_reducible apply SC_n) | ((with_reducible first | apply SC_d | apply SG_d | apply SG_n | apply SC_b | apply SG_b) <;> intro hc <;> try simp only [decide_eq_true_eq, decide_eq_false_iff_not, Classical.not_not, Bool.not_eq_true', Bool.not_eq_false'] at hc))
      (first | exact fincR | exact fincN)
    · have := hno hX
      subst this
      simp only [hX, decide_false] at h31
      clear hno hyes hb
      refine ev_fn' A5 ?_
      repeat' (first | ((with_reducible first | apply S_0 | apply S_q1 | apply S_g | apply S_c); exact sgc) | (with_reducible first | apply SO_q | apply SG_t | apply SG_f0 | apply SG_f1 | apply S_nil | apply T_n | apply W_seq | apply W_region | apply SO_x | apply SC_t | apply SC_f | apply W_block | apply W_ret | apply W_skip | apply W_exit | apply T_r | apply T_e | apply B_n | apply B_e) | (with_reducible apply B_ne; focus decide) | (with_reducible first | apply B_r | apply R_e | apply R_r | apply H_e | apply H_r | apply G_e | apply G_r) | (with_reducible apply SC_n) | ((with_reducible first | apply SC_d | apply SG_d | apply SG_n | apply SC_b | apply SG_b) <;> intro hc <;> try simp only [decide_eq_true_eq, decide_eq_false_iff_not, Classical.not_not, Bool.not_eq_true', Bool.not_eq_false'] at hc))
      (first | exact fincR | exact fincN)
theorem law_trimKeeps (x0 : AV) (h0 : dtInst.Arg x0) : ev pr 5 [x0] [] = some (.q (.flat (.bool true))) := by
  obtain ⟨n, l, nl, cd, rfl, hl⟩ := inst_arg h0
  exact law5 n l nl cd hl []
end Go.Proofs.Ytopiaiibpacmlaa.Av
