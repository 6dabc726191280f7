/- The law StableAll on the evaluator. -/
import Derived.Test.YtopiaiibpacmlaaX14
namespace Go.Proofs.Ytopiaiibpacmlaa.Av
open Go.RowKit
set_option linter.unusedSimpArgs false
set_option linter.unusedVariables false
set_option maxHeartbeats 10000000
theorem law16 (n : Int) (l : List Rks) (nl cd : Bool) (hl : l.length ≤ 9223372036854775807) (M : MS) :
    ev pr 16 [.agg [.flat (.int .i64 n), .list 1 (l.map Rks.av) nl cd]] M = some (.q (.flat (.bool true))) := by
  have h48 := lives23
  obtain ⟨b, h47, hb⟩ := t47 n l nl cd (M ++ [some [.flat (.int .i64 n), .list 1 (l.map Rks.av) nl cd]]) hl
  cases b with
  | false =>
    clear hb
    refine ev_fn' A16 ?_
    repeat' (first | ((with_reducible first | apply S_0 | apply S_q1 | apply S_g | apply S_c); exact sgc) | (with_reducible first | apply SO_q | apply SG_t | apply SG_f0 | apply SG_f1 | apply S_nil | apply T_n | apply W_seq | apply W_region | apply SO_x | apply SC_t | apply SC_f | apply W_block | apply W_ret | apply W_skip | apply W_exit | apply T_r | apply T_e | apply B_n | apply B_e) | (with_reducible apply B_ne; focus decide) | (with_reducible first | apply B_r | apply R_e | apply R_r | apply H_e | apply H_r | apply G_e | apply G_r) | (with_reducible apply SC_n) | ((with_reducible first | apply SC_d | apply SG_d | apply SG_n | apply SC_b | apply SG_b) <;> intro hc <;> try simp only [decide_eq_true_eq, decide_eq_false_iff_not, Classical.not_not, Bool.not_eq_true', Bool.not_eq_false'] at hc))
    (first | exact fincR | exact fincN)
  | true =>
    obtain ⟨hS, hbd⟩ := hb rfl
    clear hb
    have hbd2 : MayX n l → (fdsT (trX l)).length ≤ 3000 ∧ stpT (trX l) ≤ 36000 := fun h => by
      obtain rfl : n = l.length := h.2.2.1.symm
      exact stp_trX h hS (hbd h)
    obtain ⟨o1, h49, fs, n', c', rfl, hfs⟩ := t49 (n := n) (m := 5000) (st := 1048576) (nl := nl) (cd := cd) (M := M ++ [some [.flat (.int .i64 n), .list 1 (l.map Rks.av) nl cd]]) hS (by omega) fun h => (hbd2 h).1
    have h31 := fun M => t31 n l nl cd M hl
    by_cases hX : MayX n l
    · simp only [hX, decide_true] at h31
      have hbX := hbd hX
      obtain ⟨hf, hs⟩ := hbd2 hX
      obtain rfl : n = l.length := hX.2.2.1.symm
      obtain ⟨o4, h36, gs, n2, c2, rfl, hgs⟩ := t36 (nl := nl) (cd := cd) (M := M ++ [some [.flat (.int .i64 l.length), .list 1 (l.map Rks.av) nl cd]]) hX hS hbX
      have h50 := t50 (nl := nl) (cd := cd) (M := M ++ [some [.flat (.int .i64 l.length), .list 1 (l.map Rks.av) nl cd]]) hX hS hbX
      have ha : ans49 l.length 5000 1048576 l = (fdsT (trX l), (stpT (trX l) : Int), 0) := by
        rw [ans49, if_neg, if_pos ⟨by omega, by omega⟩]
        rintro (h | h)
        · omega
        · exact h ⟨hX, by omega⟩
      rw [ha] at h49 hfs
      simp only at h49 hfs
      obtain ⟨K, hK⟩ : ∃ K : Nat, K = stpT (trX l) := ⟨_, rfl⟩
      rw [← hK] at h49 h50
      have hfe : fs.map Sta.l = evF (plX l) := hfs.trans (fds_trX hX)
      have hfg : fs.map Sta.l = gs.map Sta.l := hfe.trans hgs.symm
      have hsm := evF_small hX hS hfe
      have h12 := hS.1
      have hfl : fs.length ≤ 3000 := by
        have := congrArg List.length hfs
        simp only [List.length_map] at this
        omega
      have h51 := fun M => t51 fs gs n' c' n2 c2 M (by omega) fun a ha => by have := hsm a ha; omega
      rw [decide_eq_true hfg] at h51
      have hisL : isL l.length l fs := by
        refine ⟨fun i hi h => ?_, hX⟩
        have hm : ∀ j (hj : j < fs.length), MayS l.length l fs[j].s ∧ StabP (plX l) (pl fs[j].s) := fun j hj => evF_may hX (by rw [← hfe]; exact List.mem_map_of_mem (f := Sta.l) (List.getElem_mem hj))
        refine ⟨hm i h, fun h0 => ?_⟩
        rw [cmpV, if_pos ⟨(hm (i - 1) (by omega)).1, (hm i h).1⟩]
        have hp := evF_rise hX
        rw [← hfe, List.pairwise_map, List.pairwise_iff_getElem] at hp
        exact hp (i - 1) i (by omega) h (by omega)
      have h68 := fun M => t68 l.length l nl cd fs n' c' M hS (by omega) fun a ha => by have := hsm a ha; omega
      rw [decide_eq_true hisL] at h68
      clear hX hS hbd hbd2 hbX hf hs ha hK hfs hgs hfg hsm hfe hisL
      refine ev_fn' A16 ?_
      repeat' (first | ((with_reducible first | apply S_0 | apply S_q1 | apply S_g | apply S_c); exact sgc) | (with_reducible first | apply SO_q | apply SG_t | apply SG_f0 | apply SG_f1 | apply S_nil | apply T_n | apply W_seq | apply W_region | apply SO_x | apply SC_t | apply SC_f | apply W_block | apply W_ret | apply W_skip | apply W_exit | apply T_r | apply T_e | apply B_n | apply B_e) | (with_reducible apply B_ne; focus decide) | (with_reducible first | apply B_r | apply R_e | apply R_r | apply H_e | apply H_r | apply G_e | apply G_r) | (with_reducible apply SC_n) | ((with_reducible first | apply SC_d | apply SG_d | apply SG_n | apply SC_b | apply SG_b) <;> intro hc <;> try simp only [decide_eq_true_eq, decide_eq_false_iff_not, Classical.not_not, Bool.not_eq_true', Bool.not_eq_false'] at hc))
      all_goals (first | exact fincR | exact fincN)
    · simp only [hX, decide_false] at h31
      have ha : ans49 n 5000 1048576 l = ([], 0, 1) := by
        rw [ans49, if_pos (.inr fun g => hX g.1)]
      rw [ha] at h49 hfs
      simp only [List.map_eq_nil_iff] at hfs
      subst hfs
      simp only [List.map_nil] at h49
      clear hX hS hbd hbd2 ha
      refine ev_fn' A16 ?_
      repeat' (first | ((with_reducible first | apply S_0 | apply S_q1 | apply S_g | apply S_c); exact sgc) | (with_reducible first | apply SO_q | apply SG_t | apply SG_f0 | apply SG_f1 | apply S_nil | apply T_n | apply W_seq | apply W_region | apply SO_x | apply SC_t | apply SC_f | apply W_block | apply W_ret | apply W_skip | apply W_exit | apply T_r | apply T_e | apply B_n | apply B_e) | (with_reducible apply B_ne; focus decide) | (with_reducible first | apply B_r | apply R_e | apply R_r | apply H_e | apply H_r | apply G_e | apply G_r) | (with_reducible apply SC_n) | ((with_reducible first | apply SC_d | apply SG_d | apply SG_n | apply SC_b | apply SG_b) <;> intro hc <;> try simp only [decide_eq_true_eq, decide_eq_false_iff_not, Classical.not_not, Bool.not_eq_true', Bool.not_eq_false'] at hc))
      all_goals (first | exact fincR | exact fincN)
theorem law_stableAll (x0 : AV) (h0 : dtInst.Arg x0) : ev pr 16 [x0] [] = some (.q (.flat (.bool true))) := by
  obtain ⟨n, l, nl, cd, rfl, hl⟩ := inst_arg h0
  exact law16 n l nl cd hl []
end Go.Proofs.Ytopiaiibpacmlaa.Av
