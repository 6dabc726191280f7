/- The law StableLimits on the evaluator. -/
import Derived.Test.YtopiaiibpacmlaaX14
namespace Go.Proofs.Ytopiaiibpacmlaa.Av
open Go.RowKit
set_option linter.unusedSimpArgs false
set_option linter.unusedVariables false
set_option maxHeartbeats 10000000
theorem law8 (n : Int) (l : List Rks) (nl cd : Bool) (m st : Int) (hl : l.length ≤ 9223372036854775807) (hst : st ≤ 9223372036854775807) (M : MS) :
    ev pr 8 [.agg [.flat (.int .i64 n), .list 1 (l.map Rks.av) nl cd], .flat (.int .i64 m), .flat (.int .i64 st)] M = some (.q (.flat (.bool true))) := by
  have h48 := lives23
  obtain ⟨b, h47, hb⟩ := t47 n l nl cd (M ++ [some [.flat (.int .i64 n), .list 1 (l.map Rks.av) nl cd]]) hl
  cases b with
  | false =>
    clear hb
    refine ev_fn' A8 ?_
    repeat' (first | ((with_reducible first | apply S_0 | apply S_q1 | apply S_g | apply S_c); exact sgc) | (with_reducible first | apply SO_q | apply SG_t | apply SG_f0 | apply SG_f1 | apply S_nil | apply T_n | apply W_seq | apply W_region | apply SO_x | apply SC_t | apply SC_f | apply W_block | apply W_ret | apply W_skip | apply W_exit | apply T_r | apply T_e | apply B_n | apply B_e) | (with_reducible apply B_ne; focus decide) | (with_reducible first | apply B_r | apply R_e | apply R_r | apply H_e | apply H_r | apply G_e | apply G_r) | (with_reducible apply SC_n) | ((with_reducible first | apply SC_d | apply SG_d | apply SG_n | apply SC_b | apply SG_b) <;> intro hc <;> try simp only [decide_eq_true_eq, decide_eq_false_iff_not, Classical.not_not, Bool.not_eq_true', Bool.not_eq_false'] at hc))
    (first | exact fincR | exact fincN)
  | true =>
    obtain ⟨hS, hbd⟩ := hb rfl
    clear hb
    have hbd2 : MayX n l → (fdsT (trX l)).length ≤ 3000 ∧ stpT (trX l) ≤ 36000 := fun h => by
      obtain rfl : n = l.length := h.2.2.1.symm
      exact stp_trX h hS (hbd h)
    obtain ⟨o1, h49, fs, n', c', rfl, hfs⟩ := t49 (n := n) (m := m) (st := st) (nl := nl) (cd := cd) (M := M ++ [some [.flat (.int .i64 n), .list 1 (l.map Rks.av) nl cd]]) hS hst fun h => (hbd2 h).1
    have h31 := fun M => t31 n l nl cd M hl
    by_cases hX : MayX n l
    · simp only [hX, decide_true] at h31
      have hbX := hbd hX
      obtain ⟨hf, hs⟩ := hbd2 hX
      obtain rfl : n = l.length := hX.2.2.1.symm
      by_cases hneg : m < 0 ∨ st < 0
      · have ha : ans49 l.length m st l = ([], 0, 1) := by
          rw [ans49, if_pos]
          rcases hneg with h | h
          · exact .inl h
          · exact .inr fun g => by omega
        rw [ha] at h49 hfs
        simp only [List.map_eq_nil_iff] at hfs
        subst hfs
        simp only [List.map_nil] at h49
        clear hX hS hbd hbd2 hbX hf hs ha
        rcases hneg with hm | hm
        · refine ev_fn' A8 ?_
          repeat' (first | ((with_reducible first | apply S_0 | apply S_q1 | apply S_g | apply S_c); exact sgc) | (with_reducible first | apply SO_q | apply SG_t | apply SG_f0 | apply SG_f1 | apply S_nil | apply T_n | apply W_seq | apply W_region | apply SO_x | apply SC_t | apply SC_f | apply W_block | apply W_ret | apply W_skip | apply W_exit | apply T_r | apply T_e | apply B_n | apply B_e) | (with_reducible apply B_ne; focus decide) | (with_reducible first | apply B_r | apply R_e | apply R_r | apply H_e | apply H_r | apply G_e | apply G_r) | (with_reducible apply SC_n) | ((with_reducible first | apply SC_d | apply SG_d | apply SG_n | apply SC_b | apply SG_b) <;> intro hc <;> try simp only [decide_eq_true_eq, decide_eq_false_iff_not, Classical.not_not, Bool.not_eq_true', Bool.not_eq_false'] at hc))
          all_goals (first | exact fincR | exact fincN)
        · refine ev_fn' A8 ?_
          repeat' (first | ((with_reducible first | apply S_0 | apply S_q1 | apply S_g | apply S_c); exact sgc) | (with_reducible first | apply SO_q | apply SG_t | apply SG_f0 | apply SG_f1 | apply S_nil | apply T_n | apply W_seq | apply W_region | apply SO_x | apply SC_t | apply SC_f | apply W_block | apply W_ret | apply W_skip | apply W_exit | apply T_r | apply T_e | apply B_n | apply B_e) | (with_reducible apply B_ne; focus decide) | (with_reducible first | apply B_r | apply R_e | apply R_r | apply H_e | apply H_r | apply G_e | apply G_r) | (with_reducible apply SC_n) | ((with_reducible first | apply SC_d | apply SG_d | apply SG_n | apply SC_b | apply SG_b) <;> intro hc <;> try simp only [decide_eq_true_eq, decide_eq_false_iff_not, Classical.not_not, Bool.not_eq_true', Bool.not_eq_false'] at hc))
          all_goals (first | exact fincR | exact fincN)
      · have hm0 : ¬ m < 0 := fun h => hneg (.inl h)
        have hs0 : ¬ st < 0 := fun h => hneg (.inr h)
        obtain ⟨o4, h36, gs, n2, c2, rfl, hgs⟩ := t36 (nl := nl) (cd := cd) (M := M ++ [some [.flat (.int .i64 l.length), .list 1 (l.map Rks.av) nl cd]]) hX hS hbX
        have h50 := t50 (nl := nl) (cd := cd) (M := M ++ [some [.flat (.int .i64 l.length), .list 1 (l.map Rks.av) nl cd]]) hX hS hbX
        have hN : gs.length = (fdsT (trX l)).length := by rw [fds_trX hX, ← hgs]; simp
        have ha : ans49 l.length m st l = if (stpT (trX l) : Int) ≤ st ∧ (gs.length : Int) ≤ m then (fdsT (trX l), (stpT (trX l) : Int), 0) else ([], 0, 11) := by
          rw [ans49, if_neg, hN]
          rintro (h | h)
          · exact hm0 h
          · exact h ⟨hX, by omega⟩
        rw [ha] at h49 hfs
        obtain ⟨K, hK⟩ : ∃ K : Nat, K = stpT (trX l) := ⟨_, rfl⟩
        rw [← hK] at h49 hfs h50 hs
        by_cases hc : (K : Int) ≤ st ∧ (gs.length : Int) ≤ m
        · rw [if_pos hc] at h49 hfs
          obtain ⟨hc1, hc2⟩ := hc
          have hc3 : ¬ st < K := by omega
          have hc4 : ¬ m < gs.length := by omega
          have hfg : fs.map Sta.l = gs.map Sta.l := by rw [hfs, hgs]; exact fds_trX hX
          have hsm := evF_small hX hS (fs := fs) (by rw [hfg, hgs])
          have h12 := hS.1
          have h51 := fun M => t51 fs gs n' c' n2 c2 M (by
            have := congrArg List.length hfg
            simp only [List.length_map] at this
            omega) fun a ha => by have := hsm a ha; omega
          rw [decide_eq_true hfg] at h51
          clear hX hS hbd hbd2 hbX hf hs ha hK hN hfs hgs hneg hfg hsm
          refine ev_fn' A8 ?_
          repeat' (first | ((with_reducible first | apply S_0 | apply S_q1 | apply S_g | apply S_c); exact sgc) | (with_reducible first | apply SO_q | apply SG_t | apply SG_f0 | apply SG_f1 | apply S_nil | apply T_n | apply W_seq | apply W_region | apply SO_x | apply SC_t | apply SC_f | apply W_block | apply W_ret | apply W_skip | apply W_exit | apply T_r | apply T_e | apply B_n | apply B_e) | (with_reducible apply B_ne; focus decide) | (with_reducible first | apply B_r | apply R_e | apply R_r | apply H_e | apply H_r | apply G_e | apply G_r) | (with_reducible apply SC_n) | ((with_reducible first | apply SC_d | apply SG_d | apply SG_n | apply SC_b | apply SG_b) <;> intro hc <;> try simp only [decide_eq_true_eq, decide_eq_false_iff_not, Classical.not_not, Bool.not_eq_true', Bool.not_eq_false'] at hc))
          all_goals (first | exact fincR | exact fincN)
        · rw [if_neg hc] at h49 hfs
          simp only [List.map_eq_nil_iff] at hfs
          subst hfs
          simp only [List.map_nil] at h49
          clear hX hS hbd hbd2 hbX hf ha hK hN hgs hneg
          by_cases hc1 : m < gs.length
          · clear hc
            refine ev_fn' A8 ?_
            repeat' (first | ((with_reducible first | apply S_0 | apply S_q1 | apply S_g | apply S_c); exact sgc) | (with_reducible first | apply SO_q | apply SG_t | apply SG_f0 | apply SG_f1 | apply S_nil | apply T_n | apply W_seq | apply W_region | apply SO_x | apply SC_t | apply SC_f | apply W_block | apply W_ret | apply W_skip | apply W_exit | apply T_r | apply T_e | apply B_n | apply B_e) | (with_reducible apply B_ne; focus decide) | (with_reducible first | apply B_r | apply R_e | apply R_r | apply H_e | apply H_r | apply G_e | apply G_r) | (with_reducible apply SC_n) | ((with_reducible first | apply SC_d | apply SG_d | apply SG_n | apply SC_b | apply SG_b) <;> intro hc <;> try simp only [decide_eq_true_eq, decide_eq_false_iff_not, Classical.not_not, Bool.not_eq_true', Bool.not_eq_false'] at hc))
            all_goals (first | exact fincR | exact fincN)
          · have hc2 : st < K := by omega
            clear hc
            refine ev_fn' A8 ?_
            repeat' (first | ((with_reducible first | apply S_0 | apply S_q1 | apply S_g | apply S_c); exact sgc) | (with_reducible first | apply SO_q | apply SG_t | apply SG_f0 | apply SG_f1 | apply S_nil | apply T_n | apply W_seq | apply W_region | apply SO_x | apply SC_t | apply SC_f | apply W_block | apply W_ret | apply W_skip | apply W_exit | apply T_r | apply T_e | apply B_n | apply B_e) | (with_reducible apply B_ne; focus decide) | (with_reducible first | apply B_r | apply R_e | apply R_r | apply H_e | apply H_r | apply G_e | apply G_r) | (with_reducible apply SC_n) | ((with_reducible first | apply SC_d | apply SG_d | apply SG_n | apply SC_b | apply SG_b) <;> intro hc <;> try simp only [decide_eq_true_eq, decide_eq_false_iff_not, Classical.not_not, Bool.not_eq_true', Bool.not_eq_false'] at hc))
            all_goals (first | exact fincR | exact fincN)
    · simp only [hX, decide_false] at h31
      have ha : ans49 n m st l = ([], 0, 1) := by
        rw [ans49, if_pos (.inr fun g => hX g.1)]
      rw [ha] at h49 hfs
      simp only [List.map_eq_nil_iff] at hfs
      subst hfs
      simp only [List.map_nil] at h49
      clear hX hS hbd hbd2 ha
      refine ev_fn' A8 ?_
      repeat' (first | ((with_reducible first | apply S_0 | apply S_q1 | apply S_g | apply S_c); exact sgc) | (with_reducible first | apply SO_q | apply SG_t | apply SG_f0 | apply SG_f1 | apply S_nil | apply T_n | apply W_seq | apply W_region | apply SO_x | apply SC_t | apply SC_f | apply W_block | apply W_ret | apply W_skip | apply W_exit | apply T_r | apply T_e | apply B_n | apply B_e) | (with_reducible apply B_ne; focus decide) | (with_reducible first | apply B_r | apply R_e | apply R_r | apply H_e | apply H_r | apply G_e | apply G_r) | (with_reducible apply SC_n) | ((with_reducible first | apply SC_d | apply SG_d | apply SG_n | apply SC_b | apply SG_b) <;> intro hc <;> try simp only [decide_eq_true_eq, decide_eq_false_iff_not, Classical.not_not, Bool.not_eq_true', Bool.not_eq_false'] at hc))
      all_goals (first | exact fincR | exact fincN)
theorem law_stableLimits (x0 x1 x2 : AV) (h0 : dtInst.Arg x0) (h1 : (DT.int .i64).Arg x1) (h2 : (DT.int .i64).Arg x2) : ev pr 8 [x0, x1, x2] [] = some (.q (.flat (.bool true))) := by
  obtain ⟨n, l, nl, cd, rfl, hl⟩ := inst_arg h0
  obtain ⟨m, rfl, _⟩ := int_arg h1
  obtain ⟨st, rfl, h3⟩ := int_arg h2
  exact law8 n l nl cd m st hl h3.2 []
end Go.Proofs.Ytopiaiibpacmlaa.Av
