/- The law StableAsks on the evaluator. -/
import Derived.Test.YtopiaiibpacmlaaX14
namespace Go.Proofs.Ytopiaiibpacmlaa.Av
open Go.RowKit
set_option linter.unusedSimpArgs false
set_option linter.unusedVariables false
set_option maxHeartbeats 10000000
theorem law11 (n : Int) (l : List Rks) (nl cd : Bool) (hl : l.length ≤ 9223372036854775807) (M : MS) :
    ev pr 11 [.agg [.flat (.int .i64 n), .list 1 (l.map Rks.av) nl cd]] M = some (.q (.flat (.bool true))) := by
  have h48 := lives23
  obtain ⟨b, h47, hb⟩ := t47 n l nl cd (M ++ [some [.flat (.int .i64 n), .list 1 (l.map Rks.av) nl cd]]) hl
  cases b with
  | false =>
    clear hb
    refine ev_fn' A11 ?_
    repeat' (first | ((with_reducible first | apply S_0 | apply S_q1 | apply S_g | apply S_c); exact sgc) | (with_reducible first | apply SO_q | apply SG_t | apply SG_f0 | apply SG_f1 | apply S_nil | apply T_n | apply W_seq | apply W_region | apply SO_x | apply SC_t | apply SC_f | apply W_block | apply W_ret | apply W_skip | apply W_exit | apply T_r | apply T_e | apply B_n | apply B_e) | (with_reducible apply B_ne; focus decide) | (with_reducible first | apply B_r | apply R_e | apply R_r | apply H_e | apply H_r | apply G_e | apply G_r) | (with_reducible apply SC_n) | ((with_reducible first | apply SC_d | apply SG_d | apply SG_n | apply SC_b | apply SG_b) <;> intro hc <;> try simp only [decide_eq_true_eq, decide_eq_false_iff_not, Classical.not_not, Bool.not_eq_true', Bool.not_eq_false'] at hc))
    (first | exact fincR | exact fincN)
  | true =>
    obtain ⟨hS, hbd⟩ := hb rfl
    have hbd2 : MayX n l → (fdsT (trX l)).length ≤ 3000 ∧ stpT (trX l) ≤ 36000 := fun h => by
      obtain rfl : n = l.length := h.2.2.1.symm
      exact stp_trX h hS (hbd h)
    obtain ⟨o1, h59, k1, E1, rfl, a1, b1⟩ := t59 (nl := nl) (cd := cd) (M := M ++ [some [.flat (.int .i64 n), .list 1 (l.map Rks.av) nl cd]]) hS hbd2
    obtain ⟨o2, h60, s, ns, cs, ok, E2, rfl, a2, b2⟩ := t60 (nl := nl) (cd := cd) (M := M ++ [some [.flat (.int .i64 n), .list 1 (l.map Rks.av) nl cd]]) hS hbd2
    obtain ⟨o3, h61, k3, E3, rfl, a3, b3⟩ := t61 (nl := nl) (cd := cd) (M := M ++ [some [.flat (.int .i64 n), .list 1 (l.map Rks.av) nl cd]]) hS hbd2
    have h31 := fun M => t31 n l nl cd M hl
    by_cases hX : MayX n l
    · simp only [hX, decide_true] at h31
      have hbX := hbd hX
      obtain ⟨rfl, rfl⟩ := b1 hX
      obtain ⟨rfl, rfl, hs⟩ := b2 hX
      obtain ⟨rfl, rfl⟩ := b3 hX
      obtain rfl : n = l.length := hX.2.2.1.symm
      obtain ⟨o4, h36, fs, n', c', rfl, hfs⟩ := t36 (nl := nl) (cd := cd) (M := M ++ [some [.flat (.int .i64 l.length), .list 1 (l.map Rks.av) nl cd]]) hX hS hbX
      rw [← fds_trX hX] at hfs
      have hsl : ∀ h : 0 < (fdsT (trX l)).length, s.length ≤ 9223372036854775807 := fun h => by
        have h1 := hs h
        have h2 : (fdsT (trX l))[0] ∈ evF (plX l) := by rw [← fds_trX hX]; exact List.getElem_mem h
        have h3 := (evF_mem (fun e => by have h1 := plX_len l; rw [e] at h1; have := hX.1; simp only [List.length_nil] at h1; omega) h2).1
        rw [← h1, pl_len, plX_len] at h3
        omega
      clear hX hS hbd hbd2 a1 b1 a2 b2 a3 b3 hbX
      rw [← hfs] at h59 h60 h61 hs hsl
      clear hfs
      simp only [List.length_map] at h59 h60 h61
      rcases fs with _ | ⟨x, _ | ⟨y, fs⟩⟩
      · simp only [List.length_nil, Nat.lt_irrefl, decide_false, Nat.min_zero, List.map_nil, Int.natCast_zero, Int.ofNat_zero] at h59 h60 h61 h36
        clear hs hsl
        refine ev_fn' A11 ?_
        repeat' (first | ((with_reducible first | apply S_0 | apply S_q1 | apply S_g | apply S_c); exact sgc) | (with_reducible first | apply SO_q | apply SG_t | apply SG_f0 | apply SG_f1 | apply S_nil | apply T_n | apply W_seq | apply W_region | apply SO_x | apply SC_t | apply SC_f | apply W_block | apply W_ret | apply W_skip | apply W_exit | apply T_r | apply T_e | apply B_n | apply B_e) | (with_reducible apply B_ne; focus decide) | (with_reducible first | apply B_r | apply R_e | apply R_r | apply H_e | apply H_r | apply G_e | apply G_r) | (with_reducible apply SC_n) | ((with_reducible first | apply SC_d | apply SG_d | apply SG_n | apply SC_b | apply SG_b) <;> intro hc <;> try simp only [decide_eq_true_eq, decide_eq_false_iff_not, Classical.not_not, Bool.not_eq_true', Bool.not_eq_false'] at hc))
        (first | exact fincR | exact fincN)
      · have h24 := fun M => t24 s x.s ns cs x.ns x.cs M (hsl (by simp))
        have hp : pl s = pl x.s := hs (by simp)
        rw [decide_eq_true hp] at h24
        clear hp
        simp only [List.length_cons, List.length_nil, Nat.zero_add, Nat.zero_lt_one, decide_true, List.map_cons, List.map_nil, show min 2 1 = 1 from rfl, show ((1 : Nat) : Int) = 1 from rfl] at h59 h60 h61 h36
        clear hs hsl
        refine ev_fn' A11 ?_
        repeat' (first | ((with_reducible first | apply S_0 | apply S_q1 | apply S_g | apply S_c); exact sgc) | (with_reducible first | apply SO_q | apply SG_t | apply SG_f0 | apply SG_f1 | apply S_nil | apply T_n | apply W_seq | apply W_region | apply SO_x | apply SC_t | apply SC_f | apply W_block | apply W_ret | apply W_skip | apply W_exit | apply T_r | apply T_e | apply B_n | apply B_e) | (with_reducible apply B_ne; focus decide) | (with_reducible first | apply B_r | apply R_e | apply R_r | apply H_e | apply H_r | apply G_e | apply G_r) | (with_reducible apply SC_n) | ((with_reducible first | apply SC_d | apply SG_d | apply SG_n | apply SC_b | apply SG_b) <;> intro hc <;> try simp only [decide_eq_true_eq, decide_eq_false_iff_not, Classical.not_not, Bool.not_eq_true', Bool.not_eq_false'] at hc))
        (first | exact fincR | exact fincN)
      · have h24 := fun M => t24 s x.s ns cs x.ns x.cs M (hsl (by simp))
        have hp : pl s = pl x.s := hs (by simp)
        rw [decide_eq_true hp] at h24
        clear hp
        have m2 : min 2 (fs.length + 1 + 1) = 2 := by omega
        simp only [List.length_cons, Nat.zero_lt_succ, decide_true, List.map_cons, m2, show ((2 : Nat) : Int) = 2 from rfl] at h59 h60 h61 h36
        have z0 : ¬ ((fs.length : Int) + 1 + 1 = 0) := by omega
        have z1 : ¬ ((fs.length : Int) + 1 + 1 = 1) := by omega
        have z2 : (1 : Int) < (fs.length : Int) + 1 + 1 := by omega
        have z3 : (0 : Int) < (fs.length : Int) + 1 + 1 := by omega
        have y0 : ¬ ((fs.length : Int) + 2 = 0) := by omega
        have y1 : ¬ ((fs.length : Int) + 2 = 1) := by omega
        have y2 : (1 : Int) < (fs.length : Int) + 2 := by omega
        have y3 : (0 : Int) < (fs.length : Int) + 2 := by omega
        clear hs hsl m2
        refine ev_fn' A11 ?_
        repeat' (first | ((with_reducible first | apply S_0 | apply S_q1 | apply S_g | apply S_c); exact sgc) | (with_reducible first | apply SO_q | apply SG_t | apply SG_f0 | apply SG_f1 | apply S_nil | apply T_n | apply W_seq | apply W_region | apply SO_x | apply SC_t | apply SC_f | apply W_block | apply W_ret | apply W_skip | apply W_exit | apply T_r | apply T_e | apply B_n | apply B_e) | (with_reducible apply B_ne; focus decide) | (with_reducible first | apply B_r | apply R_e | apply R_r | apply H_e | apply H_r | apply G_e | apply G_r) | (with_reducible apply SC_n) | ((with_reducible first | apply SC_d | apply SG_d | apply SG_n | apply SC_b | apply SG_b) <;> intro hc <;> try simp only [decide_eq_true_eq, decide_eq_false_iff_not, Classical.not_not, Bool.not_eq_true', Bool.not_eq_false'] at hc))
        (first | exact fincR | exact fincN)
    · simp only [hX, decide_false] at h31
      obtain ⟨rfl, rfl⟩ := a1 hX
      obtain ⟨rfl, rfl, rfl⟩ := a2 hX
      obtain ⟨rfl, rfl⟩ := a3 hX
      simp only [List.map_nil] at h60
      clear hX hS hbd hbd2 a1 b1 a2 b2 a3 b3
      refine ev_fn' A11 ?_
      repeat' (first | ((with_reducible first | apply S_0 | apply S_q1 | apply S_g | apply S_c); exact sgc) | (with_reducible first | apply SO_q | apply SG_t | apply SG_f0 | apply SG_f1 | apply S_nil | apply T_n | apply W_seq | apply W_region | apply SO_x | apply SC_t | apply SC_f | apply W_block | apply W_ret | apply W_skip | apply W_exit | apply T_r | apply T_e | apply B_n | apply B_e) | (with_reducible apply B_ne; focus decide) | (with_reducible first | apply B_r | apply R_e | apply R_r | apply H_e | apply H_r | apply G_e | apply G_r) | (with_reducible apply SC_n) | ((with_reducible first | apply SC_d | apply SG_d | apply SG_n | apply SC_b | apply SG_b) <;> intro hc <;> try simp only [decide_eq_true_eq, decide_eq_false_iff_not, Classical.not_not, Bool.not_eq_true', Bool.not_eq_false'] at hc))
      (first | exact fincR | exact fincN)
theorem law_stableAsks (x0 : AV) (h0 : dtInst.Arg x0) : ev pr 11 [x0] [] = some (.q (.flat (.bool true))) := by
  obtain ⟨n, l, nl, cd, rfl, hl⟩ := inst_arg h0
  exact law11 n l nl cd hl []
end Go.Proofs.Ytopiaiibpacmlaa.Av
