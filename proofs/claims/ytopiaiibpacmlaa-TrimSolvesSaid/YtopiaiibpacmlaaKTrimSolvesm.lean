/- The law TrimSolves on the evaluator. -/
import Derived.Test.YtopiaiibpacmlaaX12
import Derived.Test.YtopiaiibpacmlaaX4
namespace Go.Proofs.Ytopiaiibpacmlaa.Av
open Go.RowKit
set_option linter.unusedSimpArgs false
set_option linter.unusedVariables false
set_option maxHeartbeats 10000000
theorem may_of_mem {l : List Rks} {s : List Pth} (hX : MayX l.length l) (h : pl s ∈ evF (plX l)) : MayS l.length l s ∧ StabP (plX l) (pl s) := by
  have h1 : 1 ≤ l.length := by have := hX.1; omega
  obtain ⟨a, b, c, d⟩ := evF_mem (fun h => by have := congrArg List.length h; rw [plX_len, List.length_nil] at this; omega) h
  rw [pl_len, plX_len] at a
  refine ⟨⟨hX, by omega, fun h0 => ?_, fun v hv hv' hv1 => ?_⟩, d⟩
  · rw [pl_getD h0] at b; exact b
  · have := c v hv1 (by rw [plX_len]; exact hv')
    rw [pl_getD hv, plX_get hv'] at this
    exact this
theorem law15 (n : Int) (l : List Rks) (nl cd : Bool) (hl : l.length ≤ 9223372036854775807) (M : MS) :
    ev pr 15 [.agg [.flat (.int .i64 n), .list 1 (l.map Rks.av) nl cd]] M = some (.q (.flat (.bool true))) := by
  have h28 := lives24
  obtain ⟨b, h34, hb⟩ := t34 n l nl cd (M ++ [some [.flat (.int .i64 n), .list 1 (l.map Rks.av) nl cd]]) hl
  cases b with
  | false =>
    clear hb
    refine ev_fn' A15 ?_
    repeat' (first | ((with_reducible first | apply S_0 | apply S_q1 | apply S_g | apply S_c); exact sgc) | (with_reducible first | apply SO_q | apply SG_t | apply SG_f0 | apply SG_f1 | apply S_nil | apply T_n | apply W_seq | apply W_region | apply SO_x | apply SC_t | apply SC_f | apply W_block | apply W_ret | apply W_skip | apply W_exit | apply T_r | apply T_e | apply B_n | apply B_e) | (with_reducible apply B_ne; focus decide) | (with_reducible first | apply B_r | apply R_e | apply R_r | apply H_e | apply H_r | apply G_e | apply G_r) | (with_reducible apply SC_n) | ((with_reducible first | apply SC_d | apply SG_d | apply SG_n | apply SC_b | apply SG_b) <;> intro hc <;> try simp only [decide_eq_true_eq, decide_eq_false_iff_not, Classical.not_not, Bool.not_eq_true', Bool.not_eq_false'] at hc))
    (first | exact fincR | exact fincN)
  | true =>
    obtain ⟨hS, hsz⟩ := hb rfl
    have h31 := fun M => t31 n l nl cd M hl
    obtain ⟨o67, h67, x, ok, rfl, hno, hyes⟩ := t67 n l nl cd (M ++ [some [.flat (.int .i64 n), .list 1 (l.map Rks.av) nl cd]]) hS
    clear hb
    by_cases hX : MayX n l
    · replace hsz := hsz hX
      simp only [hX, decide_true] at h31
      obtain ⟨k, l', hl', hX', hS', hR, hNF, hset⟩ := hyes hX
      obtain rfl : n = l.length := hX.2.2.1.symm
      obtain ⟨o32, h32, k2, l2, rc, G, rfl, hrc, hl2, hX2, hS2, hR2, hNF2⟩ := t32 (Vw.list (M ++ [some [.flat (.int .i64 l.length), .list 1 (l.map Rks.av) nl cd]]) Rks.av l nl cd) hX hS
      obtain ⟨_, hpp⟩ := red_uniq hR (ok_plX hX) hNF hR2 hNF2
      have hev := evF_red hR (ok_plX hX)
      have hO' := red_ok hR (ok_plX hX)
      have h1 : 1 ≤ l.length := by have := hX.1; omega
      obtain ⟨fsx, h36⟩ : ∃ fs : List Sta, (∃ n' c', ev pr 36 [.agg [.flat (.int .i64 l.length), .list 1 (l.map Rks.av) nl cd]] (M ++ (some [.flat (.int .i64 l.length), .list 1 (l.map Rks.av) nl cd] :: (G ++ [some [.flat (.int .i64 l.length), rc]]))) = some (.q (.list 1 (fs.map Sta.av) n' c'))) ∧ fs.map Sta.l = evF (plX l) := by
        obtain ⟨_, h, fs, n', c', rfl, hf⟩ := t36 (nl := nl) (cd := cd) (M := M ++ (some [.flat (.int .i64 l.length), .list 1 (l.map Rks.av) nl cd] :: (G ++ [some [.flat (.int .i64 l.length), rc]]))) hX hS hsz
        exact ⟨fs, ⟨n', c', h⟩, hf⟩
      obtain ⟨⟨n', c', h36⟩, hfs⟩ := h36
      have h39 := fun v (hv : v < l2.length) => t39 (n := l.length) (v := v) (hrc.ext (G ++ [some [.flat (.int .i64 l.length), rc]])) hv (fun q hq X => t86 (pc_x (by rw [hl2]; exact hX2) hS2) _ (Nat.le_refl _) (fun h => (q.p.ok h).1) ((hrc.ext _).ext _) (pc_x (by rw [hl2]; exact hX2) hS2 v hv q (by rw [hq]; simp)))
      have hcrc := hrc.cell
      have hseq : (∀ v : Nat, 1 ≤ v → v < l.length → setP (plX l') v) ↔ ∀ v : Nat, 1 ≤ v → v < l.length → settledF l2 v := by
        rw [hpp]
        have := fun v h1 h2 => set_iff (l := l2) (by rw [hl2]; exact hX2) (v := v) h1 h2
        rw [hl2] at this
        exact ⟨fun h v h1 h2 => (this v h1 h2).2 (h v h1 h2), fun h v h1 h2 => (this v h1 h2).1 (h v h1 h2)⟩
      rw [hl2] at h39
      simp only [List.append_assoc, List.cons_append, List.nil_append] at h32 h39
      have hcase : (ok = false ∧ x = .list 1 [] true true ∧ ¬ ∀ v : Nat, 1 ≤ v → v < l.length → settledF l2 v) ∨ (ok = true ∧ (∀ v : Nat, 1 ≤ v → v < l.length → settledF l2 v) ∧ ∃ (s : List Pth) (c' : Bool), x = .list 1 (s.map Pth.av) false c' ∧ pl s = sol (plX l') ∧ evF (plX l) = [sol (plX l')]) := by
        rcases hset with ⟨a, rfl, rfl⟩ | ⟨a, rfl, s, c', rfl, hs⟩
        · exact .inl ⟨rfl, rfl, fun h => a (hseq.2 h)⟩
        · refine .inr ⟨rfl, hseq.1 a, s, c', rfl, hs, ?_⟩
          rw [← hev]
          exact evF_sol hO' (fun h => by have := congrArg List.length h; rw [plX_len, List.length_nil] at this; omega) fun v h1 h2 => a v h1 (by rw [plX_len, hl'] at h2; exact h2)
      have h12 := hS.1
      have hXH : Hid (MayX l.length l) := hX
      have hSH : Hid (SmallX l) := hS
      clear hset hyes hno hrc hR hNF hR2 hNF2 hX2 hS2 hpp hev hO' hX' hS' hsz hseq hX hS
      refine ev_fn' A15 ?_
      repeat' (first | ((with_reducible first | apply S_0 | apply S_q1 | apply S_g | apply S_c); exact sgc) | (with_reducible first | apply SO_q | apply SG_t | apply SG_f0 | apply SG_f1 | apply S_nil | apply T_n | apply W_seq | apply W_region | apply SO_x | apply SC_t | apply SC_f | apply W_block | apply W_ret | apply W_skip | apply W_exit | apply T_r | apply T_e | apply B_n | apply B_e) | (with_reducible apply B_ne; focus decide) | (with_reducible first | apply B_r | apply R_e | apply R_r | apply H_e | apply H_r | apply G_e | apply G_r) | (with_reducible apply SC_n) | ((with_reducible first | apply SC_d | apply SG_d | apply SG_n | apply SC_b | apply SG_b) <;> intro hc <;> try simp only [decide_eq_true_eq, decide_eq_false_iff_not, Classical.not_not, Bool.not_eq_true', Bool.not_eq_false'] at hc))
      refine W_rng 8 1 l.length (fun i e => ∃ b : Bool, e 7 = .flat (.bool b) ∧ (b = true ↔ ∀ v : Nat, 1 ≤ v → v < i → settledF l2 v)) (by simp only [asg, asgO, List.append_nil, List.nil_append, List.cons_append]; rfl) (by exact svc) h1 ⟨true, by exact svc, by simp only [true_iff]; intro v _ _; omega⟩ ?_
      rintro i e hi1 hi hk e8 ⟨b, e7, hb⟩
      have k1 : e 1 = .mptr M.length 0 := by rw [hk 1 rfl]; exact svc
      have k3 : e 3 = x := by rw [hk 3 rfl]; exact svc
      have k4 : e 4 = .flat (.bool ok) := by rw [hk 4 rfl]; exact svc
      have k5 : e 5 = .mptr (M.length + (G.length + 1)) 0 := by rw [hk 5 rfl]; exact svc
      clear hk h32 h67 h34
      rcases Nat.lt_or_ge i l.length with hlt | hlt
      · have hlt' : (i : Int) < l.length := by omega
        replace h39 := h39 i hlt
        clear hcase h36 hfs h28 h31
        cases b with
        | true =>
          by_cases hc : settledF l2 i
          · simp only [hc, decide_true] at h39
            repeat' (first | ((with_reducible first | apply S_0 | apply S_q1 | apply S_g | apply S_c); exact sgc) | (with_reducible first | apply SO_q | apply SG_t | apply SG_f0 | apply SG_f1 | apply S_nil | apply T_n | apply W_seq | apply W_region | apply SO_x | apply SC_t | apply SC_f | apply W_block | apply W_ret | apply W_skip | apply W_exit | apply T_r | apply T_e | apply B_n | apply B_e) | (with_reducible apply B_ne; focus decide) | (with_reducible first | apply B_r | apply R_e | apply R_r | apply H_e | apply H_r | apply G_e | apply G_r) | (with_reducible apply SC_n) | ((with_reducible first | apply SC_d | apply SG_d | apply SG_n | apply SC_b | apply SG_b) <;> intro hc <;> try simp only [decide_eq_true_eq, decide_eq_false_iff_not, Classical.not_not, Bool.not_eq_true', Bool.not_eq_false'] at hc))
            refine H_n (by exact svc) hlt ⟨true, by exact svc, ?_⟩
            simp only [true_iff] at hb ⊢
            intro v h1 h2
            rcases Nat.lt_or_ge v i with hv | hv
            · exact hb v h1 hv
            · obtain rfl : v = i := by omega
              exact hc
          · simp only [hc, decide_false] at h39
            repeat' (first | ((with_reducible first | apply S_0 | apply S_q1 | apply S_g | apply S_c); exact sgc) | (with_reducible first | apply SO_q | apply SG_t | apply SG_f0 | apply SG_f1 | apply S_nil | apply T_n | apply W_seq | apply W_region | apply SO_x | apply SC_t | apply SC_f | apply W_block | apply W_ret | apply W_skip | apply W_exit | apply T_r | apply T_e | apply B_n | apply B_e) | (with_reducible apply B_ne; focus decide) | (with_reducible first | apply B_r | apply R_e | apply R_r | apply H_e | apply H_r | apply G_e | apply G_r) | (with_reducible apply SC_n) | ((with_reducible first | apply SC_d | apply SG_d | apply SG_n | apply SC_b | apply SG_b) <;> intro hc <;> try simp only [decide_eq_true_eq, decide_eq_false_iff_not, Classical.not_not, Bool.not_eq_true', Bool.not_eq_false'] at hc))
            refine H_n (by exact svc) hlt ⟨false, by exact svc, ?_⟩
            simp only [Bool.false_eq_true, false_iff]
            exact fun h => hc (h i hi1 (by omega))
        | false =>
          repeat' (first | ((with_reducible first | apply S_0 | apply S_q1 | apply S_g | apply S_c); exact sgc) | (with_reducible first | apply SO_q | apply SG_t | apply SG_f0 | apply SG_f1 | apply S_nil | apply T_n | apply W_seq | apply W_region | apply SO_x | apply SC_t | apply SC_f | apply W_block | apply W_ret | apply W_skip | apply W_exit | apply T_r | apply T_e | apply B_n | apply B_e) | (with_reducible apply B_ne; focus decide) | (with_reducible first | apply B_r | apply R_e | apply R_r | apply H_e | apply H_r | apply G_e | apply G_r) | (with_reducible apply SC_n) | ((with_reducible first | apply SC_d | apply SG_d | apply SG_n | apply SC_b | apply SG_b) <;> intro hc <;> try simp only [decide_eq_true_eq, decide_eq_false_iff_not, Classical.not_not, Bool.not_eq_true', Bool.not_eq_false'] at hc))
          refine H_n (by exact svc) hlt ⟨false, by exact svc, ?_⟩
          simp only [Bool.false_eq_true, false_iff] at hb ⊢
          exact fun h => hb fun v h1 h2 => h v h1 (by omega)
      · have hlt' : ¬ (i : Int) < l.length := by omega
        obtain rfl : i = l.length := by omega
        rcases hcase with ⟨rfl, rfl, hn⟩ | ⟨rfl, ha, s, c2, rfl, hs, he⟩
        · have hbf : b = false := by
            cases b with
            | false => rfl
            | true => exact absurd (hb.1 rfl) hn
          subst hbf
          clear hb hn h39
          repeat' (first | ((with_reducible first | apply S_0 | apply S_q1 | apply S_g | apply S_c); exact sgc) | (with_reducible first | apply SO_q | apply SG_t | apply SG_f0 | apply SG_f1 | apply S_nil | apply T_n | apply W_seq | apply W_region | apply SO_x | apply SC_t | apply SC_f | apply W_block | apply W_ret | apply W_skip | apply W_exit | apply T_r | apply T_e | apply B_n | apply B_e) | (with_reducible apply B_ne; focus decide) | (with_reducible first | apply B_r | apply R_e | apply R_r | apply H_e | apply H_r | apply G_e | apply G_r) | (with_reducible apply SC_n) | ((with_reducible first | apply SC_d | apply SG_d | apply SG_n | apply SC_b | apply SG_b) <;> intro hc <;> try simp only [decide_eq_true_eq, decide_eq_false_iff_not, Classical.not_not, Bool.not_eq_true', Bool.not_eq_false'] at hc))
          (first | exact fincR | exact fincN)
        · have hbt : b = true := hb.2 ha
          subst hbt
          have hX : MayX l.length l := hXH
          have hS : SmallX l := hSH
          obtain ⟨hm, hst⟩ := may_of_mem (s := s) hX (by rw [he, hs]; simp)
          have hsl : s.length = l.length := by have := hm.2.1; omega
          have h25 := fun M => t25 l.length l nl cd s false c2 M hS (by omega)
          simp only [hm, hst, and_self, decide_true] at h25
          have h35 := fun M => t35 [⟨s, false, c2⟩] fsx false true n' c' M (by simp) (fun a ha => by simp only [List.mem_singleton] at ha; subst ha; show s.length ≤ 1000; omega)
          have heq : List.map Sta.l [⟨s, false, c2⟩] = fsx.map Sta.l := by rw [hfs, he]; simp [Sta.l, hs]
          simp only [heq, decide_true] at h35
          simp only [List.map_cons, List.map_nil, Sta.av_eq] at h35
          clear hb ha hm hst hX hS heq hfs he hs h39
          repeat' (first | ((with_reducible first | apply S_0 | apply S_q1 | apply S_g | apply S_c); exact sgc) | (with_reducible first | apply SO_q | apply SG_t | apply SG_f0 | apply SG_f1 | apply S_nil | apply T_n | apply W_seq | apply W_region | apply SO_x | apply SC_t | apply SC_f | apply W_block | apply W_ret | apply W_skip | apply W_exit | apply T_r | apply T_e | apply B_n | apply B_e) | (with_reducible apply B_ne; focus decide) | (with_reducible first | apply B_r | apply R_e | apply R_r | apply H_e | apply H_r | apply G_e | apply G_r) | (with_reducible apply SC_n) | ((with_reducible first | apply SC_d | apply SG_d | apply SG_n | apply SC_b | apply SG_b) <;> intro hc <;> try simp only [decide_eq_true_eq, decide_eq_false_iff_not, Classical.not_not, Bool.not_eq_true', Bool.not_eq_false'] at hc))
          (first | exact fincR | exact fincN)
    · obtain ⟨rfl, rfl⟩ := hno hX
      simp only [hX, decide_false] at h31
      clear hno hyes
      refine ev_fn' A15 ?_
      repeat' (first | ((with_reducible first | apply S_0 | apply S_q1 | apply S_g | apply S_c); exact sgc) | (with_reducible first | apply SO_q | apply SG_t | apply SG_f0 | apply SG_f1 | apply S_nil | apply T_n | apply W_seq | apply W_region | apply SO_x | apply SC_t | apply SC_f | apply W_block | apply W_ret | apply W_skip | apply W_exit | apply T_r | apply T_e | apply B_n | apply B_e) | (with_reducible apply B_ne; focus decide) | (with_reducible first | apply B_r | apply R_e | apply R_r | apply H_e | apply H_r | apply G_e | apply G_r) | (with_reducible apply SC_n) | ((with_reducible first | apply SC_d | apply SG_d | apply SG_n | apply SC_b | apply SG_b) <;> intro hc <;> try simp only [decide_eq_true_eq, decide_eq_false_iff_not, Classical.not_not, Bool.not_eq_true', Bool.not_eq_false'] at hc))
      (first | exact fincR | exact fincN)
theorem law_trimSolves (x0 : AV) (h0 : dtInst.Arg x0) : ev pr 15 [x0] [] = some (.q (.flat (.bool true))) := by
  obtain ⟨n, l, nl, cd, rfl, hl⟩ := inst_arg h0
  exact law15 n l nl cd hl []
end Go.Proofs.Ytopiaiibpacmlaa.Av
