/- The law TrimOnly on the evaluator. -/
import Derived.Test.YtopiaiibpacmlaaX13
import Derived.Test.YtopiaiibpacmlaaX4
namespace Go.Proofs.Ytopiaiibpacmlaa.Av
open Go.RowKit
set_option linter.unusedSimpArgs false
set_option linter.unusedVariables false
set_option maxHeartbeats 10000000
theorem onl_prod : ∀ (s : List Pa), (prodL (s.map oneL)).length ≤ 2 ^ s.length
  | [] => by simp [prodL]
  | p :: s => by
    have ih := onl_prod s
    rw [List.map_cons, prodL_len, List.length_cons, Nat.pow_succ]
    have h1 : (oneL p).length ≤ 1 := by unfold oneL; split <;> simp
    have := Nat.mul_le_mul (show (oneL p).length + 1 ≤ 2 by omega) ih
    omega
theorem law13 (n : Int) (l : List Rks) (nl cd : Bool) (s : List Pth) (ns cs : Bool) (hl : l.length ≤ 9223372036854775807) (hs : s.length ≤ 9223372036854775807) (M : MS) :
    ev pr 13 [.agg [.flat (.int .i64 n), .list 1 (l.map Rks.av) nl cd], .list 1 (s.map Pth.av) ns cs] M = some (.q (.flat (.bool true))) := by
  have h28 := lives24
  have h27 := fun M => t27 n l nl cd M hl
  have h62 := fun M => t62 s ns cs M hs
  by_cases hS : SmallX l
  · simp only [hS, decide_true] at h27
    by_cases hT : SmallS s
    · simp only [hT, decide_true] at h62
      have hs12 : s.length ≤ 1000 := by have := hT.1; omega
      have h21 := fun M => t21 n l nl cd s ns cs M hS hs12
      obtain ⟨o64, h64, x, er, rfl, hno, hyes⟩ := t64 n l nl cd s ns cs (M ++ [some [.flat (.int .i64 n), .list 1 (l.map Rks.av) nl cd]]) hS hs12 fun p hp => by have := hT.2 p hp; omega
      by_cases hm : MayS n l s
      · simp only [hm, decide_true] at h21
        obtain ⟨rfl, y, rfl, hy, hXy, hSy, hpy⟩ := hyes hm
        obtain ⟨rfl, hs1, hl1, hX⟩ := mayS_n hm
        have hy0 : 0 < y.length := by omega
        have hyl0 : y[0].l = [] := hXy.2.2.2.1 hy0
        have hsl0 : 0 < s.length := by omega
        have hrow : ∀ v (hv : v < s.length) (hv' : v < y.length), 1 ≤ v → paths y[v].l = oneL s[v].l := fun v hv hv' hv1 => by
          rw [← plX_get hv', hpy, onl_getD hv1, pl_getD hv]
        have hmy : MayS l.length y s := ⟨hXy, hm.2.1, hm.2.2.1, fun v hv hv' hv1 => by
          rw [hrow v hv hv' hv1, oneL]
          split
          · rename_i h; exact .inl h
          · exact .inr (by simp)⟩
        have h25 := fun M => t25 l.length l nl cd s ns cs M hS hs12
        have h25y := fun M => t25 l.length y false false s ns cs M hSy hs12
        have hmem : pl s ∈ sts (plX l) := (sts_mem (fun h => by have := congrArg List.length h; rw [plX_len, List.length_nil] at this; omega)).2 ⟨by rw [pl_len, plX_len, hs1], by rw [pl_getD hsl0]; exact hm.2.2.1 hsl0, fun v h1 h2 => by
          rw [plX_len] at h2
          have hvs : v < s.length := by omega
          rw [pl_getD hvs, plX_get h2]
          exact hm.2.2.2 v hvs h2 h1⟩
        have hst : StabP (plX l) (pl s) → StabP (plX y) (pl s) ∧ evF (plX y) = [pl s] := fun h => by
          rw [hpy]
          exact evF_onl (ok_plX hX) (fun h => by have := congrArg List.length h; rw [plX_len, List.length_nil] at this; omega) hmem h
        have h9 := hX.2.1
        have hprod : (prodL ((plX y).drop 1)).length ≤ 3000 := by
          rw [hpy]
          show (prodL ((pl s).drop 1 |>.map oneL)).length ≤ 3000
          refine Nat.le_trans (onl_prod _) ?_
          have h1 : ((pl s).drop 1).length ≤ 8 := by rw [List.length_drop, pl_len]; omega
          exact Nat.le_trans (Nat.pow_le_pow_right (by decide) h1) (by decide)
        obtain ⟨fs, ⟨n', c', h36⟩, hfs⟩ : ∃ fs : List Sta, (∃ n' c', ev pr 36 [.agg [.flat (.int .i64 l.length), .list 1 (y.map Rks.av) false false]] (M ++ [some [.flat (.int .i64 l.length), .list 1 (l.map Rks.av) nl cd], some [.flat (.int .i64 l.length), .list 1 (y.map Rks.av) false false]]) = some (.q (.list 1 (fs.map Sta.av) n' c'))) ∧ fs.map Sta.l = evF (plX y) := by
          obtain ⟨_, h, fs, n', c', rfl, hf⟩ := t36 (l := y) (nl := false) (cd := false) (M := M ++ [some [.flat (.int .i64 l.length), .list 1 (l.map Rks.av) nl cd], some [.flat (.int .i64 l.length), .list 1 (y.map Rks.av) false false]]) (by rw [hy]; exact hXy) hSy hprod
          rw [hy] at h
          exact ⟨fs, ⟨n', c', h⟩, hf⟩
        have hfl : StabP (plX l) (pl s) → fs.length = 1 := fun h => by
          have := congrArg List.length hfs
          rw [(hst h).2, List.length_map] at this
          exact this
        have h12 := hT.1
        simp only [hm, true_and] at h25
        simp only [hmy, true_and] at h25y
        have hrk : ∀ v (hv' : v < y.length) (j : Nat) (hj : j < y[v].l.length), 1 ≤ v → y[v].l[j].r = j := fun v hv' j hj hv1 => ((hXy.2.2.2.2 v hv' hv1).2 j hj).1
        obtain ⟨N, hN⟩ : ∃ N, N = l.length := ⟨_, rfl⟩
        have hsZ : s.length = N := by omega
        have hyZ : y.length = N := by omega
        have h20 : ∀ p ∈ s, p.l.length ≤ 20 := hT.2
        have hcond : Hid (StabP (plX l) (pl s) → StabP (plX y) (pl s) ∧ fs.length = 1) := fun h => ⟨(hst h).1, hfl h⟩
        rw [← hN] at h27 h21 h64 h25 h25y h36 ⊢
        clear hmem hst hfl hprod hfs hpy hno hyes hXy hSy hmy hX hm hS hT hs1 hy hl1 h9 hl hs hN
        refine ev_fn' A13 ?_
        repeat' (first | ((with_reducible first | apply S_0 | apply S_q1 | apply S_g | apply S_c); exact sgc) | (with_reducible first | apply SO_q | apply SG_t | apply SG_f0 | apply SG_f1 | apply S_nil | apply T_n | apply W_seq | apply W_region | apply SO_x | apply SC_t | apply SC_f | apply W_block | apply W_ret | apply W_skip | apply W_exit | apply T_r | apply T_e | apply B_n | apply B_e) | (with_reducible apply B_ne; focus decide) | (with_reducible first | apply B_r | apply R_e | apply R_r | apply H_e | apply H_r | apply G_e | apply G_r) | (with_reducible apply SC_n) | ((with_reducible first | apply SC_d | apply SG_d | apply SG_n | apply SC_b | apply SG_b) <;> intro hc <;> try simp only [decide_eq_true_eq, decide_eq_false_iff_not, Classical.not_not, Bool.not_eq_true', Bool.not_eq_false'] at hc))
        refine W_rng 7 1 N (fun _ _ => True) (by simp only [asg, asgO, List.append_nil, List.nil_append, List.cons_append]; rfl) (by exact svc) (by omega) trivial ?_
        rintro v e hv1 hv hk e7 -
        have k1 : e 1 = .list 1 (s.map Pth.av) ns cs := by rw [hk 1 rfl]; exact svc
        have k2 : e 2 = .mptr M.length 0 := by rw [hk 2 rfl]; exact svc
        have k5 : e 5 = .mptr (M.length + 1) 0 := by rw [hk 5 rfl]; exact svc
        clear hk h64 h21 h27 h62
        rcases Nat.lt_or_ge v N with hlt | hlt
        · have hlt' : (v : Int) < N := by omega
          have hvs : v < s.length := by omega
          have hvy : v < y.length := by omega
          have hr := hrow v hvs hvy hv1
          have h20 := h20 _ (List.getElem_mem hvs)
          clear h36 h25 h25y h28
          rcases Nat.eq_zero_or_pos s[v].l.length with h0 | h0
          · have hnil := List.eq_nil_of_length_eq_zero h0
            have hyl : y[v].l.length = 0 := by
              have := congrArg List.length hr
              rw [paths_len, hnil] at this
              simpa [oneL] using this
            have hsZ0 : (s[v].l.length : Int) = 0 := by omega
            have hyZ0 : (y[v].l.length : Int) = 0 := by omega
            clear hr hrow hnil h0 hyl
            repeat' (first | ((with_reducible first | apply S_0 | apply S_q1 | apply S_g | apply S_c); exact sgc) | (with_reducible first | apply SO_q | apply SG_t | apply SG_f0 | apply SG_f1 | apply S_nil | apply T_n | apply W_seq | apply W_region | apply SO_x | apply SC_t | apply SC_f | apply W_block | apply W_ret | apply W_skip | apply W_exit | apply T_r | apply T_e | apply B_n | apply B_e) | (with_reducible apply B_ne; focus decide) | (with_reducible first | apply B_r | apply R_e | apply R_r | apply H_e | apply H_r | apply G_e | apply G_r) | (with_reducible apply SC_n) | ((with_reducible first | apply SC_d | apply SG_d | apply SG_n | apply SC_b | apply SG_b) <;> intro hc <;> try simp only [decide_eq_true_eq, decide_eq_false_iff_not, Classical.not_not, Bool.not_eq_true', Bool.not_eq_false'] at hc))
            exact H_n (by exact svc) hlt trivial
          · have hne : s[v].l ≠ [] := fun h => by rw [h] at h0; simp at h0
            rw [oneL, if_neg hne] at hr
            obtain ⟨q, hq⟩ : ∃ q, y[v].l = [q] := by
              have := congrArg List.length hr
              rw [paths_len] at this
              match hx : y[v].l, this with
              | [q], _ => exact ⟨q, rfl⟩
            have hqp : q.p.l = s[v].l := by rw [hq] at hr; simpa [paths] using hr
            have hqr : q.r = 0 := by
              have := hrk v hvy 0 (by rw [hq]; simp) hv1
              simpa [hq] using this
            have hz : rksA y[v].l = [.list 1 (intsA q.p.l) q.p.nl q.p.cd, .flat (.int .i64 0)] := by rw [hq]; simp [rksA, Rnk.cs, Pth.av_eq, hqr]
            have hyZ1 : (y[v].l.length : Int) = 1 := by rw [hq]; rfl
            have hsp : 0 < (s[v].l.length : Int) := by omega
            have hmin : (if (1 : Int) < (s[v].l.length : Int) then (1 : Int) else (s[v].l.length : Int)) = 1 := by split <;> omega
            have h22 := fun M => (t22 q.p.l s[v].l q.p.nl q.p.cd s[v].nl s[v].cd M (by rw [hqp]; omega)).trans (congrArg (fun b => some (Out.q (.flat (.bool b)))) (decide_eq_true hqp))
            clear hr hrow hne hq hqp hqr hrk h0
            repeat' (first | ((with_reducible first | apply S_0 | apply S_q1 | apply S_g | apply S_c); exact sgc) | (with_reducible first | apply SO_q | apply SG_t | apply SG_f0 | apply SG_f1 | apply S_nil | apply T_n | apply W_seq | apply W_region | apply SO_x | apply SC_t | apply SC_f | apply W_block | apply W_ret | apply W_skip | apply W_exit | apply T_r | apply T_e | apply B_n | apply B_e) | (with_reducible apply B_ne; focus decide) | (with_reducible first | apply B_r | apply R_e | apply R_r | apply H_e | apply H_r | apply G_e | apply G_r) | (with_reducible apply SC_n) | ((with_reducible first | apply SC_d | apply SG_d | apply SG_n | apply SC_b | apply SG_b) <;> intro hc <;> try simp only [decide_eq_true_eq, decide_eq_false_iff_not, Classical.not_not, Bool.not_eq_true', Bool.not_eq_false'] at hc))
            exact H_n (by exact svc) hlt trivial
        · have hlt' : ¬ (v : Int) < N := by omega
          obtain rfl : v = N := by omega
          have hc : StabP (plX l) (pl s) → StabP (plX y) (pl s) ∧ fs.length = 1 := hcond
          clear hrow hrk hcond h20
          by_cases hst : StabP (plX l) (pl s)
          · obtain ⟨c1, c2⟩ := hc hst
            have c2' : (fs.length : Int) = 1 := by omega
            simp only [hst, decide_true] at h25
            simp only [c1, decide_true] at h25y
            clear hc hst c1 c2
            repeat' (first | ((with_reducible first | apply S_0 | apply S_q1 | apply S_g | apply S_c); exact sgc) | (with_reducible first | apply SO_q | apply SG_t | apply SG_f0 | apply SG_f1 | apply S_nil | apply T_n | apply W_seq | apply W_region | apply SO_x | apply SC_t | apply SC_f | apply W_block | apply W_ret | apply W_skip | apply W_exit | apply T_r | apply T_e | apply B_n | apply B_e) | (with_reducible apply B_ne; focus decide) | (with_reducible first | apply B_r | apply R_e | apply R_r | apply H_e | apply H_r | apply G_e | apply G_r) | (with_reducible apply SC_n) | ((with_reducible first | apply SC_d | apply SG_d | apply SG_n | apply SC_b | apply SG_b) <;> intro hc <;> try simp only [decide_eq_true_eq, decide_eq_false_iff_not, Classical.not_not, Bool.not_eq_true', Bool.not_eq_false'] at hc))
            (first | exact fincR | exact fincN)
          · simp only [hst, decide_false] at h25
            clear hc
            repeat' (first | ((with_reducible first | apply S_0 | apply S_q1 | apply S_g | apply S_c); exact sgc) | (with_reducible first | apply SO_q | apply SG_t | apply SG_f0 | apply SG_f1 | apply S_nil | apply T_n | apply W_seq | apply W_region | apply SO_x | apply SC_t | apply SC_f | apply W_block | apply W_ret | apply W_skip | apply W_exit | apply T_r | apply T_e | apply B_n | apply B_e) | (with_reducible apply B_ne; focus decide) | (with_reducible first | apply B_r | apply R_e | apply R_r | apply H_e | apply H_r | apply G_e | apply G_r) | (with_reducible apply SC_n) | ((with_reducible first | apply SC_d | apply SG_d | apply SG_n | apply SC_b | apply SG_b) <;> intro hc <;> try simp only [decide_eq_true_eq, decide_eq_false_iff_not, Classical.not_not, Bool.not_eq_true', Bool.not_eq_false'] at hc))
            (first | exact fincR | exact fincN)
      · obtain ⟨rfl, rfl⟩ := hno hm
        simp only [hm, decide_false] at h21
        clear hno hyes
        refine ev_fn' A13 ?_
        repeat' (first | ((with_reducible first | apply S_0 | apply S_q1 | apply S_g | apply S_c); exact sgc) | (with_reducible first | apply SO_q | apply SG_t | apply SG_f0 | apply SG_f1 | apply S_nil | apply T_n | apply W_seq | apply W_region | apply SO_x | apply SC_t | apply SC_f | apply W_block | apply W_ret | apply W_skip | apply W_exit | apply T_r | apply T_e | apply B_n | apply B_e) | (with_reducible apply B_ne; focus decide) | (with_reducible first | apply B_r | apply R_e | apply R_r | apply H_e | apply H_r | apply G_e | apply G_r) | (with_reducible apply SC_n) | ((with_reducible first | apply SC_d | apply SG_d | apply SG_n | apply SC_b | apply SG_b) <;> intro hc <;> try simp only [decide_eq_true_eq, decide_eq_false_iff_not, Classical.not_not, Bool.not_eq_true', Bool.not_eq_false'] at hc))
        (first | exact fincR | exact fincN)
    · simp only [hT, decide_false] at h62
      refine ev_fn' A13 ?_
      repeat' (first | ((with_reducible first | apply S_0 | apply S_q1 | apply S_g | apply S_c); exact sgc) | (with_reducible first | apply SO_q | apply SG_t | apply SG_f0 | apply SG_f1 | apply S_nil | apply T_n | apply W_seq | apply W_region | apply SO_x | apply SC_t | apply SC_f | apply W_block | apply W_ret | apply W_skip | apply W_exit | apply T_r | apply T_e | apply B_n | apply B_e) | (with_reducible apply B_ne; focus decide) | (with_reducible first | apply B_r | apply R_e | apply R_r | apply H_e | apply H_r | apply G_e | apply G_r) | (with_reducible apply SC_n) | ((with_reducible first | apply SC_d | apply SG_d | apply SG_n | apply SC_b | apply SG_b) <;> intro hc <;> try simp only [decide_eq_true_eq, decide_eq_false_iff_not, Classical.not_not, Bool.not_eq_true', Bool.not_eq_false'] at hc))
      (first | exact fincR | exact fincN)
  · simp only [hS, decide_false] at h27
    refine ev_fn' A13 ?_
    repeat' (first | ((with_reducible first | apply S_0 | apply S_q1 | apply S_g | apply S_c); exact sgc) | (with_reducible first | apply SO_q | apply SG_t | apply SG_f0 | apply SG_f1 | apply S_nil | apply T_n | apply W_seq | apply W_region | apply SO_x | apply SC_t | apply SC_f | apply W_block | apply W_ret | apply W_skip | apply W_exit | apply T_r | apply T_e | apply B_n | apply B_e) | (with_reducible apply B_ne; focus decide) | (with_reducible first | apply B_r | apply R_e | apply R_r | apply H_e | apply H_r | apply G_e | apply G_r) | (with_reducible apply SC_n) | ((with_reducible first | apply SC_d | apply SG_d | apply SG_n | apply SC_b | apply SG_b) <;> intro hc <;> try simp only [decide_eq_true_eq, decide_eq_false_iff_not, Classical.not_not, Bool.not_eq_true', Bool.not_eq_false'] at hc))
    (first | exact fincR | exact fincN)
theorem law_trimOnly (x0 x1 : AV) (h0 : dtInst.Arg x0) (h1 : dtState.Arg x1) : ev pr 13 [x0, x1] [] = some (.q (.flat (.bool true))) := by
  obtain ⟨n, l, nl, cd, rfl, hl⟩ := inst_arg h0
  obtain ⟨s, ns, cs, rfl, hs⟩ := state_arg h1
  exact law13 n l nl cd s ns cs hl hs []
end Go.Proofs.Ytopiaiibpacmlaa.Av
