/- How states stand to one another; the start. -/
import Derived.Test.YtopiaiibpacmlaaX7
import Derived.Test.YtopiaiibpacmlaaX5
namespace Go.Proofs.Ytopiaiibpacmlaa.Av
open Go.RowKit
set_option linter.unusedSimpArgs false
set_option linter.unusedVariables false
set_option maxHeartbeats 10000000
def cmpI (a b : Int) : Int := if a < b then -1 else if b < a then 1 else 0
theorem t127 (n : Int) (M : MS) : ev pr 127 [.flat (.int .i64 n)] M = some (.q (.flat (.bool false))) := by
  refine ev_fn' A127 ?_
  repeat' (first | ((with_reducible first | apply S_0 | apply S_q1 | apply S_g | apply S_c); exact sgc) | (with_reducible first | apply SO_q | apply SG_t | apply SG_f0 | apply SG_f1 | apply S_nil | apply T_n | apply W_seq | apply W_region | apply SO_x | apply SC_t | apply SC_f | apply W_block | apply W_ret | apply W_skip | apply W_exit | apply T_r | apply T_e | apply B_n | apply B_e) | (with_reducible apply B_ne; focus decide) | (with_reducible first | apply B_r | apply R_e | apply R_r | apply H_e | apply H_r | apply G_e | apply G_r) | (with_reducible apply SC_n) | ((with_reducible first | apply SC_d | apply SG_d | apply SG_n | apply SC_b | apply SG_b) <;> intro hc <;> try simp only [decide_eq_true_eq, decide_eq_false_iff_not, Classical.not_not, Bool.not_eq_true', Bool.not_eq_false'] at hc))
  (first | exact fincR | exact fincN)
attribute [go_sem] t127
theorem t97 (a b : Int) (M : MS) : ev pr 97 [.flat (.int .i64 a), .flat (.int .i64 b)] M = some (.q (.flat (.int .i64 (cmpI a b)))) := by
  refine ev_fn' A97 ?_
  rcases Int.lt_trichotomy a b with h | h | h
  · have h1 : cmpI a b = -1 := by simp only [cmpI]; rw [if_pos h]
    rw [h1]
    repeat' (first | ((with_reducible first | apply S_0 | apply S_q1 | apply S_g | apply S_c); exact sgc) | (with_reducible first | apply SO_q | apply SG_t | apply SG_f0 | apply SG_f1 | apply S_nil | apply T_n | apply W_seq | apply W_region | apply SO_x | apply SC_t | apply SC_f | apply W_block | apply W_ret | apply W_skip | apply W_exit | apply T_r | apply T_e | apply B_n | apply B_e) | (with_reducible apply B_ne; focus decide) | (with_reducible first | apply B_r | apply R_e | apply R_r | apply H_e | apply H_r | apply G_e | apply G_r) | (with_reducible apply SC_n) | ((with_reducible first | apply SC_d | apply SG_d | apply SG_n | apply SC_b | apply SG_b) <;> intro hc <;> try simp only [decide_eq_true_eq, decide_eq_false_iff_not, Classical.not_not, Bool.not_eq_true', Bool.not_eq_false'] at hc))
    all_goals (first | exact fincR | exact fincN)
  · have h1 : cmpI a b = 0 := by simp only [cmpI]; rw [if_neg (by omega), if_neg (by omega)]
    have h2 : ¬ a < b := by omega
    have h3 : ¬ b < a := by omega
    rw [h1]
    clear h
    repeat' (first | ((with_reducible first | apply S_0 | apply S_q1 | apply S_g | apply S_c); exact sgc) | (with_reducible first | apply SO_q | apply SG_t | apply SG_f0 | apply SG_f1 | apply S_nil | apply T_n | apply W_seq | apply W_region | apply SO_x | apply SC_t | apply SC_f | apply W_block | apply W_ret | apply W_skip | apply W_exit | apply T_r | apply T_e | apply B_n | apply B_e) | (with_reducible apply B_ne; focus decide) | (with_reducible first | apply B_r | apply R_e | apply R_r | apply H_e | apply H_r | apply G_e | apply G_r) | (with_reducible apply SC_n) | ((with_reducible first | apply SC_d | apply SG_d | apply SG_n | apply SC_b | apply SG_b) <;> intro hc <;> try simp only [decide_eq_true_eq, decide_eq_false_iff_not, Classical.not_not, Bool.not_eq_true', Bool.not_eq_false'] at hc))
    all_goals (first | exact fincR | exact fincN)
  · have h1 : cmpI a b = 1 := by simp only [cmpI]; rw [if_neg (by omega), if_pos h]
    have h2 : ¬ a < b := by omega
    rw [h1]
    repeat' (first | ((with_reducible first | apply S_0 | apply S_q1 | apply S_g | apply S_c); exact sgc) | (with_reducible first | apply SO_q | apply SG_t | apply SG_f0 | apply SG_f1 | apply S_nil | apply T_n | apply W_seq | apply W_region | apply SO_x | apply SC_t | apply SC_f | apply W_block | apply W_ret | apply W_skip | apply W_exit | apply T_r | apply T_e | apply B_n | apply B_e) | (with_reducible apply B_ne; focus decide) | (with_reducible first | apply B_r | apply R_e | apply R_r | apply H_e | apply H_r | apply G_e | apply G_r) | (with_reducible apply SC_n) | ((with_reducible first | apply SC_d | apply SG_d | apply SG_n | apply SC_b | apply SG_b) <;> intro hc <;> try simp only [decide_eq_true_eq, decide_eq_false_iff_not, Classical.not_not, Bool.not_eq_true', Bool.not_eq_false'] at hc))
    all_goals (first | exact fincR | exact fincN)
attribute [go_sem] t97
/-- The rank of what a node has; 64 of nothing. -/
def rnk (L : List (List Int)) (p : List Int) : Int := if p = [] then 64 else place L p
theorem t98 {l : List Rks} {nl cd : Bool} {s : List Pth} {v : Nat} {np cp : Bool} {M : MS} (hm : MayS l.length l s) (hS : SmallX l) (hv1 : 1 ≤ v) (hv2 : v < l.length) (hs : v < s.length) :
    ev pr 98 [.agg [.flat (.int .i64 l.length), .list 1 (l.map Rks.av) nl cd], .list 1 (intsA s[v].l) np cp] M = some (.q (.flat (.int .i64 (rnk (paths l[v].l) s[v].l)))) := by
  have h82 := fun M => t82 l.length l nl cd s[v].l np cp M hS
  have hr : rnk (paths l[v].l) s[v].l = if RkOk l.length l s[v].l then place (at0 l s[v].l) s[v].l else 64 := by
    unfold rnk
    rcases hm.2.2.2 v hs hv2 hv1 with h | h
    · rw [if_pos h, if_neg]
      rintro ⟨_, h1⟩
      rw [h] at h1
      simp [at0] at h1
    · have hp : 0 < s[v].l.length := by
        rcases Nat.eq_zero_or_pos s[v].l.length with h0 | h0
        · rw [List.eq_nil_of_length_eq_zero h0] at h
          obtain ⟨r, hr, h1⟩ := List.mem_map.1 h
          have := (path1 (lok_path (hm.1.2.2.2.2 v hv2 hv1) r hr)).1
          rw [h1] at this; simp at this
        · exact h0
      obtain ⟨h2, h3⟩ := (rk_iff hm.1 hv1 hv2 hp).1 h
      have h4 : s[v].l[0].toNat = v := by omega
      rw [if_neg (by intro h5; rw [h5] at hp; simp at hp), if_pos h2, at0_of hp (by omega) (by omega)]
      simp only [h4]
  rw [hr]
  refine ev_fn' A98 ?_
  by_cases h : RkOk l.length l s[v].l
  · simp only [h, decide_true, if_true] at h82 ⊢
    repeat' (first | ((with_reducible first | apply S_0 | apply S_q1 | apply S_g | apply S_c); exact sgc) | (with_reducible first | apply SO_q | apply SG_t | apply SG_f0 | apply SG_f1 | apply S_nil | apply T_n | apply W_seq | apply W_region | apply SO_x | apply SC_t | apply SC_f | apply W_block | apply W_ret | apply W_skip | apply W_exit | apply T_r | apply T_e | apply B_n | apply B_e) | (with_reducible apply B_ne; focus decide) | (with_reducible first | apply B_r | apply R_e | apply R_r | apply H_e | apply H_r | apply G_e | apply G_r) | (with_reducible apply SC_n) | ((with_reducible first | apply SC_d | apply SG_d | apply SG_n | apply SC_b | apply SG_b) <;> intro hc <;> try simp only [decide_eq_true_eq, decide_eq_false_iff_not, Classical.not_not, Bool.not_eq_true', Bool.not_eq_false'] at hc))
    (first | exact fincR | exact fincN)
  · simp only [h, decide_false, if_false] at h82 ⊢
    repeat' (first | ((with_reducible first | apply S_0 | apply S_q1 | apply S_g | apply S_c); exact sgc) | (with_reducible first | apply SO_q | apply SG_t | apply SG_f0 | apply SG_f1 | apply S_nil | apply T_n | apply W_seq | apply W_region | apply SO_x | apply SC_t | apply SC_f | apply W_block | apply W_ret | apply W_skip | apply W_exit | apply T_r | apply T_e | apply B_n | apply B_e) | (with_reducible apply B_ne; focus decide) | (with_reducible first | apply B_r | apply R_e | apply R_r | apply H_e | apply H_r | apply G_e | apply G_r) | (with_reducible apply SC_n) | ((with_reducible first | apply SC_d | apply SG_d | apply SG_n | apply SC_b | apply SG_b) <;> intro hc <;> try simp only [decide_eq_true_eq, decide_eq_false_iff_not, Classical.not_not, Bool.not_eq_true', Bool.not_eq_false'] at hc))
    (first | exact fincR | exact fincN)
theorem t99 {n : Int} {l : List Rks} {nl cd : Bool} {p : List Int} {v : Nat} {np cp : Bool} {M : MS} (hS : SmallX l) (hp : p.length ≤ 9223372036854775807) (hv2 : v < l.length) :
    ev pr 99 [.agg [.flat (.int .i64 n), .list 1 (l.map Rks.av) nl cd], .flat (.int .i64 v), .list 1 (intsA p) np cp] M = some (.q (.flat (.int .i64 (rnk (paths l[v].l) p)))) := by
  have h12 := hS.1
  refine ev_fn' A99 ?_
  unfold rnk
  by_cases h : p = []
  · subst h
    rw [if_pos rfl]
    repeat' (first | ((with_reducible first | apply S_0 | apply S_q1 | apply S_g | apply S_c); exact sgc) | (with_reducible first | apply SO_q | apply SG_t | apply SG_f0 | apply SG_f1 | apply S_nil | apply T_n | apply W_seq | apply W_region | apply SO_x | apply SC_t | apply SC_f | apply W_block | apply W_ret | apply W_skip | apply W_exit | apply T_r | apply T_e | apply B_n | apply B_e) | (with_reducible apply B_ne; focus decide) | (with_reducible first | apply B_r | apply R_e | apply R_r | apply H_e | apply H_r | apply G_e | apply G_r) | (with_reducible apply SC_n) | ((with_reducible first | apply SC_d | apply SG_d | apply SG_n | apply SC_b | apply SG_b) <;> intro hc <;> try simp only [decide_eq_true_eq, decide_eq_false_iff_not, Classical.not_not, Bool.not_eq_true', Bool.not_eq_false'] at hc))
    (first | exact fincR | exact fincN)
  · have h1 : ¬ (p.length : Int) = 0 := fun h2 => h (List.eq_nil_of_length_eq_zero (by omega))
    rw [if_neg h]
    repeat' (first | ((with_reducible first | apply S_0 | apply S_q1 | apply S_g | apply S_c); exact sgc) | (with_reducible first | apply SO_q | apply SG_t | apply SG_f0 | apply SG_f1 | apply S_nil | apply T_n | apply W_seq | apply W_region | apply SO_x | apply SC_t | apply SC_f | apply W_block | apply W_ret | apply W_skip | apply W_exit | apply T_r | apply T_e | apply B_n | apply B_e) | (with_reducible apply B_ne; focus decide) | (with_reducible first | apply B_r | apply R_e | apply R_r | apply H_e | apply H_r | apply G_e | apply G_r) | (with_reducible apply SC_n) | ((with_reducible first | apply SC_d | apply SG_d | apply SG_n | apply SC_b | apply SG_b) <;> intro hc <;> try simp only [decide_eq_true_eq, decide_eq_false_iff_not, Classical.not_not, Bool.not_eq_true', Bool.not_eq_false'] at hc))
    (first | exact fincR | exact fincN)
/-- The order of two rows of numbers of one length. -/
def lexI : List Int → List Int → Int
  | a :: xs, b :: ys => if cmpI a b ≠ 0 then cmpI a b else lexI xs ys
  | _, _ => 0
theorem cmpI_eq {a b : Int} : cmpI a b = 0 ↔ a = b := by unfold cmpI; split <;> (try split) <;> omega
end Go.Proofs.Ytopiaiibpacmlaa.Av
namespace Go.Proofs.Ytopiaiibpacmlaa.Av
open Go.RowKit
set_option linter.unusedSimpArgs false
set_option linter.unusedVariables false
set_option maxHeartbeats 10000000
/-- The ranks of what the nodes from i on have. -/
def rkF (L : List (List (List Int))) (a : List (List Int)) : Nat → Nat → List Int
  | _, 0 => []
  | i, k + 1 => rnk (L.getD i []) (a.getD i []) :: rkF L a (i + 1) k
theorem rkF_step {L : List (List (List Int))} {a : List (List Int)} {i N : Nat} (h : i < N) : rkF L a i (N - i) = rnk (L.getD i []) (a.getD i []) :: rkF L a (i + 1) (N - (i + 1)) := by
  rw [show N - i = (N - (i + 1)) + 1 by omega, rkF]
def cmpS (L : List (List (List Int))) (a b : List (List Int)) : Int := lexI (rkF L a 1 (L.length - 1)) (rkF L b 1 (L.length - 1))
theorem t55 (n : Int) (l : List Rks) (nl cd : Bool) (a b : List Pth) (na ca nb cb : Bool) (M : MS) (hS : SmallX l) (ha : a.length ≤ 1000) (hb : b.length ≤ 1000) : ev pr 55 [.agg [.flat (.int .i64 n), .list 1 (l.map Rks.av) nl cd], .list 1 (a.map Pth.av) na ca, .list 1 (b.map Pth.av) nb cb] M = some (.q (.flat (.int .i64 (if MayS n l a ∧ MayS n l b then cmpS (plX l) (pl a) (pl b) else 0)))) := by
  have h70a := fun M => t70 n l nl cd a na ca M hS ha
  have h70b := fun M => t70 n l nl cd b nb cb M hS hb
  refine ev_fn' A55 ?_
  by_cases hma : MayS n l a
  · by_cases hmb : MayS n l b
    · obtain ⟨rfl, h1, h2, h3⟩ := mayS_n hma
      obtain ⟨_, h4, _, _⟩ := mayS_n hmb
      have hl12 := hS.1
      have g98a := fun M v np cp hv1 hv2 hs => @t98 l nl cd a v np cp M hma hS hv1 hv2 hs
      have g98b := fun M v np cp hv1 hv2 hs => @t98 l nl cd b v np cp M hmb hS hv1 hv2 hs
      simp only [hma, hmb, decide_true, and_self, if_true] at h70a h70b ⊢
      clear hma hmb h3
      repeat' (first | ((with_reducible first | apply S_0 | apply S_q1 | apply S_g | apply S_c); exact sgc) | (with_reducible first | apply SO_q | apply SG_t | apply SG_f0 | apply SG_f1 | apply S_nil | apply T_n | apply W_seq | apply W_region | apply SO_x | apply SC_t | apply SC_f | apply W_block | apply W_ret | apply W_skip | apply W_exit | apply T_r | apply T_e | apply B_n | apply B_e) | (with_reducible apply B_ne; focus decide) | (with_reducible first | apply B_r | apply R_e | apply R_r | apply H_e | apply H_r | apply G_e | apply G_r) | (with_reducible apply SC_n) | ((with_reducible first | apply SC_d | apply SG_d | apply SG_n | apply SC_b | apply SG_b) <;> intro hc <;> try simp only [decide_eq_true_eq, decide_eq_false_iff_not, Classical.not_not, Bool.not_eq_true', Bool.not_eq_false'] at hc))
      clear h70a h70b
      refine W_rng 7 1 l.length (fun i _ => lexI (rkF (plX l) (pl a) i (l.length - i)) (rkF (plX l) (pl b) i (l.length - i)) = cmpS (plX l) (pl a) (pl b)) (by simp only [asg, asgO, List.append_nil, List.nil_append, List.cons_append]; rfl) (by exact svc) (by omega) (by simp only [cmpS, plX_len]) ?_
      rintro i e hi1 hi hk e7 hl
      rcases Nat.lt_or_ge i l.length with hlt | hlt
      · have hlt' : (i : Int) < l.length := by omega
        have g1 := fun M np cp => g98a M i np cp hi1 hlt (by omega)
        have g2 := fun M np cp => g98b M i np cp hi1 hlt (by omega)
        have ga : i < a.length := by omega
        have gb : i < b.length := by omega
        rw [rkF_step hlt, rkF_step hlt, pl_getD ga, pl_getD gb, plX_get hlt, lexI] at hl
        clear g98a g98b
        repeat' (first | ((with_reducible first | apply S_0 | apply S_q1 | apply S_g | apply S_c); exact sgc) | (with_reducible first | apply SO_q | apply SG_t | apply SG_f0 | apply SG_f1 | apply S_nil | apply T_n | apply W_seq | apply W_region | apply SO_x | apply SC_t | apply SC_f | apply W_block | apply W_ret | apply W_skip | apply W_exit | apply T_r | apply T_e | apply B_n | apply B_e) | (with_reducible apply B_ne; focus decide) | (with_reducible first | apply B_r | apply R_e | apply R_r | apply H_e | apply H_r | apply G_e | apply G_r) | (with_reducible apply SC_n) | ((with_reducible first | apply SC_d | apply SG_d | apply SG_n | apply SC_b | apply SG_b) <;> intro hc <;> try simp only [decide_eq_true_eq, decide_eq_false_iff_not, Classical.not_not, Bool.not_eq_true', Bool.not_eq_false'] at hc))
        · (refine ⟨by first | exact .inr rfl | exact .inl rfl, ?_⟩; simp (disch := first | assumption | decide | omega | exact Pth.le _ | exact Rks.le _ | exact List.getElem_mem _ | exact allI_ints _ | exact allI_rks _ | exact allI_pths _ | exact Pth.nil _ | exact Rks.nil _ | (intro hh; simp only [Pth.nil _ hh, List.take_nil, List.drop_nil]; done) | (intro hh; simp only [Rks.nil _ hh, List.take_nil, List.drop_nil]; done) | (simp only [List.length_take, List.length_drop, List.length_append, List.length_cons, List.length_nil, List.length_replicate, List.length_map, ints_len]; omega)) only [resA, rvA, tupA, fin, frzV, frzTup, frzA, frz, isI, isI.all, Option.bind_some, go_sem, if_pos, if_neg, Nat.reduceBEq, Nat.reduceEqDiff, ↓reduceIte, Nat.reduceSub, Nat.reduceAdd, Int.reduceToNat, reduceCtorEq, Nat.reduceLeDiff, Nat.reduceLT, Nat.reduceMul, Nat.reduceDiv, Int.reduceLT, Int.reduceLE, Int.reduceEq, Int.reduceNe, Int.reduceAdd, Int.reduceSub, Int.reduceNeg, Int.reduceGT, Int.reduceGE, Int.reduceBEq, Int.reduceBNe, Int.reduceMul, *])
          rw [if_pos hc] at hl
          rw [hl]
        · refine H_n (by exact svc) hlt ?_
          rw [if_neg (by simpa using hc)] at hl
          exact hl
      · have hlt' : ¬ (i : Int) < l.length := by omega
        obtain rfl : i = l.length := by omega
        rw [Nat.sub_self] at hl
        repeat' (first | ((with_reducible first | apply S_0 | apply S_q1 | apply S_g | apply S_c); exact sgc) | (with_reducible first | apply SO_q | apply SG_t | apply SG_f0 | apply SG_f1 | apply S_nil | apply T_n | apply W_seq | apply W_region | apply SO_x | apply SC_t | apply SC_f | apply W_block | apply W_ret | apply W_skip | apply W_exit | apply T_r | apply T_e | apply B_n | apply B_e) | (with_reducible apply B_ne; focus decide) | (with_reducible first | apply B_r | apply R_e | apply R_r | apply H_e | apply H_r | apply G_e | apply G_r) | (with_reducible apply SC_n) | ((with_reducible first | apply SC_d | apply SG_d | apply SG_n | apply SC_b | apply SG_b) <;> intro hc <;> try simp only [decide_eq_true_eq, decide_eq_false_iff_not, Classical.not_not, Bool.not_eq_true', Bool.not_eq_false'] at hc))
        (refine ⟨by first | exact .inr rfl | exact .inl rfl, ?_⟩; simp (disch := first | assumption | decide | omega | exact Pth.le _ | exact Rks.le _ | exact List.getElem_mem _ | exact allI_ints _ | exact allI_rks _ | exact allI_pths _ | exact Pth.nil _ | exact Rks.nil _ | (intro hh; simp only [Pth.nil _ hh, List.take_nil, List.drop_nil]; done) | (intro hh; simp only [Rks.nil _ hh, List.take_nil, List.drop_nil]; done) | (simp only [List.length_take, List.length_drop, List.length_append, List.length_cons, List.length_nil, List.length_replicate, List.length_map, ints_len]; omega)) only [resA, rvA, tupA, fin, frzV, frzTup, frzA, frz, isI, isI.all, Option.bind_some, go_sem, if_pos, if_neg, Nat.reduceBEq, Nat.reduceEqDiff, ↓reduceIte, Nat.reduceSub, Nat.reduceAdd, Int.reduceToNat, reduceCtorEq, Nat.reduceLeDiff, Nat.reduceLT, Nat.reduceMul, Nat.reduceDiv, Int.reduceLT, Int.reduceLE, Int.reduceEq, Int.reduceNe, Int.reduceAdd, Int.reduceSub, Int.reduceNeg, Int.reduceGT, Int.reduceGE, Int.reduceBEq, Int.reduceBNe, Int.reduceMul, *])
        rw [← hl]; rfl
    · simp only [hma, hmb, decide_true, decide_false, and_false, if_false] at h70a h70b ⊢
      repeat' (first | ((with_reducible first | apply S_0 | apply S_q1 | apply S_g | apply S_c); exact sgc) | (with_reducible first | apply SO_q | apply SG_t | apply SG_f0 | apply SG_f1 | apply S_nil | apply T_n | apply W_seq | apply W_region | apply SO_x | apply SC_t | apply SC_f | apply W_block | apply W_ret | apply W_skip | apply W_exit | apply T_r | apply T_e | apply B_n | apply B_e) | (with_reducible apply B_ne; focus decide) | (with_reducible first | apply B_r | apply R_e | apply R_r | apply H_e | apply H_r | apply G_e | apply G_r) | (with_reducible apply SC_n) | ((with_reducible first | apply SC_d | apply SG_d | apply SG_n | apply SC_b | apply SG_b) <;> intro hc <;> try simp only [decide_eq_true_eq, decide_eq_false_iff_not, Classical.not_not, Bool.not_eq_true', Bool.not_eq_false'] at hc))
      (first | exact fincR | exact fincN)
  · simp only [hma, decide_false, false_and, if_false] at h70a ⊢
    repeat' (first | ((with_reducible first | apply S_0 | apply S_q1 | apply S_g | apply S_c); exact sgc) | (with_reducible first | apply SO_q | apply SG_t | apply SG_f0 | apply SG_f1 | apply S_nil | apply T_n | apply W_seq | apply W_region | apply SO_x | apply SC_t | apply SC_f | apply W_block | apply W_ret | apply W_skip | apply W_exit | apply T_r | apply T_e | apply B_n | apply B_e) | (with_reducible apply B_ne; focus decide) | (with_reducible first | apply B_r | apply R_e | apply R_r | apply H_e | apply H_r | apply G_e | apply G_r) | (with_reducible apply SC_n) | ((with_reducible first | apply SC_d | apply SG_d | apply SG_n | apply SC_b | apply SG_b) <;> intro hc <;> try simp only [decide_eq_true_eq, decide_eq_false_iff_not, Classical.not_not, Bool.not_eq_true', Bool.not_eq_false'] at hc))
    (first | exact fincR | exact fincN)
theorem t58 (l : List Rks) (nl cd : Bool) (a b : List Pth) (na ca nb cb : Bool) (M : MS) (hS : SmallX l) (ha : a.length = l.length) (hb : b.length = l.length) (h1 : 1 ≤ l.length) : ev pr 58 [.agg [.flat (.int .i64 l.length), .list 1 (l.map Rks.av) nl cd], .list 1 (a.map Pth.av) na ca, .list 1 (b.map Pth.av) nb cb] M = some (.q (.flat (.int .i64 (cmpS (plX l) (pl a) (pl b))))) := by
  have hl12 := hS.1
  have g99 := fun M v p np cp hp hv2 => @t99 l.length l nl cd p v np cp M hS hp hv2
  refine ev_fn' A58 ?_
  repeat' (first | ((with_reducible first | apply S_0 | apply S_q1 | apply S_g | apply S_c); exact sgc) | (with_reducible first | apply SO_q | apply SG_t | apply SG_f0 | apply SG_f1 | apply S_nil | apply T_n | apply W_seq | apply W_region | apply SO_x | apply SC_t | apply SC_f | apply W_block | apply W_ret | apply W_skip | apply W_exit | apply T_r | apply T_e | apply B_n | apply B_e) | (with_reducible apply B_ne; focus decide) | (with_reducible first | apply B_r | apply R_e | apply R_r | apply H_e | apply H_r | apply G_e | apply G_r) | (with_reducible apply SC_n) | ((with_reducible first | apply SC_d | apply SG_d | apply SG_n | apply SC_b | apply SG_b) <;> intro hc <;> try simp only [decide_eq_true_eq, decide_eq_false_iff_not, Classical.not_not, Bool.not_eq_true', Bool.not_eq_false'] at hc))
  refine W_rng 7 1 l.length (fun i _ => lexI (rkF (plX l) (pl a) i (l.length - i)) (rkF (plX l) (pl b) i (l.length - i)) = cmpS (plX l) (pl a) (pl b)) (by simp only [asg, asgO, List.append_nil, List.nil_append, List.cons_append]; rfl) (by exact svc) (by omega) (by simp only [cmpS, plX_len]) ?_
  rintro i e hi1 hi hk e7 hl
  rcases Nat.lt_or_ge i l.length with hlt | hlt
  · have hlt' : (i : Int) < l.length := by omega
    have ga : i < a.length := by omega
    have gb : i < b.length := by omega
    have g1 := fun M np cp => g99 M i a[i].l np cp a[i].le hlt
    have g2 := fun M np cp => g99 M i b[i].l np cp b[i].le hlt
    rw [rkF_step hlt, rkF_step hlt, pl_getD ga, pl_getD gb, plX_get hlt, lexI] at hl
    clear g99
    repeat' (first | ((with_reducible first | apply S_0 | apply S_q1 | apply S_g | apply S_c); exact sgc) | (with_reducible first | apply SO_q | apply SG_t | apply SG_f0 | apply SG_f1 | apply S_nil | apply T_n | apply W_seq | apply W_region | apply SO_x | apply SC_t | apply SC_f | apply W_block | apply W_ret | apply W_skip | apply W_exit | apply T_r | apply T_e | apply B_n | apply B_e) | (with_reducible apply B_ne; focus decide) | (with_reducible first | apply B_r | apply R_e | apply R_r | apply H_e | apply H_r | apply G_e | apply G_r) | (with_reducible apply SC_n) | ((with_reducible first | apply SC_d | apply SG_d | apply SG_n | apply SC_b | apply SG_b) <;> intro hc <;> try simp only [decide_eq_true_eq, decide_eq_false_iff_not, Classical.not_not, Bool.not_eq_true', Bool.not_eq_false'] at hc))
    · (refine ⟨by first | exact .inr rfl | exact .inl rfl, ?_⟩; simp (disch := first | assumption | decide | omega | exact Pth.le _ | exact Rks.le _ | exact List.getElem_mem _ | exact allI_ints _ | exact allI_rks _ | exact allI_pths _ | exact Pth.nil _ | exact Rks.nil _ | (intro hh; simp only [Pth.nil _ hh, List.take_nil, List.drop_nil]; done) | (intro hh; simp only [Rks.nil _ hh, List.take_nil, List.drop_nil]; done) | (simp only [List.length_take, List.length_drop, List.length_append, List.length_cons, List.length_nil, List.length_replicate, List.length_map, ints_len]; omega)) only [resA, rvA, tupA, fin, frzV, frzTup, frzA, frz, isI, isI.all, Option.bind_some, go_sem, if_pos, if_neg, Nat.reduceBEq, Nat.reduceEqDiff, ↓reduceIte, Nat.reduceSub, Nat.reduceAdd, Int.reduceToNat, reduceCtorEq, Nat.reduceLeDiff, Nat.reduceLT, Nat.reduceMul, Nat.reduceDiv, Int.reduceLT, Int.reduceLE, Int.reduceEq, Int.reduceNe, Int.reduceAdd, Int.reduceSub, Int.reduceNeg, Int.reduceGT, Int.reduceGE, Int.reduceBEq, Int.reduceBNe, Int.reduceMul, *])
      have h2 : cmpI (rnk (paths l[i].l) a[i].l) (rnk (paths l[i].l) b[i].l) = -1 := if_pos hc
      rw [← hl, h2]; rfl
    · (refine ⟨by first | exact .inr rfl | exact .inl rfl, ?_⟩; simp (disch := first | assumption | decide | omega | exact Pth.le _ | exact Rks.le _ | exact List.getElem_mem _ | exact allI_ints _ | exact allI_rks _ | exact allI_pths _ | exact Pth.nil _ | exact Rks.nil _ | (intro hh; simp only [Pth.nil _ hh, List.take_nil, List.drop_nil]; done) | (intro hh; simp only [Rks.nil _ hh, List.take_nil, List.drop_nil]; done) | (simp only [List.length_take, List.length_drop, List.length_append, List.length_cons, List.length_nil, List.length_replicate, List.length_map, ints_len]; omega)) only [resA, rvA, tupA, fin, frzV, frzTup, frzA, frz, isI, isI.all, Option.bind_some, go_sem, if_pos, if_neg, Nat.reduceBEq, Nat.reduceEqDiff, ↓reduceIte, Nat.reduceSub, Nat.reduceAdd, Int.reduceToNat, reduceCtorEq, Nat.reduceLeDiff, Nat.reduceLT, Nat.reduceMul, Nat.reduceDiv, Int.reduceLT, Int.reduceLE, Int.reduceEq, Int.reduceNe, Int.reduceAdd, Int.reduceSub, Int.reduceNeg, Int.reduceGT, Int.reduceGE, Int.reduceBEq, Int.reduceBNe, Int.reduceMul, *])
      have h2 : cmpI (rnk (paths l[i].l) a[i].l) (rnk (paths l[i].l) b[i].l) = 1 := by unfold cmpI; rw [if_neg (by omega), if_pos hc]
      rw [← hl, h2]; rfl
    · refine H_n (by exact svc) hlt ?_
      have h2 : cmpI (rnk (paths l[i].l) a[i].l) (rnk (paths l[i].l) b[i].l) = 0 := by unfold cmpI; rw [if_neg (by omega), if_neg (by omega)]
      rw [h2, if_neg (by decide)] at hl
      exact hl
  · have hlt' : ¬ (i : Int) < l.length := by omega
    obtain rfl : i = l.length := by omega
    rw [Nat.sub_self] at hl
    repeat' (first | ((with_reducible first | apply S_0 | apply S_q1 | apply S_g | apply S_c); exact sgc) | (with_reducible first | apply SO_q | apply SG_t | apply SG_f0 | apply SG_f1 | apply S_nil | apply T_n | apply W_seq | apply W_region | apply SO_x | apply SC_t | apply SC_f | apply W_block | apply W_ret | apply W_skip | apply W_exit | apply T_r | apply T_e | apply B_n | apply B_e) | (with_reducible apply B_ne; focus decide) | (with_reducible first | apply B_r | apply R_e | apply R_r | apply H_e | apply H_r | apply G_e | apply G_r) | (with_reducible apply SC_n) | ((with_reducible first | apply SC_d | apply SG_d | apply SG_n | apply SC_b | apply SG_b) <;> intro hc <;> try simp only [decide_eq_true_eq, decide_eq_false_iff_not, Classical.not_not, Bool.not_eq_true', Bool.not_eq_false'] at hc))
    (refine ⟨by first | exact .inr rfl | exact .inl rfl, ?_⟩; simp (disch := first | assumption | decide | omega | exact Pth.le _ | exact Rks.le _ | exact List.getElem_mem _ | exact allI_ints _ | exact allI_rks _ | exact allI_pths _ | exact Pth.nil _ | exact Rks.nil _ | (intro hh; simp only [Pth.nil _ hh, List.take_nil, List.drop_nil]; done) | (intro hh; simp only [Rks.nil _ hh, List.take_nil, List.drop_nil]; done) | (simp only [List.length_take, List.length_drop, List.length_append, List.length_cons, List.length_nil, List.length_replicate, List.length_map, ints_len]; omega)) only [resA, rvA, tupA, fin, frzV, frzTup, frzA, frz, isI, isI.all, Option.bind_some, go_sem, if_pos, if_neg, Nat.reduceBEq, Nat.reduceEqDiff, ↓reduceIte, Nat.reduceSub, Nat.reduceAdd, Int.reduceToNat, reduceCtorEq, Nat.reduceLeDiff, Nat.reduceLT, Nat.reduceMul, Nat.reduceDiv, Int.reduceLT, Int.reduceLE, Int.reduceEq, Int.reduceNe, Int.reduceAdd, Int.reduceSub, Int.reduceNeg, Int.reduceGT, Int.reduceGE, Int.reduceBEq, Int.reduceBNe, Int.reduceMul, *])
    rw [← hl]; rfl
def nilP : Pth := ⟨[], true, true, fun _ => ⟨rfl, rfl⟩, by simp⟩
def oriP : Pth := ⟨[0], false, true, fun h => by simp at h, by simp⟩
/-- The start. -/
def sta (k : Nat) : List Pth := oriP :: List.replicate k nilP
attribute [go_sem] LIM
end Go.Proofs.Ytopiaiibpacmlaa.Av
namespace Go.Proofs.Ytopiaiibpacmlaa.Av
open Go.RowKit
set_option linter.unusedSimpArgs false
set_option linter.unusedVariables false
set_option maxHeartbeats 10000000
/-- A path's copy. -/
def cln (p : Pth) : Pth := ⟨p.l, p.nl, p.l.isEmpty, fun h => by rw [p.nil h]; exact ⟨rfl, rfl⟩, p.le⟩
theorem cln_l (s : List Pth) : pl (s.map cln) = pl s := by simp [pl, cln, Function.comp_def]
theorem cln_e {p : Pth} (h : p.l = []) : (cln p).av = .list 1 [] p.nl true := by
  simp only [cln, Pth.av, h]; rfl
theorem cln_n {p : Pth} (h : 0 < p.l.length) : (cln p).av = .list 1 (intsA p.l) false false := by
  have h1 : p.nl = false := by
    cases hn : p.nl with
    | false => rfl
    | true => rw [p.nil hn] at h; simp at h
  have h2 : p.l.isEmpty = false := by
    cases hp : p.l with
    | nil => rw [hp] at h; simp at h
    | cons a b => rfl
  simp only [cln, Pth.av, h1, h2]
theorem t71 (s : List Pth) (ns cs : Bool) (M : MS) (hs : s.length ≤ 1000) (hp : ∀ p ∈ s, p.l.length ≤ 1000) : ∃ out, ev pr 71 [.list 1 (s.map Pth.av) ns cs] M = some out ∧ ∃ v G, out = .x v (M ++ G) [] ∧ Own M.length (M ++ G) v 1 ((s.map cln).map Pth.av) := by
  refine ev_fnE A71 ?_
  repeat' (first | ((with_reducible first | apply S_0 | apply S_q1 | apply S_g | apply S_c); exact sgc) | (with_reducible first | apply SO_q | apply SG_t | apply SG_f0 | apply SG_f1 | apply S_nil | apply T_n | apply W_seq | apply W_region | apply SO_x | apply SC_t | apply SC_f | apply W_block | apply W_ret | apply W_skip | apply W_exit | apply T_r | apply T_e | apply B_n | apply B_e) | (with_reducible apply B_ne; focus decide) | (with_reducible first | apply B_r | apply R_e | apply R_r | apply H_e | apply H_r | apply G_e | apply G_r) | (with_reducible apply SC_n) | ((with_reducible first | apply SC_d | apply SG_d | apply SG_n | apply SC_b | apply SG_b) <;> intro hc <;> try simp only [decide_eq_true_eq, decide_eq_false_iff_not, Classical.not_not, Bool.not_eq_true', Bool.not_eq_false'] at hc))
  refine W_rngM 8 0 s.length (fun i e m => ∃ v G, e 3 = v ∧ m = M ++ G ∧ Own M.length (M ++ G) v 1 (((s.take i).map cln).map Pth.av)) (by simp only [asg, asgO, List.append_nil, List.nil_append, List.cons_append]; rfl) (by exact svc) (by omega)
    ⟨.list 1 [] true true, [], by exact svc, by simp, by simpa using Own.nil _ _ (by decide)⟩ ?_
  rintro i e _ _ hi hk e8 ⟨w, G, e3, rfl, hO⟩
  have k6 : e 6 = .list 1 (s.map Pth.av) ns cs := by rw [hk 6 rfl]; exact svc
  have k7 : e 7 = .flat (.int .i64 s.length) := by rw [hk 7 rfl]; exact svc
  clear hk
  have htl : (((s.take i).map cln).map Pth.av).length = i := by simp; omega
  rcases Nat.lt_or_ge i s.length with hlt | hlt
  · have hlt' : (i : Int) < s.length := by omega
    have htk : ((s.take (i + 1)).map cln).map Pth.av = ((s.take i).map cln).map Pth.av ++ [(cln s[i]).av] := by
      rw [List.take_succ_eq_append_getElem hlt, List.map_append, List.map_append]; rfl
    have hsp := hp _ (List.getElem_mem hlt)
    rcases Nat.eq_zero_or_pos s[i].l.length with h0 | h0
    · have hnil := List.eq_nil_of_length_eq_zero h0
      have h75 : ∀ M, ev pr 75 [.list 1 (intsA []) s[i].nl s[i].cd] M = some (.x (.list 1 [] s[i].nl true) M []) := fun M => t75e s[i].nl s[i].cd M
      rw [cln_e hnil] at htk
      repeat' (first | ((with_reducible first | apply S_0 | apply S_q1 | apply S_g | apply S_c); exact sgc) | (with_reducible first | apply SO_q | apply SG_t | apply SG_f0 | apply SG_f1 | apply S_nil | apply T_n | apply W_seq | apply W_region | apply SO_x | apply SC_t | apply SC_f | apply W_block | apply W_ret | apply W_skip | apply W_exit | apply T_r | apply T_e | apply B_n | apply B_e) | (with_reducible apply B_ne; focus decide) | (with_reducible first | apply B_r | apply R_e | apply R_r | apply H_e | apply H_r | apply G_e | apply G_r) | (with_reducible apply SC_n) | ((with_reducible first | apply SC_d | apply SG_d | apply SG_n | apply SC_b | apply SG_b) <;> intro hc <;> try simp only [decide_eq_true_eq, decide_eq_false_iff_not, Classical.not_not, Bool.not_eq_true', Bool.not_eq_false'] at hc))
      (refine S_ownG (cs := ((s.take i).map cln).map Pth.av) M G (by assumption) (by first | rfl | simp only [List.append_assoc, List.cons_append, List.nil_append]) (by exact sgc) (by exact sgc) (by exact sgc) (by exact sgc) (by exact sgc) (by (first | assumption | omega | (simp only [ints_len, Nat.div_one, Nat.one_mul, Nat.mul_one, List.length_map, rks_len, half, List.length_cons, List.length_nil, List.length_append, List.length_replicate]; omega))) (by (first | assumption | omega | (simp only [ints_len, Nat.div_one, Nat.one_mul, Nat.mul_one, List.length_map, rks_len, half, List.length_cons, List.length_nil, List.length_append, List.length_replicate]; omega))) (by first | omega | (simp; done) | (simp; omega)) ?_)
      intro v' G' hO2
      rw [← htk] at hO2
      repeat' (first | ((with_reducible first | apply S_0 | apply S_q1 | apply S_g | apply S_c); exact sgc) | (with_reducible first | apply SO_q | apply SG_t | apply SG_f0 | apply SG_f1 | apply S_nil | apply T_n | apply W_seq | apply W_region | apply SO_x | apply SC_t | apply SC_f | apply W_block | apply W_ret | apply W_skip | apply W_exit | apply T_r | apply T_e | apply B_n | apply B_e) | (with_reducible apply B_ne; focus decide) | (with_reducible first | apply B_r | apply R_e | apply R_r | apply H_e | apply H_r | apply G_e | apply G_r) | (with_reducible apply SC_n) | ((with_reducible first | apply SC_d | apply SG_d | apply SG_n | apply SC_b | apply SG_b) <;> intro hc <;> try simp only [decide_eq_true_eq, decide_eq_false_iff_not, Classical.not_not, Bool.not_eq_true', Bool.not_eq_false'] at hc))
      exact G_n (by exact svc) hlt ⟨v', G', by exact svc, rfl, hO2⟩
    · have h75 := fun M => t75 s[i].l s[i].nl s[i].cd M h0 (by omega) s[i].nil
      have hO' := hO.growG [none]
      rw [cln_n h0] at htk
      repeat' (first | ((with_reducible first | apply S_0 | apply S_q1 | apply S_g | apply S_c); exact sgc) | (with_reducible first | apply SO_q | apply SG_t | apply SG_f0 | apply SG_f1 | apply S_nil | apply T_n | apply W_seq | apply W_region | apply SO_x | apply SC_t | apply SC_f | apply W_block | apply W_ret | apply W_skip | apply W_exit | apply T_r | apply T_e | apply B_n | apply B_e) | (with_reducible apply B_ne; focus decide) | (with_reducible first | apply B_r | apply R_e | apply R_r | apply H_e | apply H_r | apply G_e | apply G_r) | (with_reducible apply SC_n) | ((with_reducible first | apply SC_d | apply SG_d | apply SG_n | apply SC_b | apply SG_b) <;> intro hc <;> try simp only [decide_eq_true_eq, decide_eq_false_iff_not, Classical.not_not, Bool.not_eq_true', Bool.not_eq_false'] at hc))
      (refine S_ownG (cs := ((s.take i).map cln).map Pth.av) M (G ++ [none]) (by assumption) (by first | rfl | simp only [List.append_assoc, List.cons_append, List.nil_append]) (by exact sgc) (by exact sgc) (by exact sgc) (by exact sgc) (by exact sgc) (by (first | assumption | omega | (simp only [ints_len, Nat.div_one, Nat.one_mul, Nat.mul_one, List.length_map, rks_len, half, List.length_cons, List.length_nil, List.length_append, List.length_replicate]; omega))) (by (first | assumption | omega | (simp only [ints_len, Nat.div_one, Nat.one_mul, Nat.mul_one, List.length_map, rks_len, half, List.length_cons, List.length_nil, List.length_append, List.length_replicate]; omega))) (by first | omega | (simp; done) | (simp; omega)) ?_)
      intro v' G' hO2
      rw [← htk] at hO2
      repeat' (first | ((with_reducible first | apply S_0 | apply S_q1 | apply S_g | apply S_c); exact sgc) | (with_reducible first | apply SO_q | apply SG_t | apply SG_f0 | apply SG_f1 | apply S_nil | apply T_n | apply W_seq | apply W_region | apply SO_x | apply SC_t | apply SC_f | apply W_block | apply W_ret | apply W_skip | apply W_exit | apply T_r | apply T_e | apply B_n | apply B_e) | (with_reducible apply B_ne; focus decide) | (with_reducible first | apply B_r | apply R_e | apply R_r | apply H_e | apply H_r | apply G_e | apply G_r) | (with_reducible apply SC_n) | ((with_reducible first | apply SC_d | apply SG_d | apply SG_n | apply SC_b | apply SG_b) <;> intro hc <;> try simp only [decide_eq_true_eq, decide_eq_false_iff_not, Classical.not_not, Bool.not_eq_true', Bool.not_eq_false'] at hc))
      exact G_n (by exact svc) hlt ⟨v', G', by exact svc, rfl, hO2⟩
  · have hlt' : ¬ (i : Int) < s.length := by omega
    obtain rfl : i = s.length := by omega
    rw [List.take_length] at hO
    clear hp
    repeat' (first | ((with_reducible first | apply S_0 | apply S_q1 | apply S_g | apply S_c); exact sgc) | (with_reducible first | apply SO_q | apply SG_t | apply SG_f0 | apply SG_f1 | apply S_nil | apply T_n | apply W_seq | apply W_region | apply SO_x | apply SC_t | apply SC_f | apply W_block | apply W_ret | apply W_skip | apply W_exit | apply T_r | apply T_e | apply B_n | apply B_e) | (with_reducible apply B_ne; focus decide) | (with_reducible first | apply B_r | apply R_e | apply R_r | apply H_e | apply H_r | apply G_e | apply G_r) | (with_reducible apply SC_n) | ((with_reducible first | apply SC_d | apply SG_d | apply SG_n | apply SC_b | apply SG_b) <;> intro hc <;> try simp only [decide_eq_true_eq, decide_eq_false_iff_not, Classical.not_not, Bool.not_eq_true', Bool.not_eq_false'] at hc))
    refine ⟨.inr rfl, _, rfl, w, G, ?_, hO⟩
    simp only [fin, if_true, resA, rvA, tupA]
    (simp (disch := first | assumption | decide | omega | exact Pth.le _ | exact Rks.le _ | exact List.getElem_mem _ | exact allI_ints _ | exact allI_rks _ | exact allI_pths _ | exact Pth.nil _ | exact Rks.nil _ | (intro hh; simp only [Pth.nil _ hh, List.take_nil, List.drop_nil]; done) | (intro hh; simp only [Rks.nil _ hh, List.take_nil, List.drop_nil]; done) | (simp only [List.length_take, List.length_drop, List.length_append, List.length_cons, List.length_nil, List.length_replicate, List.length_map, ints_len]; omega)) only [go_sem, if_pos, if_neg, Nat.reduceBEq, Nat.reduceEqDiff, ↓reduceIte, Nat.reduceSub, Nat.reduceAdd, Int.reduceToNat, reduceCtorEq, Nat.reduceLeDiff, Nat.reduceLT, Nat.reduceMul, Nat.reduceDiv, Int.reduceLT, Int.reduceLE, Int.reduceEq, Int.reduceNe, Int.reduceAdd, Int.reduceSub, Int.reduceNeg, Int.reduceGT, Int.reduceGE, Int.reduceBEq, Int.reduceBNe, Int.reduceMul, *])
end Go.Proofs.Ytopiaiibpacmlaa.Av
namespace Go.Proofs.Ytopiaiibpacmlaa.Av
set_option linter.unusedSimpArgs false
set_option linter.unusedVariables false
abbrev Pa := List Int
abbrev In := List (List Pa)
def atL (L : In) (u : Int) : List Pa := L.getD u.toNat []
def sureP (L : In) : Pa → Prop
  | [] => False
  | _ :: r => r.head? = some 0 ∨ (∃ u, r.head? = some u ∧ atL L u = [r] ∧ sureP L r)
def usel (L : In) (p : Pa) : Prop := p.getD 1 0 ≠ 0 ∧ p.drop 1 ∉ atL L (p.getD 1 0)
def idle (L : In) (v : Int) (p : Pa) : Prop := ∃ q, [q, p].Sublist (atL L v) ∧ sureP L q
def goes (L : In) (p : Pa) : Prop := ∃ v, p.head? = some v ∧ p ∈ atL L v ∧ (usel L p ∨ idle L v p)
def InOk (L : In) : Prop := L.getD 0 [] = [] ∧ ∀ u : Nat, (L.getD u []).Nodup ∧ ∀ p ∈ L.getD u [], ∃ t, p = (u : Int) :: t ∧ t ≠ [] ∧ (∀ a ∈ t, 0 ≤ a) ∧ (t.head? = some 0 → t = [0])
def keepL (L : In) (K : Pa → Bool) : In := L.map (·.filter K)
def delP (L : In) (p : Pa) : In := keepL L fun q => decide (q ≠ p)
inductive Red : Nat → In → In → Prop
  | refl (L : In) : Red 0 L L
  | step {k : Nat} {L N : In} {p : Pa} (h : goes L p) (r : Red k (delP L p) N) : Red (k + 1) L N
def NF (L : In) : Prop := ∀ p, ¬ goes L p
end Go.Proofs.Ytopiaiibpacmlaa.Av
namespace Go.Proofs.Ytopiaiibpacmlaa.Av
set_option linter.unusedSimpArgs false
set_option linter.unusedVariables false
def prodL : List (List Pa) → List (List Pa)
  | [] => [[]]
  | l :: r => (l ++ [[]]).flatMap fun p => (prodL r).map (p :: ·)
def sts (L : In) : List (List Pa) := (prodL (L.drop 1)).map ([0] :: ·)
noncomputable def evF (L : In) : List (List Pa) := open Classical in (sts L).filter fun s => decide (StabP L s)
theorem prodL_mem : ∀ {R : List (List Pa)} {s : List Pa}, s ∈ prodL R ↔ s.length = R.length ∧ ∀ i, i < R.length → s.getD i [] = [] ∨ s.getD i [] ∈ R.getD i []
  | [], s => by simp [prodL]
  | l :: R, s => by
    simp only [prodL, List.mem_flatMap, List.mem_map, List.mem_append, List.mem_singleton]
    constructor
    · rintro ⟨p, hp, t, ht, rfl⟩
      obtain ⟨h1, h2⟩ := prodL_mem.1 ht
      refine ⟨by simp [h1], fun i hi => ?_⟩
      cases i with
      | zero => simp only [List.getD_cons_zero]; exact hp.symm
      | succ i => simp only [List.getD_cons_succ]; exact h2 i (by simpa using hi)
    · rintro ⟨h1, h2⟩
      match s, h1 with
      | p :: t, h1 =>
        refine ⟨p, by have := h2 0 (by simp); simp only [List.getD_cons_zero] at this; exact this.symm, t, prodL_mem.2 ⟨by simpa using h1, fun i hi => ?_⟩, rfl⟩
        have := h2 (i + 1) (by simpa using hi)
        simpa only [List.getD_cons_succ] using this
theorem sts_mem {L : In} (hL : L ≠ []) {s : List Pa} : s ∈ sts L ↔ s.length = L.length ∧ s.getD 0 [] = [0] ∧ ∀ v, 1 ≤ v → v < L.length → s.getD v [] = [] ∨ s.getD v [] ∈ L.getD v [] := by
  match L, hL with
  | l :: R, _ =>
    simp only [sts, List.mem_map, List.drop_succ_cons, List.drop_zero]
    constructor
    · rintro ⟨t, ht, rfl⟩
      obtain ⟨h1, h2⟩ := prodL_mem.1 ht
      refine ⟨by simp [h1], rfl, fun v hv1 hv2 => ?_⟩
      obtain ⟨k, rfl⟩ : ∃ k, v = k + 1 := ⟨v - 1, by omega⟩
      simp only [List.getD_cons_succ]
      exact h2 k (by simpa using hv2)
    · rintro ⟨h1, h2, h3⟩
      match s, h1, h2 with
      | p :: t, h1, h2 =>
        simp only [List.getD_cons_zero] at h2
        subst h2
        refine ⟨t, prodL_mem.2 ⟨by simpa using h1, fun i hi => ?_⟩, rfl⟩
        have := h3 (i + 1) (by omega) (by simpa using hi)
        simpa only [List.getD_cons_succ] using this
theorem opn_cons {s : List Pa} {a : Int} {t : Pa} : opn s (a :: t) ↔ ∃ u : Nat, t.head? = some (u : Int) ∧ s[u]? = some t := by
  unfold opn
  constructor
  · rintro ⟨u, h1, h2⟩
    refine ⟨u, ?_, by simpa using h2⟩
    cases t with
    | nil => simp at h1
    | cons b t => simpa using h1
  · rintro ⟨u, h1, h2⟩
    refine ⟨u, ?_, by simpa using h2⟩
    cases t with
    | nil => simp at h1
    | cons b t => simpa using h1
theorem getD_out {α : Type} {l : List α} {i : Nat} {d : α} (h : l.length ≤ i) : l.getD i d = d := by simp [List.getD, h]
theorem resp_mem' (s : List Pa) (l : List Pa) : resp s l = [] ∨ resp s l ∈ l ∧ opn s (resp s l) := by
  unfold resp
  cases h : l.find? fun p => decide (opn s p) with
  | none => exact .inl rfl
  | some p => exact .inr ⟨List.mem_of_find?_eq_some h, by simpa using List.find?_some h⟩
def sol (L : In) : List Pa := [0] :: (L.drop 1).map (·.headD [])
/-- The paths of a state alone. -/
def oneL (p : Pa) : List Pa := if p = [] then [] else [p]
def onl (s : List Pa) : In := [] :: (s.drop 1).map oneL
end Go.Proofs.Ytopiaiibpacmlaa.Av
namespace Go.Proofs.Ytopiaiibpacmlaa.Av
/-- A step, or a state that is found. -/
inductive Tr where
  | st
  | fd (s : List Pa)
/-- Has the next node chosen the rest? -/
def isC (s : List Pa) (p : Pa) : Bool := decide (p.getD 1 0 < s.length) && decide (s.getD (p.getD 1 0).toNat [] = p.drop 1)
def knC (s : List Pa) (p : Pa) : Bool := decide (p.getD 1 0 < s.length)
def fitsR (s : List Pa) (c : Pa) : List Pa → Bool
  | [] => true
  | r :: R => if r = c then isC s r || !knC s r else if isC s r then false else fitsR s c R
def fitsA (L : In) (s : List Pa) : Bool := (List.range s.length).all fun v => decide (v = 0) || fitsR s (s.getD v []) (L.getD v [])
def trc (L : In) : Nat → List Pa → List Tr
  | 0, s => [.fd s]
  | n + 1, s => (L.getD s.length [] ++ [[]]).flatMap fun p => .st :: (if fitsA L (s ++ [p]) then trc L n (s ++ [p]) else [])
def fdsT (E : List Tr) : List (List Pa) := E.filterMap fun | .fd s => some s | .st => none
def stpT (E : List Tr) : Nat := E.countP fun | .st => true | .fd _ => false
theorem fds_app (A B : List Tr) : fdsT (A ++ B) = fdsT A ++ fdsT B := List.filterMap_append
theorem stp_app (A B : List Tr) : stpT (A ++ B) = stpT A + stpT B := List.countP_append
theorem fds_st (E : List Tr) : fdsT (.st :: E) = fdsT E := rfl
theorem fds_fd (s : List Pa) (E : List Tr) : fdsT (.fd s :: E) = s :: fdsT E := rfl
theorem stp_st (E : List Tr) : stpT (.st :: E) = stpT E + 1 := by simp [stpT]
theorem stp_fd (s : List Pa) (E : List Tr) : stpT (.fd s :: E) = stpT E := by simp [stpT]
theorem isC_mono {s t : List Pa} {p : Pa} (h0 : 0 ≤ p.getD 1 0) (h : knC s p = true) : isC (s ++ t) p = isC s p ∧ knC (s ++ t) p = true := by
  simp only [knC, decide_eq_true_eq] at h
  have hlt : (p.getD 1 0).toNat < s.length := by omega
  have e0 : ∀ u, u < s.length → (s ++ t).getD u [] = s.getD u [] := fun u hu => by simp only [List.getD, List.getElem?_append_left hu]
  have e := e0 _ hlt
  have h2 : p.getD 1 0 < ((s ++ t).length : Int) := by rw [List.length_append]; omega
  simp only [isC, knC, e, h2, h, decide_true, Bool.true_and, and_self]
theorem isC_kn {s : List Pa} {p : Pa} (h : isC s p = true) : knC s p = true := by
  simp only [isC, Bool.and_eq_true] at h; exact h.1
theorem fitsR_mono {s t : List Pa} {c : Pa} : ∀ {R : List Pa}, (∀ p ∈ R, 0 ≤ p.getD 1 0) → fitsR s c R = false → fitsR (s ++ t) c R = false
  | [], _, h => by simp [fitsR] at h
  | r :: R, hp, h => by
    have h0 := hp r (by simp)
    unfold fitsR at h ⊢
    split at h
    · rename_i hc
      rw [if_pos hc]
      simp only [Bool.or_eq_false_iff, Bool.not_eq_false'] at h ⊢
      obtain ⟨e1, e2⟩ := isC_mono (t := t) h0 h.2
      exact ⟨e1.trans h.1, e2⟩
    · rename_i hc
      rw [if_neg hc]
      split at h
      · rename_i hi
        have := (isC_mono (t := t) h0 (isC_kn hi)).1
        rw [this, hi]; rfl
      · split
        · rfl
        · exact fitsR_mono (fun p hp' => hp p (by simp [hp'])) h
theorem fitsA_mono {L : In} (hO : InOk L) {s t : List Pa} (h : fitsA L s = false) : fitsA L (s ++ t) = false := by
  simp only [fitsA, List.all_eq_false, List.mem_range, Bool.not_eq_true, Bool.or_eq_false_iff, decide_eq_false_iff_not] at h ⊢
  obtain ⟨v, hv, h0, h1⟩ := h
  refine ⟨v, by rw [List.length_append]; omega, h0, ?_⟩
  have e : (s ++ t).getD v [] = s.getD v [] := by simp only [List.getD, List.getElem?_append_left hv]
  rw [e]
  refine fitsR_mono (fun p hp => ?_) h1
  obtain ⟨q, rfl, hne, hq, _⟩ := (hO.2 v).2 p hp
  match q, hne, hq with
  | a :: q, _, hq => exact hq a (by simp)
theorem isC_opn {L : In} (hO : InOk L) {s : List Pa} {v : Nat} {p : Pa} (hp : p ∈ L.getD v []) : isC s p = true ↔ opn s p := by
  obtain ⟨q, rfl, hne, hq, _⟩ := (hO.2 v).2 p hp
  match q, hne, hq with
  | a :: q, _, hq =>
    have ha := hq a (by simp)
    rw [opn_cons]
    simp only [isC, Bool.and_eq_true, decide_eq_true_eq, List.getD_cons_succ, List.getD_cons_zero, List.drop_succ_cons, List.drop_zero, List.head?_cons, Option.some.injEq]
    constructor
    · rintro ⟨h1, h2⟩
      refine ⟨a.toNat, by omega, ?_⟩
      rw [← h2, List.getD, List.getElem?_eq_getElem (by omega)]; rfl
    · rintro ⟨u, rfl, h2⟩
      have hlt := (List.getElem?_eq_some_iff.1 h2).1
      refine ⟨by omega, ?_⟩
      simp [List.getD, h2]
theorem fitsR_resp {s : List Pa} {c : Pa} : ∀ {R : List Pa}, R.Nodup → [] ∉ R → (∀ p ∈ R, (isC s p = true ↔ opn s p) ∧ knC s p = true) → (c = [] ∨ c ∈ R) → (fitsR s c R = true ↔ c = resp s R)
  | [], _, _, _, hc => by
    have : c = [] := by simpa using hc
    simp [fitsR, resp, this]
  | r :: R, hn, h0, hk, hc => by
    obtain ⟨k1, k2⟩ := hk r (by simp)
    have ih := fitsR_resp (s := s) (c := c) (R := R) (List.nodup_cons.1 hn).2 (fun h => h0 (by simp [h])) (fun p hp => hk p (by simp [hp]))
    unfold fitsR
    have hr : resp s (r :: R) = if opn s r then r else resp s R := by
      unfold resp
      rw [List.find?_cons]
      by_cases ho : opn s r
      · simp [ho]
      · simp [ho]
    rw [hr]
    split
    · rename_i he
      subst he
      simp only [k2, Bool.not_true, Bool.or_false]
      rw [k1]
      constructor
      · intro h; rw [if_pos h]
      · intro h
        by_cases ho : opn s r
        · exact ho
        · rw [if_neg ho] at h
          rcases resp_mem' s R with h1 | ⟨h1, _⟩
          · rw [h1] at h; exact absurd (by simp [h]) h0
          · rw [← h] at h1; exact absurd h1 (List.nodup_cons.1 hn).1
    · rename_i he
      split
      · rename_i hi
        rw [if_pos (k1.1 hi)]
        simp only [Bool.false_eq_true, false_iff]
        exact fun h => he h.symm
      · rename_i hi
        rw [if_neg (fun h => hi (k1.2 h))]
        refine ih (hc.imp id fun h => ?_)
        rcases List.mem_cons.1 h with h | h
        · exact absurd h.symm he
        · exact h
/-- Next nodes are nodes. -/
def InB (L : In) : Prop := ∀ u : Nat, ∀ p ∈ L.getD u [], p.getD 1 0 < L.length
theorem ne_of_ok {L : In} (hO : InOk L) (u : Nat) : [] ∉ L.getD u [] := fun h => by
  obtain ⟨t, h, _⟩ := (hO.2 u).2 [] h; cases h
theorem fitsA_full {L : In} (hO : InOk L) (hB : InB L) {s : List Pa} (hl : s.length = L.length) (hs : ∀ v, 1 ≤ v → v < L.length → s.getD v [] = [] ∨ s.getD v [] ∈ L.getD v []) : fitsA L s = true ↔ StabP L s := by
  simp only [fitsA, List.all_eq_true, List.mem_range, Bool.or_eq_true, decide_eq_true_eq, StabP]
  have key : ∀ v, 1 ≤ v → v < L.length → (fitsR s (s.getD v []) (L.getD v []) = true ↔ s.getD v [] = resp s (L.getD v [])) := fun v h1 h2 =>
    fitsR_resp (hO.2 v).1 (ne_of_ok hO v) (fun p hp => ⟨isC_opn hO hp, by simp only [knC, decide_eq_true_eq]; rw [hl]; exact hB v p hp⟩) (hs v h1 h2)
  constructor
  · intro h v h1 h2
    rcases h v (by omega) with h3 | h3
    · omega
    · exact (key v h1 h2).1 h3
  · intro h v h2
    rcases Nat.eq_zero_or_pos v with h1 | h1
    · exact .inl h1
    · exact .inr ((key v h1 (by omega)).2 (h v h1 (by omega)))
theorem flat_filter {α β : Type} (P : β → Bool) (f : α → List β) : ∀ l : List α, (l.flatMap f).filter P = l.flatMap fun a => (f a).filter P
  | [] => rfl
  | a :: l => by rw [List.flatMap_cons, List.filter_append, flat_filter P f l, List.flatMap_cons]
theorem flat_congr {α β : Type} {f g : α → List β} : ∀ {l : List α}, (∀ a ∈ l, f a = g a) → l.flatMap f = l.flatMap g
  | [], _ => rfl
  | a :: l, h => by rw [List.flatMap_cons, List.flatMap_cons, h a (by simp), flat_congr fun b hb => h b (by simp [hb])]
theorem fds_flat {f : Pa → List Tr} : ∀ l : List Pa, fdsT (l.flatMap f) = l.flatMap fun p => fdsT (f p)
  | [] => rfl
  | a :: l => by rw [List.flatMap_cons, fds_app, fds_flat l, List.flatMap_cons]
theorem stp_flat_le {f : Pa → List Tr} {k : Nat} (h : ∀ p, stpT (f p) ≤ k) : ∀ l : List Pa, stpT (l.flatMap f) ≤ l.length * k
  | [] => by simp [stpT]
  | a :: l => by
    rw [List.flatMap_cons, stp_app, List.length_cons, Nat.add_mul, Nat.one_mul]
    have := h a; have := stp_flat_le h l; omega
theorem drop_at {L : In} {k : Nat} (h : k < L.length) : L.drop k = L.getD k [] :: L.drop (k + 1) := by
  rw [List.drop_eq_getElem_cons h]; simp [List.getD, h]
/-- What a search finds: the stable states, in order. -/
theorem fds_trc {L : In} (hO : InOk L) (hB : InB L) : ∀ (n : Nat) {s : List Pa}, s.length + n = L.length → 1 ≤ s.length → (∀ v, 1 ≤ v → v < s.length → s.getD v [] = [] ∨ s.getD v [] ∈ L.getD v []) → fitsA L s = true →
    fdsT (trc L n s) = open Classical in ((prodL (L.drop s.length)).map (s ++ ·)).filter fun t => decide (StabP L t)
  | 0, s, hl, h1, hs, hf => by
    have hst := (fitsA_full hO hB (by omega) (fun v a b => hs v a (by omega))).1 hf
    rw [List.drop_of_length_le (by omega)]
    simp [trc, fds_fd, prodL, hst]
    rfl
  | n + 1, s, hl, h1, hs, hf => by
    classical
    rw [drop_at (by omega)]
    simp only [trc, prodL]
    rw [fds_flat, List.map_flatMap, flat_filter]
    refine flat_congr fun p hp => ?_
    rw [fds_st]
    have hp' : p = [] ∨ p ∈ L.getD s.length [] := by
      rcases List.mem_append.1 hp with h | h
      · exact .inr h
      · exact .inl (by simpa using h)
    have e : ((prodL (L.drop (s.length + 1))).map (p :: ·)).map (s ++ ·) = (prodL (L.drop (s ++ [p]).length)).map ((s ++ [p]) ++ ·) := by
      rw [List.map_map, List.length_append, List.length_singleton]
      refine List.map_congr_left fun t _ => by simp
    rw [e]
    have hsn : ∀ v, 1 ≤ v → v < (s ++ [p]).length → (s ++ [p]).getD v [] = [] ∨ (s ++ [p]).getD v [] ∈ L.getD v [] := by
      intro v a b
      rcases Nat.lt_or_ge v s.length with h | h
      · have e : (s ++ [p]).getD v [] = s.getD v [] := by simp only [List.getD, List.getElem?_append_left h]
        rw [e]; exact hs v a h
      · have hv : v = s.length := by simp at b; omega
        subst hv
        simpa [List.getD] using hp'
    split
    · rename_i hfit
      exact fds_trc hO hB n (by simp; omega) (by simp) hsn hfit
    · rename_i hfit
      have hfit : fitsA L (s ++ [p]) = false := by simpa using hfit
      have : ((prodL (L.drop (s ++ [p]).length)).map ((s ++ [p]) ++ ·)).filter (fun t => decide (StabP L t)) = [] := by
        rw [List.filter_eq_nil_iff]
        intro t ht
        obtain ⟨q, hq, rfl⟩ := List.mem_map.1 ht
        obtain ⟨hql, hqm⟩ := prodL_mem.1 hq
        simp only [decide_eq_true_eq]
        intro hst
        have hlen : (s ++ [p] ++ q).length = L.length := by
          rw [List.length_append, hql, List.length_drop, List.length_append, List.length_singleton]; omega
        have := (fitsA_full hO hB hlen (fun v a b => by
          rcases Nat.lt_or_ge v (s ++ [p]).length with h | h
          · have e : (s ++ [p] ++ q).getD v [] = (s ++ [p]).getD v [] := by simp only [List.getD, List.getElem?_append_left h]
            rw [e]; exact hsn v a h
          · have e : (s ++ [p] ++ q).getD v [] = q.getD (v - (s ++ [p]).length) [] := by simp only [List.getD, List.getElem?_append_right h]
            have e2 : L.getD v [] = (L.drop (s ++ [p]).length).getD (v - (s ++ [p]).length) [] := by
              simp only [List.getD, List.getElem?_drop]; congr 2; congr 1; omega
            rw [e, e2]
            refine hqm _ ?_
            rw [List.length_drop]; omega)).2 hst
        rw [fitsA_mono hO hfit] at this
        cases this
      rw [this]; rfl
theorem prodL_pos : ∀ R : List (List Pa), 1 ≤ (prodL R).length
  | [] => by simp [prodL]
  | l :: R => by
    have := prodL_pos R
    simp only [prodL, List.flatMap_append, List.length_append]
    have : 1 ≤ (List.flatMap (fun p => (prodL R).map (p :: ·)) [[]]).length := by simpa using this
    omega
theorem prodL_mul (l : List Pa) (R : List (List Pa)) : (prodL (l :: R)).length = (l.length + 1) * (prodL R).length := by
  have : ∀ l : List Pa, (l.flatMap fun p => (prodL R).map (p :: ·)).length = l.length * (prodL R).length := by
    intro l
    induction l with
    | nil => simp
    | cons a l ih => rw [List.flatMap_cons, List.length_append, ih, List.length_map, List.length_cons, Nat.add_mul, Nat.one_mul]; omega
  simp only [prodL]
  rw [this, List.length_append, List.length_singleton]
theorem stp_trc (L : In) : ∀ (n : Nat) {s : List Pa}, s.length + n = L.length → stpT (trc L n s) ≤ n * (prodL (L.drop s.length)).length
  | 0, s, _ => by simp [trc, stpT]
  | n + 1, s, hl => by
    rw [drop_at (by omega), prodL_mul]
    simp only [trc]
    have hP := prodL_pos (L.drop (s.length + 1))
    obtain ⟨P, hPe⟩ : ∃ P, (prodL (L.drop (s.length + 1))).length = P := ⟨_, rfl⟩
    rw [hPe] at hP ⊢
    refine Nat.le_trans (stp_flat_le (k := (n + 1) * P) (fun p => ?_) _) ?_
    · rw [stp_st]
      split
      · have := stp_trc L n (s := s ++ [p]) (by simp; omega)
        rw [List.length_append, List.length_singleton, hPe] at this
        rw [Nat.add_mul, Nat.one_mul]; omega
      · have h0 : stpT ([] : List Tr) = 0 := rfl
        rw [h0, Nat.add_mul, Nat.one_mul]; omega
    · rw [List.length_append, List.length_singleton, Nat.mul_left_comm]
      exact Nat.le_refl _
/-! ### A search with limits -/
/-- How a search goes on: all are gone through; yield wants no more; too many steps. -/
inductive How where
  | ok | no | full
  deriving DecidableEq
structure Zs where
  k : Nat
  a : List (List Pa)
def runT (most : Int) (y : List (List Pa) → List Pa → Bool × List (List Pa)) : List Tr → Zs → How × Zs
  | [], z => (.ok, z)
  | .st :: E, z => if (z.k : Int) = most then (.full, z) else runT most y E ⟨z.k + 1, z.a⟩
  | .fd s :: E, z => if (y z.a s).1 then runT most y E ⟨z.k, (y z.a s).2⟩ else (.no, ⟨z.k, (y z.a s).2⟩)
theorem run_app (most : Int) (y : List (List Pa) → List Pa → Bool × List (List Pa)) : ∀ (A B : List Tr) (z : Zs), runT most y (A ++ B) z = if (runT most y A z).1 = .ok then runT most y B (runT most y A z).2 else runT most y A z
  | [], B, z => by simp [runT]
  | .st :: A, B, z => by
    simp only [List.cons_append, runT]
    split
    · simp
    · exact run_app most y A B _
  | .fd s :: A, B, z => by
    simp only [List.cons_append, runT]
    split
    · exact run_app most y A B _
    · simp
/-- At most so many are wanted; one more is too many. -/
def yAll (m : Int) (a : List (List Pa)) (s : List Pa) : Bool × List (List Pa) := if (a.length : Int) = m then (false, a) else (true, a ++ [s])
/-- So many are enough. -/
def ySome (m : Int) (a : List (List Pa)) (s : List Pa) : Bool × List (List Pa) := (decide (((a ++ [s]).length : Int) ≠ m), a ++ [s])
theorem run_all {m most : Int} : ∀ (E : List Tr) (z : Zs), (z.k : Int) ≤ most → (z.a.length : Int) ≤ m →
    ((z.k : Int) + stpT E ≤ most ∧ (z.a.length : Int) + (fdsT E).length ≤ m → runT most (yAll m) E z = (.ok, ⟨z.k + stpT E, z.a ++ fdsT E⟩)) ∧
    (¬ ((z.k : Int) + stpT E ≤ most ∧ (z.a.length : Int) + (fdsT E).length ≤ m) → (runT most (yAll m) E z).1 ≠ .ok)
  | [], z, h1, h2 => by
    have e1 : stpT ([] : List Tr) = 0 := rfl
    have e2 : fdsT ([] : List Tr) = [] := rfl
    refine ⟨fun _ => by simp [runT, e1, e2], fun h => absurd ?_ h⟩
    rw [e1, e2]; exact ⟨by simpa using h1, by simpa using h2⟩
  | .st :: E, z, h1, h2 => by
    rw [stp_st, fds_st]
    simp only [runT]
    by_cases hk : (z.k : Int) = most
    · rw [if_pos hk]
      exact ⟨fun h => by exfalso; have := h.1; omega, fun _ h => by cases h⟩
    · rw [if_neg hk]
      obtain ⟨i1, i2⟩ := run_all (m := m) (most := most) E ⟨z.k + 1, z.a⟩ (by simp only; omega) h2
      refine ⟨fun h => ?_, fun h => i2 fun hh => h ⟨?_, hh.2⟩⟩
      · rw [i1 ⟨by have := h.1; simp only; omega, h.2⟩]
        simp only [Prod.mk.injEq, Zs.mk.injEq, true_and, and_true]; omega
      · have := hh.1; simp only at this; omega
  | .fd s :: E, z, h1, h2 => by
    rw [stp_fd, fds_fd]
    by_cases hk : (z.a.length : Int) = m
    · have e : yAll m z.a s = (false, z.a) := by simp [yAll, hk]
      simp only [runT, e, Bool.false_eq_true, if_false]
      exact ⟨fun h => by exfalso; have := h.2; simp only [List.length_cons] at this; omega, fun _ h => by cases h⟩
    · have e : yAll m z.a s = (true, z.a ++ [s]) := by simp [yAll, hk]
      simp only [runT, e, if_true]
      obtain ⟨i1, i2⟩ := run_all (m := m) (most := most) E ⟨z.k, z.a ++ [s]⟩ h1 (by simp only [List.length_append, List.length_singleton]; omega)
      simp only [List.length_append, List.length_singleton] at i1 i2
      simp only [List.length_cons]
      refine ⟨fun h => ?_, fun h => i2 fun hh => h ⟨hh.1, by have := hh.2; omega⟩⟩
      rw [i1 ⟨h.1, by have := h.2; omega⟩]
      simp
theorem run_some {m most : Int} : ∀ (E : List Tr) (z : Zs), (z.k : Int) + stpT E ≤ most → (0 < m → (z.a.length : Int) < m) →
    ((0 < m ∧ m ≤ (z.a.length : Int) + (fdsT E).length) → (runT most (ySome m) E z).1 = .no ∧ (runT most (ySome m) E z).2.a = (z.a ++ fdsT E).take m.toNat) ∧
    (¬ (0 < m ∧ m ≤ (z.a.length : Int) + (fdsT E).length) → (runT most (ySome m) E z).1 = .ok ∧ (runT most (ySome m) E z).2.a = z.a ++ fdsT E)
  | [], z, h1, h2 => by
    have e2 : fdsT ([] : List Tr) = [] := rfl
    rw [e2]
    refine ⟨fun h => ?_, fun _ => ⟨rfl, by simp [runT]⟩⟩
    have := h2 h.1; have := h.2; simp at this; omega
  | .st :: E, z, h1, h2 => by
    rw [stp_st] at h1
    rw [fds_st]
    simp only [runT]
    rw [if_neg (by omega)]
    exact run_some (m := m) (most := most) E ⟨z.k + 1, z.a⟩ (by simp only; omega) h2
  | .fd s :: E, z, h1, h2 => by
    rw [stp_fd] at h1
    rw [fds_fd]
    simp only [List.length_cons]
    by_cases hk : ((z.a.length + 1 : Nat) : Int) = m
    · have e : ySome m z.a s = (false, z.a ++ [s]) := by simp only [ySome, List.length_append, List.length_singleton, hk]; simp
      simp only [runT, e, Bool.false_eq_true, if_false]
      refine ⟨fun _ => ⟨trivial, ?_⟩, fun h => absurd ?_ h⟩
      · have e : m.toNat = (z.a ++ [s]).length := by simp; omega
        rw [e, show z.a ++ s :: fdsT E = (z.a ++ [s]) ++ fdsT E by simp, List.take_left]
      · exact ⟨by omega, by omega⟩
    · have e : ySome m z.a s = (true, z.a ++ [s]) := by simp only [ySome, List.length_append, List.length_singleton]; simpa using hk
      simp only [runT, e, if_true]
      obtain ⟨i1, i2⟩ := run_some (m := m) (most := most) E ⟨z.k, z.a ++ [s]⟩ h1 (by simp only [List.length_append, List.length_singleton]; intro h; have := h2 h; omega)
      simp only [List.length_append, List.length_singleton] at i1 i2
      rw [show z.a ++ s :: fdsT E = (z.a ++ [s]) ++ fdsT E by simp]
      exact ⟨fun h => i1 ⟨h.1, by have := h.2; omega⟩, fun h => i2 fun hh => h ⟨hh.1, by have := hh.2; omega⟩⟩
end Go.Proofs.Ytopiaiibpacmlaa.Av
namespace Go.Proofs.Ytopiaiibpacmlaa.Av
open Go.RowKit
set_option linter.unusedSimpArgs false
set_option linter.unusedVariables false
set_option maxHeartbeats 10000000
/-- A search, as it lies in memory. -/
structure Zat (M : MS) (P : Nat) (c : List AV) (sv : AV) (s : List Pth) : Prop where
  at_ : M[P]? = some (some c)
  g2 : c[2]? = some sv
  vw : Vw M sv (s.map Pth.av) s.length
theorem Zat.lt {M : MS} {P : Nat} {c : List AV} {sv : AV} {s : List Pth} (h : Zat M P c sv s) : P < M.length := (List.getElem?_eq_some_iff.1 h.at_).1
theorem Zat.ext {M : MS} {P : Nat} {c : List AV} {sv : AV} {s : List Pth} (h : Zat M P c sv s) (G : MS) : Zat (M ++ G) P c sv s :=
  ⟨by rw [List.getElem?_append_left h.lt]; exact h.at_, h.g2, h.vw.ext G⟩
theorem Zat.g {M : MS} {P : Nat} {c : List AV} {sv : AV} {s : List Pth} (h : Zat M P c sv s) : ∀ G, (M ++ G)[P]? = some (some c) := fun G => (h.ext G).at_
theorem Zat.al {M : MS} {P : Nat} {c : List AV} {sv : AV} {s : List Pth} (h : Zat M P c sv s) : ∀ G, aliveA (M ++ G) P = true := fun G => by simp only [aliveA, h.g]
theorem Zat.al0 {M : MS} {P : Nat} {c : List AV} {sv : AV} {s : List Pth} (h : Zat M P c sv s) : aliveA M P = true := by simp only [aliveA, h.at_]
theorem getD_get {α : Type} {l : List α} {i : Nat} {d : α} (h : i < l.length) : l.getD i d = l[i] := by simp [List.getD, h]
theorem t150 {M : MS} {P : Nat} {c0 c1 c3 c4 c5 sv : AV} {s : List Pth} {p : Pth} (hZ : Zat M P [c0, c1, sv, c3, c4, c5] sv s) (h1 : 1 < p.l.length) (h2 : 0 ≤ p.l[1]) (hs : s.length ≤ 1000) :
    ev pr 150 [.mptr P 0, p.av] M = some (.q (.tup [.flat (.bool (isC (pl s) p.l)), .flat (.bool (knC (pl s) p.l))])) := by
  have hP := hZ.at_
  have hal := hZ.al0
  have e0 := hZ.vw.v0
  have e1 := hZ.vw.len
  have hple := p.le
  have g1 : p.l.getD 1 0 = p.l[1] := getD_get h1
  clear hZ
  by_cases hk : p.l[1] < s.length
  · have hk' : ¬ (s.length : Int) ≤ p.l[1] := by omega
    have hu : p.l[1].toNat < s.length := by omega
    have g2 : (pl s).getD p.l[1].toNat [] = s[p.l[1].toNat].l := by rw [getD_get (by rw [pl_len]; exact hu), pl_get]
    have hi : isC (pl s) p.l = decide (s[p.l[1].toNat].l = p.l.drop 1) := by
      simp only [isC, g1, pl_len, hk, decide_true, Bool.true_and, g2]
    have hkn : knC (pl s) p.l = true := by simp only [knC, g1, pl_len, hk, decide_true]
    have h5 : (s[p.l[1].toNat]).l.length ≤ 9223372036854775807 := Pth.le _
    rw [hi, hkn]
    clear hi hkn g1 g2
    refine ev_fn' A150 ?_
    repeat' (first | ((with_reducible first | apply S_0 | apply S_q1 | apply S_g | apply S_c); exact sgc) | (with_reducible first | apply SO_q | apply SG_t | apply SG_f0 | apply SG_f1 | apply S_nil | apply T_n | apply W_seq | apply W_region | apply SO_x | apply SC_t | apply SC_f | apply W_block | apply W_ret | apply W_skip | apply W_exit | apply T_r | apply T_e | apply B_n | apply B_e) | (with_reducible apply B_ne; focus decide) | (with_reducible first | apply B_r | apply R_e | apply R_r | apply H_e | apply H_r | apply G_e | apply G_r) | (with_reducible apply SC_n) | ((with_reducible first | apply SC_d | apply SG_d | apply SG_n | apply SC_b | apply SG_b) <;> intro hc <;> try simp only [decide_eq_true_eq, decide_eq_false_iff_not, Classical.not_not, Bool.not_eq_true', Bool.not_eq_false'] at hc))
    (first | exact fincR | exact fincN)
  · have hk' : (s.length : Int) ≤ p.l[1] := by omega
    have hi : isC (pl s) p.l = false := by simp only [isC, g1, pl_len, hk, decide_false, Bool.false_and]
    have hkn : knC (pl s) p.l = false := by simp only [knC, g1, pl_len, hk, decide_false]
    rw [hi, hkn]
    clear hi hkn g1
    refine ev_fn' A150 ?_
    repeat' (first | ((with_reducible first | apply S_0 | apply S_q1 | apply S_g | apply S_c); exact sgc) | (with_reducible first | apply SO_q | apply SG_t | apply SG_f0 | apply SG_f1 | apply S_nil | apply T_n | apply W_seq | apply W_region | apply SO_x | apply SC_t | apply SC_f | apply W_block | apply W_ret | apply W_skip | apply W_exit | apply T_r | apply T_e | apply B_n | apply B_e) | (with_reducible apply B_ne; focus decide) | (with_reducible first | apply B_r | apply R_e | apply R_r | apply H_e | apply H_r | apply G_e | apply G_r) | (with_reducible apply SC_n) | ((with_reducible first | apply SC_d | apply SG_d | apply SG_n | apply SC_b | apply SG_b) <;> intro hc <;> try simp only [decide_eq_true_eq, decide_eq_false_iff_not, Classical.not_not, Bool.not_eq_true', Bool.not_eq_false'] at hc))
    (first | exact fincR | exact fincN)
theorem dirt_o {base id : Nat} {D : List Nat} (h : base ≤ id) : dirt base id D = D := if_neg (by omega)
theorem fitsR_ne {s : List Pa} {c r : Pa} {R : List Pa} (h1 : r ≠ c) (h2 : isC s r = false) : fitsR s c (r :: R) = fitsR s c R := by
  rw [fitsR, if_neg h1, h2]; rfl
theorem paths_drop (l : List Rnk) (i : Nat) (h : i < l.length) : (paths l).drop i = l[i].p.l :: (paths l).drop (i + 1) := by
  rw [List.drop_eq_getElem_cons (by rw [paths_len]; exact h), paths_get]
/-- A row's paths have a next node. -/
def HasN (l : List Rnk) : Prop := ∀ r ∈ l, 1 < r.p.l.length ∧ 0 ≤ r.p.l.getD 1 0
theorem t147 {M : MS} {P : Nat} {c3 c4 c5 sv : AV} {s : List Pth} {l : List Rks} {nl cd : Bool} {n : Int} {v : Nat} (hZ : Zat M P [.flat (.int .i64 n), .list 1 (l.map Rks.av) nl cd, sv, c3, c4, c5] sv s) (hs : s.length ≤ 1000) (hl : l.length ≤ 1000)
    (hv : v < s.length) (hv2 : v < l.length) (h70 : l[v].l.length ≤ 70) (hN : HasN l[v].l) :
    ev pr 147 [.mptr P 0, .flat (.int .i64 v)] M = some (.q (.flat (.bool (fitsR (pl s) s[v].l (paths l[v].l))))) := by
  have hP := hZ.at_
  have hPg := hZ.g
  have hal := hZ.al0
  have halg := hZ.al
  have e0 := hZ.vw.v0
  have e1 := hZ.vw.len
  have e2 := hZ.vw.vw
  have hvZ : (v : Int) < s.length := by omega
  have hvZ2 : (v : Int) < l.length := by omega
  have hPl := hZ.lt
  have h150 : ∀ (G : MS) (i : Nat) (hi : i < l[v].l.length), ev pr 150 [.mptr P 0, .list 1 (intsA l[v].l[i].p.l) l[v].l[i].p.nl l[v].l[i].p.cd] (M ++ G) = some (.q (.tup [.flat (.bool (isC (pl s) l[v].l[i].p.l)), .flat (.bool (knC (pl s) l[v].l[i].p.l))])) := fun G i hi => by
    obtain ⟨q1, q2⟩ := hN _ (List.getElem_mem hi)
    rw [getD_get q1] at q2
    exact t150 (hZ.ext G) q1 q2 hs
  clear hZ
  refine ev_fn' A147 ?_
  repeat' (first | ((with_reducible first | apply S_0 | apply S_q1 | apply S_g | apply S_c); exact sgc) | (with_reducible first | apply SO_q | apply SG_t | apply SG_f0 | apply SG_f1 | apply S_nil | apply T_n | apply W_seq | apply W_region | apply SO_x | apply SC_t | apply SC_f | apply W_block | apply W_ret | apply W_skip | apply W_exit | apply T_r | apply T_e | apply B_n | apply B_e) | (with_reducible apply B_ne; focus decide) | (with_reducible first | apply B_r | apply R_e | apply R_r | apply H_e | apply H_r | apply G_e | apply G_r) | (with_reducible apply SC_n) | ((with_reducible first | apply SC_d | apply SG_d | apply SG_n | apply SC_b | apply SG_b) <;> intro hc <;> try simp only [decide_eq_true_eq, decide_eq_false_iff_not, Classical.not_not, Bool.not_eq_true', Bool.not_eq_false'] at hc))
  refine W_rngM 26 0 l[v].l.length (fun i e m => ∃ G, m = M ++ G ∧ fitsR (pl s) s[v].l (paths l[v].l) = fitsR (pl s) s[v].l ((paths l[v].l).drop i)) (by simp only [asg, asgO, List.append_nil, List.nil_append, List.cons_append]; rfl) (by exact svc) (by omega) ⟨[], by simp, rfl⟩ ?_
  rintro i e _ _ hi hk e26 ⟨G, rfl, hf⟩
  have k0 : e 0 = .mptr P 0 := by rw [hk 0 rfl]; exact svc
  have k5 : e 5 = .list 1 (intsA s[v].l) s[v].nl s[v].cd := by rw [hk 5 rfl]; exact svc
  have k24 : e 24 = .list 2 (rksA l[v].l) l[v].nl l[v].cd := by rw [hk 24 rfl]; exact svc
  have k25 : e 25 = .flat (.int .i64 l[v].l.length) := by rw [hk 25 rfl]; exact svc
  have k4 : e 4 = e 4 := rfl
  clear hk k4
  rw [hf]
  rcases Nat.lt_or_ge i l[v].l.length with hlt | hlt
  · have hlt' : (i : Int) < l[v].l.length := by omega
    have h150' := fun G => h150 G i hlt
    have h104' := fun M => t104 l[v].l[i].p.l s[v].l l[v].l[i].p.nl l[v].l[i].p.cd s[v].nl s[v].cd M l[v].l[i].p.le
    have hdr := paths_drop _ _ hlt
    have hd0 : ∀ k : Nat, dirt M.length (M.length + k) ([] : List Nat) = [] := fun k => dirt_o (by omega)
    clear h150 hN
    by_cases hc : l[v].l[i].p.l = s[v].l
    · have hfr : fitsR (pl s) s[v].l ((paths l[v].l).drop i) = (isC (pl s) l[v].l[i].p.l || !knC (pl s) l[v].l[i].p.l) := by
        rw [hdr, fitsR, if_pos hc]
      have hcd : decide (l[v].l[i].p.l = s[v].l) = true := decide_eq_true hc
      rw [hfr]
      rw [hcd] at h104'
      clear hdr hfr hf hc hcd
      generalize isC (pl s) l[v].l[i].p.l = b1 at h150' ⊢
      generalize knC (pl s) l[v].l[i].p.l = b2 at h150' ⊢
      cases b1 with
      | true =>
        rw [Bool.true_or]
        repeat' (first | ((with_reducible first | apply S_0 | apply S_q1 | apply S_g | apply S_c); exact sgc) | (with_reducible first | apply SO_q | apply SG_t | apply SG_f0 | apply SG_f1 | apply S_nil | apply T_n | apply W_seq | apply W_region | apply SO_x | apply SC_t | apply SC_f | apply W_block | apply W_ret | apply W_skip | apply W_exit | apply T_r | apply T_e | apply B_n | apply B_e) | (with_reducible apply B_ne; focus decide) | (with_reducible first | apply B_r | apply R_e | apply R_r | apply H_e | apply H_r | apply G_e | apply G_r) | (with_reducible apply SC_n) | ((with_reducible first | apply SC_d | apply SG_d | apply SG_n | apply SC_b | apply SG_b) <;> intro hc <;> try simp only [decide_eq_true_eq, decide_eq_false_iff_not, Classical.not_not, Bool.not_eq_true', Bool.not_eq_false'] at hc))
        (first | exact fincR | exact fincN)
      | false =>
        rw [Bool.false_or]
        repeat' (first | ((with_reducible first | apply S_0 | apply S_q1 | apply S_g | apply S_c); exact sgc) | (with_reducible first | apply SO_q | apply SG_t | apply SG_f0 | apply SG_f1 | apply S_nil | apply T_n | apply W_seq | apply W_region | apply SO_x | apply SC_t | apply SC_f | apply W_block | apply W_ret | apply W_skip | apply W_exit | apply T_r | apply T_e | apply B_n | apply B_e) | (with_reducible apply B_ne; focus decide) | (with_reducible first | apply B_r | apply R_e | apply R_r | apply H_e | apply H_r | apply G_e | apply G_r) | (with_reducible apply SC_n) | ((with_reducible first | apply SC_d | apply SG_d | apply SG_n | apply SC_b | apply SG_b) <;> intro hc <;> try simp only [decide_eq_true_eq, decide_eq_false_iff_not, Classical.not_not, Bool.not_eq_true', Bool.not_eq_false'] at hc))
        (first | exact fincR | exact fincN)
    · have hcd : decide (l[v].l[i].p.l = s[v].l) = false := decide_eq_false hc
      rw [hcd] at h104'
      cases h1 : isC (pl s) l[v].l[i].p.l with
      | true =>
        have hfr : fitsR (pl s) s[v].l ((paths l[v].l).drop i) = false := by rw [hdr, fitsR, if_neg hc, h1]; rfl
        rw [hfr]
        rw [h1] at h150'
        clear hdr hfr hf hc hcd
        repeat' (first | ((with_reducible first | apply S_0 | apply S_q1 | apply S_g | apply S_c); exact sgc) | (with_reducible first | apply SO_q | apply SG_t | apply SG_f0 | apply SG_f1 | apply S_nil | apply T_n | apply W_seq | apply W_region | apply SO_x | apply SC_t | apply SC_f | apply W_block | apply W_ret | apply W_skip | apply W_exit | apply T_r | apply T_e | apply B_n | apply B_e) | (with_reducible apply B_ne; focus decide) | (with_reducible first | apply B_r | apply R_e | apply R_r | apply H_e | apply H_r | apply G_e | apply G_r) | (with_reducible apply SC_n) | ((with_reducible first | apply SC_d | apply SG_d | apply SG_n | apply SC_b | apply SG_b) <;> intro hc <;> try simp only [decide_eq_true_eq, decide_eq_false_iff_not, Classical.not_not, Bool.not_eq_true', Bool.not_eq_false'] at hc))
        (first | exact fincR | exact fincN)
      | false =>
        have hfr := fitsR_ne (R := (paths l[v].l).drop (i + 1)) hc h1
        rw [← hdr] at hfr
        rw [h1] at h150'
        clear hdr hc hcd
        repeat' (first | ((with_reducible first | apply S_0 | apply S_q1 | apply S_g | apply S_c); exact sgc) | (with_reducible first | apply SO_q | apply SG_t | apply SG_f0 | apply SG_f1 | apply S_nil | apply T_n | apply W_seq | apply W_region | apply SO_x | apply SC_t | apply SC_f | apply W_block | apply W_ret | apply W_skip | apply W_exit | apply T_r | apply T_e | apply B_n | apply B_e) | (with_reducible apply B_ne; focus decide) | (with_reducible first | apply B_r | apply R_e | apply R_r | apply H_e | apply H_r | apply G_e | apply G_r) | (with_reducible apply SC_n) | ((with_reducible first | apply SC_d | apply SG_d | apply SG_n | apply SC_b | apply SG_b) <;> intro hc <;> try simp only [decide_eq_true_eq, decide_eq_false_iff_not, Classical.not_not, Bool.not_eq_true', Bool.not_eq_false'] at hc))
        exact G_n (by exact svc) hlt ⟨_, rfl, hfr⟩
  · have hlt' : ¬ (i : Int) < l[v].l.length := by omega
    have hdr : (paths l[v].l).drop i = [] := List.drop_of_length_le (by rw [paths_len]; exact hlt)
    rw [hdr]
    clear h150 hN hf hdr
    repeat' (first | ((with_reducible first | apply S_0 | apply S_q1 | apply S_g | apply S_c); exact sgc) | (with_reducible first | apply SO_q | apply SG_t | apply SG_f0 | apply SG_f1 | apply S_nil | apply T_n | apply W_seq | apply W_region | apply SO_x | apply SC_t | apply SC_f | apply W_block | apply W_ret | apply W_skip | apply W_exit | apply T_r | apply T_e | apply B_n | apply B_e) | (with_reducible apply B_ne; focus decide) | (with_reducible first | apply B_r | apply R_e | apply R_r | apply H_e | apply H_r | apply G_e | apply G_r) | (with_reducible apply SC_n) | ((with_reducible first | apply SC_d | apply SG_d | apply SG_n | apply SC_b | apply SG_b) <;> intro hc <;> try simp only [decide_eq_true_eq, decide_eq_false_iff_not, Classical.not_not, Bool.not_eq_true', Bool.not_eq_false'] at hc))
    (refine ⟨by first | exact .inr rfl | exact .inl rfl, ?_⟩; simp (disch := first | assumption | decide | omega | exact Pth.le _ | exact Rks.le _ | exact List.getElem_mem _ | exact allI_ints _ | exact allI_rks _ | exact allI_pths _ | exact Pth.nil _ | exact Rks.nil _ | (intro hh; simp only [Pth.nil _ hh, List.take_nil, List.drop_nil]; done) | (intro hh; simp only [Rks.nil _ hh, List.take_nil, List.drop_nil]; done) | (simp only [List.length_take, List.length_drop, List.length_append, List.length_cons, List.length_nil, List.length_replicate, List.length_map, ints_len]; omega)) only [resA, rvA, tupA, fin, frzV, frzTup, frzA, frz, isI, isI.all, Option.bind_some, go_sem, if_pos, if_neg, Nat.reduceBEq, Nat.reduceEqDiff, ↓reduceIte, Nat.reduceSub, Nat.reduceAdd, Int.reduceToNat, reduceCtorEq, Nat.reduceLeDiff, Nat.reduceLT, Nat.reduceMul, Nat.reduceDiv, Int.reduceLT, Int.reduceLE, Int.reduceEq, Int.reduceNe, Int.reduceAdd, Int.reduceSub, Int.reduceNeg, Int.reduceGT, Int.reduceGE, Int.reduceBEq, Int.reduceBNe, Int.reduceMul, *])
    rfl
end Go.Proofs.Ytopiaiibpacmlaa.Av
namespace Go.Proofs.Ytopiaiibpacmlaa.Av
open Go.RowKit
set_option linter.unusedSimpArgs false
set_option linter.unusedVariables false
set_option maxHeartbeats 10000000
theorem fitsA_of {L : In} {s : List Pa} (h : ∀ v, 1 ≤ v → v < s.length → fitsR s (s.getD v []) (L.getD v []) = true) : fitsA L s = true := by
  simp only [fitsA, List.all_eq_true, List.mem_range, Bool.or_eq_true, decide_eq_true_eq]
  intro v hv
  rcases Nat.eq_zero_or_pos v with h0 | h0
  · exact .inl h0
  · exact .inr (h v h0 hv)
theorem fitsA_no {L : In} {s : List Pa} {v : Nat} (h1 : 1 ≤ v) (hv : v < s.length) (h : fitsR s (s.getD v []) (L.getD v []) = false) : fitsA L s = false := by
  simp only [fitsA, List.all_eq_false, List.mem_range, Bool.not_eq_true, Bool.or_eq_false_iff, decide_eq_false_iff_not]
  exact ⟨v, hv, by omega, h⟩
theorem hasN_of {l : List Rks} {n : Int} (hX : MayX n l) : ∀ v (h : v < l.length), 1 ≤ v → HasN l[v].l := fun v h h1 r hr => by
  obtain ⟨p1, p2, _⟩ := path1 (lok_path (hX.2.2.2.2 v h h1) r hr)
  exact ⟨p1, by rw [getD_get p1]; exact p2⟩
theorem t141 {M : MS} {P : Nat} {c3 c4 c5 sv : AV} {s : List Pth} {l : List Rks} {nl cd : Bool} {n : Int} (hZ : Zat M P [.flat (.int .i64 n), .list 1 (l.map Rks.av) nl cd, sv, c3, c4, c5] sv s) (hX : MayX n l) (hS : SmallX l)
    (h1 : 1 ≤ s.length) (hs : s.length ≤ l.length) : ev pr 141 [.mptr P 0] M = some (.q (.flat (.bool (fitsA (plX l) (pl s))))) := by
  have hP := hZ.at_
  have hal := hZ.al0
  have e0 := hZ.vw.v0
  have e1 := hZ.vw.len
  have h12 := hS.1
  have h147 := fun (v : Nat) (hv1 : 1 ≤ v) (hv : v < s.length) => t147 hZ (by omega) (by omega) hv (by omega) (hS.2 _ (List.getElem_mem (show v < l.length by omega))).1 (hasN_of hX v (by omega) hv1)
  have hge : ∀ (v : Nat) (hv : v < s.length), fitsR (pl s) ((pl s).getD v []) ((plX l).getD v []) = fitsR (pl s) s[v].l (paths (l[v]'(by omega)).l) := fun v hv => by rw [pl_getD hv, plX_get (by omega)]
  clear hZ hX hS
  refine ev_fn' A141 ?_
  repeat' (first | ((with_reducible first | apply S_0 | apply S_q1 | apply S_g | apply S_c); exact sgc) | (with_reducible first | apply SO_q | apply SG_t | apply SG_f0 | apply SG_f1 | apply S_nil | apply T_n | apply W_seq | apply W_region | apply SO_x | apply SC_t | apply SC_f | apply W_block | apply W_ret | apply W_skip | apply W_exit | apply T_r | apply T_e | apply B_n | apply B_e) | (with_reducible apply B_ne; focus decide) | (with_reducible first | apply B_r | apply R_e | apply R_r | apply H_e | apply H_r | apply G_e | apply G_r) | (with_reducible apply SC_n) | ((with_reducible first | apply SC_d | apply SG_d | apply SG_n | apply SC_b | apply SG_b) <;> intro hc <;> try simp only [decide_eq_true_eq, decide_eq_false_iff_not, Classical.not_not, Bool.not_eq_true', Bool.not_eq_false'] at hc))
  refine W_rng 3 1 s.length (fun i e => ∀ j, 1 ≤ j → j < i → fitsR (pl s) ((pl s).getD j []) ((plX l).getD j []) = true) (by simp only [asg, asgO, List.append_nil, List.nil_append, List.cons_append]; rfl) (by exact svc) h1 (fun j hj hj2 => by omega) ?_
  rintro i e hi1 hi hk e3 hf
  have k0 : e 0 = .mptr P 0 := by rw [hk 0 rfl]; exact svc
  clear hk
  rcases Nat.lt_or_ge i s.length with hlt | hlt
  · have hlt' : (i : Int) < s.length := by omega
    have h147' := h147 i hi1 hlt
    rw [← hge i hlt] at h147'
    clear h147
    cases hb : fitsR (pl s) ((pl s).getD i []) ((plX l).getD i []) with
    | true =>
      rw [hb] at h147'
      clear hge
      repeat' (first | ((with_reducible first | apply S_0 | apply S_q1 | apply S_g | apply S_c); exact sgc) | (with_reducible first | apply SO_q | apply SG_t | apply SG_f0 | apply SG_f1 | apply S_nil | apply T_n | apply W_seq | apply W_region | apply SO_x | apply SC_t | apply SC_f | apply W_block | apply W_ret | apply W_skip | apply W_exit | apply T_r | apply T_e | apply B_n | apply B_e) | (with_reducible apply B_ne; focus decide) | (with_reducible first | apply B_r | apply R_e | apply R_r | apply H_e | apply H_r | apply G_e | apply G_r) | (with_reducible apply SC_n) | ((with_reducible first | apply SC_d | apply SG_d | apply SG_n | apply SC_b | apply SG_b) <;> intro hc <;> try simp only [decide_eq_true_eq, decide_eq_false_iff_not, Classical.not_not, Bool.not_eq_true', Bool.not_eq_false'] at hc))
      refine H_n (by exact svc) hlt fun j hj1 hj => ?_
      rcases Nat.lt_succ_iff_lt_or_eq.1 hj with h | rfl
      · exact hf j hj1 h
      · exact hb
    | false =>
      rw [hb] at h147'
      have := fitsA_no (L := plX l) hi1 (by rw [pl_len]; exact hlt) hb
      rw [this]
      clear hge hf hb this
      repeat' (first | ((with_reducible first | apply S_0 | apply S_q1 | apply S_g | apply S_c); exact sgc) | (with_reducible first | apply SO_q | apply SG_t | apply SG_f0 | apply SG_f1 | apply S_nil | apply T_n | apply W_seq | apply W_region | apply SO_x | apply SC_t | apply SC_f | apply W_block | apply W_ret | apply W_skip | apply W_exit | apply T_r | apply T_e | apply B_n | apply B_e) | (with_reducible apply B_ne; focus decide) | (with_reducible first | apply B_r | apply R_e | apply R_r | apply H_e | apply H_r | apply G_e | apply G_r) | (with_reducible apply SC_n) | ((with_reducible first | apply SC_d | apply SG_d | apply SG_n | apply SC_b | apply SG_b) <;> intro hc <;> try simp only [decide_eq_true_eq, decide_eq_false_iff_not, Classical.not_not, Bool.not_eq_true', Bool.not_eq_false'] at hc))
      (first | exact fincR | exact fincN)
  · have hlt' : ¬ (i : Int) < s.length := by omega
    have := fitsA_of (L := plX l) (s := pl s) fun v a b => hf v a (by rw [pl_len] at b; omega)
    rw [this]
    clear h147 hge hf this
    repeat' (first | ((with_reducible first | apply S_0 | apply S_q1 | apply S_g | apply S_c); exact sgc) | (with_reducible first | apply SO_q | apply SG_t | apply SG_f0 | apply SG_f1 | apply S_nil | apply T_n | apply W_seq | apply W_region | apply SO_x | apply SC_t | apply SC_f | apply W_block | apply W_ret | apply W_skip | apply W_exit | apply T_r | apply T_e | apply B_n | apply B_e) | (with_reducible apply B_ne; focus decide) | (with_reducible first | apply B_r | apply R_e | apply R_r | apply H_e | apply H_r | apply G_e | apply G_r) | (with_reducible apply SC_n) | ((with_reducible first | apply SC_d | apply SG_d | apply SG_n | apply SC_b | apply SG_b) <;> intro hc <;> try simp only [decide_eq_true_eq, decide_eq_false_iff_not, Classical.not_not, Bool.not_eq_true', Bool.not_eq_false'] at hc))
    (first | exact fincR | exact fincN)
theorem t120 {M : MS} {sv : AV} {s : List Pth} {l : List Rks} {nl cd : Bool} {n : Int} (hv : Vw M sv (s.map Pth.av) s.length) (hX : MayX n l) (hS : SmallX l)
    (h1 : 1 ≤ s.length) (hs : s.length ≤ l.length) : ev pr 120 [.agg [.flat (.int .i64 n), .list 1 (l.map Rks.av) nl cd], sv] M = some (.q (.flat (.bool (!fitsA (plX l) (pl s))))) := by
  have hv' := hv.ext [some [.flat (.int .i64 n), .list 1 (l.map Rks.av) nl cd]]
  have e0 := hv'.v0
  have e1 := hv.len
  have h12 := hS.1
  have hsm : ∀ v (h : v < l.length), l[v].l.length ≤ 70 := fun v h => (hS.2 _ (List.getElem_mem h)).1
  have hN := hasN_of hX
  have hge : ∀ (v : Nat) (hv : v < s.length), fitsR (pl s) ((pl s).getD v []) ((plX l).getD v []) = fitsR (pl s) s[v].l (paths (l[v]'(by omega)).l) := fun v hv => by rw [pl_getD hv, plX_get (by omega)]
  clear hX hS hv hv'
  refine ev_fn' A120 ?_
  repeat' (first | ((with_reducible first | apply S_0 | apply S_q1 | apply S_g | apply S_c); exact sgc) | (with_reducible first | apply SO_q | apply SG_t | apply SG_f0 | apply SG_f1 | apply S_nil | apply T_n | apply W_seq | apply W_region | apply SO_x | apply SC_t | apply SC_f | apply W_block | apply W_ret | apply W_skip | apply W_exit | apply T_r | apply T_e | apply B_n | apply B_e) | (with_reducible apply B_ne; focus decide) | (with_reducible first | apply B_r | apply R_e | apply R_r | apply H_e | apply H_r | apply G_e | apply G_r) | (with_reducible apply SC_n) | ((with_reducible first | apply SC_d | apply SG_d | apply SG_n | apply SC_b | apply SG_b) <;> intro hc <;> try simp only [decide_eq_true_eq, decide_eq_false_iff_not, Classical.not_not, Bool.not_eq_true', Bool.not_eq_false'] at hc))
  refine W_rng 5 1 s.length (fun i e => ∀ j, 1 ≤ j → j < i → fitsR (pl s) ((pl s).getD j []) ((plX l).getD j []) = true) (by simp only [asg, asgO, List.append_nil, List.nil_append, List.cons_append]; rfl) (by exact svc) h1 (fun j hj hj2 => by omega) ?_
  rintro i e hi1 hi hk e5 hf
  have k1 : e 1 = sv := by rw [hk 1 rfl]; exact svc
  have k2 : e 2 = .mptr M.length 0 := by rw [hk 2 rfl]; exact svc
  clear hk
  rcases Nat.lt_or_ge i s.length with hlt | hlt
  · have hlt' : (i : Int) < s.length := by omega
    have hll : i < l.length := by omega
    have hll' : (i : Int) < l.length := by omega
    have hgi := hge i hlt
    have hNi := hN i hll hi1
    have h70 := hsm i hll
    clear hN hsm hge
    repeat' (first | ((with_reducible first | apply S_0 | apply S_q1 | apply S_g | apply S_c); exact sgc) | (with_reducible first | apply SO_q | apply SG_t | apply SG_f0 | apply SG_f1 | apply S_nil | apply T_n | apply W_seq | apply W_region | apply SO_x | apply SC_t | apply SC_f | apply W_block | apply W_ret | apply W_skip | apply W_exit | apply T_r | apply T_e | apply B_n | apply B_e) | (with_reducible apply B_ne; focus decide) | (with_reducible first | apply B_r | apply R_e | apply R_r | apply H_e | apply H_r | apply G_e | apply G_r) | (with_reducible apply SC_n) | ((with_reducible first | apply SC_d | apply SG_d | apply SG_n | apply SC_b | apply SG_b) <;> intro hc <;> try simp only [decide_eq_true_eq, decide_eq_false_iff_not, Classical.not_not, Bool.not_eq_true', Bool.not_eq_false'] at hc))
    refine W_rng 6 0 l[i].l.length (fun k e' => fitsR (pl s) s[i].l (paths l[i].l) = fitsR (pl s) s[i].l ((paths l[i].l).drop k)) (by simp only [asg, asgO, List.append_nil, List.nil_append, List.cons_append]; rfl) (by exact svc) (by omega) rfl ?_
    rintro k e2 hk0 hk hkk e6 hfk
    have j1 : e2 1 = sv := by rw [hkk 1 rfl]; exact svc
    have j2 : e2 2 = .mptr M.length 0 := by rw [hkk 2 rfl]; exact svc
    have j5 : e2 5 = .flat (.int .i64 i) := by rw [hkk 5 rfl]; exact svc
    clear hkk k1 k2 e5
    rcases Nat.lt_or_ge k l[i].l.length with hlk | hlk
    · have hlk' : (k : Int) < l[i].l.length := by omega
      obtain ⟨q1, q2⟩ := hNi _ (List.getElem_mem hlk)
      rw [getD_get q1] at q2
      have g1 : l[i].l[k].p.l.getD 1 0 = l[i].l[k].p.l[1] := getD_get q1
      have hdr := paths_drop _ _ hlk
      have h22 := fun (u : Nat) (hu : u < s.length) M => t22 s[u].l (l[i].l[k].p.l.drop 1) s[u].nl s[u].cd l[i].l[k].p.nl l[i].l[k].p.cd M s[u].le
      have h22c := fun M => t22 l[i].l[k].p.l s[i].l l[i].l[k].p.nl l[i].l[k].p.cd s[i].nl s[i].cd M l[i].l[k].p.le
      have hple := l[i].l[k].p.le
      clear hNi
      have nxt : ∀ b : Bool, isC (pl s) l[i].l[k].p.l = b → True := fun _ _ => trivial
      by_cases hkn : l[i].l[k].p.l[1] < s.length
      · have hu : l[i].l[k].p.l[1].toNat < s.length := by omega
        have g2 : (pl s).getD l[i].l[k].p.l[1].toNat [] = s[l[i].l[k].p.l[1].toNat].l := by rw [getD_get (by rw [pl_len]; exact hu), pl_get]
        have hkc : knC (pl s) l[i].l[k].p.l = true := by simp only [knC, g1, pl_len, hkn, decide_true]
        have hic : isC (pl s) l[i].l[k].p.l = decide (s[l[i].l[k].p.l[1].toNat].l = l[i].l[k].p.l.drop 1) := by
          simp only [isC, g1, pl_len, hkn, decide_true, Bool.true_and, g2]
        have h5 : (s[l[i].l[k].p.l[1].toNat]).l.length ≤ 9223372036854775807 := Pth.le _
        clear g1 g2 h22 nxt
        by_cases hc : l[i].l[k].p.l = s[i].l
        · have hfr : fitsR (pl s) s[i].l ((paths l[i].l).drop k) = isC (pl s) l[i].l[k].p.l := by
            rw [hdr, fitsR, if_pos hc, hkc]; simp
          have hcd : decide (l[i].l[k].p.l = s[i].l) = true := decide_eq_true hc
          rw [hcd] at h22c
          cases hb : isC (pl s) l[i].l[k].p.l with
          | true =>
            rw [hb] at hfr hic
            have hbd := hic.symm
            have hfi : fitsR (pl s) ((pl s).getD i []) ((plX l).getD i []) = true := by rw [hgi, hfk, hfr]
            clear hdr hfr hfk hc hcd hkc hb hgi hic
            repeat' (first | ((with_reducible first | apply S_0 | apply S_q1 | apply S_g | apply S_c); exact sgc) | (with_reducible first | apply SO_q | apply SG_t | apply SG_f0 | apply SG_f1 | apply S_nil | apply T_n | apply W_seq | apply W_region | apply SO_x | apply SC_t | apply SC_f | apply W_block | apply W_ret | apply W_skip | apply W_exit | apply T_r | apply T_e | apply B_n | apply B_e) | (with_reducible apply B_ne; focus decide) | (with_reducible first | apply B_r | apply R_e | apply R_r | apply H_e | apply H_r | apply G_e | apply G_r) | (with_reducible apply SC_n) | ((with_reducible first | apply SC_d | apply SG_d | apply SG_n | apply SC_b | apply SG_b) <;> intro hc <;> try simp only [decide_eq_true_eq, decide_eq_false_iff_not, Classical.not_not, Bool.not_eq_true', Bool.not_eq_false'] at hc))
            refine H_n (by exact svc) hlt fun j hj1 hj => ?_
            rcases Nat.lt_succ_iff_lt_or_eq.1 hj with h | rfl
            · exact hf j hj1 h
            · exact hfi
          | false =>
            rw [hb] at hfr hic
            have hbd := hic.symm
            have hfi := fitsA_no (L := plX l) hi1 (by rw [pl_len]; exact hlt) (by rw [hgi, hfk, hfr])
            rw [hfi]
            clear hdr hfr hfk hc hcd hkc hb hgi hfi hf hic
            repeat' (first | ((with_reducible first | apply S_0 | apply S_q1 | apply S_g | apply S_c); exact sgc) | (with_reducible first | apply SO_q | apply SG_t | apply SG_f0 | apply SG_f1 | apply S_nil | apply T_n | apply W_seq | apply W_region | apply SO_x | apply SC_t | apply SC_f | apply W_block | apply W_ret | apply W_skip | apply W_exit | apply T_r | apply T_e | apply B_n | apply B_e) | (with_reducible apply B_ne; focus decide) | (with_reducible first | apply B_r | apply R_e | apply R_r | apply H_e | apply H_r | apply G_e | apply G_r) | (with_reducible apply SC_n) | ((with_reducible first | apply SC_d | apply SG_d | apply SG_n | apply SC_b | apply SG_b) <;> intro hc <;> try simp only [decide_eq_true_eq, decide_eq_false_iff_not, Classical.not_not, Bool.not_eq_true', Bool.not_eq_false'] at hc))
            (first | exact fincR | exact fincN)
        · have hcd : decide (l[i].l[k].p.l = s[i].l) = false := decide_eq_false hc
          rw [hcd] at h22c
          cases hb : isC (pl s) l[i].l[k].p.l with
          | true =>
            have hfr : fitsR (pl s) s[i].l ((paths l[i].l).drop k) = false := by rw [hdr, fitsR, if_neg hc, hb]; rfl
            rw [hb] at hic
            have hbd := hic.symm
            have hfi := fitsA_no (L := plX l) hi1 (by rw [pl_len]; exact hlt) (by rw [hgi, hfk, hfr])
            rw [hfi]
            clear hdr hfr hfk hc hcd hkc hb hgi hfi hf hic
            repeat' (first | ((with_reducible first | apply S_0 | apply S_q1 | apply S_g | apply S_c); exact sgc) | (with_reducible first | apply SO_q | apply SG_t | apply SG_f0 | apply SG_f1 | apply S_nil | apply T_n | apply W_seq | apply W_region | apply SO_x | apply SC_t | apply SC_f | apply W_block | apply W_ret | apply W_skip | apply W_exit | apply T_r | apply T_e | apply B_n | apply B_e) | (with_reducible apply B_ne; focus decide) | (with_reducible first | apply B_r | apply R_e | apply R_r | apply H_e | apply H_r | apply G_e | apply G_r) | (with_reducible apply SC_n) | ((with_reducible first | apply SC_d | apply SG_d | apply SG_n | apply SC_b | apply SG_b) <;> intro hc <;> try simp only [decide_eq_true_eq, decide_eq_false_iff_not, Classical.not_not, Bool.not_eq_true', Bool.not_eq_false'] at hc))
            (first | exact fincR | exact fincN)
          | false =>
            have hfr := fitsR_ne (R := (paths l[i].l).drop (k + 1)) hc hb
            rw [← hdr] at hfr
            rw [hb] at hic
            have hbd := hic.symm
            clear hdr hc hcd hkc hb hgi hic
            repeat' (first | ((with_reducible first | apply S_0 | apply S_q1 | apply S_g | apply S_c); exact sgc) | (with_reducible first | apply SO_q | apply SG_t | apply SG_f0 | apply SG_f1 | apply S_nil | apply T_n | apply W_seq | apply W_region | apply SO_x | apply SC_t | apply SC_f | apply W_block | apply W_ret | apply W_skip | apply W_exit | apply T_r | apply T_e | apply B_n | apply B_e) | (with_reducible apply B_ne; focus decide) | (with_reducible first | apply B_r | apply R_e | apply R_r | apply H_e | apply H_r | apply G_e | apply G_r) | (with_reducible apply SC_n) | ((with_reducible first | apply SC_d | apply SG_d | apply SG_n | apply SC_b | apply SG_b) <;> intro hc <;> try simp only [decide_eq_true_eq, decide_eq_false_iff_not, Classical.not_not, Bool.not_eq_true', Bool.not_eq_false'] at hc))
            exact H_n (by exact svc) hlk (hfk.trans hfr)
      · have hkc : knC (pl s) l[i].l[k].p.l = false := by simp only [knC, g1, pl_len, hkn, decide_false]
        have hic : isC (pl s) l[i].l[k].p.l = false := by simp only [isC, g1, pl_len, hkn, decide_false, Bool.false_and]
        have hkn' : (s.length : Int) ≤ l[i].l[k].p.l[1] := by omega
        clear g1 h22 nxt
        by_cases hc : l[i].l[k].p.l = s[i].l
        · have hfr : fitsR (pl s) s[i].l ((paths l[i].l).drop k) = true := by
            rw [hdr, fitsR, if_pos hc, hkc]; simp
          have hcd : decide (l[i].l[k].p.l = s[i].l) = true := decide_eq_true hc
          rw [hcd] at h22c
          have hfi : fitsR (pl s) ((pl s).getD i []) ((plX l).getD i []) = true := by rw [hgi, hfk, hfr]
          clear hdr hfr hfk hc hcd hkc hgi hic
          repeat' (first | ((with_reducible first | apply S_0 | apply S_q1 | apply S_g | apply S_c); exact sgc) | (with_reducible first | apply SO_q | apply SG_t | apply SG_f0 | apply SG_f1 | apply S_nil | apply T_n | apply W_seq | apply W_region | apply SO_x | apply SC_t | apply SC_f | apply W_block | apply W_ret | apply W_skip | apply W_exit | apply T_r | apply T_e | apply B_n | apply B_e) | (with_reducible apply B_ne; focus decide) | (with_reducible first | apply B_r | apply R_e | apply R_r | apply H_e | apply H_r | apply G_e | apply G_r) | (with_reducible apply SC_n) | ((with_reducible first | apply SC_d | apply SG_d | apply SG_n | apply SC_b | apply SG_b) <;> intro hc <;> try simp only [decide_eq_true_eq, decide_eq_false_iff_not, Classical.not_not, Bool.not_eq_true', Bool.not_eq_false'] at hc))
          refine H_n (by exact svc) hlt fun j hj1 hj => ?_
          rcases Nat.lt_succ_iff_lt_or_eq.1 hj with h | rfl
          · exact hf j hj1 h
          · exact hfi
        · have hcd : decide (l[i].l[k].p.l = s[i].l) = false := decide_eq_false hc
          rw [hcd] at h22c
          have hfr := fitsR_ne (R := (paths l[i].l).drop (k + 1)) hc hic
          rw [← hdr] at hfr
          clear hdr hc hcd hkc hgi hic
          repeat' (first | ((with_reducible first | apply S_0 | apply S_q1 | apply S_g | apply S_c); exact sgc) | (with_reducible first | apply SO_q | apply SG_t | apply SG_f0 | apply SG_f1 | apply S_nil | apply T_n | apply W_seq | apply W_region | apply SO_x | apply SC_t | apply SC_f | apply W_block | apply W_ret | apply W_skip | apply W_exit | apply T_r | apply T_e | apply B_n | apply B_e) | (with_reducible apply B_ne; focus decide) | (with_reducible first | apply B_r | apply R_e | apply R_r | apply H_e | apply H_r | apply G_e | apply G_r) | (with_reducible apply SC_n) | ((with_reducible first | apply SC_d | apply SG_d | apply SG_n | apply SC_b | apply SG_b) <;> intro hc <;> try simp only [decide_eq_true_eq, decide_eq_false_iff_not, Classical.not_not, Bool.not_eq_true', Bool.not_eq_false'] at hc))
          exact H_n (by exact svc) hlk (hfk.trans hfr)
    · have hlk' : ¬ (k : Int) < l[i].l.length := by omega
      have hdr : (paths l[i].l).drop k = [] := List.drop_of_length_le (by rw [paths_len]; exact hlk)
      have hfi : fitsR (pl s) ((pl s).getD i []) ((plX l).getD i []) = true := by rw [hgi, hfk, hdr]; rfl
      clear hgi hfk hdr hNi
      repeat' (first | ((with_reducible first | apply S_0 | apply S_q1 | apply S_g | apply S_c); exact sgc) | (with_reducible first | apply SO_q | apply SG_t | apply SG_f0 | apply SG_f1 | apply S_nil | apply T_n | apply W_seq | apply W_region | apply SO_x | apply SC_t | apply SC_f | apply W_block | apply W_ret | apply W_skip | apply W_exit | apply T_r | apply T_e | apply B_n | apply B_e) | (with_reducible apply B_ne; focus decide) | (with_reducible first | apply B_r | apply R_e | apply R_r | apply H_e | apply H_r | apply G_e | apply G_r) | (with_reducible apply SC_n) | ((with_reducible first | apply SC_d | apply SG_d | apply SG_n | apply SC_b | apply SG_b) <;> intro hc <;> try simp only [decide_eq_true_eq, decide_eq_false_iff_not, Classical.not_not, Bool.not_eq_true', Bool.not_eq_false'] at hc))
      refine H_n (by exact svc) hlt fun j hj1 hj => ?_
      rcases Nat.lt_succ_iff_lt_or_eq.1 hj with h | rfl
      · exact hf j hj1 h
      · exact hfi
  · have hlt' : ¬ (i : Int) < s.length := by omega
    have := fitsA_of (L := plX l) (s := pl s) fun v a b => hf v a (by rw [pl_len] at b; omega)
    rw [this]
    clear hge hf this hN hsm
    repeat' (first | ((with_reducible first | apply S_0 | apply S_q1 | apply S_g | apply S_c); exact sgc) | (with_reducible first | apply SO_q | apply SG_t | apply SG_f0 | apply SG_f1 | apply S_nil | apply T_n | apply W_seq | apply W_region | apply SO_x | apply SC_t | apply SC_f | apply W_block | apply W_ret | apply W_skip | apply W_exit | apply T_r | apply T_e | apply B_n | apply B_e) | (with_reducible apply B_ne; focus decide) | (with_reducible first | apply B_r | apply R_e | apply R_r | apply H_e | apply H_r | apply G_e | apply G_r) | (with_reducible apply SC_n) | ((with_reducible first | apply SC_d | apply SG_d | apply SG_n | apply SC_b | apply SG_b) <;> intro hc <;> try simp only [decide_eq_true_eq, decide_eq_false_iff_not, Classical.not_not, Bool.not_eq_true', Bool.not_eq_false'] at hc))
    (first | exact fincR | exact fincN)
end Go.Proofs.Ytopiaiibpacmlaa.Av
