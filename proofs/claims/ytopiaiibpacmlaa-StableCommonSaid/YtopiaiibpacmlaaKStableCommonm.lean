/- The law StableCommon on the evaluator. -/
import Derived.Test.YtopiaiibpacmlaaX9
namespace Go.Proofs.Ytopiaiibpacmlaa.Av
open Go.RowKit
set_option linter.unusedSimpArgs false
set_option linter.unusedVariables false
set_option maxHeartbeats 10000000
theorem t22v (x y : List Int) (nx cx : Bool) (yv : AV) (M : MS) (hx : x.length ≤ 9223372036854775807) (hv : view M yv = some (intsA y)) (hl : lenOf yv = some y.length) : ev pr 22 [.list 1 (intsA x) nx cx, yv] M = some (.q (.flat (.bool (decide (x = y))))) := by
  refine ev_fn' A22 ?_
  repeat' (first | ((with_reducible first | apply S_0 | apply S_q1 | apply S_g | apply S_c); exact sgc) | (with_reducible first | apply SO_q | apply SG_t | apply SG_f0 | apply SG_f1 | apply S_nil | apply T_n | apply W_seq | apply W_region | apply SO_x | apply SC_t | apply SC_f | apply W_block | apply W_ret | apply W_skip | apply W_exit | apply T_r | apply T_e | apply B_n | apply B_e) | (with_reducible apply B_ne; focus decide) | (with_reducible first | apply B_r | apply R_e | apply R_r | apply H_e | apply H_r | apply G_e | apply G_r) | (with_reducible apply SC_n) | ((with_reducible first | apply SC_d | apply SG_d | apply SG_n | apply SC_b | apply SG_b) <;> intro hc <;> try simp only [decide_eq_true_eq, decide_eq_false_iff_not, Classical.not_not, Bool.not_eq_true', Bool.not_eq_false'] at hc))
  · (refine ⟨by first | exact .inr rfl | exact .inl rfl, ?_⟩; simp (disch := first | assumption | decide | omega | exact Pth.le _ | exact Rks.le _ | exact List.getElem_mem _ | exact allI_ints _ | exact allI_rks _ | exact allI_pths _ | exact Pth.nil _ | exact Rks.nil _ | (intro hh; simp only [Pth.nil _ hh, List.take_nil, List.drop_nil]; done) | (intro hh; simp only [Rks.nil _ hh, List.take_nil, List.drop_nil]; done) | (simp only [List.length_take, List.length_drop, List.length_append, List.length_cons, List.length_nil, List.length_replicate, List.length_map, ints_len]; omega)) only [resA, rvA, tupA, fin, frzV, frzTup, frzA, frz, isI, isI.all, Option.bind_some, go_sem, if_pos, if_neg, Nat.reduceBEq, Nat.reduceEqDiff, ↓reduceIte, Nat.reduceSub, Nat.reduceAdd, Int.reduceToNat, reduceCtorEq, Nat.reduceLeDiff, Nat.reduceLT, Nat.reduceMul, Nat.reduceDiv, Int.reduceLT, Int.reduceLE, Int.reduceEq, Int.reduceNe, Int.reduceAdd, Int.reduceSub, Int.reduceNeg, Int.reduceGT, Int.reduceGE, Int.reduceBEq, Int.reduceBNe, Int.reduceMul, *])
    have : ¬ x = y := by rintro rfl; exact hc rfl
    simp only [this, decide_false]
  have hn : x.length = y.length := by omega
  clear hc
  refine W_rng 5 0 x.length (fun i _ => x.take i = y.take i) (by simp only [asg, asgO, List.append_nil, List.nil_append, List.cons_append]; rfl) (by exact svc) (by omega) (by simp) ?_
  rintro i e _ hi hk e5 hl2
  have k0 : e 0 = .list 1 (intsA x) nx cx := by rw [hk 0 rfl]; exact svc
  have k1 : e 1 = yv := by rw [hk 1 rfl]; exact svc
  clear hk
  repeat' (first | ((with_reducible first | apply S_0 | apply S_q1 | apply S_g | apply S_c); exact sgc) | (with_reducible first | apply SO_q | apply SG_t | apply SG_f0 | apply SG_f1 | apply S_nil | apply T_n | apply W_seq | apply W_region | apply SO_x | apply SC_t | apply SC_f | apply W_block | apply W_ret | apply W_skip | apply W_exit | apply T_r | apply T_e | apply B_n | apply B_e) | (with_reducible apply B_ne; focus decide) | (with_reducible first | apply B_r | apply R_e | apply R_r | apply H_e | apply H_r | apply G_e | apply G_r) | (with_reducible apply SC_n) | ((with_reducible first | apply SC_d | apply SG_d | apply SG_n | apply SC_b | apply SG_b) <;> intro hc <;> try simp only [decide_eq_true_eq, decide_eq_false_iff_not, Classical.not_not, Bool.not_eq_true', Bool.not_eq_false'] at hc))
  · (refine ⟨by first | exact .inr rfl | exact .inl rfl, ?_⟩; simp (disch := first | assumption | decide | omega | exact Pth.le _ | exact Rks.le _ | exact List.getElem_mem _ | exact allI_ints _ | exact allI_rks _ | exact allI_pths _ | exact Pth.nil _ | exact Rks.nil _ | (intro hh; simp only [Pth.nil _ hh, List.take_nil, List.drop_nil]; done) | (intro hh; simp only [Rks.nil _ hh, List.take_nil, List.drop_nil]; done) | (simp only [List.length_take, List.length_drop, List.length_append, List.length_cons, List.length_nil, List.length_replicate, List.length_map, ints_len]; omega)) only [resA, rvA, tupA, fin, frzV, frzTup, frzA, frz, isI, isI.all, Option.bind_some, go_sem, if_pos, if_neg, Nat.reduceBEq, Nat.reduceEqDiff, ↓reduceIte, Nat.reduceSub, Nat.reduceAdd, Int.reduceToNat, reduceCtorEq, Nat.reduceLeDiff, Nat.reduceLT, Nat.reduceMul, Nat.reduceDiv, Int.reduceLT, Int.reduceLE, Int.reduceEq, Int.reduceNe, Int.reduceAdd, Int.reduceSub, Int.reduceNeg, Int.reduceGT, Int.reduceGE, Int.reduceBEq, Int.reduceBNe, Int.reduceMul, *])
    have h1 : i < x.length := by omega
    have : ¬ x = y := by
      rintro rfl
      exact hc rfl
    simp only [this, decide_false]
  · refine H_n (by exact svc) (by omega) (takes_ext hl2 (by omega) (by omega) ?_)
    omega
  · (refine ⟨by first | exact .inr rfl | exact .inl rfl, ?_⟩; simp (disch := first | assumption | decide | omega | exact Pth.le _ | exact Rks.le _ | exact List.getElem_mem _ | exact allI_ints _ | exact allI_rks _ | exact allI_pths _ | exact Pth.nil _ | exact Rks.nil _ | (intro hh; simp only [Pth.nil _ hh, List.take_nil, List.drop_nil]; done) | (intro hh; simp only [Rks.nil _ hh, List.take_nil, List.drop_nil]; done) | (simp only [List.length_take, List.length_drop, List.length_append, List.length_cons, List.length_nil, List.length_replicate, List.length_map, ints_len]; omega)) only [resA, rvA, tupA, fin, frzV, frzTup, frzA, frz, isI, isI.all, Option.bind_some, go_sem, if_pos, if_neg, Nat.reduceBEq, Nat.reduceEqDiff, ↓reduceIte, Nat.reduceSub, Nat.reduceAdd, Int.reduceToNat, reduceCtorEq, Nat.reduceLeDiff, Nat.reduceLT, Nat.reduceMul, Nat.reduceDiv, Int.reduceLT, Int.reduceLE, Int.reduceEq, Int.reduceNe, Int.reduceAdd, Int.reduceSub, Int.reduceNeg, Int.reduceGT, Int.reduceGE, Int.reduceBEq, Int.reduceBNe, Int.reduceMul, *])
    have : x = y := eq_of_takes hl2 (by omega) (by omega)
    simp only [this, decide_true]
noncomputable def upto (P : Nat → Prop) (i : Nat) : Bool := @decide (∀ j, j < i → P j) (Classical.propDecidable _)
theorem upto_t {P : Nat → Prop} {i : Nat} (h : ∀ j, j < i → P j) : upto P i = true := @decide_eq_true _ (Classical.propDecidable _) h
theorem upto_f {P : Nat → Prop} {i : Nat} (h : ¬ ∀ j, j < i → P j) : upto P i = false := @decide_eq_false _ (Classical.propDecidable _) h
theorem upto0 (P : Nat → Prop) : upto P 0 = true := upto_t fun j hj => by omega
theorem upto_s {P : Nat → Prop} {k : Nat} {b : Bool} (h : ∀ j, j < k → P j) (hb : b = true ↔ P k) : upto P (k + 1) = b := by
  cases b with
  | true => exact upto_t (ext1 h (hb.1 rfl))
  | false => exact upto_f fun g => absurd (hb.2 (g k (by omega))) (by decide)
theorem law12 (x : List Sta) (nx cx : Bool) (hx : x.length ≤ 9223372036854775807) (hs : ∀ a ∈ x, a.s.length ≤ 9223372036854775807) (M : MS) : ev pr 12 [.list 1 (x.map Sta.av) nx cx] M = some (.q (.flat (.bool true))) := by
  have h48 := lives23
  by_cases h20 : x.length ≤ 20
  · have h20Z : ¬ (20 : Int) < x.length := by omega
    obtain ⟨N0, hN0⟩ : ∃ N0, N0 = (x.headD ⟨[], true, true⟩).s.length := ⟨_, rfl⟩
    obtain ⟨U, hU⟩ : ∃ U, Hid (U = upto (fun j => ∀ h : j < x.length, x[j].s.length = N0)) := ⟨_, show _ = _ from rfl⟩
    refine ev_fn' A12 ?_
    repeat' (first | ((with_reducible first | apply S_0 | apply S_q1 | apply S_g | apply S_c); exact sgc) | (with_reducible first | apply SO_q | apply SG_t | apply SG_f0 | apply SG_f1 | apply S_nil | apply T_n | apply W_seq | apply W_region | apply SO_x | apply SC_t | apply SC_f | apply W_block | apply W_ret | apply W_skip | apply W_exit | apply T_r | apply T_e | apply B_n | apply B_e) | (with_reducible apply B_ne; focus decide) | (with_reducible first | apply B_r | apply R_e | apply R_r | apply H_e | apply H_r | apply G_e | apply G_r) | (with_reducible apply SC_n) | ((with_reducible first | apply SC_d | apply SG_d | apply SG_n | apply SC_b | apply SG_b) <;> intro hc <;> try simp only [decide_eq_true_eq, decide_eq_false_iff_not, Classical.not_not, Bool.not_eq_true', Bool.not_eq_false'] at hc))
    refine W_rng 4 0 x.length (fun i e => (∀ j, j < i → ∀ h : j < x.length, SmallS x[j].s) ∧ e 3 = .flat (.bool (U i))) (by simp only [asg, asgO, List.append_nil, List.nil_append, List.cons_append]; rfl) (by exact svc) (by omega) ⟨fun j hj => by omega, by
      have : U 0 = true := by rw [show U = upto (fun j => ∀ h : j < x.length, x[j].s.length = N0) from hU]; exact upto0 _
      rw [this]; exact svc⟩ ?_
    rintro i e _ hi hk e4 ⟨hsm, e3⟩
    have k0 : e 0 = .list 1 (x.map Sta.av) nx cx := by rw [hk 0 rfl]; exact svc
    clear hk
    rcases Nat.lt_or_ge i x.length with hlt | hlt
    · have hltZ : (i : Int) < x.length := by omega
      have h0 : 0 < x.length := by omega
      have h0Z : (0 : Int) < x.length := by omega
      have hh0 : N0 = x[0].s.length := by
        rw [hN0]
        cases x with
        | nil => simp at h0
        | cons a x => rfl
      have hsi := hs _ (List.getElem_mem hlt)
      have hs0 := hs _ (List.getElem_mem h0)
      by_cases hS : SmallS x[i].s
      · have hSd : decide (SmallS x[i].s) = true := decide_eq_true hS
        by_cases hev : ∀ j, j < i → ∀ h : j < x.length, x[j].s.length = N0
        · have hevd : U i = true := by rw [show U = upto (fun j => ∀ h : j < x.length, x[j].s.length = N0) from hU]; exact upto_t (hev)
          have hst : U (i + 1) = decide ((x[i].s.length : Int) = x[0].s.length) := by rw [show U = upto (fun j => ∀ h : j < x.length, x[j].s.length = N0) from hU]; exact upto_s hev (by rw [decide_eq_true_iff]; exact ⟨fun g _ => by omega, fun g => by rw [g hlt, hh0]⟩)
          rw [hevd] at e3
          clear hev hevd hs
          repeat' (first | ((with_reducible first | apply S_0 | apply S_q1 | apply S_g | apply S_c); exact sgc) | (with_reducible first | apply SO_q | apply SG_t | apply SG_f0 | apply SG_f1 | apply S_nil | apply T_n | apply W_seq | apply W_region | apply SO_x | apply SC_t | apply SC_f | apply W_block | apply W_ret | apply W_skip | apply W_exit | apply T_r | apply T_e | apply B_n | apply B_e) | (with_reducible apply B_ne; focus decide) | (with_reducible first | apply B_r | apply R_e | apply R_r | apply H_e | apply H_r | apply G_e | apply G_r) | (with_reducible apply SC_n) | ((with_reducible first | apply SC_d | apply SG_d | apply SG_n | apply SC_b | apply SG_b) <;> intro hc <;> try simp only [decide_eq_true_eq, decide_eq_false_iff_not, Classical.not_not, Bool.not_eq_true', Bool.not_eq_false'] at hc))
          all_goals exact H_n (by exact svc) hlt ⟨ext1 hsm fun _ => hS, by exact svc⟩
        · have hevd : U i = false := by rw [show U = upto (fun j => ∀ h : j < x.length, x[j].s.length = N0) from hU]; exact upto_f (hev)
          have hst : U (i + 1) = false := by rw [show U = upto (fun j => ∀ h : j < x.length, x[j].s.length = N0) from hU]; exact upto_f (fun g => hev fun j hj => g j (by omega))
          rw [hevd] at e3
          clear hev hevd hs
          repeat' (first | ((with_reducible first | apply S_0 | apply S_q1 | apply S_g | apply S_c); exact sgc) | (with_reducible first | apply SO_q | apply SG_t | apply SG_f0 | apply SG_f1 | apply S_nil | apply T_n | apply W_seq | apply W_region | apply SO_x | apply SC_t | apply SC_f | apply W_block | apply W_ret | apply W_skip | apply W_exit | apply T_r | apply T_e | apply B_n | apply B_e) | (with_reducible apply B_ne; focus decide) | (with_reducible first | apply B_r | apply R_e | apply R_r | apply H_e | apply H_r | apply G_e | apply G_r) | (with_reducible apply SC_n) | ((with_reducible first | apply SC_d | apply SG_d | apply SG_n | apply SC_b | apply SG_b) <;> intro hc <;> try simp only [decide_eq_true_eq, decide_eq_false_iff_not, Classical.not_not, Bool.not_eq_true', Bool.not_eq_false'] at hc))
          all_goals exact H_n (by exact svc) hlt ⟨ext1 hsm fun _ => hS, by exact svc⟩
      · have hSd : decide (SmallS x[i].s) = false := decide_eq_false hS
        clear hs hsm
        repeat' (first | ((with_reducible first | apply S_0 | apply S_q1 | apply S_g | apply S_c); exact sgc) | (with_reducible first | apply SO_q | apply SG_t | apply SG_f0 | apply SG_f1 | apply S_nil | apply T_n | apply W_seq | apply W_region | apply SO_x | apply SC_t | apply SC_f | apply W_block | apply W_ret | apply W_skip | apply W_exit | apply T_r | apply T_e | apply B_n | apply B_e) | (with_reducible apply B_ne; focus decide) | (with_reducible first | apply B_r | apply R_e | apply R_r | apply H_e | apply H_r | apply G_e | apply G_r) | (with_reducible apply SC_n) | ((with_reducible first | apply SC_d | apply SG_d | apply SG_n | apply SC_b | apply SG_b) <;> intro hc <;> try simp only [decide_eq_true_eq, decide_eq_false_iff_not, Classical.not_not, Bool.not_eq_true', Bool.not_eq_false'] at hc))
        (first | exact fincR | exact fincN)
    · have hltZ : ¬ (i : Int) < x.length := by omega
      have hsmall : ∀ a ∈ x, SmallS a.s := all_of (Q := fun a => SmallS a.s) hlt hsm
      have h63 := fun M => t63 x nx cx M (by omega) fun a ha => by have := (hsmall a ha).1; omega
      rcases Nat.eq_zero_or_pos x.length with h0 | h0
      · have h0Z : (x.length : Int) = 0 := by omega
        have hd : ¬ (0 < x.length ∧ ∀ a ∈ x, a.s.length = (x.headD ⟨[], true, true⟩).s.length) := fun h => by omega
        simp only [dif_neg hd] at h63
        have hl0 := lst_len []
        have hi0 : ¬ (i : Int) < 0 := by omega
        clear hs hsm hsmall
        repeat' (first | ((with_reducible first | apply S_0 | apply S_q1 | apply S_g | apply S_c); exact sgc) | (with_reducible first | apply SO_q | apply SG_t | apply SG_f0 | apply SG_f1 | apply S_nil | apply T_n | apply W_seq | apply W_region | apply SO_x | apply SC_t | apply SC_f | apply W_block | apply W_ret | apply W_skip | apply W_exit | apply T_r | apply T_e | apply B_n | apply B_e) | (with_reducible apply B_ne; focus decide) | (with_reducible first | apply B_r | apply R_e | apply R_r | apply H_e | apply H_r | apply G_e | apply G_r) | (with_reducible apply SC_n) | ((with_reducible first | apply SC_d | apply SG_d | apply SG_n | apply SC_b | apply SG_b) <;> intro hc <;> try simp only [decide_eq_true_eq, decide_eq_false_iff_not, Classical.not_not, Bool.not_eq_true', Bool.not_eq_false'] at hc))
        (first | exact fincR | exact fincN)
      · have h0Z : ¬ (x.length : Int) = 0 := by omega
        have h0Z' : (0 : Int) < x.length := by omega
        have hhd : x.headD ⟨[], true, true⟩ = x[0] := by
          cases x with
          | nil => simp at h0
          | cons a x => rfl
        rw [hhd] at hN0
        rw [hhd] at h63
        by_cases hev : ∀ a ∈ x, a.s.length = x[0].s.length
        · have hevd : U i = true := by rw [show U = upto (fun j => ∀ h : j < x.length, x[j].s.length = N0) from hU]; exact upto_t (fun j _ h => by rw [hN0]; exact hev _ (List.getElem_mem h))
          rw [hevd] at e3
          simp only [dif_pos (show 0 < x.length ∧ ∀ a ∈ x, a.s.length = x[0].s.length from ⟨h0, hev⟩)] at h63
          obtain ⟨C, hC⟩ : ∃ C, C = comF x x[0].l x[0].s.length := ⟨_, rfl⟩
          have hCl : C.length ≤ x[0].s.length := by rw [hC]; exact comF_len _ _ _
          rw [← hC] at h63
          rw [lst_l] at h63
          have hs0 := hs _ (List.getElem_mem h0)
          have hx0s := (hsmall _ (List.getElem_mem h0)).1
          clear hsm hevd hhd
          repeat' (first | ((with_reducible first | apply S_0 | apply S_q1 | apply S_g | apply S_c); exact sgc) | (with_reducible first | apply SO_q | apply SG_t | apply SG_f0 | apply SG_f1 | apply S_nil | apply T_n | apply W_seq | apply W_region | apply SO_x | apply SC_t | apply SC_f | apply W_block | apply W_ret | apply W_skip | apply W_exit | apply T_r | apply T_e | apply B_n | apply B_e) | (with_reducible apply B_ne; focus decide) | (with_reducible first | apply B_r | apply R_e | apply R_r | apply H_e | apply H_r | apply G_e | apply G_r) | (with_reducible apply SC_n) | ((with_reducible first | apply SC_d | apply SG_d | apply SG_n | apply SC_b | apply SG_b) <;> intro hc <;> try simp only [decide_eq_true_eq, decide_eq_false_iff_not, Classical.not_not, Bool.not_eq_true', Bool.not_eq_false'] at hc))
          refine W_rngM 7 0 x[0].s.length (fun v e m => ∃ w G, e 6 = w ∧ m = M ++ G ∧ Own M.length (M ++ G) w 1 (intsA (comF x x[0].l v))) (by simp only [asg, asgO, List.append_nil, List.nil_append, List.cons_append]; rfl) (by exact svc) (by omega)
            ⟨.list 1 [] true true, [], by exact svc, by simp, by simpa [comF, intsA] using Own.nil _ _ (by decide)⟩ ?_
          rintro v e2 _ hv0 hv hk2 e7 ⟨w, G, e6, rfl, hO⟩
          have j0 : e2 0 = .list 1 (x.map Sta.av) nx cx := by rw [hk2 0 rfl]; exact svc
          have j5 : e2 5 = .list 1 (intsA C) C.isEmpty C.isEmpty := by rw [hk2 5 rfl]; exact svc
          have hcl := comF_len x x[0].l v
          clear hk2 k0 e3 e4 h63
          rcases Nat.lt_or_ge v x[0].s.length with hvl | hvl
          · have hvZ : (v : Int) < x[0].s.length := by omega
            obtain ⟨V, hV⟩ : ∃ V, Hid (V = upto (fun j => ∀ h : j < x.length, x[j].l.getD v [] = x[0].l.getD v [])) := ⟨_, show _ = _ from rfl⟩
            repeat' (first | ((with_reducible first | apply S_0 | apply S_q1 | apply S_g | apply S_c); exact sgc) | (with_reducible first | apply SO_q | apply SG_t | apply SG_f0 | apply SG_f1 | apply S_nil | apply T_n | apply W_seq | apply W_region | apply SO_x | apply SC_t | apply SC_f | apply W_block | apply W_ret | apply W_skip | apply W_exit | apply T_r | apply T_e | apply B_n | apply B_e) | (with_reducible apply B_ne; focus decide) | (with_reducible first | apply B_r | apply R_e | apply R_r | apply H_e | apply H_r | apply G_e | apply G_r) | (with_reducible apply SC_n) | ((with_reducible first | apply SC_d | apply SG_d | apply SG_n | apply SC_b | apply SG_b) <;> intro hc <;> try simp only [decide_eq_true_eq, decide_eq_false_iff_not, Classical.not_not, Bool.not_eq_true', Bool.not_eq_false'] at hc))
            refine W_rng 9 0 x.length (fun k e' => e' 8 = .flat (.bool (V k))) (by simp only [asg, asgO, List.append_nil, List.nil_append, List.cons_append]; rfl) (by exact svc) (by omega) (by
              have : V 0 = true := by rw [show V = upto (fun j => ∀ h : j < x.length, x[j].l.getD v [] = x[0].l.getD v []) from hV]; exact upto0 _
              rw [this]; exact svc) ?_
            rintro k e3 hk0 hkl hkk e9 e8
            have i0 : e3 0 = .list 1 (x.map Sta.av) nx cx := by rw [hkk 0 rfl]; exact svc
            have i5 : e3 5 = .list 1 (intsA C) C.isEmpty C.isEmpty := by rw [hkk 5 rfl]; exact svc
            have i6 : e3 6 = w := by rw [hkk 6 rfl]; exact svc
            have i7 : e3 7 = .flat (.int .i64 v) := by rw [hkk 7 rfl]; exact svc
            clear hkk j0 j5 e6 e7
            rcases Nat.lt_or_ge k x.length with hkx | hkx
            · have hkZ : (k : Int) < x.length := by omega
              have hkv : v < x[k].s.length := by rw [hev _ (List.getElem_mem hkx)]; exact hvl
              have hkvZ : (v : Int) < x[k].s.length := by omega
              have hle := x[k].s[v].le
              by_cases hal : ∀ j, j < k → ∀ h : j < x.length, x[j].l.getD v [] = x[0].l.getD v []
              · have hald : V k = true := by rw [show V = upto (fun j => ∀ h : j < x.length, x[j].l.getD v [] = x[0].l.getD v []) from hV]; exact upto_t (hal)
                have hst : V (k + 1) = decide (x[k].s[v].l = x[0].s[v].l) := by rw [show V = upto (fun j => ∀ h : j < x.length, x[j].l.getD v [] = x[0].l.getD v []) from hV]; exact upto_s hal (by
                  rw [decide_eq_true_iff]
                  refine ⟨fun g _ => by rw [Sta.l, Sta.l, pl_getD hkv, pl_getD hvl]; exact g, fun g => ?_⟩
                  have := g hkx
                  rwa [Sta.l, Sta.l, pl_getD hkv, pl_getD hvl] at this)
                rw [hald] at e8
                clear hal hald hs hev hsmall hO
                repeat' (first | ((with_reducible first | apply S_0 | apply S_q1 | apply S_g | apply S_c); exact sgc) | (with_reducible first | apply SO_q | apply SG_t | apply SG_f0 | apply SG_f1 | apply S_nil | apply T_n | apply W_seq | apply W_region | apply SO_x | apply SC_t | apply SC_f | apply W_block | apply W_ret | apply W_skip | apply W_exit | apply T_r | apply T_e | apply B_n | apply B_e) | (with_reducible apply B_ne; focus decide) | (with_reducible first | apply B_r | apply R_e | apply R_r | apply H_e | apply H_r | apply G_e | apply G_r) | (with_reducible apply SC_n) | ((with_reducible first | apply SC_d | apply SG_d | apply SG_n | apply SC_b | apply SG_b) <;> intro hc <;> try simp only [decide_eq_true_eq, decide_eq_false_iff_not, Classical.not_not, Bool.not_eq_true', Bool.not_eq_false'] at hc))
                all_goals exact H_n (by exact svc) hkx (by exact svc)
              · have hald : V k = false := by rw [show V = upto (fun j => ∀ h : j < x.length, x[j].l.getD v [] = x[0].l.getD v []) from hV]; exact upto_f (hal)
                have hst : V (k + 1) = false := by rw [show V = upto (fun j => ∀ h : j < x.length, x[j].l.getD v [] = x[0].l.getD v []) from hV]; exact upto_f (fun g => hal fun j hj => g j (by omega))
                rw [hald] at e8
                clear hal hald hs hev hsmall hO
                repeat' (first | ((with_reducible first | apply S_0 | apply S_q1 | apply S_g | apply S_c); exact sgc) | (with_reducible first | apply SO_q | apply SG_t | apply SG_f0 | apply SG_f1 | apply S_nil | apply T_n | apply W_seq | apply W_region | apply SO_x | apply SC_t | apply SC_f | apply W_block | apply W_ret | apply W_skip | apply W_exit | apply T_r | apply T_e | apply B_n | apply B_e) | (with_reducible apply B_ne; focus decide) | (with_reducible first | apply B_r | apply R_e | apply R_r | apply H_e | apply H_r | apply G_e | apply G_r) | (with_reducible apply SC_n) | ((with_reducible first | apply SC_d | apply SG_d | apply SG_n | apply SC_b | apply SG_b) <;> intro hc <;> try simp only [decide_eq_true_eq, decide_eq_false_iff_not, Classical.not_not, Bool.not_eq_true', Bool.not_eq_false'] at hc))
                all_goals exact H_n (by exact svc) hkx (by exact svc)
            · have hkZ : ¬ (k : Int) < x.length := by omega
              by_cases hal : ∀ a ∈ x, a.l.getD v [] = x[0].l.getD v []
              · have hald : V k = true := by rw [show V = upto (fun j => ∀ h : j < x.length, x[j].l.getD v [] = x[0].l.getD v []) from hV]; exact upto_t (fun j _ h => hal _ (List.getElem_mem h))
                have hcf : intsA (comF x x[0].l (v + 1)) = intsA (comF x x[0].l v) ++ [.flat (.int .i64 v)] := by
                  simp only [comF]; rw [if_pos hal]; simp [intsA]
                rw [hald] at e8
                clear hal hald hs hev hsmall
                repeat' (first | ((with_reducible first | apply S_0 | apply S_q1 | apply S_g | apply S_c); exact sgc) | (with_reducible first | apply SO_q | apply SG_t | apply SG_f0 | apply SG_f1 | apply S_nil | apply T_n | apply W_seq | apply W_region | apply SO_x | apply SC_t | apply SC_f | apply W_block | apply W_ret | apply W_skip | apply W_exit | apply T_r | apply T_e | apply B_n | apply B_e) | (with_reducible apply B_ne; focus decide) | (with_reducible first | apply B_r | apply R_e | apply R_r | apply H_e | apply H_r | apply G_e | apply G_r) | (with_reducible apply SC_n) | ((with_reducible first | apply SC_d | apply SG_d | apply SG_n | apply SC_b | apply SG_b) <;> intro hc <;> try simp only [decide_eq_true_eq, decide_eq_false_iff_not, Classical.not_not, Bool.not_eq_true', Bool.not_eq_false'] at hc))
                (refine S_ownG (cs := intsA (comF x x[0].l v)) M G (by assumption) (by first | rfl | simp only [List.append_assoc, List.cons_append, List.nil_append]) (by exact sgc) (by exact sgc) (by exact sgc) (by exact sgc) (by exact sgc) (by (first | assumption | omega | (simp only [ints_len, Nat.div_one, Nat.one_mul, Nat.mul_one, List.length_map, rks_len, half, List.length_cons, List.length_nil, List.length_append, List.length_replicate]; omega))) (by (first | assumption | omega | (simp only [ints_len, Nat.div_one, Nat.one_mul, Nat.mul_one, List.length_map, rks_len, half, List.length_cons, List.length_nil, List.length_append, List.length_replicate]; omega))) (by first | omega | (simp; done) | (simp; omega)) ?_)
                intro v' G' hO2
                rw [← hcf] at hO2
                repeat' (first | ((with_reducible first | apply S_0 | apply S_q1 | apply S_g | apply S_c); exact sgc) | (with_reducible first | apply SO_q | apply SG_t | apply SG_f0 | apply SG_f1 | apply S_nil | apply T_n | apply W_seq | apply W_region | apply SO_x | apply SC_t | apply SC_f | apply W_block | apply W_ret | apply W_skip | apply W_exit | apply T_r | apply T_e | apply B_n | apply B_e) | (with_reducible apply B_ne; focus decide) | (with_reducible first | apply B_r | apply R_e | apply R_r | apply H_e | apply H_r | apply G_e | apply G_r) | (with_reducible apply SC_n) | ((with_reducible first | apply SC_d | apply SG_d | apply SG_n | apply SC_b | apply SG_b) <;> intro hc <;> try simp only [decide_eq_true_eq, decide_eq_false_iff_not, Classical.not_not, Bool.not_eq_true', Bool.not_eq_false'] at hc))
                exact G_n (by exact svc) hvl ⟨v', G', by exact svc, rfl, hO2⟩
              · have hald : V k = false := by rw [show V = upto (fun j => ∀ h : j < x.length, x[j].l.getD v [] = x[0].l.getD v []) from hV]; exact upto_f (fun g => hal (all_of (Q := fun a => a.l.getD v [] = x[0].l.getD v []) (i := k) hkx g))
                have hcf : comF x x[0].l (v + 1) = comF x x[0].l v := by
                  simp only [comF]; rw [if_neg hal]; simp
                rw [hald] at e8
                rw [← hcf] at hO
                clear hal hald hs hev hsmall
                repeat' (first | ((with_reducible first | apply S_0 | apply S_q1 | apply S_g | apply S_c); exact sgc) | (with_reducible first | apply SO_q | apply SG_t | apply SG_f0 | apply SG_f1 | apply S_nil | apply T_n | apply W_seq | apply W_region | apply SO_x | apply SC_t | apply SC_f | apply W_block | apply W_ret | apply W_skip | apply W_exit | apply T_r | apply T_e | apply B_n | apply B_e) | (with_reducible apply B_ne; focus decide) | (with_reducible first | apply B_r | apply R_e | apply R_r | apply H_e | apply H_r | apply G_e | apply G_r) | (with_reducible apply SC_n) | ((with_reducible first | apply SC_d | apply SG_d | apply SG_n | apply SC_b | apply SG_b) <;> intro hc <;> try simp only [decide_eq_true_eq, decide_eq_false_iff_not, Classical.not_not, Bool.not_eq_true', Bool.not_eq_false'] at hc))
                exact G_n (by exact svc) hvl ⟨w, G, by exact svc, rfl, hO⟩
          · have hvZ : ¬ (v : Int) < x[0].s.length := by omega
            obtain rfl : v = x[0].s.length := by omega
            rw [← hC] at hO
            have h22 := t22v C C C.isEmpty C.isEmpty w (M ++ G) (by omega) hO.view (by have := hO.lenOf; simpa [intsA] using this)
            rw [decide_eq_true rfl] at h22
            clear hs hev hsmall hO hC
            repeat' (first | ((with_reducible first | apply S_0 | apply S_q1 | apply S_g | apply S_c); exact sgc) | (with_reducible first | apply SO_q | apply SG_t | apply SG_f0 | apply SG_f1 | apply S_nil | apply T_n | apply W_seq | apply W_region | apply SO_x | apply SC_t | apply SC_f | apply W_block | apply W_ret | apply W_skip | apply W_exit | apply T_r | apply T_e | apply B_n | apply B_e) | (with_reducible apply B_ne; focus decide) | (with_reducible first | apply B_r | apply R_e | apply R_r | apply H_e | apply H_r | apply G_e | apply G_r) | (with_reducible apply SC_n) | ((with_reducible first | apply SC_d | apply SG_d | apply SG_n | apply SC_b | apply SG_b) <;> intro hc <;> try simp only [decide_eq_true_eq, decide_eq_false_iff_not, Classical.not_not, Bool.not_eq_true', Bool.not_eq_false'] at hc))
            (first | exact fincR | exact fincN)
        · have hevd : U i = false := by rw [show U = upto (fun j => ∀ h : j < x.length, x[j].s.length = N0) from hU]; exact upto_f (fun g => hev (all_of (Q := fun a => a.s.length = x[0].s.length) (i := i) hlt fun j hj h => by rw [g j hj h, hN0]))
          rw [hevd] at e3
          simp only [dif_neg (show ¬ (0 < x.length ∧ ∀ a ∈ x, a.s.length = x[0].s.length) from fun h => hev h.2)] at h63
          have hl0 := lst_len []
          clear hs hsm hsmall hev
          repeat' (first | ((with_reducible first | apply S_0 | apply S_q1 | apply S_g | apply S_c); exact sgc) | (with_reducible first | apply SO_q | apply SG_t | apply SG_f0 | apply SG_f1 | apply S_nil | apply T_n | apply W_seq | apply W_region | apply SO_x | apply SC_t | apply SC_f | apply W_block | apply W_ret | apply W_skip | apply W_exit | apply T_r | apply T_e | apply B_n | apply B_e) | (with_reducible apply B_ne; focus decide) | (with_reducible first | apply B_r | apply R_e | apply R_r | apply H_e | apply H_r | apply G_e | apply G_r) | (with_reducible apply SC_n) | ((with_reducible first | apply SC_d | apply SG_d | apply SG_n | apply SC_b | apply SG_b) <;> intro hc <;> try simp only [decide_eq_true_eq, decide_eq_false_iff_not, Classical.not_not, Bool.not_eq_true', Bool.not_eq_false'] at hc))
          (first | exact fincR | exact fincN)
  · have h20Z : (20 : Int) < x.length := by omega
    clear hs
    refine ev_fn' A12 ?_
    repeat' (first | ((with_reducible first | apply S_0 | apply S_q1 | apply S_g | apply S_c); exact sgc) | (with_reducible first | apply SO_q | apply SG_t | apply SG_f0 | apply SG_f1 | apply S_nil | apply T_n | apply W_seq | apply W_region | apply SO_x | apply SC_t | apply SC_f | apply W_block | apply W_ret | apply W_skip | apply W_exit | apply T_r | apply T_e | apply B_n | apply B_e) | (with_reducible apply B_ne; focus decide) | (with_reducible first | apply B_r | apply R_e | apply R_r | apply H_e | apply H_r | apply G_e | apply G_r) | (with_reducible apply SC_n) | ((with_reducible first | apply SC_d | apply SG_d | apply SG_n | apply SC_b | apply SG_b) <;> intro hc <;> try simp only [decide_eq_true_eq, decide_eq_false_iff_not, Classical.not_not, Bool.not_eq_true', Bool.not_eq_false'] at hc))
    (first | exact fincR | exact fincN)
theorem stas_has : ∀ {rows : List (List AV)}, (∀ r ∈ rows, dtState.Has r ∧ r.length = 1) → ∃ x : List Sta, rows.flatten = x.map Sta.av ∧ x.length = rows.length ∧ ∀ a ∈ x, a.s.length ≤ 9223372036854775807
  | [], _ => ⟨[], rfl, rfl, fun a h => by simp at h⟩
  | r :: rows, h => by
    obtain ⟨h1, h2⟩ := h r (by simp)
    obtain ⟨x, h3, h4, h5⟩ := stas_has (rows := rows) fun r hr => h r (by simp [hr])
    obtain ⟨rs, nl, cd, h6, h7, h8, h9, h10⟩ := h1
    obtain ⟨s, ns, cs, h11, h12⟩ := state_arg (x := .list 1 rs.flatten nl cd) ⟨rs, nl, cd, rfl, h7, h8, h9, h10⟩
    refine ⟨⟨s, ns, cs⟩ :: x, by rw [List.flatten_cons, h3, h6, h11]; rfl, by simp [h4], fun a ha => ?_⟩
    rcases List.mem_cons.1 ha with rfl | ha
    · exact h12
    · exact h5 a ha
theorem stas_arg {x : AV} (h : (DT.sl 1 dtState).Arg x) : ∃ (l : List Sta) (ns cs : Bool), x = .list 1 (l.map Sta.av) ns cs ∧ l.length ≤ 9223372036854775807 ∧ ∀ a ∈ l, a.s.length ≤ 9223372036854775807 := by
  obtain ⟨rows, nl, cd, h1, h2, h3, h4, h5⟩ := h
  simp only [List.cons.injEq, and_true] at h1
  obtain ⟨s, h6, h7, h8⟩ := stas_has h5
  rw [maxLen_eq] at h3
  exact ⟨s, nl, cd, by rw [h1, h6], by omega, h8⟩
theorem law_stableCommon (x0 : AV) (h0 : (DT.sl 1 dtState).Arg x0) : ev pr 12 [x0] [] = some (.q (.flat (.bool true))) := by
  obtain ⟨l, ns, cs, rfl, hl, hs⟩ := stas_arg h0
  exact law12 l ns cs hl hs []
end Go.Proofs.Ytopiaiibpacmlaa.Av
