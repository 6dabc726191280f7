/- Only. -/
import Derived.Test.YtopiaiibpacmlaaX12
namespace Go.Proofs.Ytopiaiibpacmlaa.Av
open Go.RowKit
set_option linter.unusedSimpArgs false
set_option linter.unusedVariables false
set_option maxHeartbeats 10000000
theorem set4 {M : MS} {a b c : Option (List AV)} {X : MS} {id : Nat} (h : M.length + 3 ≤ id) (C : Option (List AV)) : (M ++ (a :: b :: c :: X)).set id C = M ++ (a :: b :: c :: X.set (id - (M.length + 3)) C) := by
  rw [List.set_append_right _ _ (by omega), show id - M.length = (id - (M.length + 3)) + 1 + 1 + 1 by omega, List.set_cons_succ, List.set_cons_succ, List.set_cons_succ]
theorem get4 {M : MS} {a b c : Option (List AV)} {X : MS} {id : Nat} (h : M.length + 3 ≤ id) : (M ++ (a :: b :: c :: X))[id]? = X[id - (M.length + 3)]? := by
  rw [List.getElem?_append_right (by omega), show id - M.length = (id - (M.length + 3)) + 1 + 1 + 1 by omega, List.getElem?_cons_succ, List.getElem?_cons_succ, List.getElem?_cons_succ]
/-- One path alone stays. -/
theorem kp_one {x : List Rnk} {q : List Int} (hn : (paths x).Nodup) (hne : [] ∉ paths x) (hq : q = [] ∨ q ∈ paths x) : paths (kpI (fun _ p => ¬ p = q) x x.length) = oneL q := by
  have h1 : paths (kpI (fun _ p => ¬ p = q) x x.length) = (paths x).filter fun p => decide (p = q) := by
    refine sub_eq (kpI_subl _ _) hn fun p hp => ?_
    obtain ⟨j, hj, rfl⟩ := List.mem_iff_getElem.1 hp
    rw [paths_len] at hj
    rw [paths_get, kpI_mem hn hj]
    simp
  rw [h1]
  rcases hq with rfl | h
  · rw [List.filter_eq_nil_iff.2 fun p hp => by simp only [decide_eq_true_eq]; rintro rfl; exact hne hp]; rfl
  · rw [filter_one hn h fun y _ => by simp, oneL, if_neg (by rintro rfl; exact hne h)]
theorem fin_t2 {M X : MS} {N : Nat} {k : Int} {id : Nat} {l' : List Rks} (hb : M.length ≤ id) (hi : X[id]? = some (some (l'.map Rks.av))) (hl : l'.length = N) (hall : allI (l'.map Rks.av) = true) :
    fin M.length false (.tup [.agg [.flat (.int .i64 N), .ms id 0 N 1 false], .flat (.int .i64 k)]) X [] = some (.q (.tup [.agg [.flat (.int .i64 N), .list 1 (l'.map Rks.av) false false], .flat (.int .i64 k)])) := by
  have h1 : frzAll M.length X [.flat (.int .i64 N), .ms id 0 N 1 false] = some ([.flat (.int .i64 N), .list 1 (l'.map Rks.av) false false], X.set id none) := by
    simp only [frzAll, frz, isI, if_true, hi]
    rw [if_pos ⟨hb, by simp [hl], hall⟩]
    simp only
    rw [List.drop_zero, Nat.mul_one, List.take_of_length_le (by simp [hl])]
  simp only [fin, Bool.false_eq_true, if_false, frzV, frzTup, frzA, h1, Option.map_some, frz, isI, if_true]
  exact if_pos rfl
theorem t64 (n : Int) (l : List Rks) (nl cd : Bool) (s : List Pth) (ns cs : Bool) (M : MS) (hS : SmallX l) (hs : s.length ≤ 1000) (hsl : ∀ p ∈ s, p.l.length ≤ 1000) : ∃ out, ev pr 64 [.agg [.flat (.int .i64 n), .list 1 (l.map Rks.av) nl cd], .list 1 (s.map Pth.av) ns cs] M = some out ∧ ∃ (x : AV) (er : Int), out = .q (.tup [x, .flat (.int .i64 er)]) ∧
    (¬ MayS n l s → x = .agg [.flat (.int .i64 0), .list 1 [] true true] ∧ er = 1) ∧
    (MayS n l s → er = 0 ∧ ∃ y : List Rks, x = .agg [.flat (.int .i64 n), .list 1 (y.map Rks.av) false false] ∧ y.length = l.length ∧ MayX n y ∧ SmallX y ∧ plX y = onl (pl s)) := by
  have h70 := fun M => t70 n l nl cd s ns cs M hS hs
  by_cases hm : MayS n l s
  · simp only [hm, decide_true] at h70
    obtain ⟨rfl, hs1, hl1, hX⟩ := mayS_n hm
    obtain ⟨o29, h29, w, G0, rfl, hO⟩ := t29 l.length l nl cd (M ++ [some [.flat (.int .i64 l.length), .list 1 (l.map Rks.av) nl cd], some [.list 1 (s.map Pth.av) ns cs], some [.flat (.int .i64 0), .list 1 [] true true]]) (by have := hS.1; omega) fun r hr => ⟨by have := (hS.2 r hr).1; omega, fun q hq => by have := (hS.2 r hr).2 q hq; omega⟩
    rcases hO.own with ⟨_, h0⟩ | ⟨id, i1, i2, rfl, i4⟩
    · exfalso
      rw [List.map_eq_nil_iff, List.map_eq_nil_iff] at h0
      have h00 := congrArg List.length h0
      simp only [List.length_nil] at h00
      omega
    · suffices hq : ∃ out, ev pr 64 [.agg [.flat (.int .i64 l.length), .list 1 (l.map Rks.av) nl cd], .list 1 (s.map Pth.av) ns cs] M = some out ∧ ∃ y : List Rks, out = .q (.tup [.agg [.flat (.int .i64 l.length), .list 1 (y.map Rks.av) false false], .flat (.int .i64 0)]) ∧ y.length = l.length ∧ MayX l.length y ∧ SmallX y ∧ plX y = onl (pl s) by
        obtain ⟨out, h1, y, rfl, h2⟩ := hq
        exact ⟨_, h1, _, _, rfl, fun h => absurd hm h, fun _ => ⟨rfl, y, rfl, h2⟩⟩
      have hid : M.length + 3 ≤ id := by simp at i1; omega
      have i2' : id < M.length + 3 + G0.length := by simp at i2; omega
      have hlm : ((l.map cpR).map Rks.av).length / 1 = l.length := by simp
      rw [hlm] at h29
      have hml := may_cp hX
      have hms := small_cp hS
      have hmp := plX_cp l
      obtain ⟨N, hN⟩ : ∃ N, N = l.length := ⟨_, rfl⟩
      have hNH : Hid (N = l.length) := hN
      have hN12 : N ≤ 12 := by rw [hN]; exact hS.1
      have hN1 : 1 ≤ N := by omega
      have hN2 : (l.map cpR).length = N := by simp [hN]
      obtain ⟨lc0, hlc0⟩ : ∃ lc, lc = l.map cpR := ⟨_, rfl⟩
      rw [← hlc0] at i4 hml hms hmp hN2
      rw [← hN] at h29 hml h70 ⊢
      have hsN : s.length = N := by omega
      have hPn : id ≠ M.length + (G0.length + 3) := by omega
      simp only [List.append_assoc, List.cons_append, List.nil_append] at i4 h29
      have hmH : Hid (MayS l.length l s) := hm
      have hXH : Hid (MayX l.length l) := hX
      have hSH : Hid (SmallX l) := hS
      clear hN hlc0 hO i1 i2 hlm hX hS hm hs1 hl1
      refine ev_fnE A64 ?_
      repeat' (first | ((with_reducible first | apply S_0 | apply S_q1 | apply S_g | apply S_c); exact sgc) | (with_reducible first | apply SO_q | apply SG_t | apply SG_f0 | apply SG_f1 | apply S_nil | apply T_n | apply W_seq | apply W_region | apply SO_x | apply SC_t | apply SC_f | apply W_block | apply W_ret | apply W_skip | apply W_exit | apply T_r | apply T_e | apply B_n | apply B_e) | (with_reducible apply B_ne; focus decide) | (with_reducible first | apply B_r | apply R_e | apply R_r | apply H_e | apply H_r | apply G_e | apply G_r) | (with_reducible apply SC_n) | ((with_reducible first | apply SC_d | apply SG_d | apply SG_n | apply SC_b | apply SG_b) <;> intro hc <;> try simp only [decide_eq_true_eq, decide_eq_false_iff_not, Classical.not_not, Bool.not_eq_true', Bool.not_eq_false'] at hc))
      refine W_whl (fun q e m d => ∃ (i : Nat) (lc : List Rks) (Y : MS), q = N - i ∧ 1 ≤ i ∧ i ≤ N ∧ e 7 = .mptr (M.length + (Y.length + 3)) 0 ∧ m = M ++ (some [AV.flat (.int .i64 N), AV.list 1 (l.map Rks.av) nl cd] :: some [AV.list 1 (s.map Pth.av) ns cs] :: some [AV.flat (.int .i64 0), AV.list 1 [] true true] :: (Y ++ [some [.flat (.int .i64 i)]])) ∧ d = [] ∧ (∀ c Z, (M ++ (some [AV.flat (.int .i64 N), AV.list 1 (l.map Rks.av) nl cd] :: some [AV.list 1 (s.map Pth.av) ns cs] :: c :: (Y ++ Z)))[id]? = some (some (lc.map Rks.av))) ∧
          (∀ c Z, (M ++ (some [AV.flat (.int .i64 N), AV.list 1 (l.map Rks.av) nl cd] :: some [AV.list 1 (s.map Pth.av) ns cs] :: c :: (Y ++ Z)))[M.length + (G0.length + 3)]? = some (some [.flat (.int .i64 N), .ms id 0 N 1 false])) ∧ lc.length = N ∧ MayX N lc ∧ SmallX lc ∧ (∀ u, (plX lc).getD u [] = if 1 ≤ u ∧ u < i then oneL ((pl s).getD u []) else (plX l).getD u [])) (N - 1) (by simp only [asg, asgO, List.append_nil, List.nil_append, List.cons_append]; rfl)
        ⟨1, lc0, G0 ++ [some [.flat (.int .i64 N), .ms id 0 N 1 false]], rfl, Nat.le_refl _, hN1, ?_, by simp, rfl, fun c Z => ?_, fun c Z => ?_, hN2, hml, hms, fun u => ?_⟩ ?_
      · rw [List.length_append, List.length_singleton, show G0.length + 1 + 3 = G0.length + 4 by omega]; exact svc
      · rw [get4 hid] at i4 ⊢
        rw [List.append_assoc, List.getElem?_append_left (by omega)]; exact i4
      · rw [get4 (by omega), show M.length + (G0.length + 3) - (M.length + 3) = G0.length by omega, List.append_assoc, List.getElem?_append_right (Nat.le_refl _), Nat.sub_self]
        rfl
      · rw [hmp, if_neg (by omega)]
      rintro q e m d hk ⟨i, lc, Y, rfl, hi1, hi, e7, rfl, rfl, hYi, hYP, hlc, hXc, hSc, hpx⟩
      have k2 : e 2 = .mptr M.length 0 := by rw [hk 2 rfl]; exact svc
      have k3 : e 3 = .mptr (M.length + 1) 0 := by rw [hk 3 rfl]; exact svc
      have k4 : e 4 = .mptr (M.length + 2) 0 := by rw [hk 4 rfl]; exact svc
      have k6 : e 6 = .mptr (M.length + (G0.length + 3)) 0 := by rw [hk 6 rfl]; exact svc
      clear hk h29 i4 h70
      have hX : MayX l.length l := hXH
      have hN : N = l.length := hNH
      have hm : MayS l.length l s := hmH
      rcases Nat.lt_or_ge i N with hlt | hlt
      · have hlt' : (i : Int) < N := by omega
        have hil : i < lc.length := by omega
        have his : i < s.length := by omega
        have hll : i < l.length := by omega
        have hok := hXc.2.2.2.2 i hil hi1
        have h70 := (hSc.2 _ (List.getElem_mem hil)).1
        have hple := hsl _ (List.getElem_mem his)
        have hpi : paths lc[i].l = paths l[i].l := by
          have := hpx i
          rwa [plX_get hil, if_neg (by omega), plX_get hll] at this
        have hone : paths (kpI (fun _ p => ¬ p = s[i].l) lc[i].l lc[i].l.length) = oneL s[i].l := by
          refine kp_one (lok_nodup hok) (fun h => ?_) ?_
          · obtain ⟨q, hq, e⟩ := List.mem_map.1 h
            have := (lok_path hok q hq).1
            rw [e] at this; simp at this
          · rw [hpi]; exact hm.2.2.2 i his hll hi1
        have hMi := hYi (some [.flat (.int .i64 0), .list 1 [] true true]) [some [.flat (.int .i64 i)]]
        have hidl := (List.getElem?_eq_some_iff.1 hMi).1
        have hYl : id - (M.length + 3) < Y.length := by
          have := hYi none []
          rw [get4 hid, List.append_nil] at this
          exact (List.getElem?_eq_some_iff.1 this).1
        have h105 := t105 (n := N) (c1 := false) (fn := 106) (caps := [.mptr (M.length + 1) 0, .mptr (M.length + (Y.length + 3)) 0]) hidl hMi hil (fun _ p => ¬ p = s[i].l) (by omega) fun j hj X => by
          refine t106 (s := s) (ns := ns) (cs := cs) (v := i) (by have := (hSc.2 _ (List.getElem_mem hil)).2 _ (List.getElem_mem hj); omega) (by simp <;> omega) ?_ (by simp <;> omega) ?_ his
          · rw [List.append_assoc, List.getElem?_append_right (by omega), Nat.add_sub_cancel_left]; rfl
          · rw [List.append_assoc, List.getElem?_append_right (by omega), Nat.add_sub_cancel_left]
            simp only [List.cons_append, List.append_assoc, List.getElem?_cons_succ]
            rw [List.getElem?_append_right (Nat.le_refl _), Nat.sub_self]; rfl
        rw [hlc, set4 hid, List.set_append_left _ _ hYl] at h105
        obtain ⟨l1, hl1⟩ : ∃ l1, l1 = lc.set i (kpR (fun _ p => ¬ p = s[i].l) lc[i]) := ⟨_, rfl⟩
        obtain ⟨n1, hn1⟩ : ∃ n1 : Int, n1 = (lc[i].l.length : Int) - ((kpI (fun _ p => ¬ p = s[i].l) lc[i].l lc[i].l.length).length : Int) := ⟨_, rfl⟩
        rw [← hl1, ← hn1] at h105
        obtain ⟨Y1, hY1⟩ : ∃ Y1, Y1 = Y.set (id - (M.length + 3)) (some (l1.map Rks.av)) := ⟨_, rfl⟩
        have hY1l : Y1.length = Y.length := by rw [hY1]; simp
        rw [← hY1] at h105
        have b1 : l1.length = N := by rw [hl1]; simp [hlc]
        have b2 : MayX N l1 := by rw [hl1]; exact mayX_setR hXc hi1 hil (kpI_subl _ _) (kpI_rk _ _ _)
        have b3 : SmallX l1 := by rw [hl1]; exact small_setR hSc hil (kpI_subl _ _)
        have b4 : ∀ u, (plX l1).getD u [] = if 1 ≤ u ∧ u < i + 1 then oneL ((pl s).getD u []) else (plX l).getD u [] := fun u => by
          rw [hl1, plX_set]
          by_cases hu : u = i
          · subst hu
            rw [if_pos ⟨hi1, by omega⟩, pl_getD his, ← hone]
            simp only [List.getD]
            rw [List.getElem?_set_self (by rw [plX_len]; exact hil)]; rfl
          · have h1 : ((plX lc).set i (paths (kpR (fun _ p => ¬ p = s[i].l) lc[i]).l)).getD u [] = (plX lc).getD u [] := by
              simp only [List.getD]
              rw [List.getElem?_set_ne (Ne.symm hu)]
            rw [h1, hpx u]
            by_cases h2 : 1 ≤ u ∧ u < i
            · rw [if_pos h2, if_pos ⟨h2.1, by omega⟩]
            · rw [if_neg h2, if_neg (by omega)]
        have c1 : ∀ c Z, (M ++ (some [AV.flat (.int .i64 N), AV.list 1 (l.map Rks.av) nl cd] :: some [AV.list 1 (s.map Pth.av) ns cs] :: c :: (Y1 ++ Z)))[id]? = some (some (l1.map Rks.av)) := fun c Z => by
          rw [get4 hid, List.getElem?_append_left (by omega), hY1, List.getElem?_set_self hYl]
        have c2 : ∀ c Z, (M ++ (some [AV.flat (.int .i64 N), AV.list 1 (l.map Rks.av) nl cd] :: some [AV.list 1 (s.map Pth.av) ns cs] :: c :: (Y1 ++ Z)))[M.length + (G0.length + 3)]? = some (some [.flat (.int .i64 N), .ms id 0 N 1 false]) := fun c Z => by
          have h0 := hYP c Z
          have h1 := hYP c []
          rw [get4 (by omega)] at h0 h1 ⊢
          rw [List.append_nil] at h1
          have h2 := (List.getElem?_eq_some_iff.1 h1).1
          rw [List.getElem?_append_left h2] at h0
          rw [List.getElem?_append_left (by omega), hY1, List.getElem?_set_ne (by omega)]
          exact h0
        have hfil : List.filter (fun x => decide (x < M.length)) [id] = [] := by simp; omega
        have hP1 : ∀ (c x : Option (List AV)) (Z : MS), (M ++ (some [AV.flat (.int .i64 N), AV.list 1 (l.map Rks.av) nl cd] :: some [AV.list 1 (s.map Pth.av) ns cs] :: c :: (Y1 ++ (x :: Z))))[M.length + (Y.length + 3)]? = some x := fun c x Z => by
          rw [get4 (by omega), show M.length + (Y.length + 3) - (M.length + 3) = Y1.length by omega, List.getElem?_append_right (Nat.le_refl _), Nat.sub_self]; rfl
        clear hYi hY1l hl1 hY1 hMi hidl hpx hone hpi hok hXc hSc hX hm hN hn1 hYl
        repeat' (first | ((with_reducible first | apply S_0 | apply S_q1 | apply S_g | apply S_c); exact sgc) | (with_reducible first | apply SO_q | apply SG_t | apply SG_f0 | apply SG_f1 | apply S_nil | apply T_n | apply W_seq | apply W_region | apply SO_x | apply SC_t | apply SC_f | apply W_block | apply W_ret | apply W_skip | apply W_exit | apply T_r | apply T_e | apply B_n | apply B_e) | (with_reducible apply B_ne; focus decide) | (with_reducible first | apply B_r | apply R_e | apply R_r | apply H_e | apply H_r | apply G_e | apply G_r) | (with_reducible apply SC_n) | ((with_reducible first | apply SC_d | apply SG_d | apply SG_n | apply SC_b | apply SG_b) <;> intro hc <;> try simp only [decide_eq_true_eq, decide_eq_false_iff_not, Classical.not_not, Bool.not_eq_true', Bool.not_eq_false'] at hc))
        refine R_n (N - (i + 1)) (by omega) ⟨i + 1, l1, Y1 ++ [some [.flat (.int .i64 i)]], rfl, by omega, by omega, ?_, by simp, rfl, fun c Z => ?_, fun c Z => ?_, b1, b2, b3, b4⟩
        · rw [List.length_append, List.length_singleton, show Y1.length + 1 + 3 = Y1.length + 4 by omega]; exact svc
        · rw [List.append_assoc]; exact c1 c _
        · rw [List.append_assoc]; exact c2 c _
      · have hlt' : ¬ (i : Int) < N := by omega
        obtain rfl : i = N := by omega
        have hall := allI_rkss lc
        have hYi2 := fun c => hYi c [some [.flat (.int .i64 i)]]
        have hYP2 := fun c => hYP c [some [.flat (.int .i64 i)]]
        have hy : plX lc = onl (pl s) := by
          have hl1 : (onl (pl s)).length = i := by simp only [onl, List.length_cons, List.length_map, List.length_drop, pl_len]; omega
          refine List.ext_getElem (by rw [plX_len, hl1, hlc]) fun u h1 h2 => ?_
          have := hpx u
          rw [show (plX lc).getD u [] = (plX lc)[u] by simp [List.getD, h1]] at this
          rw [this]
          rcases Nat.eq_zero_or_pos u with rfl | hu
          · rw [if_neg (by omega), (ok_plX hX).1]; rfl
          · rw [if_pos ⟨hu, by omega⟩, ← onl_getD hu]
            simp [List.getD, h2]
        clear hpx hXH hSH hX hmH hm hsl hN hNH hsN
        repeat' (first | ((with_reducible first | apply S_0 | apply S_q1 | apply S_g | apply S_c); exact sgc) | (with_reducible first | apply SO_q | apply SG_t | apply SG_f0 | apply SG_f1 | apply S_nil | apply T_n | apply W_seq | apply W_region | apply SO_x | apply SC_t | apply SC_f | apply W_block | apply W_ret | apply W_skip | apply W_exit | apply T_r | apply T_e | apply B_n | apply B_e) | (with_reducible apply B_ne; focus decide) | (with_reducible first | apply B_r | apply R_e | apply R_r | apply H_e | apply H_r | apply G_e | apply G_r) | (with_reducible apply SC_n) | ((with_reducible first | apply SC_d | apply SG_d | apply SG_n | apply SC_b | apply SG_b) <;> intro hc <;> try simp only [decide_eq_true_eq, decide_eq_false_iff_not, Classical.not_not, Bool.not_eq_true', Bool.not_eq_false'] at hc))
        refine ⟨.inr rfl, .q (.tup [.agg [.flat (.int .i64 i), .list 1 (lc.map Rks.av) false false], .flat (.int .i64 0)]), ?_, lc, rfl, hlc, hXc, hSc, hy⟩
        simp only [resA, rvA, tupA, Option.bind_some]
        (simp (disch := first | assumption | decide | omega | exact Pth.le _ | exact Rks.le _ | exact List.getElem_mem _ | exact allI_ints _ | exact allI_rks _ | exact allI_pths _ | exact Pth.nil _ | exact Rks.nil _ | (intro hh; simp only [Pth.nil _ hh, List.take_nil, List.drop_nil]; done) | (intro hh; simp only [Rks.nil _ hh, List.take_nil, List.drop_nil]; done) | (simp only [List.length_take, List.length_drop, List.length_append, List.length_cons, List.length_nil, List.length_replicate, List.length_map, ints_len]; omega)) only [go_sem, if_pos, if_neg, Nat.reduceBEq, Nat.reduceEqDiff, ↓reduceIte, Nat.reduceSub, Nat.reduceAdd, Int.reduceToNat, reduceCtorEq, Nat.reduceLeDiff, Nat.reduceLT, Nat.reduceMul, Nat.reduceDiv, Int.reduceLT, Int.reduceLE, Int.reduceEq, Int.reduceNe, Int.reduceAdd, Int.reduceSub, Int.reduceNeg, Int.reduceGT, Int.reduceGE, Int.reduceBEq, Int.reduceBNe, Int.reduceMul, *])
        exact fin_t2 (by omega) (hYi _ _) hlc hall
  · simp only [hm, decide_false] at h70
    refine ev_fnE A64 ?_
    repeat' (first | ((with_reducible first | apply S_0 | apply S_q1 | apply S_g | apply S_c); exact sgc) | (with_reducible first | apply SO_q | apply SG_t | apply SG_f0 | apply SG_f1 | apply S_nil | apply T_n | apply W_seq | apply W_region | apply SO_x | apply SC_t | apply SC_f | apply W_block | apply W_ret | apply W_skip | apply W_exit | apply T_r | apply T_e | apply B_n | apply B_e) | (with_reducible apply B_ne; focus decide) | (with_reducible first | apply B_r | apply R_e | apply R_r | apply H_e | apply H_r | apply G_e | apply G_r) | (with_reducible apply SC_n) | ((with_reducible first | apply SC_d | apply SG_d | apply SG_n | apply SC_b | apply SG_b) <;> intro hc <;> try simp only [decide_eq_true_eq, decide_eq_false_iff_not, Classical.not_not, Bool.not_eq_true', Bool.not_eq_false'] at hc))
    refine ⟨.inr rfl, .q (.tup [.agg [.flat (.int .i64 0), .list 1 [] true true], .flat (.int .i64 1)]), ?_, _, _, rfl, fun _ => ⟨rfl, rfl⟩, fun h => absurd h hm⟩
    simp only [resA, rvA, tupA, fin, frzV, frzTup, frzA, frz, isI, isI.all, Option.bind_some]
    (simp (disch := first | assumption | decide | omega | exact Pth.le _ | exact Rks.le _ | exact List.getElem_mem _ | exact allI_ints _ | exact allI_rks _ | exact allI_pths _ | exact Pth.nil _ | exact Rks.nil _ | (intro hh; simp only [Pth.nil _ hh, List.take_nil, List.drop_nil]; done) | (intro hh; simp only [Rks.nil _ hh, List.take_nil, List.drop_nil]; done) | (simp only [List.length_take, List.length_drop, List.length_append, List.length_cons, List.length_nil, List.length_replicate, List.length_map, ints_len]; omega)) only [go_sem, if_pos, if_neg, Nat.reduceBEq, Nat.reduceEqDiff, ↓reduceIte, Nat.reduceSub, Nat.reduceAdd, Int.reduceToNat, reduceCtorEq, Nat.reduceLeDiff, Nat.reduceLT, Nat.reduceMul, Nat.reduceDiv, Int.reduceLT, Int.reduceLE, Int.reduceEq, Int.reduceNe, Int.reduceAdd, Int.reduceSub, Int.reduceNeg, Int.reduceGT, Int.reduceGE, Int.reduceBEq, Int.reduceBNe, Int.reduceMul, *])
    rfl
end Go.Proofs.Ytopiaiibpacmlaa.Av
