/- A node chooses. -/
import Derived.Test.YtopiaiibpacmlaaX8
namespace Go.Proofs.Ytopiaiibpacmlaa.Av
open Go.RowKit
set_option linter.unusedSimpArgs false
set_option linter.unusedVariables false
set_option maxHeartbeats 10000000
/-- A best response as a row of its own. -/
noncomputable def rcl (s : List Pth) (L : List Rnk) : Pth := ⟨resp (pl s) (paths L), (resp (pl s) (paths L)).isEmpty, (resp (pl s) (paths L)).isEmpty, fun h => ⟨List.isEmpty_iff.1 h, h⟩, by rw [← rsp_l]; exact Pth.le _⟩
theorem rcl_av (s : List Pth) (L : List Rnk) : (rcl s L).av = .list 1 (intsA (resp (pl s) (paths L))) (resp (pl s) (paths L)).isEmpty (resp (pl s) (paths L)).isEmpty := rfl
theorem set_pths (s : List Pth) (v : Nat) (r : Pth) (h : v < s.length) : (s.set v r).map Pth.av = (s.take v).map Pth.av ++ r.av :: (s.drop (v + 1)).map Pth.av := by
  rw [List.set_eq_take_append_cons_drop, if_pos h, List.map_append, List.map_cons]
theorem Vw.ms {M : MS} {id : Nat} {s : List Pth} {cd : Bool} (hid : id < M.length) (hM : M[id]? = some (some (s.map Pth.av))) : Vw M (.ms id 0 s.length 1 cd) (s.map Pth.av) s.length :=
  ⟨rfl, fun G => by rw [view_ms, List.getElem?_append_left hid, hM, viewD_s, if_pos (by simp)]; simp [List.take_of_length_le], rfl⟩
theorem t73 {l : List Rks} {nl cd c1 : Bool} {s : List Pth} {M : MS} {v id : Nat} (hid : id < M.length) (hM : M[id]? = some (some (s.map Pth.av))) (hX : MayX l.length l) (hS : SmallX l) (hs : s.length = l.length) (hv1 : 1 ≤ v) (hv2 : v < l.length) (hsv : v < s.length) :
    ev pr 73 [.agg [.flat (.int .i64 l.length), .list 1 (l.map Rks.av) nl cd], .ms id 0 s.length 1 c1, .flat (.int .i64 v)] M = some (.x (.flat (.bool (decide (¬ (s[v]'hsv).l = resp (pl s) (paths l[v].l))))) (M.set id (some ((s.set v (rcl s l[v].l)).map Pth.av))) [id]) := by
  have h90 := t90 (v := v) (nl := nl) (cd := cd) ((Vw.ms (cd := c1) hid hM).ext [some [.flat (.int .i64 l.length), .list 1 (l.map Rks.av) nl cd]]) hX hS hs hv1 hv2
  have hl12 := hS.1
  have hM1 : ∀ G, (M ++ G)[id]? = some (some (s.map Pth.av)) := fun G => by rw [List.getElem?_append_left hid, hM]
  have hS1 : ∀ (G : MS) (c : Option (List AV)), (M ++ G).set id c = M.set id c ++ G := fun G c => by rw [List.set_append_left _ _ hid]
  have q1 : ∀ (c : Option (List AV)) (L : MS), (M.set id c ++ L)[id]? = some c := fun c L => by rw [List.getElem?_append_left (by simpa using hid), List.getElem?_set_self hid]
  have q2 : ∀ (c : Option (List AV)) (L : MS), (M.set id c ++ L).take M.length = M.set id c := fun c L => List.take_left' (by simp)
  have hall : allI ((s.take v).map Pth.av ++ (rcl s l[v].l).av :: (s.drop (v + 1)).map Pth.av) = true := by rw [← set_pths s v _ hsv]; exact allI_pths _
  rw [set_pths s v _ hsv]
  rw [rcl_av] at hall ⊢
  clear hX hS hM hs
  refine ev_fn' A73 ?_
  repeat' (first | ((with_reducible first | apply S_0 | apply S_q1 | apply S_g | apply S_c); exact sgc) | (with_reducible first | apply SO_q | apply SG_t | apply SG_f0 | apply SG_f1 | apply S_nil | apply T_n | apply W_seq | apply W_region | apply SO_x | apply SC_t | apply SC_f | apply W_block | apply W_ret | apply W_skip | apply W_exit | apply T_r | apply T_e | apply B_n | apply B_e) | (with_reducible apply B_ne; focus decide) | (with_reducible first | apply B_r | apply R_e | apply R_r | apply H_e | apply H_r | apply G_e | apply G_r) | (with_reducible apply SC_n) | ((with_reducible first | apply SC_d | apply SG_d | apply SG_n | apply SC_b | apply SG_b) <;> intro hc <;> try simp only [decide_eq_true_eq, decide_eq_false_iff_not, Classical.not_not, Bool.not_eq_true', Bool.not_eq_false'] at hc))
  (refine ⟨by first | exact .inr rfl | exact .inl rfl, ?_⟩; simp (disch := first | assumption | decide | omega | exact Pth.le _ | exact Rks.le _ | exact List.getElem_mem _ | exact allI_ints _ | exact allI_rks _ | exact allI_pths _ | exact Pth.nil _ | exact Rks.nil _ | (intro hh; simp only [Pth.nil _ hh, List.take_nil, List.drop_nil]; done) | (intro hh; simp only [Rks.nil _ hh, List.take_nil, List.drop_nil]; done) | (simp only [List.length_take, List.length_drop, List.length_append, List.length_cons, List.length_nil, List.length_replicate, List.length_map, ints_len]; omega)) only [resA, rvA, tupA, fin, frzV, frzTup, frzA, frz, isI, isI.all, Option.bind_some, go_sem, if_pos, if_neg, Nat.reduceBEq, Nat.reduceEqDiff, ↓reduceIte, Nat.reduceSub, Nat.reduceAdd, Int.reduceToNat, reduceCtorEq, Nat.reduceLeDiff, Nat.reduceLT, Nat.reduceMul, Nat.reduceDiv, Int.reduceLT, Int.reduceLE, Int.reduceEq, Int.reduceNe, Int.reduceAdd, Int.reduceSub, Int.reduceNeg, Int.reduceGT, Int.reduceGE, Int.reduceBEq, Int.reduceBNe, Int.reduceMul, *])
  simp only [List.all_cons, List.all_nil, q1, hall, Bool.and_true, if_true, decide_not]
theorem filter_ge {D : List Nat} {n b : Nat} (h : ∀ x ∈ D, b ≤ x) (hn : n ≤ b) : D.filter (fun x => decide (x < n)) = [] := by
  rw [List.filter_eq_nil_iff]
  intro x hx
  have := h x hx
  simp only [decide_eq_true_eq]; omega
/-- .. of a row that its caller has made. -/
theorem t73o {l : List Rks} {nl cd : Bool} {s : List Pth} {B G : MS} {w : AV} {v : Nat} (hO : Own B.length (B ++ G) w 1 (s.map Pth.av)) (hX : MayX l.length l) (hS : SmallX l) (hs : s.length = l.length) (hv1 : 1 ≤ v) (hv2 : v < l.length) (hsv : v < s.length) :
    ∃ G' D, ev pr 73 [.agg [.flat (.int .i64 l.length), .list 1 (l.map Rks.av) nl cd], w, .flat (.int .i64 v)] (B ++ G) = some (.x (.flat (.bool (decide (¬ (s[v]'hsv).l = resp (pl s) (paths l[v].l))))) (B ++ G') D) ∧ (∀ x ∈ D, B.length ≤ x) ∧ Own B.length (B ++ G') w 1 ((s.set v (rcl s l[v].l)).map Pth.av) := by
  have hO2 := hO
  obtain ⟨a1, a2, a3, ⟨a4, _⟩ | ⟨a4, id, a5, a6, rfl, a8⟩⟩ := hO2
  · rw [List.map_eq_nil_iff] at a4; subst a4; simp at hsv
  · have hd : (s.map Pth.av).length / 1 = s.length := by simp
    rw [hd]
    refine ⟨G.set (id - B.length) (some ((s.set v (rcl s l[v].l)).map Pth.av)), [id], ?_, ?_, ?_⟩
    · rw [t73 a6 a8 hX hS hs hv1 hv2 hsv, List.set_append_right _ _ a5]
    · intro x hx; simp only [List.mem_cons, List.not_mem_nil, or_false] at hx; subst hx; exact a5
    · refine ⟨by decide, allI_pths _, ⟨s.length, by simp⟩, .inr ⟨?_, id, a5, by simpa using a6, by simp, ?_⟩⟩
      · intro h
        rw [List.map_eq_nil_iff] at h
        have := congrArg List.length h
        rw [List.length_set, List.length_nil] at this
        omega
      · rw [← List.set_append_right _ _ a5, List.getElem?_set_self a6]
end Go.Proofs.Ytopiaiibpacmlaa.Av
namespace Go.Proofs.Ytopiaiibpacmlaa.Av
open Go.RowKit
set_option linter.unusedSimpArgs false
set_option linter.unusedVariables false
set_option maxHeartbeats 10000000
theorem Own.vw {lo : Nat} {M : MS} {x : AV} {s : List Pth} (h : Own lo M x 1 (s.map Pth.av)) : Vw M x (s.map Pth.av) s.length := by
  refine ⟨by have := h.lenOf; simpa using this, fun G => ?_, ?_⟩
  · have := (show Own lo (M ++ G) x 1 (s.map Pth.av) from by
      obtain ⟨a, b, c, e | ⟨f, id, g1, g2, g3, g4⟩⟩ := h
      · exact ⟨a, b, c, .inl e⟩
      · exact ⟨a, b, c, .inr ⟨f, id, g1, by simp; omega, g3, by rw [List.getElem?_append_left g2]; exact g4⟩⟩)
    exact this.view
  · obtain ⟨_, _, _, ⟨_, rfl⟩ | ⟨_, id, _, _, rfl, _⟩⟩ := h <;> rfl
/-- All nodes below k have chosen at once. -/
noncomputable def rnd (s : List Pth) (l : List Rks) : Nat → List Pth
  | 0 => s.map cln
  | k + 1 => if 1 ≤ k then (rnd s l k).set k (rcl s ((l.map Rks.l).getD k [])) else rnd s l k
theorem lD {l : List Rks} {v : Nat} (h : v < l.length) : (l.map Rks.l).getD v [] = l[v].l := by simp [List.getD, h]
theorem mayS_le {s : List Pth} (hs : SmallS s) : ∀ p ∈ s, p.l.length ≤ 1000 := fun p hp => by have := hs.2 p hp; omega
end Go.Proofs.Ytopiaiibpacmlaa.Av
namespace Go.Proofs.Ytopiaiibpacmlaa.Av
open Go.RowKit
set_option linter.unusedSimpArgs false
set_option linter.unusedVariables false
set_option maxHeartbeats 10000000
/-- A node chooses. -/
noncomputable def stp (l : List Rks) (s : List Pth) (v : Int) : List Pth := s.set v.toNat (rcl s ((l.map Rks.l).getD v.toNat []))
/-- The first i nodes of an order choose. -/
noncomputable def runL (l : List Rks) (s : List Pth) (o : List Int) : Nat → List Pth
  | 0 => s.map cln
  | i + 1 => stp l (runL l s o i) (o.getD i 0)
end Go.Proofs.Ytopiaiibpacmlaa.Av
namespace Go.Proofs.Ytopiaiibpacmlaa.Av
open Go.RowKit
set_option linter.unusedSimpArgs false
set_option linter.unusedVariables false
set_option maxHeartbeats 10000000
end Go.Proofs.Ytopiaiibpacmlaa.Av
namespace Go.Proofs.Ytopiaiibpacmlaa.Av
open Go.RowKit
set_option linter.unusedSimpArgs false
set_option linter.unusedVariables false
set_option maxHeartbeats 10000000
/-- The least moving node. -/
noncomputable def hd (l : List Rks) (s : List Pth) : Int := (mvs (plX l) (pl s) l.length).headD 0
/-- The least moving node chooses, again and again. -/
noncomputable def sq (l : List Rks) (s : List Pth) : Nat → List Pth
  | 0 => s.map cln
  | k + 1 => stp l (sq l s k) (hd l (sq l s k))
theorem sq_len (l : List Rks) (s : List Pth) : ∀ k, (sq l s k).length = s.length
  | 0 => by simp [sq]
  | k + 1 => by simp [sq, stp, sq_len l s k]
theorem mvs_mem {L : List (List (List Int))} {s : List (List Int)} {x : Int} : ∀ {k}, x ∈ mvs L s k → ∃ j : Nat, x = j ∧ 1 ≤ j ∧ j < k ∧ s.getD j [] ≠ resp s (L.getD j [])
  | 0, h => by simp [mvs] at h
  | k + 1, h => by
    simp only [mvs, List.mem_append] at h
    rcases h with h | h
    · obtain ⟨j, h1, h2, h3, h4⟩ := mvs_mem h
      exact ⟨j, h1, h2, by omega, h4⟩
    · split at h
      · rename_i h5
        simp only [List.mem_cons, List.not_mem_nil, or_false] at h
        exact ⟨k, h, h5.1, by omega, h5.2⟩
      · simp at h
theorem hd_mem {l : List Rks} {s : List Pth} (h : mvs (plX l) (pl s) l.length ≠ []) : ∃ u : Nat, hd l s = u ∧ 1 ≤ u ∧ u < l.length ∧ ∃ t, mvs (plX l) (pl s) l.length = (u : Int) :: t := by
  unfold hd
  cases hm : mvs (plX l) (pl s) l.length with
  | nil => exact absurd hm h
  | cons a t =>
    obtain ⟨j, h1, h2, h3, _⟩ := mvs_mem (show a ∈ mvs (plX l) (pl s) l.length by rw [hm]; simp)
    subst h1
    exact ⟨j, rfl, h2, h3, t, rfl⟩
theorem t20 (n : Int) (l : List Rks) (nl cd : Bool) (s : List Pth) (ns cs : Bool) (most : Int) (M : MS) (hS : SmallX l) (hs : SmallS s) (hmost : most ≤ 1000000) : ∃ (a : AV) (k e : Int), ev pr 20 [.agg [.flat (.int .i64 n), .list 1 (l.map Rks.av) nl cd], .list 1 (s.map Pth.av) ns cs, .flat (.int .i64 most)] M = some (.q (.tup [a, .flat (.int .i64 k), .flat (.int .i64 e)])) ∧
    (¬ (MayS n l s ∧ 0 ≤ most) → a = .list 1 [] true true ∧ k = 0 ∧ e = 1) ∧
    (MayS n l s → 0 ≤ most → (∃ j : Nat, (j : Int) ≤ most ∧ (∀ i, i < j → mvs (plX l) (pl (sq l s i)) l.length ≠ []) ∧ mvs (plX l) (pl (sq l s j)) l.length = [] ∧ a = .list 1 ((sq l s j).map Pth.av) false false ∧ k = j ∧ e = 0) ∨
      ((∀ i : Nat, (i : Int) ≤ most → mvs (plX l) (pl (sq l s i)) l.length ≠ []) ∧ a = .list 1 [] true true ∧ k = 0 ∧ e = 11)) := by
  have hs12 := hs.1
  have h70 := fun M => t70 n l nl cd s ns cs M hS (by omega)
  by_cases hm : MayS n l s
  · by_cases hp : 0 ≤ most
    · obtain ⟨rfl, h1, h2, h3⟩ := mayS_n hm
      obtain ⟨N, rfl⟩ : ∃ N : Nat, most = N := ⟨most.toNat, by omega⟩
      suffices hh : ∃ out, ev pr 20 [.agg [.flat (.int .i64 l.length), .list 1 (l.map Rks.av) nl cd], .list 1 (s.map Pth.av) ns cs, .flat (.int .i64 N)] M = some out ∧ ∃ (a : AV) (k e : Int), out = .q (.tup [a, .flat (.int .i64 k), .flat (.int .i64 e)]) ∧
          ((∃ j : Nat, j ≤ N ∧ (∀ i, i < j → mvs (plX l) (pl (sq l s i)) l.length ≠ []) ∧ mvs (plX l) (pl (sq l s j)) l.length = [] ∧ a = .list 1 ((sq l s j).map Pth.av) false false ∧ k = j ∧ e = 0) ∨
          ((∀ i : Nat, i ≤ N → mvs (plX l) (pl (sq l s i)) l.length ≠ []) ∧ a = .list 1 [] true true ∧ k = 0 ∧ e = 11)) by
        obtain ⟨_, g1, a, k, e, rfl, g2⟩ := hh
        refine ⟨a, k, e, g1, fun h => absurd ⟨hm, hp⟩ h, fun _ _ => ?_⟩
        rcases g2 with ⟨j, q1, q2⟩ | ⟨q1, q2⟩
        · exact .inl ⟨j, by omega, q2⟩
        · exact .inr ⟨fun i hi => q1 i (by omega), q2⟩
      obtain ⟨_, h71, w, G0, rfl, hO0⟩ := t71 s ns cs (M ++ [some [AV.flat (.int .i64 l.length), AV.list 1 (l.map Rks.av) nl cd]]) (by omega) (mayS_le hs)
      simp only [hm, decide_true] at h70
      have hl12 := hS.1
      have hN : ¬ (N : Int) < 0 := by omega
      clear hm hs hp
      refine ev_fnE A20 ?_
      repeat' (first | ((with_reducible first | apply S_0 | apply S_q1 | apply S_g | apply S_c); exact sgc) | (with_reducible first | apply SO_q | apply SG_t | apply SG_f0 | apply SG_f1 | apply S_nil | apply T_n | apply W_seq | apply W_region | apply SO_x | apply SC_t | apply SC_f | apply W_block | apply W_ret | apply W_skip | apply W_exit | apply T_r | apply T_e | apply B_n | apply B_e) | (with_reducible apply B_ne; focus decide) | (with_reducible first | apply B_r | apply R_e | apply R_r | apply H_e | apply H_r | apply G_e | apply G_r) | (with_reducible apply SC_n) | ((with_reducible first | apply SC_d | apply SG_d | apply SG_n | apply SC_b | apply SG_b) <;> intro hc <;> try simp only [decide_eq_true_eq, decide_eq_false_iff_not, Classical.not_not, Bool.not_eq_true', Bool.not_eq_false'] at hc))
      refine W_whl (fun k e m d => ∃ i : Nat, k = N - i ∧ i ≤ N ∧ e 10 = .flat (.int .i64 i) ∧ (∀ j, j < i → mvs (plX l) (pl (sq l s j)) l.length ≠ []) ∧ d = [] ∧ ∃ G, e 9 = w ∧ m = M ++ [some [AV.flat (.int .i64 l.length), AV.list 1 (l.map Rks.av) nl cd]] ++ G ∧ Own (M ++ [some [AV.flat (.int .i64 l.length), AV.list 1 (l.map Rks.av) nl cd]]).length (M ++ [some [AV.flat (.int .i64 l.length), AV.list 1 (l.map Rks.av) nl cd]] ++ G) w 1 ((sq l s i).map Pth.av)) N (by simp only [asg, asgO, List.append_nil, List.nil_append, List.cons_append]; rfl)
        ⟨0, rfl, by omega, by exact svc, fun j hj => by omega, rfl, G0, by exact svc, by simp, hO0⟩ ?_
      rintro _ e _ _ hk ⟨i, rfl, hi, e10, hj, rfl, G, e9, rfl, hO⟩
      have k3 : e 3 = .mptr M.length 0 := by rw [hk 3 rfl]; exact svc
      have k2 : e 2 = .flat (.int .i64 N) := by rw [hk 2 rfl]; exact svc
      have hsl := sq_len l s i
      have h72 := t72 (nl := nl) (cd := cd) hO.vw h3 hS (hsl.trans h1)
      rw [lst_l] at h72
      simp only [List.append_assoc, List.cons_append, List.nil_append] at h72
      have hml := mvs_len (plX l) (pl (sq l s i)) l.length
      clear hk h70 h71 hO0
      by_cases hz : mvs (plX l) (pl (sq l s i)) l.length = []
      · rw [hz] at h72
        have hz0 : intsA [] = [] := rfl
        rw [hz0] at h72
        rcases hO.own with ⟨_, h⟩ | ⟨id, g1, g2, rfl, g4⟩
        · rw [List.map_eq_nil_iff] at h; rw [h] at hsl; simp at hsl; omega
        · have g1' : M.length ≤ id := by simp at g1; omega
          have hall := allI_pths (sq l s i)
          simp only [List.append_assoc, List.cons_append, List.nil_append] at g4
          rw [List.length_map, Nat.div_one, hsl, h1] at h72
          clear g1 g2 hO hml
          repeat' (first | ((with_reducible first | apply S_0 | apply S_q1 | apply S_g | apply S_c); exact sgc) | (with_reducible first | apply SO_q | apply SG_t | apply SG_f0 | apply SG_f1 | apply S_nil | apply T_n | apply W_seq | apply W_region | apply SO_x | apply SC_t | apply SC_f | apply W_block | apply W_ret | apply W_skip | apply W_exit | apply T_r | apply T_e | apply B_n | apply B_e) | (with_reducible apply B_ne; focus decide) | (with_reducible first | apply B_r | apply R_e | apply R_r | apply H_e | apply H_r | apply G_e | apply G_r) | (with_reducible apply SC_n) | ((with_reducible first | apply SC_d | apply SG_d | apply SG_n | apply SC_b | apply SG_b) <;> intro hc <;> try simp only [decide_eq_true_eq, decide_eq_false_iff_not, Classical.not_not, Bool.not_eq_true', Bool.not_eq_false'] at hc))
          (refine ⟨by first | exact .inr rfl | exact .inl rfl, ?_⟩; simp (disch := first | assumption | decide | omega | exact Pth.le _ | exact Rks.le _ | exact List.getElem_mem _ | exact allI_ints _ | exact allI_rks _ | exact allI_pths _ | exact Pth.nil _ | exact Rks.nil _ | (intro hh; simp only [Pth.nil _ hh, List.take_nil, List.drop_nil]; done) | (intro hh; simp only [Rks.nil _ hh, List.take_nil, List.drop_nil]; done) | (simp only [List.length_take, List.length_drop, List.length_append, List.length_cons, List.length_nil, List.length_replicate, List.length_map, ints_len]; omega)) only [resA, rvA, tupA, fin, frzV, frzTup, frzA, frz, isI, isI.all, Option.bind_some, go_sem, if_pos, if_neg, Nat.reduceBEq, Nat.reduceEqDiff, ↓reduceIte, Nat.reduceSub, Nat.reduceAdd, Int.reduceToNat, reduceCtorEq, Nat.reduceLeDiff, Nat.reduceLT, Nat.reduceMul, Nat.reduceDiv, Int.reduceLT, Int.reduceLE, Int.reduceEq, Int.reduceNe, Int.reduceAdd, Int.reduceSub, Int.reduceNeg, Int.reduceGT, Int.reduceGE, Int.reduceBEq, Int.reduceBNe, Int.reduceMul, *])
          refine ⟨_, rfl, _, _, _, rfl, .inl ⟨i, hi, hj, hz, ?_, rfl, rfl⟩⟩
          rw [List.take_of_length_le (by rw [hsl]; omega)]
      · obtain ⟨u, hu, hu1, hu2, t, ht⟩ := hd_mem hz
        have hus : u < (sq l s i).length := by omega
        obtain ⟨G', D, h73, hD, hO2⟩ := t73o (nl := nl) (cd := cd) hO h3 hS (hsl.trans h1) hu1 hu2 hus
        have hD2 := filter_ge hD (show M.length ≤ _ by simp)
        have hst : sq l s (i + 1) = (sq l s i).set u (rcl (sq l s i) l[u].l) := by
          rw [sq, stp, hu, Int.toNat_natCast, lD hu2]
        simp only [List.append_assoc, List.cons_append, List.nil_append] at h73
        have hlz : ¬ (((mvs (plX l) (pl (sq l s i)) l.length).length : Nat) : Int) = 0 := by rw [ht]; simp; omega
        have hl0 : 0 < (mvs (plX l) (pl (sq l s i)) l.length).length := by rw [ht]; simp
        have hg0 : (mvs (plX l) (pl (sq l s i)) l.length)[0] = (u : Int) := by simp [ht]
        clear hD ht
        repeat' (first | ((with_reducible first | apply S_0 | apply S_q1 | apply S_g | apply S_c); exact sgc) | (with_reducible first | apply SO_q | apply SG_t | apply SG_f0 | apply SG_f1 | apply S_nil | apply T_n | apply W_seq | apply W_region | apply SO_x | apply SC_t | apply SC_f | apply W_block | apply W_ret | apply W_skip | apply W_exit | apply T_r | apply T_e | apply B_n | apply B_e) | (with_reducible apply B_ne; focus decide) | (with_reducible first | apply B_r | apply R_e | apply R_r | apply H_e | apply H_r | apply G_e | apply G_r) | (with_reducible apply SC_n) | ((with_reducible first | apply SC_d | apply SG_d | apply SG_n | apply SC_b | apply SG_b) <;> intro hc <;> try simp only [decide_eq_true_eq, decide_eq_false_iff_not, Classical.not_not, Bool.not_eq_true', Bool.not_eq_false'] at hc))
        · (refine ⟨by first | exact .inr rfl | exact .inl rfl, ?_⟩; simp (disch := first | assumption | decide | omega | exact Pth.le _ | exact Rks.le _ | exact List.getElem_mem _ | exact allI_ints _ | exact allI_rks _ | exact allI_pths _ | exact Pth.nil _ | exact Rks.nil _ | (intro hh; simp only [Pth.nil _ hh, List.take_nil, List.drop_nil]; done) | (intro hh; simp only [Rks.nil _ hh, List.take_nil, List.drop_nil]; done) | (simp only [List.length_take, List.length_drop, List.length_append, List.length_cons, List.length_nil, List.length_replicate, List.length_map, ints_len]; omega)) only [resA, rvA, tupA, fin, frzV, frzTup, frzA, frz, isI, isI.all, Option.bind_some, go_sem, if_pos, if_neg, Nat.reduceBEq, Nat.reduceEqDiff, ↓reduceIte, Nat.reduceSub, Nat.reduceAdd, Int.reduceToNat, reduceCtorEq, Nat.reduceLeDiff, Nat.reduceLT, Nat.reduceMul, Nat.reduceDiv, Int.reduceLT, Int.reduceLE, Int.reduceEq, Int.reduceNe, Int.reduceAdd, Int.reduceSub, Int.reduceNeg, Int.reduceGT, Int.reduceGE, Int.reduceBEq, Int.reduceBNe, Int.reduceMul, *])
          refine ⟨_, rfl, _, _, _, rfl, .inr ⟨fun j h => ?_, rfl, rfl, rfl⟩⟩
          by_cases hji : j = i
          · subst hji; exact hz
          · exact hj j (by omega)
        · refine R_n _ ?_ ⟨i + 1, rfl, by omega, by exact svc, ext1 hj hz, rfl, G', by exact svc, by simp only [List.append_assoc, List.cons_append, List.nil_append], by rw [hst]; exact hO2⟩
          omega
    · refine ⟨.list 1 [] true true, 0, 1, ?_, fun _ => ⟨rfl, rfl, rfl⟩, fun _ h => absurd h hp⟩
      simp only [hm, decide_true] at h70
      have hp' : most < 0 := by omega
      refine ev_fn' A20 ?_
      repeat' (first | ((with_reducible first | apply S_0 | apply S_q1 | apply S_g | apply S_c); exact sgc) | (with_reducible first | apply SO_q | apply SG_t | apply SG_f0 | apply SG_f1 | apply S_nil | apply T_n | apply W_seq | apply W_region | apply SO_x | apply SC_t | apply SC_f | apply W_block | apply W_ret | apply W_skip | apply W_exit | apply T_r | apply T_e | apply B_n | apply B_e) | (with_reducible apply B_ne; focus decide) | (with_reducible first | apply B_r | apply R_e | apply R_r | apply H_e | apply H_r | apply G_e | apply G_r) | (with_reducible apply SC_n) | ((with_reducible first | apply SC_d | apply SG_d | apply SG_n | apply SC_b | apply SG_b) <;> intro hc <;> try simp only [decide_eq_true_eq, decide_eq_false_iff_not, Classical.not_not, Bool.not_eq_true', Bool.not_eq_false'] at hc))
      (first | exact fincR | exact fincN)
  · refine ⟨.list 1 [] true true, 0, 1, ?_, fun _ => ⟨rfl, rfl, rfl⟩, fun h => absurd h hm⟩
    simp only [hm, decide_false] at h70
    refine ev_fn' A20 ?_
    repeat' (first | ((with_reducible first | apply S_0 | apply S_q1 | apply S_g | apply S_c); exact sgc) | (with_reducible first | apply SO_q | apply SG_t | apply SG_f0 | apply SG_f1 | apply S_nil | apply T_n | apply W_seq | apply W_region | apply SO_x | apply SC_t | apply SC_f | apply W_block | apply W_ret | apply W_skip | apply W_exit | apply T_r | apply T_e | apply B_n | apply B_e) | (with_reducible apply B_ne; focus decide) | (with_reducible first | apply B_r | apply R_e | apply R_r | apply H_e | apply H_r | apply G_e | apply G_r) | (with_reducible apply SC_n) | ((with_reducible first | apply SC_d | apply SG_d | apply SG_n | apply SC_b | apply SG_b) <;> intro hc <;> try simp only [decide_eq_true_eq, decide_eq_false_iff_not, Classical.not_not, Bool.not_eq_true', Bool.not_eq_false'] at hc))
    (first | exact fincR | exact fincN)
end Go.Proofs.Ytopiaiibpacmlaa.Av
namespace Go.Proofs.Ytopiaiibpacmlaa.Av
open Go.RowKit
set_option linter.unusedSimpArgs false
set_option linter.unusedVariables false
set_option maxHeartbeats 10000000
end Go.Proofs.Ytopiaiibpacmlaa.Av
namespace Go.Proofs.Ytopiaiibpacmlaa.Av
open Go.RowKit
set_option linter.unusedSimpArgs false
set_option linter.unusedVariables false
set_option maxHeartbeats 10000000
def rkAt (l : List Rks) (u : Int) : List Rnk := if h : u.toNat < l.length then l[u.toNat].l else []
def sureF (l : List Rks) : List Int → Prop
  | [] => False
  | _ :: r => r.head? = some 0 ∨ (∃ u, r.head? = some u ∧ paths (rkAt l u) = [r] ∧ sureF l r)
def settledF (l : List Rks) (v : Int) : Prop := rkAt l v = [] ∨ ∃ p, paths (rkAt l v) = [p] ∧ sureF l p
noncomputable instance (l : List Rks) (p : List Int) : Decidable (sureF l p) := Classical.propDecidable _
noncomputable instance (l : List Rks) (v : Int) : Decidable (settledF l v) := Classical.propDecidable _
def PC (l : List Rks) (p : List Int) : Prop := 2 ≤ p.length ∧ p.length ≤ 1000 ∧ ∀ a ∈ p, 0 ≤ a ∧ a < (l.length : Int)
end Go.Proofs.Ytopiaiibpacmlaa.Av
namespace Go.Proofs.Ytopiaiibpacmlaa.Av
open Go.RowKit
set_option linter.unusedSimpArgs false
set_option linter.unusedVariables false
set_option maxHeartbeats 10000000
noncomputable def stl (l : List Rks) : Nat → List Int
  | 0 => []
  | k + 1 => stl l k ++ (if 1 ≤ k ∧ settledF l k then [(k : Int)] else [])
end Go.Proofs.Ytopiaiibpacmlaa.Av
namespace Go.Proofs.Ytopiaiibpacmlaa.Av
open Go.RowKit
set_option linter.unusedSimpArgs false
set_option linter.unusedVariables false
set_option maxHeartbeats 10000000
end Go.Proofs.Ytopiaiibpacmlaa.Av
namespace Go.Proofs.Ytopiaiibpacmlaa.Av
open Go.RowKit
set_option linter.unusedSimpArgs false
set_option linter.unusedVariables false
set_option maxHeartbeats 10000000
/-- The look of a path that is there: 1 useless, 2 idle, 0 neither. -/
noncomputable def lookB (l : List Rks) (L : List Rnk) (N : Nat) : Int := open Classical in if ∃ q ∈ L.take N, sureF l q.p.l then 2 else 0
noncomputable def lookF (l : List Rks) (L : List Rnk) (p : List Int) : Int := open Classical in
  if p.getD 1 0 ≠ 0 ∧ p.drop 1 ∉ paths (rkAt l (p.getD 1 0)) then 1 else lookB l L (place (paths L) p).toNat
end Go.Proofs.Ytopiaiibpacmlaa.Av
namespace Go.Proofs.Ytopiaiibpacmlaa.Av
open Go.RowKit
set_option linter.unusedSimpArgs false
set_option linter.unusedVariables false
set_option maxHeartbeats 10000000
end Go.Proofs.Ytopiaiibpacmlaa.Av
namespace Go.Proofs.Ytopiaiibpacmlaa.Av
open Go.RowKit
set_option linter.unusedSimpArgs false
set_option linter.unusedVariables false
end Go.Proofs.Ytopiaiibpacmlaa.Av
namespace Go.Proofs.Ytopiaiibpacmlaa.Av
open Go.RowKit
set_option linter.unusedSimpArgs false
set_option linter.unusedVariables false
set_option maxHeartbeats 10000000
theorem Own.swap {lo : Nat} {B B' G : MS} {x : AV} {sz : Nat} {cs : List AV} (h : Own lo (B ++ G) x sz cs) (hl : B'.length = B.length) (hlo : B.length ≤ lo) : Own lo (B' ++ G) x sz cs := by
  obtain ⟨a, b, c, e | ⟨f, id, g1, g2, g3, g4⟩⟩ := h
  · exact ⟨a, b, c, .inl e⟩
  · refine ⟨a, b, c, .inr ⟨f, id, g1, by simp at g2 ⊢; omega, g3, ?_⟩⟩
    rw [List.getElem?_append_right (by omega)] at g4 ⊢
    rw [hl]; exact g4
theorem Own.cell {lo : Nat} {m : MS} {x : AV} {sz : Nat} {cs : List AV} (h : Own lo m x sz cs) : cellsOf x = some [x] := by
  obtain ⟨_, _, _, ⟨_, rfl⟩ | ⟨_, id, _, _, rfl, _⟩⟩ := h <;> rfl
def cpQ (q : Rnk) : Rnk := ⟨cln q.p, q.r⟩
def cpI (x : List Rnk) (i : Nat) : List Rnk := (x.take i).map cpQ ++ x.drop i
def cpR (r : Rks) : Rks := ⟨r.l.map cpQ, r.nl, r.l.isEmpty, fun h => by rw [r.nil h]; exact ⟨rfl, rfl⟩, by simpa using r.le⟩
/-- A fact that the reckoning doesn't see. -/
def Hid (p : Prop) : Prop := p
theorem dirt_out {base id : Nat} {D : List Nat} (h : base ≤ id) : dirt base id D = D := if_neg (by omega)
attribute [go_sem] dirt_out
section
variable {p : Pr} {base : Nat} {env : Env} {M : MS} {D : List Nat} {d : Option Nat} {r : List AOp} {R : Env → MS → List Nat → Prop}
end
end Go.Proofs.Ytopiaiibpacmlaa.Av
namespace Go.Proofs.Ytopiaiibpacmlaa.Av
open Go.RowKit
set_option linter.unusedSimpArgs false
set_option linter.unusedVariables false
def tot (L : In) : Nat := (L.map List.length).sum
theorem pathOk_shape {p : List Int} {v : Nat} {n : Int} (h : PathOk p v n) : ∃ t, p = (v : Int) :: t ∧ t ≠ [] ∧ (∀ a ∈ t, 0 ≤ a) ∧ (t.head? = some 0 → t = [0]) := by
  obtain ⟨h1, h2, h3, h4, h5⟩ := h
  match p, h1 with
  | a :: b :: t, h1 =>
    simp only [List.getElem?_cons_zero, Option.some.injEq] at h2
    subst h2
    refine ⟨b :: t, rfl, by simp, fun x hx => (h5 x (by simp only [List.mem_cons] at hx ⊢; exact .inr hx)).1, fun hb => ?_⟩
    simp only [List.head?_cons, Option.some.injEq] at hb
    subst hb
    cases t with
    | nil => rfl
    | cons c t =>
      exfalso
      simp only [List.length_cons] at h3
      rw [show t.length + 1 + 1 + 1 - 1 = t.length + 1 + 1 by omega, List.getElem?_cons_succ, List.getElem?_cons_succ] at h3
      have hm : (0 : Int) ∈ c :: t := List.mem_of_getElem? h3
      have := (List.nodup_cons.1 (List.nodup_cons.1 h4).2).1
      exact this hm
theorem lok_nodup {l : List Rnk} {v n : Int} (h : LOk l v n) : (paths l).Nodup := by
  refine List.pairwise_iff_getElem.2 fun i j hi hj hij => ?_
  rw [paths_len] at hi hj
  obtain ⟨_, _, h3⟩ := h.2 j hj
  rw [paths_get _ _ (by rw [paths_len]; exact hi), paths_get _ _ (by rw [paths_len]; exact hj)]
  intro e
  refine h3 ?_
  rw [← e]
  refine List.mem_map.2 ⟨l[i], ?_, rfl⟩
  rw [List.mem_take_iff_getElem]
  exact ⟨i, by omega, rfl⟩
theorem ok_plX {l : List Rks} (hX : MayX l.length l) : InOk (plX l) := by
  have h1 : 0 < l.length := by have := hX.1; omega
  refine ⟨by rw [plX_get h1, hX.2.2.2.1 h1]; rfl, fun u => ?_⟩
  rcases Nat.lt_or_ge u l.length with hu | hu
  · rw [plX_get hu]
    rcases Nat.eq_zero_or_pos u with rfl | h0
    · rw [hX.2.2.2.1 h1]
      exact ⟨by simp [paths], fun p hp => by simp [paths] at hp⟩
    · have hok := hX.2.2.2.2 u hu h0
      refine ⟨lok_nodup hok, fun p hp => ?_⟩
      obtain ⟨q, hq, rfl⟩ := List.mem_map.1 hp
      exact pathOk_shape (lok_path hok q hq)
  · rw [getD_out (by rw [plX_len]; exact hu)]
    exact ⟨by simp, fun p hp => by simp at hp⟩
/-- Ranks told anew. -/
def IsRk (x : List Rnk) : Prop := ∀ i (h : i < x.length), x[i].r = i
end Go.Proofs.Ytopiaiibpacmlaa.Av
