/- Copies of states; a node chooses. -/
import Derived.Test.YtopiaiibpacmlaaX7
namespace Go.Proofs.Ytopiaiibpacmlaa.Av
open Go.RowKit
set_option linter.unusedSimpArgs false
set_option linter.unusedVariables false
set_option maxHeartbeats 10000000
/-- A path's copy. -/
def cln (p : Pth) : Pth := ⟨p.l, p.nl, p.l.isEmpty, fun h => by rw [p.nil h]; exact ⟨rfl, rfl⟩, p.le⟩
theorem cln_l (s : List Pth) : pl (s.map cln) = pl s := by simp [pl, cln, Function.comp_def]
theorem cln_e {p : Pth} (h : p.l = []) : (cln p).av = .list 1 [] p.nl true := by
  simp only [cln, Pth.av, h]; rfl
theorem cln_n {p : Pth} (h : 0 < p.l.length) : (cln p).av = .list 1 (intsA p.l) false false := by
  have h1 : p.nl = false := by
    cases hn : p.nl with
    | false => rfl
    | true => rw [p.nil hn] at h; simp at h
  have h2 : p.l.isEmpty = false := by
    cases hp : p.l with
    | nil => rw [hp] at h; simp at h
    | cons a b => rfl
  simp only [cln, Pth.av, h1, h2]
theorem t71 (s : List Pth) (ns cs : Bool) (M : MS) (hs : s.length ≤ 1000) (hp : ∀ p ∈ s, p.l.length ≤ 1000) : ∃ out, ev pr 71 [.list 1 (s.map Pth.av) ns cs] M = some out ∧ ∃ v G, out = .x v (M ++ G) [] ∧ Own M.length (M ++ G) v 1 ((s.map cln).map Pth.av) := by
  refine ev_fnE A71 ?_
  repeat' (first | ((with_reducible first | apply S_0 | apply S_q1 | apply S_g | apply S_c); exact sgc) | (with_reducible first | apply SO_q | apply SG_t | apply SG_f0 | apply SG_f1 | apply S_nil | apply T_n | apply W_seq | apply W_region | apply SO_x | apply SC_t | apply SC_f | apply W_block | apply W_ret | apply W_skip | apply W_exit | apply T_r | apply T_e | apply B_n | apply B_e) | (with_reducible apply B_ne; focus decide) | (with_reducible first | apply B_r | apply R_e | apply R_r | apply H_e | apply H_r | apply G_e | apply G_r) | (with_reducible apply SC_n) | ((with_reducible first | apply SC_d | apply SG_d | apply SG_n | apply SC_b | apply SG_b) <;> intro hc <;> try simp only [decide_eq_true_eq, decide_eq_false_iff_not, Classical.not_not, Bool.not_eq_true', Bool.not_eq_false'] at hc))
  refine W_rngM 8 0 s.length (fun i e m => ∃ v G, e 3 = v ∧ m = M ++ G ∧ Own M.length (M ++ G) v 1 (((s.take i).map cln).map Pth.av)) (by simp only [asg, asgO, List.append_nil, List.nil_append, List.cons_append]; rfl) (by exact svc) (by omega)
    ⟨.list 1 [] true true, [], by exact svc, by simp, by simpa using Own.nil _ _ (by decide)⟩ ?_
  rintro i e _ _ hi hk e8 ⟨w, G, e3, rfl, hO⟩
  have k6 : e 6 = .list 1 (s.map Pth.av) ns cs := by rw [hk 6 rfl]; exact svc
  have k7 : e 7 = .flat (.int .i64 s.length) := by rw [hk 7 rfl]; exact svc
  clear hk
  have htl : (((s.take i).map cln).map Pth.av).length = i := by simp; omega
  rcases Nat.lt_or_ge i s.length with hlt | hlt
  · have hlt' : (i : Int) < s.length := by omega
    have htk : ((s.take (i + 1)).map cln).map Pth.av = ((s.take i).map cln).map Pth.av ++ [(cln s[i]).av] := by
      rw [List.take_succ_eq_append_getElem hlt, List.map_append, List.map_append]; rfl
    have hsp := hp _ (List.getElem_mem hlt)
    rcases Nat.eq_zero_or_pos s[i].l.length with h0 | h0
    · have hnil := List.eq_nil_of_length_eq_zero h0
      have h75 : ∀ M, ev pr 75 [.list 1 (intsA []) s[i].nl s[i].cd] M = some (.x (.list 1 [] s[i].nl true) M []) := fun M => t75e s[i].nl s[i].cd M
      rw [cln_e hnil] at htk
      repeat' (first | ((with_reducible first | apply S_0 | apply S_q1 | apply S_g | apply S_c); exact sgc) | (with_reducible first | apply SO_q | apply SG_t | apply SG_f0 | apply SG_f1 | apply S_nil | apply T_n | apply W_seq | apply W_region | apply SO_x | apply SC_t | apply SC_f | apply W_block | apply W_ret | apply W_skip | apply W_exit | apply T_r | apply T_e | apply B_n | apply B_e) | (with_reducible apply B_ne; focus decide) | (with_reducible first | apply B_r | apply R_e | apply R_r | apply H_e | apply H_r | apply G_e | apply G_r) | (with_reducible apply SC_n) | ((with_reducible first | apply SC_d | apply SG_d | apply SG_n | apply SC_b | apply SG_b) <;> intro hc <;> try simp only [decide_eq_true_eq, decide_eq_false_iff_not, Classical.not_not, Bool.not_eq_true', Bool.not_eq_false'] at hc))
      (refine S_ownG (cs := ((s.take i).map cln).map Pth.av) M G (by assumption) (by first | rfl | simp only [List.append_assoc, List.cons_append, List.nil_append]) (by exact sgc) (by exact sgc) (by exact sgc) (by exact sgc) (by exact sgc) (by (first | assumption | omega | (simp only [ints_len, Nat.div_one, Nat.one_mul, Nat.mul_one, List.length_map, rks_len, half, List.length_cons, List.length_nil, List.length_append, List.length_replicate]; omega))) (by (first | assumption | omega | (simp only [ints_len, Nat.div_one, Nat.one_mul, Nat.mul_one, List.length_map, rks_len, half, List.length_cons, List.length_nil, List.length_append, List.length_replicate]; omega))) (by first | omega | (simp; done) | (simp; omega)) ?_)
      intro v' G' hO2
      rw [← htk] at hO2
      repeat' (first | ((with_reducible first | apply S_0 | apply S_q1 | apply S_g | apply S_c); exact sgc) | (with_reducible first | apply SO_q | apply SG_t | apply SG_f0 | apply SG_f1 | apply S_nil | apply T_n | apply W_seq | apply W_region | apply SO_x | apply SC_t | apply SC_f | apply W_block | apply W_ret | apply W_skip | apply W_exit | apply T_r | apply T_e | apply B_n | apply B_e) | (with_reducible apply B_ne; focus decide) | (with_reducible first | apply B_r | apply R_e | apply R_r | apply H_e | apply H_r | apply G_e | apply G_r) | (with_reducible apply SC_n) | ((with_reducible first | apply SC_d | apply SG_d | apply SG_n | apply SC_b | apply SG_b) <;> intro hc <;> try simp only [decide_eq_true_eq, decide_eq_false_iff_not, Classical.not_not, Bool.not_eq_true', Bool.not_eq_false'] at hc))
      exact G_n (by exact svc) hlt ⟨v', G', by exact svc, rfl, hO2⟩
    · have h75 := fun M => t75 s[i].l s[i].nl s[i].cd M h0 (by omega) s[i].nil
      have hO' := hO.growG [none]
      rw [cln_n h0] at htk
      repeat' (first | ((with_reducible first | apply S_0 | apply S_q1 | apply S_g | apply S_c); exact sgc) | (with_reducible first | apply SO_q | apply SG_t | apply SG_f0 | apply SG_f1 | apply S_nil | apply T_n | apply W_seq | apply W_region | apply SO_x | apply SC_t | apply SC_f | apply W_block | apply W_ret | apply W_skip | apply W_exit | apply T_r | apply T_e | apply B_n | apply B_e) | (with_reducible apply B_ne; focus decide) | (with_reducible first | apply B_r | apply R_e | apply R_r | apply H_e | apply H_r | apply G_e | apply G_r) | (with_reducible apply SC_n) | ((with_reducible first | apply SC_d | apply SG_d | apply SG_n | apply SC_b | apply SG_b) <;> intro hc <;> try simp only [decide_eq_true_eq, decide_eq_false_iff_not, Classical.not_not, Bool.not_eq_true', Bool.not_eq_false'] at hc))
      (refine S_ownG (cs := ((s.take i).map cln).map Pth.av) M (G ++ [none]) (by assumption) (by first | rfl | simp only [List.append_assoc, List.cons_append, List.nil_append]) (by exact sgc) (by exact sgc) (by exact sgc) (by exact sgc) (by exact sgc) (by (first | assumption | omega | (simp only [ints_len, Nat.div_one, Nat.one_mul, Nat.mul_one, List.length_map, rks_len, half, List.length_cons, List.length_nil, List.length_append, List.length_replicate]; omega))) (by (first | assumption | omega | (simp only [ints_len, Nat.div_one, Nat.one_mul, Nat.mul_one, List.length_map, rks_len, half, List.length_cons, List.length_nil, List.length_append, List.length_replicate]; omega))) (by first | omega | (simp; done) | (simp; omega)) ?_)
      intro v' G' hO2
      rw [← htk] at hO2
      repeat' (first | ((with_reducible first | apply S_0 | apply S_q1 | apply S_g | apply S_c); exact sgc) | (with_reducible first | apply SO_q | apply SG_t | apply SG_f0 | apply SG_f1 | apply S_nil | apply T_n | apply W_seq | apply W_region | apply SO_x | apply SC_t | apply SC_f | apply W_block | apply W_ret | apply W_skip | apply W_exit | apply T_r | apply T_e | apply B_n | apply B_e) | (with_reducible apply B_ne; focus decide) | (with_reducible first | apply B_r | apply R_e | apply R_r | apply H_e | apply H_r | apply G_e | apply G_r) | (with_reducible apply SC_n) | ((with_reducible first | apply SC_d | apply SG_d | apply SG_n | apply SC_b | apply SG_b) <;> intro hc <;> try simp only [decide_eq_true_eq, decide_eq_false_iff_not, Classical.not_not, Bool.not_eq_true', Bool.not_eq_false'] at hc))
      exact G_n (by exact svc) hlt ⟨v', G', by exact svc, rfl, hO2⟩
  · have hlt' : ¬ (i : Int) < s.length := by omega
    obtain rfl : i = s.length := by omega
    rw [List.take_length] at hO
    clear hp
    repeat' (first | ((with_reducible first | apply S_0 | apply S_q1 | apply S_g | apply S_c); exact sgc) | (with_reducible first | apply SO_q | apply SG_t | apply SG_f0 | apply SG_f1 | apply S_nil | apply T_n | apply W_seq | apply W_region | apply SO_x | apply SC_t | apply SC_f | apply W_block | apply W_ret | apply W_skip | apply W_exit | apply T_r | apply T_e | apply B_n | apply B_e) | (with_reducible apply B_ne; focus decide) | (with_reducible first | apply B_r | apply R_e | apply R_r | apply H_e | apply H_r | apply G_e | apply G_r) | (with_reducible apply SC_n) | ((with_reducible first | apply SC_d | apply SG_d | apply SG_n | apply SC_b | apply SG_b) <;> intro hc <;> try simp only [decide_eq_true_eq, decide_eq_false_iff_not, Classical.not_not, Bool.not_eq_true', Bool.not_eq_false'] at hc))
    refine ⟨.inr rfl, _, rfl, w, G, ?_, hO⟩
    simp only [fin, if_true, resA, rvA, tupA]
    (simp (disch := first | assumption | decide | omega | exact Pth.le _ | exact Rks.le _ | exact List.getElem_mem _ | exact allI_ints _ | exact allI_rks _ | exact allI_pths _ | exact Pth.nil _ | exact Rks.nil _ | (intro hh; simp only [Pth.nil _ hh, List.take_nil, List.drop_nil]; done) | (intro hh; simp only [Rks.nil _ hh, List.take_nil, List.drop_nil]; done) | (simp only [List.length_take, List.length_drop, List.length_append, List.length_cons, List.length_nil, List.length_replicate, List.length_map, ints_len]; omega)) only [go_sem, if_pos, if_neg, Nat.reduceBEq, Nat.reduceEqDiff, ↓reduceIte, Nat.reduceSub, Nat.reduceAdd, Int.reduceToNat, reduceCtorEq, Nat.reduceLeDiff, Nat.reduceLT, Nat.reduceMul, Nat.reduceDiv, Int.reduceLT, Int.reduceLE, Int.reduceEq, Int.reduceNe, Int.reduceAdd, Int.reduceSub, Int.reduceNeg, Int.reduceGT, Int.reduceGE, Int.reduceBEq, Int.reduceBNe, Int.reduceMul, *])
end Go.Proofs.Ytopiaiibpacmlaa.Av
namespace Go.Proofs.Ytopiaiibpacmlaa.Av
open Go.RowKit
set_option linter.unusedSimpArgs false
set_option linter.unusedVariables false
set_option maxHeartbeats 10000000
/-- A best response as a row of its own. -/
noncomputable def rcl (s : List Pth) (L : List Rnk) : Pth := ⟨resp (pl s) (paths L), (resp (pl s) (paths L)).isEmpty, (resp (pl s) (paths L)).isEmpty, fun h => ⟨List.isEmpty_iff.1 h, h⟩, by rw [← rsp_l]; exact Pth.le _⟩
theorem rcl_av (s : List Pth) (L : List Rnk) : (rcl s L).av = .list 1 (intsA (resp (pl s) (paths L))) (resp (pl s) (paths L)).isEmpty (resp (pl s) (paths L)).isEmpty := rfl
theorem set_pths (s : List Pth) (v : Nat) (r : Pth) (h : v < s.length) : (s.set v r).map Pth.av = (s.take v).map Pth.av ++ r.av :: (s.drop (v + 1)).map Pth.av := by
  rw [List.set_eq_take_append_cons_drop, if_pos h, List.map_append, List.map_cons]
theorem Vw.ms {M : MS} {id : Nat} {s : List Pth} {cd : Bool} (hid : id < M.length) (hM : M[id]? = some (some (s.map Pth.av))) : Vw M (.ms id 0 s.length 1 cd) (s.map Pth.av) s.length :=
  ⟨rfl, fun G => by rw [view_ms, List.getElem?_append_left hid, hM, viewD_s, if_pos (by simp)]; simp [List.take_of_length_le], rfl⟩
theorem t73 {l : List Rks} {nl cd c1 : Bool} {s : List Pth} {M : MS} {v id : Nat} (hid : id < M.length) (hM : M[id]? = some (some (s.map Pth.av))) (hX : MayX l.length l) (hS : SmallX l) (hs : s.length = l.length) (hv1 : 1 ≤ v) (hv2 : v < l.length) (hsv : v < s.length) :
    ev pr 73 [.agg [.flat (.int .i64 l.length), .list 1 (l.map Rks.av) nl cd], .ms id 0 s.length 1 c1, .flat (.int .i64 v)] M = some (.x (.flat (.bool (decide (¬ (s[v]'hsv).l = resp (pl s) (paths l[v].l))))) (M.set id (some ((s.set v (rcl s l[v].l)).map Pth.av))) [id]) := by
  have h90 := t90 (v := v) (nl := nl) (cd := cd) ((Vw.ms (cd := c1) hid hM).ext [some [.flat (.int .i64 l.length), .list 1 (l.map Rks.av) nl cd]]) hX hS hs hv1 hv2
  have hl12 := hS.1
  have hM1 : ∀ G, (M ++ G)[id]? = some (some (s.map Pth.av)) := fun G => by rw [List.getElem?_append_left hid, hM]
  have hS1 : ∀ (G : MS) (c : Option (List AV)), (M ++ G).set id c = M.set id c ++ G := fun G c => by rw [List.set_append_left _ _ hid]
  have q1 : ∀ (c : Option (List AV)) (L : MS), (M.set id c ++ L)[id]? = some c := fun c L => by rw [List.getElem?_append_left (by simpa using hid), List.getElem?_set_self hid]
  have q2 : ∀ (c : Option (List AV)) (L : MS), (M.set id c ++ L).take M.length = M.set id c := fun c L => List.take_left' (by simp)
  have hall : allI ((s.take v).map Pth.av ++ (rcl s l[v].l).av :: (s.drop (v + 1)).map Pth.av) = true := by rw [← set_pths s v _ hsv]; exact allI_pths _
  rw [set_pths s v _ hsv]
  rw [rcl_av] at hall ⊢
  clear hX hS hM hs
  refine ev_fn' A73 ?_
  repeat' (first | ((with_reducible first | apply S_0 | apply S_q1 | apply S_g | apply S_c); exact sgc) | (with_reducible first | apply SO_q | apply SG_t | apply SG_f0 | apply SG_f1 | apply S_nil | apply T_n | apply W_seq | apply W_region | apply SO_x | apply SC_t | apply SC_f | apply W_block | apply W_ret | apply W_skip | apply W_exit | apply T_r | apply T_e | apply B_n | apply B_e) | (with_reducible apply B_ne; focus decide) | (with_reducible first | apply B_r | apply R_e | apply R_r | apply H_e | apply H_r | apply G_e | apply G_r) | (with_reducible apply SC_n) | ((with_reducible first | apply SC_d | apply SG_d | apply SG_n | apply SC_b | apply SG_b) <;> intro hc <;> try simp only [decide_eq_true_eq, decide_eq_false_iff_not, Classical.not_not, Bool.not_eq_true', Bool.not_eq_false'] at hc))
  (refine ⟨by first | exact .inr rfl | exact .inl rfl, ?_⟩; simp (disch := first | assumption | decide | omega | exact Pth.le _ | exact Rks.le _ | exact List.getElem_mem _ | exact allI_ints _ | exact allI_rks _ | exact allI_pths _ | exact Pth.nil _ | exact Rks.nil _ | (intro hh; simp only [Pth.nil _ hh, List.take_nil, List.drop_nil]; done) | (intro hh; simp only [Rks.nil _ hh, List.take_nil, List.drop_nil]; done) | (simp only [List.length_take, List.length_drop, List.length_append, List.length_cons, List.length_nil, List.length_replicate, List.length_map, ints_len]; omega)) only [resA, rvA, tupA, fin, frzV, frzTup, frzA, frz, isI, isI.all, Option.bind_some, go_sem, if_pos, if_neg, Nat.reduceBEq, Nat.reduceEqDiff, ↓reduceIte, Nat.reduceSub, Nat.reduceAdd, Int.reduceToNat, reduceCtorEq, Nat.reduceLeDiff, Nat.reduceLT, Nat.reduceMul, Nat.reduceDiv, Int.reduceLT, Int.reduceLE, Int.reduceEq, Int.reduceNe, Int.reduceAdd, Int.reduceSub, Int.reduceNeg, Int.reduceGT, Int.reduceGE, Int.reduceBEq, Int.reduceBNe, Int.reduceMul, *])
  simp only [List.all_cons, List.all_nil, q1, hall, Bool.and_true, if_true, decide_not]
theorem filter_ge {D : List Nat} {n b : Nat} (h : ∀ x ∈ D, b ≤ x) (hn : n ≤ b) : D.filter (fun x => decide (x < n)) = [] := by
  rw [List.filter_eq_nil_iff]
  intro x hx
  have := h x hx
  simp only [decide_eq_true_eq]; omega
/-- .. of a row that its caller has made. -/
theorem t73o {l : List Rks} {nl cd : Bool} {s : List Pth} {B G : MS} {w : AV} {v : Nat} (hO : Own B.length (B ++ G) w 1 (s.map Pth.av)) (hX : MayX l.length l) (hS : SmallX l) (hs : s.length = l.length) (hv1 : 1 ≤ v) (hv2 : v < l.length) (hsv : v < s.length) :
    ∃ G' D, ev pr 73 [.agg [.flat (.int .i64 l.length), .list 1 (l.map Rks.av) nl cd], w, .flat (.int .i64 v)] (B ++ G) = some (.x (.flat (.bool (decide (¬ (s[v]'hsv).l = resp (pl s) (paths l[v].l))))) (B ++ G') D) ∧ (∀ x ∈ D, B.length ≤ x) ∧ Own B.length (B ++ G') w 1 ((s.set v (rcl s l[v].l)).map Pth.av) := by
  have hO2 := hO
  obtain ⟨a1, a2, a3, ⟨a4, _⟩ | ⟨a4, id, a5, a6, rfl, a8⟩⟩ := hO2
  · rw [List.map_eq_nil_iff] at a4; subst a4; simp at hsv
  · have hd : (s.map Pth.av).length / 1 = s.length := by simp
    rw [hd]
    refine ⟨G.set (id - B.length) (some ((s.set v (rcl s l[v].l)).map Pth.av)), [id], ?_, ?_, ?_⟩
    · rw [t73 a6 a8 hX hS hs hv1 hv2 hsv, List.set_append_right _ _ a5]
    · intro x hx; simp only [List.mem_cons, List.not_mem_nil, or_false] at hx; subst hx; exact a5
    · refine ⟨by decide, allI_pths _, ⟨s.length, by simp⟩, .inr ⟨?_, id, a5, by simpa using a6, by simp, ?_⟩⟩
      · intro h
        rw [List.map_eq_nil_iff] at h
        have := congrArg List.length h
        rw [List.length_set, List.length_nil] at this
        omega
      · rw [← List.set_append_right _ _ a5, List.getElem?_set_self a6]
end Go.Proofs.Ytopiaiibpacmlaa.Av
namespace Go.Proofs.Ytopiaiibpacmlaa.Av
open Go.RowKit
set_option linter.unusedSimpArgs false
set_option linter.unusedVariables false
set_option maxHeartbeats 10000000
theorem pl_set (s : List Pth) (v : Nat) (r : Pth) : pl (s.set v r) = (pl s).set v r.l := by simp [pl, List.map_set]
theorem Own.vw {lo : Nat} {M : MS} {x : AV} {s : List Pth} (h : Own lo M x 1 (s.map Pth.av)) : Vw M x (s.map Pth.av) s.length := by
  refine ⟨by have := h.lenOf; simpa using this, fun G => ?_, ?_⟩
  · have := (show Own lo (M ++ G) x 1 (s.map Pth.av) from by
      obtain ⟨a, b, c, e | ⟨f, id, g1, g2, g3, g4⟩⟩ := h
      · exact ⟨a, b, c, .inl e⟩
      · exact ⟨a, b, c, .inr ⟨f, id, g1, by simp; omega, g3, by rw [List.getElem?_append_left g2]; exact g4⟩⟩)
    exact this.view
  · obtain ⟨_, _, _, ⟨_, rfl⟩ | ⟨_, id, _, _, rfl, _⟩⟩ := h <;> rfl
/-- All nodes below k have chosen at once. -/
noncomputable def rnd (s : List Pth) (l : List Rks) : Nat → List Pth
  | 0 => s.map cln
  | k + 1 => if 1 ≤ k then (rnd s l k).set k (rcl s ((l.map Rks.l).getD k [])) else rnd s l k
theorem rnd_len (s : List Pth) (l : List Rks) : ∀ k, (rnd s l k).length = s.length
  | 0 => by simp [rnd]
  | k + 1 => by simp only [rnd]; split <;> simp [rnd_len s l k]
theorem lD {l : List Rks} {v : Nat} (h : v < l.length) : (l.map Rks.l).getD v [] = l[v].l := by simp [List.getD, h]
theorem mayS_le {s : List Pth} (hs : SmallS s) : ∀ p ∈ s, p.l.length ≤ 1000 := fun p hp => by have := hs.2 p hp; omega
theorem t65 (n : Int) (l : List Rks) (nl cd : Bool) (s : List Pth) (ns cs : Bool) (M : MS) (hS : SmallX l) (hs : SmallS s) : ∃ (a : AV), ev pr 65 [.agg [.flat (.int .i64 n), .list 1 (l.map Rks.av) nl cd], .list 1 (s.map Pth.av) ns cs] M = some (.q (.tup [a, .flat (.int .i64 (if MayS n l s then 0 else 1))])) ∧
    (MayS n l s → a = .list 1 ((rnd s l l.length).map Pth.av) false false) ∧ (¬ MayS n l s → a = .list 1 [] true true) := by
  have hs12 := hs.1
  have h70 := fun M => t70 n l nl cd s ns cs M hS (by omega)
  by_cases hm : MayS n l s
  · obtain ⟨rfl, h1, h2, h3⟩ := mayS_n hm
    refine ⟨.list 1 ((rnd s l l.length).map Pth.av) false false, ?_, fun _ => rfl, fun h => absurd hm h⟩
    obtain ⟨_, h71, w, G0, rfl, hO0⟩ := t71 s ns cs (M ++ [some [AV.flat (.int .i64 l.length), AV.list 1 (l.map Rks.av) nl cd]]) (by omega) (mayS_le hs)
    have h90 := fun (H : MS) v hv1 hv2 => t90 (M := M ++ (some [AV.flat (.int .i64 l.length), AV.list 1 (l.map Rks.av) nl cd] :: H)) (v := v) (nl := nl) (cd := cd) (Vw.list _ Pth.av s ns cs) h3 hS h1 hv1 hv2
    simp only [hm, decide_true, if_true] at h70 ⊢
    have hl12 := hS.1
    clear hm h3 hS hs
    refine ev_fn' A65 ?_
    repeat' (first | ((with_reducible first | apply S_0 | apply S_q1 | apply S_g | apply S_c); exact sgc) | (with_reducible first | apply SO_q | apply SG_t | apply SG_f0 | apply SG_f1 | apply S_nil | apply T_n | apply W_seq | apply W_region | apply SO_x | apply SC_t | apply SC_f | apply W_block | apply W_ret | apply W_skip | apply W_exit | apply T_r | apply T_e | apply B_n | apply B_e) | (with_reducible apply B_ne; focus decide) | (with_reducible first | apply B_r | apply R_e | apply R_r | apply H_e | apply H_r | apply G_e | apply G_r) | (with_reducible apply SC_n) | ((with_reducible first | apply SC_d | apply SG_d | apply SG_n | apply SC_b | apply SG_b) <;> intro hc <;> try simp only [decide_eq_true_eq, decide_eq_false_iff_not, Classical.not_not, Bool.not_eq_true', Bool.not_eq_false'] at hc))
    refine W_rngM 7 1 l.length (fun i e m => ∃ G, e 6 = w ∧ m = M ++ [some [AV.flat (.int .i64 l.length), AV.list 1 (l.map Rks.av) nl cd]] ++ G ∧ Own (M ++ [some [AV.flat (.int .i64 l.length), AV.list 1 (l.map Rks.av) nl cd]]).length (M ++ [some [AV.flat (.int .i64 l.length), AV.list 1 (l.map Rks.av) nl cd]] ++ G) w 1 ((rnd s l i).map Pth.av)) (by simp only [asg, asgO, List.append_nil, List.nil_append, List.cons_append]; rfl) (by exact svc) h2
      ⟨G0, by exact svc, by simp, hO0⟩ ?_
    rintro i e _ hi1 hi hk e7 ⟨G, e6, rfl, hO⟩
    have k1 : e 1 = .list 1 (s.map Pth.av) ns cs := by rw [hk 1 rfl]; exact svc
    have k2 : e 2 = .mptr M.length 0 := by rw [hk 2 rfl]; exact svc
    have hrl := rnd_len s l i
    clear hk h70 h71 hO0
    rcases Nat.lt_or_ge i l.length with hlt | hlt
    · have hlt' : (i : Int) < l.length := by omega
      have h90 := h90 G i hi1 hlt
      have hv := hO.vw
      have e0 := hv.vw []
      have e1 := hv.len
      simp only [List.append_assoc, List.cons_append, List.nil_append, List.append_nil] at e0
      have hil : i < (rnd s l i).length := by omega
      have hset : (rnd s l (i + 1)).map Pth.av = splice ((rnd s l i).map Pth.av) i [(rcl s l[i].l).av] := by
        rw [rnd, if_pos hi1, lD hlt, set_pths _ _ _ hil]
        simp [splice, List.map_take, List.map_drop]
      rw [rcl_av] at hset
      clear hv
      repeat' (first | ((with_reducible first | apply S_0 | apply S_q1 | apply S_g | apply S_c); exact sgc) | (with_reducible first | apply SO_q | apply SG_t | apply SG_f0 | apply SG_f1 | apply S_nil | apply T_n | apply W_seq | apply W_region | apply SO_x | apply SC_t | apply SC_f | apply W_block | apply W_ret | apply W_skip | apply W_exit | apply T_r | apply T_e | apply B_n | apply B_e) | (with_reducible apply B_ne; focus decide) | (with_reducible first | apply B_r | apply R_e | apply R_r | apply H_e | apply H_r | apply G_e | apply G_r) | (with_reducible apply SC_n) | ((with_reducible first | apply SC_d | apply SG_d | apply SG_n | apply SC_b | apply SG_b) <;> intro hc <;> try simp only [decide_eq_true_eq, decide_eq_false_iff_not, Classical.not_not, Bool.not_eq_true', Bool.not_eq_false'] at hc))
      (refine S_putG (M ++ [some [AV.flat (.int .i64 l.length), AV.list 1 (l.map Rks.av) nl cd]]) G hO (by first | rfl | simp only [List.append_assoc, List.cons_append, List.nil_append]) (by exact sgc) (by exact sgc) (by exact sgc) (by first | exact rfl | simp) (by (first | assumption | omega | (simp only [ints_len, Nat.div_one, Nat.one_mul, Nat.mul_one, List.length_map, rks_len, half, List.length_cons, List.length_nil, List.length_append, List.length_replicate]; omega))) (by decide) (by first | omega | (simp; done) | (simp; omega)) ?_)
      intro G' hO2
      rw [← hset] at hO2
      repeat' (first | ((with_reducible first | apply S_0 | apply S_q1 | apply S_g | apply S_c); exact sgc) | (with_reducible first | apply SO_q | apply SG_t | apply SG_f0 | apply SG_f1 | apply S_nil | apply T_n | apply W_seq | apply W_region | apply SO_x | apply SC_t | apply SC_f | apply W_block | apply W_ret | apply W_skip | apply W_exit | apply T_r | apply T_e | apply B_n | apply B_e) | (with_reducible apply B_ne; focus decide) | (with_reducible first | apply B_r | apply R_e | apply R_r | apply H_e | apply H_r | apply G_e | apply G_r) | (with_reducible apply SC_n) | ((with_reducible first | apply SC_d | apply SG_d | apply SG_n | apply SC_b | apply SG_b) <;> intro hc <;> try simp only [decide_eq_true_eq, decide_eq_false_iff_not, Classical.not_not, Bool.not_eq_true', Bool.not_eq_false'] at hc))
      exact G_n (by exact svc) hlt ⟨G', by exact svc, rfl, hO2⟩
    · have hlt' : ¬ (i : Int) < l.length := by omega
      obtain rfl : i = l.length := by omega
      rcases hO.own with ⟨_, h⟩ | ⟨id, g1, g2, rfl, g4⟩
      · rw [List.map_eq_nil_iff] at h; rw [h] at hrl; simp at hrl; omega
      · have g1' : M.length ≤ id := by simp at g1; omega
        have hall := allI_pths (rnd s l l.length)
        simp only [List.append_assoc, List.cons_append, List.nil_append] at g4
        clear g1 g2 hO
        repeat' (first | ((with_reducible first | apply S_0 | apply S_q1 | apply S_g | apply S_c); exact sgc) | (with_reducible first | apply SO_q | apply SG_t | apply SG_f0 | apply SG_f1 | apply S_nil | apply T_n | apply W_seq | apply W_region | apply SO_x | apply SC_t | apply SC_f | apply W_block | apply W_ret | apply W_skip | apply W_exit | apply T_r | apply T_e | apply B_n | apply B_e) | (with_reducible apply B_ne; focus decide) | (with_reducible first | apply B_r | apply R_e | apply R_r | apply H_e | apply H_r | apply G_e | apply G_r) | (with_reducible apply SC_n) | ((with_reducible first | apply SC_d | apply SG_d | apply SG_n | apply SC_b | apply SG_b) <;> intro hc <;> try simp only [decide_eq_true_eq, decide_eq_false_iff_not, Classical.not_not, Bool.not_eq_true', Bool.not_eq_false'] at hc))
        (refine ⟨by first | exact .inr rfl | exact .inl rfl, ?_⟩; simp (disch := first | assumption | decide | omega | exact Pth.le _ | exact Rks.le _ | exact List.getElem_mem _ | exact allI_ints _ | exact allI_rks _ | exact allI_pths _ | exact Pth.nil _ | exact Rks.nil _ | (intro hh; simp only [Pth.nil _ hh, List.take_nil, List.drop_nil]; done) | (intro hh; simp only [Rks.nil _ hh, List.take_nil, List.drop_nil]; done) | (simp only [List.length_take, List.length_drop, List.length_append, List.length_cons, List.length_nil, List.length_replicate, List.length_map, ints_len]; omega)) only [resA, rvA, tupA, fin, frzV, frzTup, frzA, frz, isI, isI.all, Option.bind_some, go_sem, if_pos, if_neg, Nat.reduceBEq, Nat.reduceEqDiff, ↓reduceIte, Nat.reduceSub, Nat.reduceAdd, Int.reduceToNat, reduceCtorEq, Nat.reduceLeDiff, Nat.reduceLT, Nat.reduceMul, Nat.reduceDiv, Int.reduceLT, Int.reduceLE, Int.reduceEq, Int.reduceNe, Int.reduceAdd, Int.reduceSub, Int.reduceNeg, Int.reduceGT, Int.reduceGE, Int.reduceBEq, Int.reduceBNe, Int.reduceMul, *])
        rw [List.take_of_length_le (by rw [hrl]; omega)]
  · refine ⟨.list 1 [] true true, ?_, fun h => absurd h hm, fun _ => rfl⟩
    simp only [hm, decide_false, if_false] at h70 ⊢
    refine ev_fn' A65 ?_
    repeat' (first | ((with_reducible first | apply S_0 | apply S_q1 | apply S_g | apply S_c); exact sgc) | (with_reducible first | apply SO_q | apply SG_t | apply SG_f0 | apply SG_f1 | apply S_nil | apply T_n | apply W_seq | apply W_region | apply SO_x | apply SC_t | apply SC_f | apply W_block | apply W_ret | apply W_skip | apply W_exit | apply T_r | apply T_e | apply B_n | apply B_e) | (with_reducible apply B_ne; focus decide) | (with_reducible first | apply B_r | apply R_e | apply R_r | apply H_e | apply H_r | apply G_e | apply G_r) | (with_reducible apply SC_n) | ((with_reducible first | apply SC_d | apply SG_d | apply SG_n | apply SC_b | apply SG_b) <;> intro hc <;> try simp only [decide_eq_true_eq, decide_eq_false_iff_not, Classical.not_not, Bool.not_eq_true', Bool.not_eq_false'] at hc))
    (first | exact fincR | exact fincN)
end Go.Proofs.Ytopiaiibpacmlaa.Av
namespace Go.Proofs.Ytopiaiibpacmlaa.Av
open Go.RowKit
set_option linter.unusedSimpArgs false
set_option linter.unusedVariables false
set_option maxHeartbeats 10000000
/-- A node chooses. -/
noncomputable def stp (l : List Rks) (s : List Pth) (v : Int) : List Pth := s.set v.toNat (rcl s ((l.map Rks.l).getD v.toNat []))
/-- The first i nodes of an order choose. -/
noncomputable def runL (l : List Rks) (s : List Pth) (o : List Int) : Nat → List Pth
  | 0 => s.map cln
  | i + 1 => stp l (runL l s o i) (o.getD i 0)
theorem runL_len (l : List Rks) (s : List Pth) (o : List Int) : ∀ i, (runL l s o i).length = s.length
  | 0 => by simp [runL]
  | i + 1 => by simp [runL, stp, runL_len l s o i]
theorem t107 (n : Int) (l : List Rks) (nl cd : Bool) (s : List Pth) (ns cs : Bool) (o : List Int) (no co : Bool) (M : MS) (hS : SmallX l) (hs : SmallS s) (ho : o.length ≤ 1000000) : ∃ (a : AV) (k e : Int), ev pr 107 [.agg [.flat (.int .i64 n), .list 1 (l.map Rks.av) nl cd], .list 1 (s.map Pth.av) ns cs, .list 1 (intsA o) no co] M = some (.q (.tup [a, .flat (.int .i64 k), .flat (.int .i64 e)])) ∧
    (¬ MayS n l s → a = .list 1 [] true true ∧ k = 0 ∧ e = 1) ∧
    (MayS n l s → (∀ v ∈ o, 1 ≤ v ∧ v < n) → a = .list 1 ((runL l s o o.length).map Pth.av) false false ∧ e = 0) ∧
    (MayS n l s → ¬ (∀ v ∈ o, 1 ≤ v ∧ v < n) → a = .list 1 [] true true ∧ k = 0 ∧ e = 7) := by
  have hs12 := hs.1
  have h70 := fun M => t70 n l nl cd s ns cs M hS (by omega)
  by_cases hm : MayS n l s
  · obtain ⟨rfl, h1, h2, h3⟩ := mayS_n hm
    suffices hh : ∃ out, ev pr 107 [.agg [.flat (.int .i64 l.length), .list 1 (l.map Rks.av) nl cd], .list 1 (s.map Pth.av) ns cs, .list 1 (intsA o) no co] M = some out ∧ ∃ (a : AV) (k e : Int), out = .q (.tup [a, .flat (.int .i64 k), .flat (.int .i64 e)]) ∧
        ((∀ v ∈ o, 1 ≤ v ∧ v < (l.length : Int)) → a = .list 1 ((runL l s o o.length).map Pth.av) false false ∧ e = 0) ∧ (¬ (∀ v ∈ o, 1 ≤ v ∧ v < (l.length : Int)) → a = .list 1 [] true true ∧ k = 0 ∧ e = 7) by
      obtain ⟨_, g1, a, k, e, rfl, g2, g3⟩ := hh
      exact ⟨a, k, e, g1, fun h => absurd hm h, fun _ => g2, fun _ => g3⟩
    obtain ⟨_, h71, w, G0, rfl, hO0⟩ := t71 s ns cs (M ++ [some [AV.flat (.int .i64 l.length), AV.list 1 (l.map Rks.av) nl cd]]) (by omega) (mayS_le hs)
    simp only [hm, decide_true] at h70
    have hl12 := hS.1
    clear hm hs
    refine ev_fnE A107 ?_
    repeat' (first | ((with_reducible first | apply S_0 | apply S_q1 | apply S_g | apply S_c); exact sgc) | (with_reducible first | apply SO_q | apply SG_t | apply SG_f0 | apply SG_f1 | apply S_nil | apply T_n | apply W_seq | apply W_region | apply SO_x | apply SC_t | apply SC_f | apply W_block | apply W_ret | apply W_skip | apply W_exit | apply T_r | apply T_e | apply B_n | apply B_e) | (with_reducible apply B_ne; focus decide) | (with_reducible first | apply B_r | apply R_e | apply R_r | apply H_e | apply H_r | apply G_e | apply G_r) | (with_reducible apply SC_n) | ((with_reducible first | apply SC_d | apply SG_d | apply SG_n | apply SC_b | apply SG_b) <;> intro hc <;> try simp only [decide_eq_true_eq, decide_eq_false_iff_not, Classical.not_not, Bool.not_eq_true', Bool.not_eq_false'] at hc))
    refine W_rngM 21 0 o.length (fun i e m => (∃ (k : Int), e 10 = .flat (.int .i64 k) ∧ 0 ≤ k ∧ k ≤ i) ∧ (∀ j, j < i → ∀ h : j < o.length, 1 ≤ o[j] ∧ o[j] < l.length) ∧ ∃ G, e 9 = w ∧ m = M ++ [some [AV.flat (.int .i64 l.length), AV.list 1 (l.map Rks.av) nl cd]] ++ G ∧ Own (M ++ [some [AV.flat (.int .i64 l.length), AV.list 1 (l.map Rks.av) nl cd]]).length (M ++ [some [AV.flat (.int .i64 l.length), AV.list 1 (l.map Rks.av) nl cd]] ++ G) w 1 ((runL l s o i).map Pth.av)) (by simp only [asg, asgO, List.append_nil, List.nil_append, List.cons_append]; rfl) (by exact svc) (by omega)
      ⟨⟨0, by exact svc, by omega, by omega⟩, fun j hj => by omega, G0, by exact svc, by simp, hO0⟩ ?_
    rintro i e _ _ hi hk e21 ⟨⟨k, e10, hk0, hki⟩, hj, G, e9, rfl, hO⟩
    have k3 : e 3 = .mptr M.length 0 := by rw [hk 3 rfl]; exact svc
    have k19 : e 19 = .list 1 (intsA o) no co := by rw [hk 19 rfl]; exact svc
    have k20 : e 20 = .flat (.int .i64 o.length) := by rw [hk 20 rfl]; exact svc
    have hrl := runL_len l s o i
    clear hk h70 h71 hO0
    rcases Nat.lt_or_ge i o.length with hlt | hlt
    · have hlt' : (i : Int) < o.length := by omega
      by_cases hv : 1 ≤ o[i] ∧ o[i] < (l.length : Int)
      · obtain ⟨u, hu⟩ : ∃ u : Nat, o[i] = u := ⟨o[i].toNat, by omega⟩
        have hu2 : u < l.length := by omega
        have hus : u < (runL l s o i).length := by omega
        have hu1 : 1 ≤ u := by omega
        obtain ⟨G', D, h73, hD, hO2⟩ := t73o (nl := nl) (cd := cd) hO h3 hS (hrl.trans h1) hu1 hu2 hus
        have hD2 := filter_ge hD (show M.length ≤ _ by simp)
        have hst : runL l s o (i + 1) = (runL l s o i).set u (rcl (runL l s o i) l[u].l) := by
          have : o.getD i 0 = u := by simp [List.getD, hlt, hu]
          rw [runL, stp, this, Int.toNat_natCast, lD hu2]
        simp only [List.append_assoc, List.cons_append, List.nil_append] at h73
        have hvd : decide (1 ≤ (u : Int) ∧ (u : Int) < (l.length : Int)) = true := decide_eq_true ⟨by omega, by omega⟩
        clear hD hv
        repeat' (first | ((with_reducible first | apply S_0 | apply S_q1 | apply S_g | apply S_c); exact sgc) | (with_reducible first | apply SO_q | apply SG_t | apply SG_f0 | apply SG_f1 | apply S_nil | apply T_n | apply W_seq | apply W_region | apply SO_x | apply SC_t | apply SC_f | apply W_block | apply W_ret | apply W_skip | apply W_exit | apply T_r | apply T_e | apply B_n | apply B_e) | (with_reducible apply B_ne; focus decide) | (with_reducible first | apply B_r | apply R_e | apply R_r | apply H_e | apply H_r | apply G_e | apply G_r) | (with_reducible apply SC_n) | ((with_reducible first | apply SC_d | apply SG_d | apply SG_n | apply SC_b | apply SG_b) <;> intro hc <;> try simp only [decide_eq_true_eq, decide_eq_false_iff_not, Classical.not_not, Bool.not_eq_true', Bool.not_eq_false'] at hc))
        · refine G_n (by exact svc) hlt ⟨⟨k + 1, by exact svc, by omega, by omega⟩, ext1 hj fun _ => by omega, G', by exact svc, by simp only [List.append_assoc, List.cons_append, List.nil_append], by rw [hst]; exact hO2⟩
        · refine G_n (by exact svc) hlt ⟨⟨k, by exact svc, by omega, by omega⟩, ext1 hj fun _ => by omega, G', by exact svc, by simp only [List.append_assoc, List.cons_append, List.nil_append], by rw [hst]; exact hO2⟩
      · have hvd : decide (1 ≤ o[i] ∧ o[i] < (l.length : Int)) = false := decide_eq_false hv
        repeat' (first | ((with_reducible first | apply S_0 | apply S_q1 | apply S_g | apply S_c); exact sgc) | (with_reducible first | apply SO_q | apply SG_t | apply SG_f0 | apply SG_f1 | apply S_nil | apply T_n | apply W_seq | apply W_region | apply SO_x | apply SC_t | apply SC_f | apply W_block | apply W_ret | apply W_skip | apply W_exit | apply T_r | apply T_e | apply B_n | apply B_e) | (with_reducible apply B_ne; focus decide) | (with_reducible first | apply B_r | apply R_e | apply R_r | apply H_e | apply H_r | apply G_e | apply G_r) | (with_reducible apply SC_n) | ((with_reducible first | apply SC_d | apply SG_d | apply SG_n | apply SC_b | apply SG_b) <;> intro hc <;> try simp only [decide_eq_true_eq, decide_eq_false_iff_not, Classical.not_not, Bool.not_eq_true', Bool.not_eq_false'] at hc))
        (refine ⟨by first | exact .inr rfl | exact .inl rfl, ?_⟩; simp (disch := first | assumption | decide | omega | exact Pth.le _ | exact Rks.le _ | exact List.getElem_mem _ | exact allI_ints _ | exact allI_rks _ | exact allI_pths _ | exact Pth.nil _ | exact Rks.nil _ | (intro hh; simp only [Pth.nil _ hh, List.take_nil, List.drop_nil]; done) | (intro hh; simp only [Rks.nil _ hh, List.take_nil, List.drop_nil]; done) | (simp only [List.length_take, List.length_drop, List.length_append, List.length_cons, List.length_nil, List.length_replicate, List.length_map, ints_len]; omega)) only [resA, rvA, tupA, fin, frzV, frzTup, frzA, frz, isI, isI.all, Option.bind_some, go_sem, if_pos, if_neg, Nat.reduceBEq, Nat.reduceEqDiff, ↓reduceIte, Nat.reduceSub, Nat.reduceAdd, Int.reduceToNat, reduceCtorEq, Nat.reduceLeDiff, Nat.reduceLT, Nat.reduceMul, Nat.reduceDiv, Int.reduceLT, Int.reduceLE, Int.reduceEq, Int.reduceNe, Int.reduceAdd, Int.reduceSub, Int.reduceNeg, Int.reduceGT, Int.reduceGE, Int.reduceBEq, Int.reduceBNe, Int.reduceMul, *])
        exact ⟨_, rfl, _, _, _, rfl, fun h => absurd (h _ (List.getElem_mem hlt)) hv, fun _ => ⟨rfl, rfl, rfl⟩⟩
    · have hlt' : ¬ (i : Int) < o.length := by omega
      obtain rfl : i = o.length := by omega
      rcases hO.own with ⟨_, h⟩ | ⟨id, g1, g2, rfl, g4⟩
      · rw [List.map_eq_nil_iff] at h; rw [h] at hrl; simp at hrl; omega
      · have g1' : M.length ≤ id := by simp at g1; omega
        have hall := allI_pths (runL l s o o.length)
        simp only [List.append_assoc, List.cons_append, List.nil_append] at g4
        have hal := all_of (Q := fun v : Int => 1 ≤ v ∧ v < (l.length : Int)) (Nat.le_refl _) hj
        clear g1 g2 hO hj
        repeat' (first | ((with_reducible first | apply S_0 | apply S_q1 | apply S_g | apply S_c); exact sgc) | (with_reducible first | apply SO_q | apply SG_t | apply SG_f0 | apply SG_f1 | apply S_nil | apply T_n | apply W_seq | apply W_region | apply SO_x | apply SC_t | apply SC_f | apply W_block | apply W_ret | apply W_skip | apply W_exit | apply T_r | apply T_e | apply B_n | apply B_e) | (with_reducible apply B_ne; focus decide) | (with_reducible first | apply B_r | apply R_e | apply R_r | apply H_e | apply H_r | apply G_e | apply G_r) | (with_reducible apply SC_n) | ((with_reducible first | apply SC_d | apply SG_d | apply SG_n | apply SC_b | apply SG_b) <;> intro hc <;> try simp only [decide_eq_true_eq, decide_eq_false_iff_not, Classical.not_not, Bool.not_eq_true', Bool.not_eq_false'] at hc))
        (refine ⟨by first | exact .inr rfl | exact .inl rfl, ?_⟩; simp (disch := first | assumption | decide | omega | exact Pth.le _ | exact Rks.le _ | exact List.getElem_mem _ | exact allI_ints _ | exact allI_rks _ | exact allI_pths _ | exact Pth.nil _ | exact Rks.nil _ | (intro hh; simp only [Pth.nil _ hh, List.take_nil, List.drop_nil]; done) | (intro hh; simp only [Rks.nil _ hh, List.take_nil, List.drop_nil]; done) | (simp only [List.length_take, List.length_drop, List.length_append, List.length_cons, List.length_nil, List.length_replicate, List.length_map, ints_len]; omega)) only [resA, rvA, tupA, fin, frzV, frzTup, frzA, frz, isI, isI.all, Option.bind_some, go_sem, if_pos, if_neg, Nat.reduceBEq, Nat.reduceEqDiff, ↓reduceIte, Nat.reduceSub, Nat.reduceAdd, Int.reduceToNat, reduceCtorEq, Nat.reduceLeDiff, Nat.reduceLT, Nat.reduceMul, Nat.reduceDiv, Int.reduceLT, Int.reduceLE, Int.reduceEq, Int.reduceNe, Int.reduceAdd, Int.reduceSub, Int.reduceNeg, Int.reduceGT, Int.reduceGE, Int.reduceBEq, Int.reduceBNe, Int.reduceMul, *])
        refine ⟨_, rfl, _, _, _, rfl, fun _ => ⟨?_, rfl⟩, fun h => absurd hal h⟩
        rw [List.take_of_length_le (by rw [hrl]; omega)]
  · refine ⟨.list 1 [] true true, 0, 1, ?_, fun _ => ⟨rfl, rfl, rfl⟩, fun h => absurd h hm, fun h => absurd h hm⟩
    simp only [hm, decide_false] at h70
    refine ev_fn' A107 ?_
    repeat' (first | ((with_reducible first | apply S_0 | apply S_q1 | apply S_g | apply S_c); exact sgc) | (with_reducible first | apply SO_q | apply SG_t | apply SG_f0 | apply SG_f1 | apply S_nil | apply T_n | apply W_seq | apply W_region | apply SO_x | apply SC_t | apply SC_f | apply W_block | apply W_ret | apply W_skip | apply W_exit | apply T_r | apply T_e | apply B_n | apply B_e) | (with_reducible apply B_ne; focus decide) | (with_reducible first | apply B_r | apply R_e | apply R_r | apply H_e | apply H_r | apply G_e | apply G_r) | (with_reducible apply SC_n) | ((with_reducible first | apply SC_d | apply SG_d | apply SG_n | apply SC_b | apply SG_b) <;> intro hc <;> try simp only [decide_eq_true_eq, decide_eq_false_iff_not, Classical.not_not, Bool.not_eq_true', Bool.not_eq_false'] at hc))
    (first | exact fincR | exact fincN)
end Go.Proofs.Ytopiaiibpacmlaa.Av
namespace Go.Proofs.Ytopiaiibpacmlaa.Av
open Go.RowKit
set_option linter.unusedSimpArgs false
set_option linter.unusedVariables false
set_option maxHeartbeats 10000000
/-- The document's step: the path itself, not a copy. -/
theorem t26 {l : List Rks} {nl cd : Bool} {s : List Pth} {ns cs : Bool} {M : MS} {v : Nat} (hX : MayX l.length l) (hS : SmallX l) (hs : s.length = l.length) (h0 : ∀ h : 0 < s.length, s[0].l = [0]) (hv1 : 1 ≤ v) (hv2 : v < l.length) :
    ev pr 26 [.agg [.flat (.int .i64 l.length), .list 1 (l.map Rks.av) nl cd], .list 1 (s.map Pth.av) ns cs, .flat (.int .i64 v)] M = some (.q (.list 1 ((s.set v (rsp s l[v].l)).map Pth.av) false false)) := by
  have h23 := fun M => t23 (v := v) (nl := nl) (cd := cd) (Vw.list M Pth.av s ns cs) hX hS hs h0 hv1 hv2
  have hl12 := hS.1
  have hsv : v < s.length := by omega
  have hall := allI_pths (s.set v (rsp s l[v].l))
  have hset : (s.set v (rsp s l[v].l)).map Pth.av = splice (s.map Pth.av) v [(rsp s l[v].l).av] := by
    rw [set_pths _ _ _ hsv]
    simp [splice, List.map_take, List.map_drop]
  rw [Pth.av_eq] at hset
  simp only [splice, map_take', map_drop', List.length_cons, List.length_nil, List.append_assoc, List.cons_append, List.nil_append, Nat.zero_add] at hset
  rw [hset] at hall ⊢
  clear hX hS hset
  refine ev_fn' A26 ?_
  repeat' (first | ((with_reducible first | apply S_0 | apply S_q1 | apply S_g | apply S_c); exact sgc) | (with_reducible first | apply SO_q | apply SG_t | apply SG_f0 | apply SG_f1 | apply S_nil | apply T_n | apply W_seq | apply W_region | apply SO_x | apply SC_t | apply SC_f | apply W_block | apply W_ret | apply W_skip | apply W_exit | apply T_r | apply T_e | apply B_n | apply B_e) | (with_reducible apply B_ne; focus decide) | (with_reducible first | apply B_r | apply R_e | apply R_r | apply H_e | apply H_r | apply G_e | apply G_r) | (with_reducible apply SC_n) | ((with_reducible first | apply SC_d | apply SG_d | apply SG_n | apply SC_b | apply SG_b) <;> intro hc <;> try simp only [decide_eq_true_eq, decide_eq_false_iff_not, Classical.not_not, Bool.not_eq_true', Bool.not_eq_false'] at hc))
  (refine ⟨by first | exact .inr rfl | exact .inl rfl, ?_⟩; simp (disch := first | assumption | decide | omega | exact Pth.le _ | exact Rks.le _ | exact List.getElem_mem _ | exact allI_ints _ | exact allI_rks _ | exact allI_pths _ | exact Pth.nil _ | exact Rks.nil _ | (intro hh; simp only [Pth.nil _ hh, List.take_nil, List.drop_nil]; done) | (intro hh; simp only [Rks.nil _ hh, List.take_nil, List.drop_nil]; done) | (simp only [List.length_take, List.length_drop, List.length_append, List.length_cons, List.length_nil, List.length_replicate, List.length_map, ints_len]; omega)) only [resA, rvA, tupA, fin, frzV, frzTup, frzA, frz, isI, isI.all, Option.bind_some, go_sem, if_pos, if_neg, Nat.reduceBEq, Nat.reduceEqDiff, ↓reduceIte, Nat.reduceSub, Nat.reduceAdd, Int.reduceToNat, reduceCtorEq, Nat.reduceLeDiff, Nat.reduceLT, Nat.reduceMul, Nat.reduceDiv, Int.reduceLT, Int.reduceLE, Int.reduceEq, Int.reduceNe, Int.reduceAdd, Int.reduceSub, Int.reduceNeg, Int.reduceGT, Int.reduceGE, Int.reduceBEq, Int.reduceBNe, Int.reduceMul, *])
  rw [List.take_of_length_le (by simp; omega)]
/-- The least moving node. -/
noncomputable def hd (l : List Rks) (s : List Pth) : Int := (mvs (plX l) (pl s) l.length).headD 0
/-- The least moving node chooses, again and again. -/
noncomputable def sq (l : List Rks) (s : List Pth) : Nat → List Pth
  | 0 => s.map cln
  | k + 1 => stp l (sq l s k) (hd l (sq l s k))
theorem sq_len (l : List Rks) (s : List Pth) : ∀ k, (sq l s k).length = s.length
  | 0 => by simp [sq]
  | k + 1 => by simp [sq, stp, sq_len l s k]
theorem mvs_mem {L : List (List (List Int))} {s : List (List Int)} {x : Int} : ∀ {k}, x ∈ mvs L s k → ∃ j : Nat, x = j ∧ 1 ≤ j ∧ j < k ∧ s.getD j [] ≠ resp s (L.getD j [])
  | 0, h => by simp [mvs] at h
  | k + 1, h => by
    simp only [mvs, List.mem_append] at h
    rcases h with h | h
    · obtain ⟨j, h1, h2, h3, h4⟩ := mvs_mem h
      exact ⟨j, h1, h2, by omega, h4⟩
    · split at h
      · rename_i h5
        simp only [List.mem_cons, List.not_mem_nil, or_false] at h
        exact ⟨k, h, h5.1, by omega, h5.2⟩
      · simp at h
theorem hd_mem {l : List Rks} {s : List Pth} (h : mvs (plX l) (pl s) l.length ≠ []) : ∃ u : Nat, hd l s = u ∧ 1 ≤ u ∧ u < l.length ∧ ∃ t, mvs (plX l) (pl s) l.length = (u : Int) :: t := by
  unfold hd
  cases hm : mvs (plX l) (pl s) l.length with
  | nil => exact absurd hm h
  | cons a t =>
    obtain ⟨j, h1, h2, h3, _⟩ := mvs_mem (show a ∈ mvs (plX l) (pl s) l.length by rw [hm]; simp)
    subst h1
    exact ⟨j, rfl, h2, h3, t, rfl⟩
theorem t20 (n : Int) (l : List Rks) (nl cd : Bool) (s : List Pth) (ns cs : Bool) (most : Int) (M : MS) (hS : SmallX l) (hs : SmallS s) (hmost : most ≤ 1000000) : ∃ (a : AV) (k e : Int), ev pr 20 [.agg [.flat (.int .i64 n), .list 1 (l.map Rks.av) nl cd], .list 1 (s.map Pth.av) ns cs, .flat (.int .i64 most)] M = some (.q (.tup [a, .flat (.int .i64 k), .flat (.int .i64 e)])) ∧
    (¬ (MayS n l s ∧ 0 ≤ most) → a = .list 1 [] true true ∧ k = 0 ∧ e = 1) ∧
    (MayS n l s → 0 ≤ most → (∃ j : Nat, (j : Int) ≤ most ∧ (∀ i, i < j → mvs (plX l) (pl (sq l s i)) l.length ≠ []) ∧ mvs (plX l) (pl (sq l s j)) l.length = [] ∧ a = .list 1 ((sq l s j).map Pth.av) false false ∧ k = j ∧ e = 0) ∨
      ((∀ i : Nat, (i : Int) ≤ most → mvs (plX l) (pl (sq l s i)) l.length ≠ []) ∧ a = .list 1 [] true true ∧ k = 0 ∧ e = 11)) := by
  have hs12 := hs.1
  have h70 := fun M => t70 n l nl cd s ns cs M hS (by omega)
  by_cases hm : MayS n l s
  · by_cases hp : 0 ≤ most
    · obtain ⟨rfl, h1, h2, h3⟩ := mayS_n hm
      obtain ⟨N, rfl⟩ : ∃ N : Nat, most = N := ⟨most.toNat, by omega⟩
      suffices hh : ∃ out, ev pr 20 [.agg [.flat (.int .i64 l.length), .list 1 (l.map Rks.av) nl cd], .list 1 (s.map Pth.av) ns cs, .flat (.int .i64 N)] M = some out ∧ ∃ (a : AV) (k e : Int), out = .q (.tup [a, .flat (.int .i64 k), .flat (.int .i64 e)]) ∧
          ((∃ j : Nat, j ≤ N ∧ (∀ i, i < j → mvs (plX l) (pl (sq l s i)) l.length ≠ []) ∧ mvs (plX l) (pl (sq l s j)) l.length = [] ∧ a = .list 1 ((sq l s j).map Pth.av) false false ∧ k = j ∧ e = 0) ∨
          ((∀ i : Nat, i ≤ N → mvs (plX l) (pl (sq l s i)) l.length ≠ []) ∧ a = .list 1 [] true true ∧ k = 0 ∧ e = 11)) by
        obtain ⟨_, g1, a, k, e, rfl, g2⟩ := hh
        refine ⟨a, k, e, g1, fun h => absurd ⟨hm, hp⟩ h, fun _ _ => ?_⟩
        rcases g2 with ⟨j, q1, q2⟩ | ⟨q1, q2⟩
        · exact .inl ⟨j, by omega, q2⟩
        · exact .inr ⟨fun i hi => q1 i (by omega), q2⟩
      obtain ⟨_, h71, w, G0, rfl, hO0⟩ := t71 s ns cs (M ++ [some [AV.flat (.int .i64 l.length), AV.list 1 (l.map Rks.av) nl cd]]) (by omega) (mayS_le hs)
      simp only [hm, decide_true] at h70
      have hl12 := hS.1
      have hN : ¬ (N : Int) < 0 := by omega
      clear hm hs hp
      refine ev_fnE A20 ?_
      repeat' (first | ((with_reducible first | apply S_0 | apply S_q1 | apply S_g | apply S_c); exact sgc) | (with_reducible first | apply SO_q | apply SG_t | apply SG_f0 | apply SG_f1 | apply S_nil | apply T_n | apply W_seq | apply W_region | apply SO_x | apply SC_t | apply SC_f | apply W_block | apply W_ret | apply W_skip | apply W_exit | apply T_r | apply T_e | apply B_n | apply B_e) | (with_reducible apply B_ne; focus decide) | (with_reducible first | apply B_r | apply R_e | apply R_r | apply H_e | apply H_r | apply G_e | apply G_r) | (with_reducible apply SC_n) | ((with_reducible first | apply SC_d | apply SG_d | apply SG_n | apply SC_b | apply SG_b) <;> intro hc <;> try simp only [decide_eq_true_eq, decide_eq_false_iff_not, Classical.not_not, Bool.not_eq_true', Bool.not_eq_false'] at hc))
      refine W_whl (fun k e m d => ∃ i : Nat, k = N - i ∧ i ≤ N ∧ e 10 = .flat (.int .i64 i) ∧ (∀ j, j < i → mvs (plX l) (pl (sq l s j)) l.length ≠ []) ∧ d = [] ∧ ∃ G, e 9 = w ∧ m = M ++ [some [AV.flat (.int .i64 l.length), AV.list 1 (l.map Rks.av) nl cd]] ++ G ∧ Own (M ++ [some [AV.flat (.int .i64 l.length), AV.list 1 (l.map Rks.av) nl cd]]).length (M ++ [some [AV.flat (.int .i64 l.length), AV.list 1 (l.map Rks.av) nl cd]] ++ G) w 1 ((sq l s i).map Pth.av)) N (by simp only [asg, asgO, List.append_nil, List.nil_append, List.cons_append]; rfl)
        ⟨0, rfl, by omega, by exact svc, fun j hj => by omega, rfl, G0, by exact svc, by simp, hO0⟩ ?_
      rintro _ e _ _ hk ⟨i, rfl, hi, e10, hj, rfl, G, e9, rfl, hO⟩
      have k3 : e 3 = .mptr M.length 0 := by rw [hk 3 rfl]; exact svc
      have k2 : e 2 = .flat (.int .i64 N) := by rw [hk 2 rfl]; exact svc
      have hsl := sq_len l s i
      have h72 := t72 (nl := nl) (cd := cd) hO.vw h3 hS (hsl.trans h1)
      rw [lst_l] at h72
      simp only [List.append_assoc, List.cons_append, List.nil_append] at h72
      have hml := mvs_len (plX l) (pl (sq l s i)) l.length
      clear hk h70 h71 hO0
      by_cases hz : mvs (plX l) (pl (sq l s i)) l.length = []
      · rw [hz] at h72
        have hz0 : intsA [] = [] := rfl
        rw [hz0] at h72
        rcases hO.own with ⟨_, h⟩ | ⟨id, g1, g2, rfl, g4⟩
        · rw [List.map_eq_nil_iff] at h; rw [h] at hsl; simp at hsl; omega
        · have g1' : M.length ≤ id := by simp at g1; omega
          have hall := allI_pths (sq l s i)
          simp only [List.append_assoc, List.cons_append, List.nil_append] at g4
          rw [List.length_map, Nat.div_one, hsl, h1] at h72
          clear g1 g2 hO hml
          repeat' (first | ((with_reducible first | apply S_0 | apply S_q1 | apply S_g | apply S_c); exact sgc) | (with_reducible first | apply SO_q | apply SG_t | apply SG_f0 | apply SG_f1 | apply S_nil | apply T_n | apply W_seq | apply W_region | apply SO_x | apply SC_t | apply SC_f | apply W_block | apply W_ret | apply W_skip | apply W_exit | apply T_r | apply T_e | apply B_n | apply B_e) | (with_reducible apply B_ne; focus decide) | (with_reducible first | apply B_r | apply R_e | apply R_r | apply H_e | apply H_r | apply G_e | apply G_r) | (with_reducible apply SC_n) | ((with_reducible first | apply SC_d | apply SG_d | apply SG_n | apply SC_b | apply SG_b) <;> intro hc <;> try simp only [decide_eq_true_eq, decide_eq_false_iff_not, Classical.not_not, Bool.not_eq_true', Bool.not_eq_false'] at hc))
          (refine ⟨by first | exact .inr rfl | exact .inl rfl, ?_⟩; simp (disch := first | assumption | decide | omega | exact Pth.le _ | exact Rks.le _ | exact List.getElem_mem _ | exact allI_ints _ | exact allI_rks _ | exact allI_pths _ | exact Pth.nil _ | exact Rks.nil _ | (intro hh; simp only [Pth.nil _ hh, List.take_nil, List.drop_nil]; done) | (intro hh; simp only [Rks.nil _ hh, List.take_nil, List.drop_nil]; done) | (simp only [List.length_take, List.length_drop, List.length_append, List.length_cons, List.length_nil, List.length_replicate, List.length_map, ints_len]; omega)) only [resA, rvA, tupA, fin, frzV, frzTup, frzA, frz, isI, isI.all, Option.bind_some, go_sem, if_pos, if_neg, Nat.reduceBEq, Nat.reduceEqDiff, ↓reduceIte, Nat.reduceSub, Nat.reduceAdd, Int.reduceToNat, reduceCtorEq, Nat.reduceLeDiff, Nat.reduceLT, Nat.reduceMul, Nat.reduceDiv, Int.reduceLT, Int.reduceLE, Int.reduceEq, Int.reduceNe, Int.reduceAdd, Int.reduceSub, Int.reduceNeg, Int.reduceGT, Int.reduceGE, Int.reduceBEq, Int.reduceBNe, Int.reduceMul, *])
          refine ⟨_, rfl, _, _, _, rfl, .inl ⟨i, hi, hj, hz, ?_, rfl, rfl⟩⟩
          rw [List.take_of_length_le (by rw [hsl]; omega)]
      · obtain ⟨u, hu, hu1, hu2, t, ht⟩ := hd_mem hz
        have hus : u < (sq l s i).length := by omega
        obtain ⟨G', D, h73, hD, hO2⟩ := t73o (nl := nl) (cd := cd) hO h3 hS (hsl.trans h1) hu1 hu2 hus
        have hD2 := filter_ge hD (show M.length ≤ _ by simp)
        have hst : sq l s (i + 1) = (sq l s i).set u (rcl (sq l s i) l[u].l) := by
          rw [sq, stp, hu, Int.toNat_natCast, lD hu2]
        simp only [List.append_assoc, List.cons_append, List.nil_append] at h73
        have hlz : ¬ (((mvs (plX l) (pl (sq l s i)) l.length).length : Nat) : Int) = 0 := by rw [ht]; simp; omega
        have hl0 : 0 < (mvs (plX l) (pl (sq l s i)) l.length).length := by rw [ht]; simp
        have hg0 : (mvs (plX l) (pl (sq l s i)) l.length)[0] = (u : Int) := by simp [ht]
        clear hD ht
        repeat' (first | ((with_reducible first | apply S_0 | apply S_q1 | apply S_g | apply S_c); exact sgc) | (with_reducible first | apply SO_q | apply SG_t | apply SG_f0 | apply SG_f1 | apply S_nil | apply T_n | apply W_seq | apply W_region | apply SO_x | apply SC_t | apply SC_f | apply W_block | apply W_ret | apply W_skip | apply W_exit | apply T_r | apply T_e | apply B_n | apply B_e) | (with_reducible apply B_ne; focus decide) | (with_reducible first | apply B_r | apply R_e | apply R_r | apply H_e | apply H_r | apply G_e | apply G_r) | (with_reducible apply SC_n) | ((with_reducible first | apply SC_d | apply SG_d | apply SG_n | apply SC_b | apply SG_b) <;> intro hc <;> try simp only [decide_eq_true_eq, decide_eq_false_iff_not, Classical.not_not, Bool.not_eq_true', Bool.not_eq_false'] at hc))
        · (refine ⟨by first | exact .inr rfl | exact .inl rfl, ?_⟩; simp (disch := first | assumption | decide | omega | exact Pth.le _ | exact Rks.le _ | exact List.getElem_mem _ | exact allI_ints _ | exact allI_rks _ | exact allI_pths _ | exact Pth.nil _ | exact Rks.nil _ | (intro hh; simp only [Pth.nil _ hh, List.take_nil, List.drop_nil]; done) | (intro hh; simp only [Rks.nil _ hh, List.take_nil, List.drop_nil]; done) | (simp only [List.length_take, List.length_drop, List.length_append, List.length_cons, List.length_nil, List.length_replicate, List.length_map, ints_len]; omega)) only [resA, rvA, tupA, fin, frzV, frzTup, frzA, frz, isI, isI.all, Option.bind_some, go_sem, if_pos, if_neg, Nat.reduceBEq, Nat.reduceEqDiff, ↓reduceIte, Nat.reduceSub, Nat.reduceAdd, Int.reduceToNat, reduceCtorEq, Nat.reduceLeDiff, Nat.reduceLT, Nat.reduceMul, Nat.reduceDiv, Int.reduceLT, Int.reduceLE, Int.reduceEq, Int.reduceNe, Int.reduceAdd, Int.reduceSub, Int.reduceNeg, Int.reduceGT, Int.reduceGE, Int.reduceBEq, Int.reduceBNe, Int.reduceMul, *])
          refine ⟨_, rfl, _, _, _, rfl, .inr ⟨fun j h => ?_, rfl, rfl, rfl⟩⟩
          by_cases hji : j = i
          · subst hji; exact hz
          · exact hj j (by omega)
        · refine R_n _ ?_ ⟨i + 1, rfl, by omega, by exact svc, ext1 hj hz, rfl, G', by exact svc, by simp only [List.append_assoc, List.cons_append, List.nil_append], by rw [hst]; exact hO2⟩
          omega
    · refine ⟨.list 1 [] true true, 0, 1, ?_, fun _ => ⟨rfl, rfl, rfl⟩, fun _ h => absurd h hp⟩
      simp only [hm, decide_true] at h70
      have hp' : most < 0 := by omega
      refine ev_fn' A20 ?_
      repeat' (first | ((with_reducible first | apply S_0 | apply S_q1 | apply S_g | apply S_c); exact sgc) | (with_reducible first | apply SO_q | apply SG_t | apply SG_f0 | apply SG_f1 | apply S_nil | apply T_n | apply W_seq | apply W_region | apply SO_x | apply SC_t | apply SC_f | apply W_block | apply W_ret | apply W_skip | apply W_exit | apply T_r | apply T_e | apply B_n | apply B_e) | (with_reducible apply B_ne; focus decide) | (with_reducible first | apply B_r | apply R_e | apply R_r | apply H_e | apply H_r | apply G_e | apply G_r) | (with_reducible apply SC_n) | ((with_reducible first | apply SC_d | apply SG_d | apply SG_n | apply SC_b | apply SG_b) <;> intro hc <;> try simp only [decide_eq_true_eq, decide_eq_false_iff_not, Classical.not_not, Bool.not_eq_true', Bool.not_eq_false'] at hc))
      (first | exact fincR | exact fincN)
  · refine ⟨.list 1 [] true true, 0, 1, ?_, fun _ => ⟨rfl, rfl, rfl⟩, fun h => absurd h hm⟩
    simp only [hm, decide_false] at h70
    refine ev_fn' A20 ?_
    repeat' (first | ((with_reducible first | apply S_0 | apply S_q1 | apply S_g | apply S_c); exact sgc) | (with_reducible first | apply SO_q | apply SG_t | apply SG_f0 | apply SG_f1 | apply S_nil | apply T_n | apply W_seq | apply W_region | apply SO_x | apply SC_t | apply SC_f | apply W_block | apply W_ret | apply W_skip | apply W_exit | apply T_r | apply T_e | apply B_n | apply B_e) | (with_reducible apply B_ne; focus decide) | (with_reducible first | apply B_r | apply R_e | apply R_r | apply H_e | apply H_r | apply G_e | apply G_r) | (with_reducible apply SC_n) | ((with_reducible first | apply SC_d | apply SG_d | apply SG_n | apply SC_b | apply SG_b) <;> intro hc <;> try simp only [decide_eq_true_eq, decide_eq_false_iff_not, Classical.not_not, Bool.not_eq_true', Bool.not_eq_false'] at hc))
    (first | exact fincR | exact fincN)
end Go.Proofs.Ytopiaiibpacmlaa.Av
namespace Go.Proofs.Ytopiaiibpacmlaa.Av
open Go.RowKit
set_option linter.unusedSimpArgs false
set_option linter.unusedVariables false
set_option maxHeartbeats 10000000
theorem t74e (nl cd : Bool) (M : MS) : ev pr 74 [.list 2 [] nl cd] M = some (.x (.list 2 [] nl true) M []) := by
  refine ev_fn' A74 ?_
  cases nl with
  | true =>
    repeat' (first | ((with_reducible first | apply S_0 | apply S_q1 | apply S_g | apply S_c); exact sgc) | (with_reducible first | apply SO_q | apply SG_t | apply SG_f0 | apply SG_f1 | apply S_nil | apply T_n | apply W_seq | apply W_region | apply SO_x | apply SC_t | apply SC_f | apply W_block | apply W_ret | apply W_skip | apply W_exit | apply T_r | apply T_e | apply B_n | apply B_e) | (with_reducible apply B_ne; focus decide) | (with_reducible first | apply B_r | apply R_e | apply R_r | apply H_e | apply H_r | apply G_e | apply G_r) | (with_reducible apply SC_n) | ((with_reducible first | apply SC_d | apply SG_d | apply SG_n | apply SC_b | apply SG_b) <;> intro hc <;> try simp only [decide_eq_true_eq, decide_eq_false_iff_not, Classical.not_not, Bool.not_eq_true', Bool.not_eq_false'] at hc))
    (first | exact fincR | exact fincN)
  | false =>
    repeat' (first | ((with_reducible first | apply S_0 | apply S_q1 | apply S_g | apply S_c); exact sgc) | (with_reducible first | apply SO_q | apply SG_t | apply SG_f0 | apply SG_f1 | apply S_nil | apply T_n | apply W_seq | apply W_region | apply SO_x | apply SC_t | apply SC_f | apply W_block | apply W_ret | apply W_skip | apply W_exit | apply T_r | apply T_e | apply B_n | apply B_e) | (with_reducible apply B_ne; focus decide) | (with_reducible first | apply B_r | apply R_e | apply R_r | apply H_e | apply H_r | apply G_e | apply G_r) | (with_reducible apply SC_n) | ((with_reducible first | apply SC_d | apply SG_d | apply SG_n | apply SC_b | apply SG_b) <;> intro hc <;> try simp only [decide_eq_true_eq, decide_eq_false_iff_not, Classical.not_not, Bool.not_eq_true', Bool.not_eq_false'] at hc))
    (first | exact fincR | exact fincN)
theorem t74 (l : List Rnk) (nl cd : Bool) (M : MS) (hne : 0 < l.length) (hl : l.length ≤ 1000000) (hn : nl = true → l = []) : ev pr 74 [.list 2 (rksA l) nl cd] M = some (.x (.ms M.length 0 l.length 2 false) (M ++ [some (rksA l)]) []) := by
  cases nl with
  | true => have := hn rfl; subst this; simp at hne
  | false =>
    have hm : ¬ l.length = 0 := by omega
    have hrl := rks_len l
    refine ev_fn' A74 ?_
    clear hn
    repeat' (first | ((with_reducible first | apply S_0 | apply S_q1 | apply S_g | apply S_c); exact sgc) | (with_reducible first | apply SO_q | apply SG_t | apply SG_f0 | apply SG_f1 | apply S_nil | apply T_n | apply W_seq | apply W_region | apply SO_x | apply SC_t | apply SC_f | apply W_block | apply W_ret | apply W_skip | apply W_exit | apply T_r | apply T_e | apply B_n | apply B_e) | (with_reducible apply B_ne; focus decide) | (with_reducible first | apply B_r | apply R_e | apply R_r | apply H_e | apply H_r | apply G_e | apply G_r) | (with_reducible apply SC_n) | ((with_reducible first | apply SC_d | apply SG_d | apply SG_n | apply SC_b | apply SG_b) <;> intro hc <;> try simp only [decide_eq_true_eq, decide_eq_false_iff_not, Classical.not_not, Bool.not_eq_true', Bool.not_eq_false'] at hc))
    (first | exact fincR | exact fincN)
theorem Own.swap {lo : Nat} {B B' G : MS} {x : AV} {sz : Nat} {cs : List AV} (h : Own lo (B ++ G) x sz cs) (hl : B'.length = B.length) (hlo : B.length ≤ lo) : Own lo (B' ++ G) x sz cs := by
  obtain ⟨a, b, c, e | ⟨f, id, g1, g2, g3, g4⟩⟩ := h
  · exact ⟨a, b, c, .inl e⟩
  · refine ⟨a, b, c, .inr ⟨f, id, g1, by simp at g2 ⊢; omega, g3, ?_⟩⟩
    rw [List.getElem?_append_right (by omega)] at g4 ⊢
    rw [hl]; exact g4
theorem Own.lower {lo lo' : Nat} {m : MS} {x : AV} {sz : Nat} {cs : List AV} (h : Own lo m x sz cs) (hl : lo' ≤ lo) : Own lo' m x sz cs := by
  obtain ⟨a, b, c, e | ⟨f, id, g1, g2⟩⟩ := h
  · exact ⟨a, b, c, .inl e⟩
  · exact ⟨a, b, c, .inr ⟨f, id, by omega, g2⟩⟩
theorem Own.cell {lo : Nat} {m : MS} {x : AV} {sz : Nat} {cs : List AV} (h : Own lo m x sz cs) : cellsOf x = some [x] := by
  obtain ⟨_, _, _, ⟨_, rfl⟩ | ⟨_, id, _, _, rfl, _⟩⟩ := h <;> rfl
def cpQ (q : Rnk) : Rnk := ⟨cln q.p, q.r⟩
def cpI (x : List Rnk) (i : Nat) : List Rnk := (x.take i).map cpQ ++ x.drop i
theorem cpI_len (x : List Rnk) (i : Nat) : (cpI x i).length = x.length := by simp [cpI]; omega
def cpR (r : Rks) : Rks := ⟨r.l.map cpQ, r.nl, r.l.isEmpty, fun h => by rw [r.nil h]; exact ⟨rfl, rfl⟩, by simpa using r.le⟩
theorem rks_app (x y : List Rnk) : rksA (x ++ y) = rksA x ++ rksA y := by simp [rksA]
theorem cpI_step {x : List Rnk} {i : Nat} (h : i < x.length) : rksA (cpI x (i + 1)) = splice (rksA (cpI x i)) (i * 2) [(cln x[i].p).av] := by
  have e1 : cpI x i = (x.take i).map cpQ ++ x[i] :: x.drop (i + 1) := by rw [cpI, List.drop_eq_getElem_cons h]
  have e2 : cpI x (i + 1) = (x.take i).map cpQ ++ cpQ x[i] :: x.drop (i + 1) := by rw [cpI, List.take_succ_eq_append_getElem h, List.map_append]; simp
  rw [e1, e2, rks_app, rks_app, rks_cons, rks_cons, splice]
  have hl : (rksA ((x.take i).map cpQ)).length = i * 2 := by rw [rks_len]; simp; omega
  rw [List.take_left' hl, ← hl, ← List.length_append]
  have : (rksA ((x.take i).map cpQ) ++ x[i].p.av :: AV.flat (.int .i64 x[i].r) :: rksA (x.drop (i + 1))).drop ((rksA ((x.take i).map cpQ)).length + 1) = AV.flat (.int .i64 x[i].r) :: rksA (x.drop (i + 1)) := by
    rw [← List.drop_drop, List.drop_left]; rfl
  rw [List.length_append, List.length_singleton, this]
  simp [cpQ]
theorem cpI_get {x : List Rnk} {i : Nat} (h : i < x.length) : (cpI x i)[i]'(by rw [cpI_len]; exact h) = x[i] := by
  simp only [cpI]
  rw [List.getElem_append_right (by simp; omega)]
  simp [Nat.min_eq_left (Nat.le_of_lt h)]
theorem cpI_all (x : List Rnk) : cpI x x.length = x.map cpQ := by simp [cpI]
theorem cpR_e {r : Rks} (h : r.l = []) : (cpR r).av = .list 2 [] r.nl true := by simp only [cpR, Rks.av, h]; rfl
theorem cpR_n {r : Rks} (h : 0 < r.l.length) : (cpR r).av = .list 2 (rksA (r.l.map cpQ)) false false := by
  have h1 : r.nl = false := by
    cases hn : r.nl with
    | false => rfl
    | true => rw [r.nil hn] at h; simp at h
  have h2 : r.l.isEmpty = false := by
    cases hp : r.l with
    | nil => rw [hp] at h; simp at h
    | cons a b => rfl
  simp only [cpR, Rks.av, h1, h2]
theorem pl_cpQ (x : List Rnk) : paths (x.map cpQ) = paths x := by simp [paths, cpQ, cln, Function.comp_def]
theorem plX_cp (l : List Rks) : plX (l.map cpR) = plX l := by
  simp only [plX, List.map_map]
  exact List.map_congr_left fun r _ => pl_cpQ r.l
/-- A fact that the reckoning doesn't see. -/
def Hid (p : Prop) : Prop := p
theorem dirt_out {base id : Nat} {D : List Nat} (h : base ≤ id) : dirt base id D = D := if_neg (by omega)
attribute [go_sem] dirt_out
section
variable {p : Pr} {base : Nat} {env : Env} {M : MS} {D : List Nat} {d : Option Nat} {r : List AOp} {R : Env → MS → List Nat → Prop}
/-- A store into a known row, of a row that is given up. -/
theorem S_putC {sz k rl len id2 : Nat} {c1 c2 : Bool} {a x : O} (B H : MS) {cs C : List AV} (hM : M = B ++ (some cs :: (H ++ [some C]))) (hy : a.ev env = .elem (.ms B.length 0 rl sz c1) k) (hx : x.ev env = .ms id2 0 len 1 c2) (hid : id2 = B.length + 1 + H.length) (hC : allI C = true)
    (hlen : C.length = len) (hcs : cs.length = rl * sz) (hk : k + 1 ≤ rl * sz) (hbase : base ≤ B.length)
    (h : WS p base 0 r (updO env d (.flat undef)) (B ++ (some (splice cs k [.list 1 C false c2]) :: (H ++ [none]))) D R) :
    WS p base 0 (⟨d, .store 1 a x, none⟩ :: r) env M D R := by
  subst hM hid
  have e1 : (B ++ (some cs :: (H ++ [some C])))[B.length + 1 + H.length]? = some (some C) := by
    rw [List.getElem?_append_right (by omega), show B.length + 1 + H.length - B.length = H.length + 1 by omega, List.getElem?_cons_succ, List.getElem?_append_right (by omega)]; simp
  have e2 : (B ++ (some cs :: (H ++ [some C]))).set (B.length + 1 + H.length) none = B ++ (some cs :: (H ++ [none])) := by
    rw [List.set_append_right _ _ (by omega), show B.length + 1 + H.length - B.length = H.length + 1 by omega, List.set_cons_succ, List.set_append_right _ _ (by omega)]; simp
  have hv : evI (ev p) base env (B ++ (some cs :: (H ++ [some C]))) D (.store 1 a x) = some (.x (.flat undef) (B ++ (some (splice cs k [.list 1 C false c2]) :: (H ++ [none]))) D) := by
    simp only [evI, hx, cellsOf, List.length_singleton, if_true, hy, storeA, frzAll, frz, e1]
    rw [if_pos ⟨by omega, by omega, hC⟩]
    simp only [e2, List.drop_zero, Nat.mul_one]
    rw [show (B ++ (some cs :: (H ++ [none])))[B.length]? = some (some cs) by simp]
    simp only
    rw [if_pos ⟨by simpa using hk, by omega⟩]
    simp only [dirt, Nat.zero_add, List.set_append_right _ _ (Nat.le_refl _), Nat.sub_self, List.set_cons_zero]
    rw [if_neg (by omega), ← hlen, List.take_length]
  exact S_0 hv (SO_x h)
theorem S_putV {sz k rl : Nat} {c1 : Bool} {a x : O} (B H : MS) {cs : List AV} {v : AV} (hM : M = B ++ (some cs :: H)) (hy : a.ev env = .elem (.ms B.length 0 rl sz c1) k) (hx : x.ev env = v) (hv : cellsOf v = some [v]) (hi : isI v = true)
    (hcs : cs.length = rl * sz) (hk : k + 1 ≤ rl * sz) (hbase : base ≤ B.length)
    (h : WS p base 0 r (updO env d (.flat undef)) (B ++ (some (splice cs k [v]) :: H)) D R) :
    WS p base 0 (⟨d, .store 1 a x, none⟩ :: r) env M D R := by
  subst hM
  have hv : evI (ev p) base env (B ++ (some cs :: H)) D (.store 1 a x) = some (.x (.flat undef) (B ++ (some (splice cs k [v]) :: H)) D) := by
    simp only [evI, hx, hv, List.length_singleton, if_true, hy, storeA, frzAll1 _ _ _ hi]
    rw [show (B ++ (some cs :: H))[B.length]? = some (some cs) by simp]
    simp only
    rw [if_pos ⟨by simpa using hk, by omega⟩]
    simp only [dirt, Nat.zero_add, List.set_append_right _ _ (Nat.le_refl _), Nat.sub_self, List.set_cons_zero]
    rw [if_neg (by omega)]
  exact S_0 hv (SO_x h)
end
theorem t29 (n : Int) (l : List Rks) (nl cd : Bool) (M : MS) (hl : l.length ≤ 1000) (hp : ∀ r ∈ l, r.l.length ≤ 1000 ∧ ∀ q ∈ r.l, q.p.l.length ≤ 1000) : ∃ out, ev pr 29 [.agg [.flat (.int .i64 n), .list 1 (l.map Rks.av) nl cd]] M = some out ∧ ∃ v G, out = .x (.agg [.flat (.int .i64 n), v]) (M ++ G) [] ∧ Own M.length (M ++ G) v 1 ((l.map cpR).map Rks.av) := by
  refine ev_fnE A29 ?_
  obtain ⟨A, hA⟩ : ∃ A : MS, A = M ++ [some [.flat (.int .i64 n), .list 1 (l.map Rks.av) nl cd], some [.flat (.int .i64 0), .list 1 [] true true]] := ⟨_, rfl⟩
  have hAl : A.length = M.length + 2 := by rw [hA]; simp
  have hAm : ∀ X : MS, A ++ X = M ++ (some [.flat (.int .i64 n), .list 1 (l.map Rks.av) nl cd] :: some [.flat (.int .i64 0), .list 1 [] true true] :: X) := by rw [hA]; simp
  clear hA
  repeat' (first | ((with_reducible first | apply S_0 | apply S_q1 | apply S_g | apply S_c); exact sgc) | (with_reducible first | apply SO_q | apply SG_t | apply SG_f0 | apply SG_f1 | apply S_nil | apply T_n | apply W_seq | apply W_region | apply SO_x | apply SC_t | apply SC_f | apply W_block | apply W_ret | apply W_skip | apply W_exit | apply T_r | apply T_e | apply B_n | apply B_e) | (with_reducible apply B_ne; focus decide) | (with_reducible first | apply B_r | apply R_e | apply R_r | apply H_e | apply H_r | apply G_e | apply G_r) | (with_reducible apply SC_n) | ((with_reducible first | apply SC_d | apply SG_d | apply SG_n | apply SC_b | apply SG_b) <;> intro hc <;> try simp only [decide_eq_true_eq, decide_eq_false_iff_not, Classical.not_not, Bool.not_eq_true', Bool.not_eq_false'] at hc))
  refine W_rngM 14 0 l.length (fun i e m => ∃ w G, m = A ++ [some [.flat (.int .i64 n), w]] ++ G ∧ Own (A ++ [some [.flat (.int .i64 n), w]]).length m w 1 (((l.take i).map cpR).map Rks.av)) (by simp only [asg, asgO, List.append_nil, List.nil_append, List.cons_append]; rfl) (by exact svc) (by omega)
    ⟨.list 1 [] true true, [], by simp [hAm], by simpa using Own.nil _ _ (by decide)⟩ ?_
  rintro i e _ _ hi hk e14 ⟨w, G, rfl, hO⟩
  have k3 : e 3 = .mptr A.length 0 := by rw [hk 3 rfl, hAl]; exact svc
  have k2 : e 2 = .mptr (M.length + 1) 0 := by rw [hk 2 rfl]; exact svc
  have k12 : e 12 = .list 1 (l.map Rks.av) nl cd := by rw [hk 12 rfl]; exact svc
  have k13 : e 13 = .flat (.int .i64 l.length) := by rw [hk 13 rfl]; exact svc
  clear hk
  rcases Nat.lt_or_ge i l.length with hlt | hlt
  · have hlt' : (i : Int) < l.length := by omega
    have hwc := hO.cell
    have hwv := hO.buf
    obtain ⟨hpl, hpq⟩ := hp _ (List.getElem_mem hlt)
    have htl : (((l.take i).map cpR).map Rks.av).length = i := by simp; omega
    have htk : ((l.take (i + 1)).map cpR).map Rks.av = ((l.take i).map cpR).map Rks.av ++ [(cpR l[i]).av] := by
      rw [List.take_succ_eq_append_getElem hlt, List.map_append, List.map_append]; rfl
    have hAl' : M.length + 2 ≤ A.length := by omega
    clear hp hAm hAl
    rcases Nat.eq_zero_or_pos l[i].l.length with h0 | h0
    · have hnil := List.eq_nil_of_length_eq_zero h0
      have h74 : ∀ M, ev pr 74 [.list 2 (rksA []) l[i].nl l[i].cd] M = some (.x (.list 2 [] l[i].nl true) M []) := fun M => t74e l[i].nl l[i].cd M
      rw [cpR_e hnil] at htk
      repeat' (first | ((with_reducible first | apply S_0 | apply S_q1 | apply S_g | apply S_c); exact sgc) | (with_reducible first | apply SO_q | apply SG_t | apply SG_f0 | apply SG_f1 | apply S_nil | apply T_n | apply W_seq | apply W_region | apply SO_x | apply SC_t | apply SC_f | apply W_block | apply W_ret | apply W_skip | apply W_exit | apply T_r | apply T_e | apply B_n | apply B_e) | (with_reducible apply B_ne; focus decide) | (with_reducible first | apply B_r | apply R_e | apply R_r | apply H_e | apply H_r | apply G_e | apply G_r) | (with_reducible apply SC_n) | ((with_reducible first | apply SC_d | apply SG_d | apply SG_n | apply SC_b | apply SG_b) <;> intro hc <;> try simp only [decide_eq_true_eq, decide_eq_false_iff_not, Classical.not_not, Bool.not_eq_true', Bool.not_eq_false'] at hc))
      refine W_rngM 22 0 0 (fun _ e' m => m = A ++ [some [.flat (.int .i64 n), w]] ++ G) (by simp only [asg, asgO, List.append_nil, List.nil_append, List.cons_append]; rfl) (by exact svc) (by omega) (by simp) ?_
      rintro j e' _ _ hj hk e22 rfl
      have j3 : e' 3 = .mptr A.length 0 := by rw [hk 3 rfl]; exact svc
      have j2 : e' 2 = .mptr (M.length + 1) 0 := by rw [hk 2 rfl]; exact svc
      have j12 : e' 12 = .list 1 (l.map Rks.av) nl cd := by rw [hk 12 rfl]; exact svc
      have j13 : e' 13 = .flat (.int .i64 l.length) := by rw [hk 13 rfl]; exact svc
      have j14 : e' 14 = .flat (.int .i64 i) := by rw [hk 14 rfl]; exact svc
      have j6 : e' 6 = .list 2 [] l[i].nl true := by rw [hk 6 rfl]; exact svc
      have j21 : e' 21 = .flat (.int .i64 0) := by rw [hk 21 rfl]; exact svc
      clear hk k3 k2 k12 k13 e14
      obtain rfl : j = 0 := by omega
      repeat' (first | ((with_reducible first | apply S_0 | apply S_q1 | apply S_g | apply S_c); exact sgc) | (with_reducible first | apply SO_q | apply SG_t | apply SG_f0 | apply SG_f1 | apply S_nil | apply T_n | apply W_seq | apply W_region | apply SO_x | apply SC_t | apply SC_f | apply W_block | apply W_ret | apply W_skip | apply W_exit | apply T_r | apply T_e | apply B_n | apply B_e) | (with_reducible apply B_ne; focus decide) | (with_reducible first | apply B_r | apply R_e | apply R_r | apply H_e | apply H_r | apply G_e | apply G_r) | (with_reducible apply SC_n) | ((with_reducible first | apply SC_d | apply SG_d | apply SG_n | apply SC_b | apply SG_b) <;> intro hc <;> try simp only [decide_eq_true_eq, decide_eq_false_iff_not, Classical.not_not, Bool.not_eq_true', Bool.not_eq_false'] at hc))
      (refine S_ownG (cs := ((l.take i).map cpR).map Rks.av) (A ++ [some [.flat (.int .i64 n), w]]) G (by assumption) (by first | rfl | simp only [List.append_assoc, List.cons_append, List.nil_append]) (by exact sgc) (by exact sgc) (by exact sgc) (by exact sgc) (by exact sgc) (by (first | assumption | omega | (simp only [ints_len, Nat.div_one, Nat.one_mul, Nat.mul_one, List.length_map, rks_len, half, List.length_cons, List.length_nil, List.length_append, List.length_replicate]; omega))) (by (first | assumption | omega | (simp only [ints_len, Nat.div_one, Nat.one_mul, Nat.mul_one, List.length_map, rks_len, half, List.length_cons, List.length_nil, List.length_append, List.length_replicate]; omega))) (by first | omega | (simp; done) | (simp; omega)) ?_)
      intro v' G' hO2
      rw [← htk] at hO2
      have hvc := hO2.cell
      repeat' (first | ((with_reducible first | apply S_0 | apply S_q1 | apply S_g | apply S_c); exact sgc) | (with_reducible first | apply SO_q | apply SG_t | apply SG_f0 | apply SG_f1 | apply S_nil | apply T_n | apply W_seq | apply W_region | apply SO_x | apply SC_t | apply SC_f | apply W_block | apply W_ret | apply W_skip | apply W_exit | apply T_r | apply T_e | apply B_n | apply B_e) | (with_reducible apply B_ne; focus decide) | (with_reducible first | apply B_r | apply R_e | apply R_r | apply H_e | apply H_r | apply G_e | apply G_r) | (with_reducible apply SC_n) | ((with_reducible first | apply SC_d | apply SG_d | apply SG_n | apply SC_b | apply SG_b) <;> intro hc <;> try simp only [decide_eq_true_eq, decide_eq_false_iff_not, Classical.not_not, Bool.not_eq_true', Bool.not_eq_false'] at hc))
      refine G_n (by exact svc) hlt ?_
      exact ⟨v', G', by simp, by simpa using hO2.swap (B' := A ++ [some [.flat (.int .i64 n), v']]) (by simp) (by simp)⟩
    · have h74 := fun M => t74 l[i].l l[i].nl l[i].cd M h0 (by omega) l[i].nil
      rw [cpR_n h0] at htk
      obtain ⟨B, hB⟩ : ∃ B, B = A ++ (some [.flat (.int .i64 n), w] :: G) := ⟨_, rfl⟩
      have hBl : A.length + 1 ≤ B.length := by rw [hB]; simp
      have hB3 : ∀ X, (B ++ X)[A.length]? = some (some [.flat (.int .i64 n), w]) := fun X => by rw [hB]; simp
      have hBs : ∀ X c, (B ++ X).set A.length c = A ++ (c :: (G ++ X)) := fun X c => by rw [hB]; simp
      have hrl := rks_len l[i].l
      have hbe : B.length = A.length + (1 + G.length) := by rw [hB]; simp; omega
      rw [show A ++ [some [AV.flat (Value.int IntKind.i64 n), w]] ++ G = B by rw [hB]; simp]
      rw [show A ++ [some [AV.flat (Value.int IntKind.i64 n), w]] ++ G = B by rw [hB]; simp] at hO hwv
      have hH : Hid (B = A ++ (some [.flat (.int .i64 n), w] :: G)) := hB
      clear hB hbe
      repeat' (first | ((with_reducible first | apply S_0 | apply S_q1 | apply S_g | apply S_c); exact sgc) | (with_reducible first | apply SO_q | apply SG_t | apply SG_f0 | apply SG_f1 | apply S_nil | apply T_n | apply W_seq | apply W_region | apply SO_x | apply SC_t | apply SC_f | apply W_block | apply W_ret | apply W_skip | apply W_exit | apply T_r | apply T_e | apply B_n | apply B_e) | (with_reducible apply B_ne; focus decide) | (with_reducible first | apply B_r | apply R_e | apply R_r | apply H_e | apply H_r | apply G_e | apply G_r) | (with_reducible apply SC_n) | ((with_reducible first | apply SC_d | apply SG_d | apply SG_n | apply SC_b | apply SG_b) <;> intro hc <;> try simp only [decide_eq_true_eq, decide_eq_false_iff_not, Classical.not_not, Bool.not_eq_true', Bool.not_eq_false'] at hc))
      refine W_rngM 22 0 l[i].l.length (fun j e' m => ∃ H, m = B ++ (some (rksA (cpI l[i].l j)) :: H)) (by simp only [asg, asgO, List.append_nil, List.nil_append, List.cons_append]; rfl) (by exact svc) (by omega) ⟨[], by simp [cpI]⟩ ?_
      rintro j e' _ _ hj hk e22 ⟨H, rfl⟩
      have j3 : e' 3 = .mptr A.length 0 := by rw [hk 3 rfl]; exact svc
      have j2 : e' 2 = .mptr (M.length + 1) 0 := by rw [hk 2 rfl]; exact svc
      have j12 : e' 12 = .list 1 (l.map Rks.av) nl cd := by rw [hk 12 rfl]; exact svc
      have j13 : e' 13 = .flat (.int .i64 l.length) := by rw [hk 13 rfl]; exact svc
      have j14 : e' 14 = .flat (.int .i64 i) := by rw [hk 14 rfl]; exact svc
      have j6 : e' 6 = .ms B.length 0 l[i].l.length 2 false := by rw [hk 6 rfl]; exact svc
      have j21 : e' 21 = .flat (.int .i64 l[i].l.length) := by rw [hk 21 rfl]; exact svc
      clear hk k3 k2 k12 k13 e14
      have hcl := cpI_len l[i].l j
      have hrl2 := rks_len (cpI l[i].l j)
      rcases Nat.lt_or_ge j l[i].l.length with hjl | hjl
      · have hjl' : (j : Int) < l[i].l.length := by omega
        have hst := cpI_step hjl
        have hjc : j < (cpI l[i].l j).length := by omega
        have hgt := cpI_get hjl
        have hql := hpq _ (List.getElem_mem hjl)
        have htk0 : List.take l[i].l.length (cpI l[i].l j) = cpI l[i].l j := List.take_of_length_le (by omega)
        clear htk
        rcases Nat.eq_zero_or_pos l[i].l[j].p.l.length with p0 | p0
        · have hnp := List.eq_nil_of_length_eq_zero p0
          have h75 : ∀ M, ev pr 75 [.list 1 (intsA []) l[i].l[j].p.nl l[i].l[j].p.cd] M = some (.x (.list 1 [] l[i].l[j].p.nl true) M []) := fun M => t75e l[i].l[j].p.nl l[i].l[j].p.cd M
          rw [cln_e hnp] at hst
          repeat' (first | ((with_reducible first | apply S_0 | apply S_q1 | apply S_g | apply S_c); exact sgc) | (with_reducible first | apply SO_q | apply SG_t | apply SG_f0 | apply SG_f1 | apply S_nil | apply T_n | apply W_seq | apply W_region | apply SO_x | apply SC_t | apply SC_f | apply W_block | apply W_ret | apply W_skip | apply W_exit | apply T_r | apply T_e | apply B_n | apply B_e) | (with_reducible apply B_ne; focus decide) | (with_reducible first | apply B_r | apply R_e | apply R_r | apply H_e | apply H_r | apply G_e | apply G_r) | (with_reducible apply SC_n) | ((with_reducible first | apply SC_d | apply SG_d | apply SG_n | apply SC_b | apply SG_b) <;> intro hc <;> try simp only [decide_eq_true_eq, decide_eq_false_iff_not, Classical.not_not, Bool.not_eq_true', Bool.not_eq_false'] at hc))
          refine G_n (by exact svc) hjl ⟨H, ?_⟩
          rw [hst]
          simp only [splice, rks_take, List.length_singleton, rks_at1 _ _ hjc, hgt, List.append_assoc, List.cons_append, List.nil_append]
        · have h75 := fun M => t75 l[i].l[j].p.l l[i].l[j].p.nl l[i].l[j].p.cd M p0 (by omega) l[i].l[j].p.nil
          rw [cln_n p0] at hst
          repeat' (first | ((with_reducible first | apply S_0 | apply S_q1 | apply S_g | apply S_c); exact sgc) | (with_reducible first | apply SO_q | apply SG_t | apply SG_f0 | apply SG_f1 | apply S_nil | apply T_n | apply W_seq | apply W_region | apply SO_x | apply SC_t | apply SC_f | apply W_block | apply W_ret | apply W_skip | apply W_exit | apply T_r | apply T_e | apply B_n | apply B_e) | (with_reducible apply B_ne; focus decide) | (with_reducible first | apply B_r | apply R_e | apply R_r | apply H_e | apply H_r | apply G_e | apply G_r) | (with_reducible apply SC_n) | ((with_reducible first | apply SC_d | apply SG_d | apply SG_n | apply SC_b | apply SG_b) <;> intro hc <;> try simp only [decide_eq_true_eq, decide_eq_false_iff_not, Classical.not_not, Bool.not_eq_true', Bool.not_eq_false'] at hc))
          refine G_n (by exact svc) hjl ⟨H ++ [none], ?_⟩
          rw [hst]
          simp only [splice, rks_take, List.length_singleton, rks_at1 _ _ hjc, hgt, List.append_assoc, List.cons_append, List.nil_append]
      · have hjl' : ¬ (j : Int) < l[i].l.length := by omega
        obtain rfl : j = l[i].l.length := by omega
        have htq : List.take l[i].l.length (List.map cpQ l[i].l) = List.map cpQ l[i].l := List.take_of_length_le (by simp)
        rw [cpI_all] at *
        repeat' (first | ((with_reducible first | apply S_0 | apply S_q1 | apply S_g | apply S_c); exact sgc) | (with_reducible first | apply SO_q | apply SG_t | apply SG_f0 | apply SG_f1 | apply S_nil | apply T_n | apply W_seq | apply W_region | apply SO_x | apply SC_t | apply SC_f | apply W_block | apply W_ret | apply W_skip | apply W_exit | apply T_r | apply T_e | apply B_n | apply B_e) | (with_reducible apply B_ne; focus decide) | (with_reducible first | apply B_r | apply R_e | apply R_r | apply H_e | apply H_r | apply G_e | apply G_r) | (with_reducible apply SC_n) | ((with_reducible first | apply SC_d | apply SG_d | apply SG_n | apply SC_b | apply SG_b) <;> intro hc <;> try simp only [decide_eq_true_eq, decide_eq_false_iff_not, Classical.not_not, Bool.not_eq_true', Bool.not_eq_false'] at hc))
        have hB : B = A ++ (some [.flat (.int .i64 n), w] :: G) := hH
        rw [show B ++ none :: H = (A ++ [some [AV.flat (Value.int IntKind.i64 n), w]]) ++ (G ++ none :: H) by rw [hB]; simp]
        replace hO : Own (List.length (A ++ [some [AV.flat (Value.int IntKind.i64 n), w]])) ((A ++ [some [AV.flat (Value.int IntKind.i64 n), w]]) ++ (G ++ none :: H)) w 1 (List.map Rks.av (List.map cpR (List.take i l))) := by
          refine Own.growG ?_ _
          rw [hB] at hO
          simpa using hO
        clear hB hwv
        (refine S_ownG (cs := ((l.take i).map cpR).map Rks.av) (A ++ [some [.flat (.int .i64 n), w]]) (G ++ none :: H) (by assumption) (by first | rfl | simp only [List.append_assoc, List.cons_append, List.nil_append]) (by exact sgc) (by exact sgc) (by exact sgc) (by exact sgc) (by exact sgc) (by (first | assumption | omega | (simp only [ints_len, Nat.div_one, Nat.one_mul, Nat.mul_one, List.length_map, rks_len, half, List.length_cons, List.length_nil, List.length_append, List.length_replicate]; omega))) (by (first | assumption | omega | (simp only [ints_len, Nat.div_one, Nat.one_mul, Nat.mul_one, List.length_map, rks_len, half, List.length_cons, List.length_nil, List.length_append, List.length_replicate]; omega))) (by first | omega | (simp; done) | (simp; omega)) ?_)
        intro v' G' hO2
        rw [← htk] at hO2
        have hvc := hO2.cell
        repeat' (first | ((with_reducible first | apply S_0 | apply S_q1 | apply S_g | apply S_c); exact sgc) | (with_reducible first | apply SO_q | apply SG_t | apply SG_f0 | apply SG_f1 | apply S_nil | apply T_n | apply W_seq | apply W_region | apply SO_x | apply SC_t | apply SC_f | apply W_block | apply W_ret | apply W_skip | apply W_exit | apply T_r | apply T_e | apply B_n | apply B_e) | (with_reducible apply B_ne; focus decide) | (with_reducible first | apply B_r | apply R_e | apply R_r | apply H_e | apply H_r | apply G_e | apply G_r) | (with_reducible apply SC_n) | ((with_reducible first | apply SC_d | apply SG_d | apply SG_n | apply SC_b | apply SG_b) <;> intro hc <;> try simp only [decide_eq_true_eq, decide_eq_false_iff_not, Classical.not_not, Bool.not_eq_true', Bool.not_eq_false'] at hc))
        refine G_n (by exact svc) hlt ?_
        exact ⟨v', G', by simp, by simpa using hO2.swap (B' := A ++ [some [.flat (.int .i64 n), v']]) (by simp) (by simp)⟩
  · have hlt' : ¬ (i : Int) < l.length := by omega
    obtain rfl : i = l.length := by omega
    rw [List.take_length] at hO
    clear hp
    repeat' (first | ((with_reducible first | apply S_0 | apply S_q1 | apply S_g | apply S_c); exact sgc) | (with_reducible first | apply SO_q | apply SG_t | apply SG_f0 | apply SG_f1 | apply S_nil | apply T_n | apply W_seq | apply W_region | apply SO_x | apply SC_t | apply SC_f | apply W_block | apply W_ret | apply W_skip | apply W_exit | apply T_r | apply T_e | apply B_n | apply B_e) | (with_reducible apply B_ne; focus decide) | (with_reducible first | apply B_r | apply R_e | apply R_r | apply H_e | apply H_r | apply G_e | apply G_r) | (with_reducible apply SC_n) | ((with_reducible first | apply SC_d | apply SG_d | apply SG_n | apply SC_b | apply SG_b) <;> intro hc <;> try simp only [decide_eq_true_eq, decide_eq_false_iff_not, Classical.not_not, Bool.not_eq_true', Bool.not_eq_false'] at hc))
    refine ⟨.inr rfl, _, ?_, w, some [.flat (.int .i64 n), .list 1 (l.map Rks.av) nl cd] :: some [.flat (.int .i64 n), w] :: some [.flat (.int .i64 n), w] :: G, rfl, ?_⟩
    · simp only [fin, if_true, resA, rvA, tupA]
      (simp (disch := first | assumption | decide | omega | exact Pth.le _ | exact Rks.le _ | exact List.getElem_mem _ | exact allI_ints _ | exact allI_rks _ | exact allI_pths _ | exact Pth.nil _ | exact Rks.nil _ | (intro hh; simp only [Pth.nil _ hh, List.take_nil, List.drop_nil]; done) | (intro hh; simp only [Rks.nil _ hh, List.take_nil, List.drop_nil]; done) | (simp only [List.length_take, List.length_drop, List.length_append, List.length_cons, List.length_nil, List.length_replicate, List.length_map, ints_len]; omega)) only [go_sem, if_pos, if_neg, Nat.reduceBEq, Nat.reduceEqDiff, ↓reduceIte, Nat.reduceSub, Nat.reduceAdd, Int.reduceToNat, reduceCtorEq, Nat.reduceLeDiff, Nat.reduceLT, Nat.reduceMul, Nat.reduceDiv, Int.reduceLT, Int.reduceLE, Int.reduceEq, Int.reduceNe, Int.reduceAdd, Int.reduceSub, Int.reduceNeg, Int.reduceGT, Int.reduceGE, Int.reduceBEq, Int.reduceBNe, Int.reduceMul, *])
    · have h := (hO.swap (B' := M ++ [some [.flat (.int .i64 n), .list 1 (l.map Rks.av) nl cd], some [.flat (.int .i64 n), w], some [.flat (.int .i64 n), w]]) (by simp [hAl]) (Nat.le_refl _)).lower (lo' := M.length) (by simp [hAl]; omega)
      simpa using h
end Go.Proofs.Ytopiaiibpacmlaa.Av
