/- Copies of states; a node chooses. -/
import Derived.Test.YtopiaiibpacmlaaX6
namespace Go.Proofs.Ytopiaiibpacmlaa.Av
open Go.RowKit
set_option linter.unusedSimpArgs false
set_option linter.unusedVariables false
set_option maxHeartbeats 10000000
/-- A path's copy. -/
def cln (p : Pth) : Pth := ⟨p.l, p.nl, p.l.isEmpty, fun h => by rw [p.nil h]; exact ⟨rfl, rfl⟩, p.le⟩
theorem cln_l (s : List Pth) : pl (s.map cln) = pl s := by simp [pl, cln, Function.comp_def]
theorem cln_e {p : Pth} (h : p.l = []) : (cln p).av = .list 1 [] p.nl true := by
  simp only [cln, Pth.av, h]; rfl
theorem cln_n {p : Pth} (h : 0 < p.l.length) : (cln p).av = .list 1 (intsA p.l) false false := by
  have h1 : p.nl = false := by
    cases hn : p.nl with
    | false => rfl
    | true => rw [p.nil hn] at h; simp at h
  have h2 : p.l.isEmpty = false := by
    cases hp : p.l with
    | nil => rw [hp] at h; simp at h
    | cons a b => rfl
  simp only [cln, Pth.av, h1, h2]
theorem t71 (s : List Pth) (ns cs : Bool) (M : MS) (hs : s.length ≤ 1000) (hp : ∀ p ∈ s, p.l.length ≤ 1000) : ∃ out, ev pr 71 [.list 1 (s.map Pth.av) ns cs] M = some out ∧ ∃ v G, out = .x v (M ++ G) [] ∧ Own M.length (M ++ G) v 1 ((s.map cln).map Pth.av) := by
  refine ev_fnE A71 ?_
  repeat' (first | ((with_reducible first | apply S_0 | apply S_q1 | apply S_g | apply S_c); exact sgc) | (with_reducible first | apply SO_q | apply SG_t | apply SG_f0 | apply SG_f1 | apply S_nil | apply T_n | apply W_seq | apply W_region | apply SO_x | apply SC_t | apply SC_f | apply W_block | apply W_ret | apply W_skip | apply W_exit | apply T_r | apply T_e | apply B_n | apply B_e) | (with_reducible apply B_ne; focus decide) | (with_reducible first | apply B_r | apply R_e | apply R_r | apply H_e | apply H_r | apply G_e | apply G_r) | (with_reducible apply SC_n) | ((with_reducible first | apply SC_d | apply SG_d | apply SG_n | apply SC_b | apply SG_b) <;> intro hc <;> try simp only [decide_eq_true_eq, decide_eq_false_iff_not, Classical.not_not, Bool.not_eq_true', Bool.not_eq_false'] at hc))
  refine W_rngM 8 0 s.length (fun i e m => ∃ v G, e 3 = v ∧ m = M ++ G ∧ Own M.length (M ++ G) v 1 (((s.take i).map cln).map Pth.av)) (by simp only [asg, asgO, List.append_nil, List.nil_append, List.cons_append]; rfl) (by exact svc) (by omega)
    ⟨.list 1 [] true true, [], by exact svc, by simp, by simpa using Own.nil _ _ (by decide)⟩ ?_
  rintro i e _ _ hi hk e8 ⟨w, G, e3, rfl, hO⟩
  have k6 : e 6 = .list 1 (s.map Pth.av) ns cs := by rw [hk 6 rfl]; exact svc
  have k7 : e 7 = .flat (.int .i64 s.length) := by rw [hk 7 rfl]; exact svc
  clear hk
  have htl : (((s.take i).map cln).map Pth.av).length = i := by simp; omega
  rcases Nat.lt_or_ge i s.length with hlt | hlt
  · have hlt' : (i : Int) < s.length := by omega
    have htk : ((s.take (i + 1)).map cln).map Pth.av = ((s.take i).map cln).map Pth.av ++ [(cln s[i]).av] := by
      rw [List.take_succ_eq_append_getElem hlt, List.map_append, List.map_append]; rfl
    have hsp := hp _ (List.getElem_mem hlt)
    rcases Nat.eq_zero_or_pos s[i].l.length with h0 | h0
    · have hnil := List.eq_nil_of_length_eq_zero h0
      have h75 : ∀ M, ev pr 75 [.list 1 (intsA []) s[i].nl s[i].cd] M = some (.x (.list 1 [] s[i].nl true) M []) := fun M => t75e s[i].nl s[i].cd M
      rw [cln_e hnil] at htk
      repeat' (first | ((with_reducible first | apply S_0 | apply S_q1 | apply S_g | apply S_c); exact sgc) | (with_reducible first | apply SO_q | apply SG_t | apply SG_f0 | apply SG_f1 | apply S_nil | apply T_n | apply W_seq | apply W_region | apply SO_x | apply SC_t | apply SC_f | apply W_block | apply W_ret | apply W_skip | apply W_exit | apply T_r | apply T_e | apply B_n | apply B_e) | (with_reducible apply B_ne; focus decide) | (with_reducible first | apply B_r | apply R_e | apply R_r | apply H_e | apply H_r | apply G_e | apply G_r) | (with_reducible apply SC_n) | ((with_reducible first | apply SC_d | apply SG_d | apply SG_n | apply SC_b | apply SG_b) <;> intro hc <;> try simp only [decide_eq_true_eq, decide_eq_false_iff_not, Classical.not_not, Bool.not_eq_true', Bool.not_eq_false'] at hc))
      (refine S_ownG (cs := ((s.take i).map cln).map Pth.av) M G (by assumption) (by first | rfl | simp only [List.append_assoc, List.cons_append, List.nil_append]) (by exact sgc) (by exact sgc) (by exact sgc) (by exact sgc) (by exact sgc) (by (first | assumption | omega | (simp only [ints_len, Nat.div_one, Nat.one_mul, Nat.mul_one, List.length_map, rks_len, half, List.length_cons, List.length_nil, List.length_append]; omega))) (by (first | assumption | omega | (simp only [ints_len, Nat.div_one, Nat.one_mul, Nat.mul_one, List.length_map, rks_len, half, List.length_cons, List.length_nil, List.length_append]; omega))) (by first | omega | (simp; done) | (simp; omega)) ?_)
      intro v' G' hO2
      rw [← htk] at hO2
      repeat' (first | ((with_reducible first | apply S_0 | apply S_q1 | apply S_g | apply S_c); exact sgc) | (with_reducible first | apply SO_q | apply SG_t | apply SG_f0 | apply SG_f1 | apply S_nil | apply T_n | apply W_seq | apply W_region | apply SO_x | apply SC_t | apply SC_f | apply W_block | apply W_ret | apply W_skip | apply W_exit | apply T_r | apply T_e | apply B_n | apply B_e) | (with_reducible apply B_ne; focus decide) | (with_reducible first | apply B_r | apply R_e | apply R_r | apply H_e | apply H_r | apply G_e | apply G_r) | (with_reducible apply SC_n) | ((with_reducible first | apply SC_d | apply SG_d | apply SG_n | apply SC_b | apply SG_b) <;> intro hc <;> try simp only [decide_eq_true_eq, decide_eq_false_iff_not, Classical.not_not, Bool.not_eq_true', Bool.not_eq_false'] at hc))
      exact G_n (by exact svc) hlt ⟨v', G', by exact svc, rfl, hO2⟩
    · have h75 := fun M => t75 s[i].l s[i].nl s[i].cd M h0 (by omega) s[i].nil
      have hO' := hO.growG [none]
      rw [cln_n h0] at htk
      repeat' (first | ((with_reducible first | apply S_0 | apply S_q1 | apply S_g | apply S_c); exact sgc) | (with_reducible first | apply SO_q | apply SG_t | apply SG_f0 | apply SG_f1 | apply S_nil | apply T_n | apply W_seq | apply W_region | apply SO_x | apply SC_t | apply SC_f | apply W_block | apply W_ret | apply W_skip | apply W_exit | apply T_r | apply T_e | apply B_n | apply B_e) | (with_reducible apply B_ne; focus decide) | (with_reducible first | apply B_r | apply R_e | apply R_r | apply H_e | apply H_r | apply G_e | apply G_r) | (with_reducible apply SC_n) | ((with_reducible first | apply SC_d | apply SG_d | apply SG_n | apply SC_b | apply SG_b) <;> intro hc <;> try simp only [decide_eq_true_eq, decide_eq_false_iff_not, Classical.not_not, Bool.not_eq_true', Bool.not_eq_false'] at hc))
      (refine S_ownG (cs := ((s.take i).map cln).map Pth.av) M (G ++ [none]) (by assumption) (by first | rfl | simp only [List.append_assoc, List.cons_append, List.nil_append]) (by exact sgc) (by exact sgc) (by exact sgc) (by exact sgc) (by exact sgc) (by (first | assumption | omega | (simp only [ints_len, Nat.div_one, Nat.one_mul, Nat.mul_one, List.length_map, rks_len, half, List.length_cons, List.length_nil, List.length_append]; omega))) (by (first | assumption | omega | (simp only [ints_len, Nat.div_one, Nat.one_mul, Nat.mul_one, List.length_map, rks_len, half, List.length_cons, List.length_nil, List.length_append]; omega))) (by first | omega | (simp; done) | (simp; omega)) ?_)
      intro v' G' hO2
      rw [← htk] at hO2
      repeat' (first | ((with_reducible first | apply S_0 | apply S_q1 | apply S_g | apply S_c); exact sgc) | (with_reducible first | apply SO_q | apply SG_t | apply SG_f0 | apply SG_f1 | apply S_nil | apply T_n | apply W_seq | apply W_region | apply SO_x | apply SC_t | apply SC_f | apply W_block | apply W_ret | apply W_skip | apply W_exit | apply T_r | apply T_e | apply B_n | apply B_e) | (with_reducible apply B_ne; focus decide) | (with_reducible first | apply B_r | apply R_e | apply R_r | apply H_e | apply H_r | apply G_e | apply G_r) | (with_reducible apply SC_n) | ((with_reducible first | apply SC_d | apply SG_d | apply SG_n | apply SC_b | apply SG_b) <;> intro hc <;> try simp only [decide_eq_true_eq, decide_eq_false_iff_not, Classical.not_not, Bool.not_eq_true', Bool.not_eq_false'] at hc))
      exact G_n (by exact svc) hlt ⟨v', G', by exact svc, rfl, hO2⟩
  · have hlt' : ¬ (i : Int) < s.length := by omega
    obtain rfl : i = s.length := by omega
    rw [List.take_length] at hO
    clear hp
    repeat' (first | ((with_reducible first | apply S_0 | apply S_q1 | apply S_g | apply S_c); exact sgc) | (with_reducible first | apply SO_q | apply SG_t | apply SG_f0 | apply SG_f1 | apply S_nil | apply T_n | apply W_seq | apply W_region | apply SO_x | apply SC_t | apply SC_f | apply W_block | apply W_ret | apply W_skip | apply W_exit | apply T_r | apply T_e | apply B_n | apply B_e) | (with_reducible apply B_ne; focus decide) | (with_reducible first | apply B_r | apply R_e | apply R_r | apply H_e | apply H_r | apply G_e | apply G_r) | (with_reducible apply SC_n) | ((with_reducible first | apply SC_d | apply SG_d | apply SG_n | apply SC_b | apply SG_b) <;> intro hc <;> try simp only [decide_eq_true_eq, decide_eq_false_iff_not, Classical.not_not, Bool.not_eq_true', Bool.not_eq_false'] at hc))
    refine ⟨.inr rfl, _, rfl, w, G, ?_, hO⟩
    simp only [fin, if_true, resA, rvA, tupA]
    (simp (disch := first | assumption | decide | omega | exact Pth.le _ | exact Rks.le _ | exact List.getElem_mem _ | exact allI_ints _ | exact allI_rks _ | exact allI_pths _ | exact Pth.nil _ | exact Rks.nil _ | (intro hh; simp only [Pth.nil _ hh, List.take_nil, List.drop_nil]; done) | (intro hh; simp only [Rks.nil _ hh, List.take_nil, List.drop_nil]; done) | (simp only [List.length_take, List.length_drop, List.length_append, List.length_cons, List.length_nil, List.length_replicate, List.length_map, ints_len]; omega)) only [go_sem, if_pos, if_neg, Nat.reduceBEq, Nat.reduceEqDiff, ↓reduceIte, Nat.reduceSub, Nat.reduceAdd, Int.reduceToNat, reduceCtorEq, Nat.reduceLeDiff, Nat.reduceLT, Nat.reduceMul, Nat.reduceDiv, Int.reduceLT, Int.reduceLE, Int.reduceEq, Int.reduceNe, Int.reduceAdd, Int.reduceSub, Int.reduceNeg, Int.reduceGT, Int.reduceGE, Int.reduceBEq, Int.reduceBNe, Int.reduceMul, *])
end Go.Proofs.Ytopiaiibpacmlaa.Av
namespace Go.Proofs.Ytopiaiibpacmlaa.Av
open Go.RowKit
set_option linter.unusedSimpArgs false
set_option linter.unusedVariables false
set_option maxHeartbeats 10000000
/-- A best response as a row of its own. -/
noncomputable def rcl (s : List Pth) (L : List Rnk) : Pth := ⟨resp (pl s) (paths L), (resp (pl s) (paths L)).isEmpty, (resp (pl s) (paths L)).isEmpty, fun h => ⟨List.isEmpty_iff.1 h, h⟩, by rw [← rsp_l]; exact Pth.le _⟩
theorem rcl_av (s : List Pth) (L : List Rnk) : (rcl s L).av = .list 1 (intsA (resp (pl s) (paths L))) (resp (pl s) (paths L)).isEmpty (resp (pl s) (paths L)).isEmpty := rfl
theorem set_pths (s : List Pth) (v : Nat) (r : Pth) (h : v < s.length) : (s.set v r).map Pth.av = (s.take v).map Pth.av ++ r.av :: (s.drop (v + 1)).map Pth.av := by
  rw [List.set_eq_take_append_cons_drop, if_pos h, List.map_append, List.map_cons]
theorem Vw.ms {M : MS} {id : Nat} {s : List Pth} {cd : Bool} (hid : id < M.length) (hM : M[id]? = some (some (s.map Pth.av))) : Vw M (.ms id 0 s.length 1 cd) (s.map Pth.av) s.length :=
  ⟨rfl, fun G => by rw [view_ms, List.getElem?_append_left hid, hM, viewD_s, if_pos (by simp)]; simp [List.take_of_length_le], rfl⟩
theorem t73 {l : List Rks} {nl cd c1 : Bool} {s : List Pth} {M : MS} {v id : Nat} (hid : id < M.length) (hM : M[id]? = some (some (s.map Pth.av))) (hX : MayX l.length l) (hS : SmallX l) (hs : s.length = l.length) (hv1 : 1 ≤ v) (hv2 : v < l.length) (hsv : v < s.length) :
    ev pr 73 [.agg [.flat (.int .i64 l.length), .list 1 (l.map Rks.av) nl cd], .ms id 0 s.length 1 c1, .flat (.int .i64 v)] M = some (.x (.flat (.bool (decide (¬ (s[v]'hsv).l = resp (pl s) (paths l[v].l))))) (M.set id (some ((s.set v (rcl s l[v].l)).map Pth.av))) [id]) := by
  have h90 := t90 (v := v) (nl := nl) (cd := cd) ((Vw.ms (cd := c1) hid hM).ext [some [.flat (.int .i64 l.length), .list 1 (l.map Rks.av) nl cd]]) hX hS hs hv1 hv2
  have hl12 := hS.1
  have hM1 : ∀ G, (M ++ G)[id]? = some (some (s.map Pth.av)) := fun G => by rw [List.getElem?_append_left hid, hM]
  have hS1 : ∀ (G : MS) (c : Option (List AV)), (M ++ G).set id c = M.set id c ++ G := fun G c => by rw [List.set_append_left _ _ hid]
  have q1 : ∀ (c : Option (List AV)) (L : MS), (M.set id c ++ L)[id]? = some c := fun c L => by rw [List.getElem?_append_left (by simpa using hid), List.getElem?_set_self hid]
  have q2 : ∀ (c : Option (List AV)) (L : MS), (M.set id c ++ L).take M.length = M.set id c := fun c L => List.take_left' (by simp)
  have hall : allI ((s.take v).map Pth.av ++ (rcl s l[v].l).av :: (s.drop (v + 1)).map Pth.av) = true := by rw [← set_pths s v _ hsv]; exact allI_pths _
  rw [set_pths s v _ hsv]
  rw [rcl_av] at hall ⊢
  clear hX hS hM hs
  refine ev_fn' A73 ?_
  repeat' (first | ((with_reducible first | apply S_0 | apply S_q1 | apply S_g | apply S_c); exact sgc) | (with_reducible first | apply SO_q | apply SG_t | apply SG_f0 | apply SG_f1 | apply S_nil | apply T_n | apply W_seq | apply W_region | apply SO_x | apply SC_t | apply SC_f | apply W_block | apply W_ret | apply W_skip | apply W_exit | apply T_r | apply T_e | apply B_n | apply B_e) | (with_reducible apply B_ne; focus decide) | (with_reducible first | apply B_r | apply R_e | apply R_r | apply H_e | apply H_r | apply G_e | apply G_r) | (with_reducible apply SC_n) | ((with_reducible first | apply SC_d | apply SG_d | apply SG_n | apply SC_b | apply SG_b) <;> intro hc <;> try simp only [decide_eq_true_eq, decide_eq_false_iff_not, Classical.not_not, Bool.not_eq_true', Bool.not_eq_false'] at hc))
  (refine ⟨by first | exact .inr rfl | exact .inl rfl, ?_⟩; simp (disch := first | assumption | decide | omega | exact Pth.le _ | exact Rks.le _ | exact List.getElem_mem _ | exact allI_ints _ | exact allI_rks _ | exact allI_pths _ | exact Pth.nil _ | exact Rks.nil _ | (intro hh; simp only [Pth.nil _ hh, List.take_nil, List.drop_nil]; done) | (intro hh; simp only [Rks.nil _ hh, List.take_nil, List.drop_nil]; done) | (simp only [List.length_take, List.length_drop, List.length_append, List.length_cons, List.length_nil, List.length_replicate, List.length_map, ints_len]; omega)) only [resA, rvA, tupA, fin, frzV, frzTup, frzA, frz, isI, isI.all, Option.bind_some, go_sem, if_pos, if_neg, Nat.reduceBEq, Nat.reduceEqDiff, ↓reduceIte, Nat.reduceSub, Nat.reduceAdd, Int.reduceToNat, reduceCtorEq, Nat.reduceLeDiff, Nat.reduceLT, Nat.reduceMul, Nat.reduceDiv, Int.reduceLT, Int.reduceLE, Int.reduceEq, Int.reduceNe, Int.reduceAdd, Int.reduceSub, Int.reduceNeg, Int.reduceGT, Int.reduceGE, Int.reduceBEq, Int.reduceBNe, Int.reduceMul, *])
  simp only [List.all_cons, List.all_nil, q1, hall, Bool.and_true, if_true, decide_not]
theorem filter_ge {D : List Nat} {n b : Nat} (h : ∀ x ∈ D, b ≤ x) (hn : n ≤ b) : D.filter (fun x => decide (x < n)) = [] := by
  rw [List.filter_eq_nil_iff]
  intro x hx
  have := h x hx
  simp only [decide_eq_true_eq]; omega
/-- .. of a row that its caller has made. -/
theorem t73o {l : List Rks} {nl cd : Bool} {s : List Pth} {B G : MS} {w : AV} {v : Nat} (hO : Own B.length (B ++ G) w 1 (s.map Pth.av)) (hX : MayX l.length l) (hS : SmallX l) (hs : s.length = l.length) (hv1 : 1 ≤ v) (hv2 : v < l.length) (hsv : v < s.length) :
    ∃ G' D, ev pr 73 [.agg [.flat (.int .i64 l.length), .list 1 (l.map Rks.av) nl cd], w, .flat (.int .i64 v)] (B ++ G) = some (.x (.flat (.bool (decide (¬ (s[v]'hsv).l = resp (pl s) (paths l[v].l))))) (B ++ G') D) ∧ (∀ x ∈ D, B.length ≤ x) ∧ Own B.length (B ++ G') w 1 ((s.set v (rcl s l[v].l)).map Pth.av) := by
  have hO2 := hO
  obtain ⟨a1, a2, a3, ⟨a4, _⟩ | ⟨a4, id, a5, a6, rfl, a8⟩⟩ := hO2
  · rw [List.map_eq_nil_iff] at a4; subst a4; simp at hsv
  · have hd : (s.map Pth.av).length / 1 = s.length := by simp
    rw [hd]
    refine ⟨G.set (id - B.length) (some ((s.set v (rcl s l[v].l)).map Pth.av)), [id], ?_, ?_, ?_⟩
    · rw [t73 a6 a8 hX hS hs hv1 hv2 hsv, List.set_append_right _ _ a5]
    · intro x hx; simp only [List.mem_cons, List.not_mem_nil, or_false] at hx; subst hx; exact a5
    · refine ⟨by decide, allI_pths _, ⟨s.length, by simp⟩, .inr ⟨?_, id, a5, by simpa using a6, by simp, ?_⟩⟩
      · intro h
        rw [List.map_eq_nil_iff] at h
        have := congrArg List.length h
        rw [List.length_set, List.length_nil] at this
        omega
      · rw [← List.set_append_right _ _ a5, List.getElem?_set_self a6]
end Go.Proofs.Ytopiaiibpacmlaa.Av
