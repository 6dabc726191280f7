/- Go's library on slices: sorted, without what stands twice. -/
import Derived.Test.YtopiaiibpacmlaaS4
namespace Go.Proofs.Ytopiaiibpacmlaa.Av
open Go.RowKit
set_option linter.unusedSimpArgs false
set_option linter.unusedVariables false
set_option maxHeartbeats 10000000
theorem asInts_ints : ∀ l : List Int, asInts .i64 (intsA l) = some l
  | [] => rfl
  | a :: l => by
    have := asInts_ints l
    simp only [intsA, List.map_cons] at this ⊢
    simp only [asInts, if_true, this, Option.map_some]
theorem t145 (l : List Int) (id : Nat) (cd : Bool) (M : MS) (hM : M[id]? = some (some (intsA l))) (hl : l.length ≤ 1000000) : ev pr 145 [.ms id 0 l.length 1 cd] M = some (.x (.flat undef) (M.set id (some (intsA (sorted l)))) [id]) := by
  have h0 : (sorted l).length = l.length := sorted_len l
  have hs : sortA [.ms id 0 l.length 1 cd] M = some (.x (.flat undef) (M.set id (some (intsA (sorted l)))) [id]) := by
    simp only [sortA, hM]
    rw [if_pos ⟨trivial, by rw [ints_len]; omega, by unfold LIM; omega⟩]
    have e1 : ((intsA l).drop 0).take l.length = intsA l := by rw [List.drop_zero, ← ints_len l, List.take_length]
    simp only [e1, asInts_ints]
    simp only [splice, List.take_zero, List.nil_append, Nat.zero_add, ints_len, h0]
    rw [← ints_len l, List.drop_length, List.append_nil]
  rw [ev_ext (by rfl)]
  simp only [pr, orC, extS, if_true, hs]
/-- What is left of the first i numbers where each like the one ahead of it goes. -/
def dd (z : List Int) : Nat → List Int
  | 0 => []
  | i + 1 => dd z i ++ (if i = 0 ∨ z.getD i 0 ≠ z.getD (i - 1) 0 then [z.getD i 0] else [])
theorem dd_le (z : List Int) : ∀ i, (dd z i).length ≤ i
  | 0 => by simp [dd]
  | i + 1 => by have := dd_le z i; simp only [dd, List.length_append]; split <;> simp <;> omega
theorem dd_full {z : List Int} : ∀ {i}, i ≤ z.length → (∀ j, j < i → 1 ≤ j → z.getD j 0 ≠ z.getD (j - 1) 0) → dd z i = z.take i
  | 0, _, _ => by simp [dd]
  | i + 1, hi, h => by
    rw [dd, dd_full (by omega) fun j hj => h j (by omega), if_pos, List.take_succ_eq_append_getElem (by omega)]
    · simp [List.getD, List.getElem?_eq_getElem (show i < z.length by omega)]
    · by_cases h0 : i = 0
      · exact .inl h0
      · exact .inr (h i (by omega) (by omega))
theorem dd_lt {z : List Int} {k : Nat} : ∀ {i}, k < i → 1 ≤ k → z.getD k 0 = z.getD (k - 1) 0 → (dd z i).length < i
  | 0, h, _, _ => by omega
  | i + 1, h, h1, he => by
    simp only [dd, List.length_append]
    by_cases hk : k = i
    · subst hk
      have := dd_le z k
      rw [if_neg fun h => h.elim (fun hh => by omega) fun hh => hh he]; simp; omega
    · have := dd_lt (i := i) (by omega) h1 he
      split <;> simp <;> omega
theorem dd_pos {z : List Int} : ∀ {i}, 0 < i → 1 ≤ (dd z i).length
  | 1, _ => by simp [dd]
  | i + 2, _ => by
    have := dd_pos (z := z) (i := i + 1) (by omega)
    rw [dd, List.length_append]; omega
theorem get_of {z : List Int} {j : Nat} (h : j < z.length) : z.getD j 0 = z[j] := by simp [List.getD, List.getElem?_eq_getElem h]
theorem put_ok {c : List AV} {dl : List Int} {v : Int} {n : Nat} (hc : c.length = n) (hd : dl.length < n) : (intsA dl ++ AV.flat (.int .i64 v) :: c.drop (dl.length + 1)).length = n ∧
    (intsA dl ++ AV.flat (.int .i64 v) :: c.drop (dl.length + 1)).take (dl.length + 1) = intsA (dl ++ [v]) ∧ ∀ j, dl.length < j → (intsA dl ++ AV.flat (.int .i64 v) :: c.drop (dl.length + 1))[j]? = c[j]? := by
  refine ⟨by simp only [List.length_append, ints_len, List.length_cons, List.length_drop]; omega, ?_, fun j hj => ?_⟩
  · have : intsA dl ++ AV.flat (.int .i64 v) :: c.drop (dl.length + 1) = intsA (dl ++ [v]) ++ c.drop (dl.length + 1) := by simp [intsA]
    rw [this, List.take_left' (by simp [intsA])]
  · rw [List.getElem?_append_right (by rw [ints_len]; omega), ints_len]
    obtain ⟨q, rfl⟩ : ∃ q, j = dl.length + 1 + q := ⟨j - dl.length - 1, by omega⟩
    rw [show dl.length + 1 + q - dl.length = q + 1 by omega, List.getElem?_cons_succ, List.getElem?_drop]
theorem t146 (z : List Int) (id : Nat) (cd : Bool) (M : MS) (hid : id < M.length) (hM : M[id]? = some (some (intsA z))) (hz : z.length ≤ 1000000) : ∃ out, ev pr 146 [.ms id 0 z.length 1 cd] M = some out ∧
    ∃ (D : List Nat) (rest : List AV) (cd' : Bool), (∀ x ∈ D, x = id) ∧ out = .x (.ms id 0 (dd z z.length).length 1 cd') (M.set id (some (intsA (dd z z.length) ++ rest))) D := by
  have hself : M.set id (some (intsA z)) = M := by
    apply List.ext_getElem?
    intro i
    by_cases hi : id = i
    · subst hi; rw [List.getElem?_set_self hid, hM]
    · rw [List.getElem?_set_ne hi]
  refine ev_fnE A146 ?_
  repeat' (first | ((first | with_reducible apply S_0 | with_reducible apply S_q1 | with_reducible apply S_g | with_reducible apply S_c); focus (simp (disch := first | assumption | decide | omega | exact Pth.le _ | exact Rks.le _ | exact List.getElem_mem _ | exact allI_ints _ | exact allI_rks _ | exact allI_pths _ | exact Pth.nil _ | exact Rks.nil _ | (intro hh; simp only [Pth.nil _ hh, List.take_nil, List.drop_nil]; done) | (intro hh; simp only [Rks.nil _ hh, List.take_nil, List.drop_nil]; done) | (simp only [List.length_take, List.length_drop, List.length_append, List.length_cons, List.length_nil, List.length_replicate, List.length_map, ints_len]; omega)) only [↓wantA, undef, go_sem, if_pos, if_neg, Nat.reduceBEq, Nat.reduceEqDiff, ↓reduceIte, Nat.reduceSub, Nat.reduceAdd, Int.reduceToNat, reduceCtorEq, Nat.reduceLeDiff, Nat.reduceLT, Nat.reduceMul, Nat.reduceDiv, Int.reduceLT, Int.reduceLE, Int.reduceEq, Int.reduceNe, Int.reduceAdd, Int.reduceSub, Int.reduceNeg, Int.reduceGT, Int.reduceGE, Int.reduceBEq, Int.reduceBNe, Int.reduceMul, *]; first | done | rfl)) | (with_reducible apply SO_q) | (with_reducible apply SG_t) | (with_reducible apply SG_f0) | (with_reducible apply SG_f1) | (with_reducible apply S_nil) | (with_reducible apply T_n) | (with_reducible apply W_seq) | (with_reducible apply W_region) | (with_reducible apply SO_x) | (with_reducible apply SC_t) | (with_reducible apply SC_f) | (with_reducible apply W_block) | (with_reducible apply W_ret) | (with_reducible apply W_skip) | (with_reducible apply W_exit) | (with_reducible apply T_r) | (with_reducible apply T_e) | (with_reducible apply B_n) | (with_reducible apply B_e) | (with_reducible apply B_ne; focus decide) | (with_reducible apply B_r) | (with_reducible apply R_e) | (with_reducible apply R_r) | (with_reducible apply H_e) | (with_reducible apply H_r) | (with_reducible apply G_e) | (with_reducible apply G_r) | (with_reducible apply SC_n) | (with_reducible apply SC_d <;> intro hc <;> try simp only [decide_eq_true_eq, decide_eq_false_iff_not, Classical.not_not, Bool.not_eq_true', Bool.not_eq_false'] at hc) | (with_reducible apply SG_d <;> intro hc <;> try simp only [decide_eq_true_eq, decide_eq_false_iff_not, Classical.not_not, Bool.not_eq_true', Bool.not_eq_false'] at hc) | (with_reducible apply SG_n <;> intro hc <;> try simp only [decide_eq_true_eq, decide_eq_false_iff_not, Classical.not_not, Bool.not_eq_true', Bool.not_eq_false'] at hc) | (with_reducible apply SC_b <;> intro hc <;> try simp only [decide_eq_true_eq, decide_eq_false_iff_not, Classical.not_not, Bool.not_eq_true', Bool.not_eq_false'] at hc) | (with_reducible apply SG_b <;> intro hc <;> try simp only [decide_eq_true_eq, decide_eq_false_iff_not, Classical.not_not, Bool.not_eq_true', Bool.not_eq_false'] at hc))
  · (refine ⟨by first | exact .inr rfl | exact .inl rfl, ?_⟩; simp (disch := first | assumption | decide | omega | exact Pth.le _ | exact Rks.le _ | exact List.getElem_mem _ | exact allI_ints _ | exact allI_rks _ | exact allI_pths _ | exact Pth.nil _ | exact Rks.nil _ | (intro hh; simp only [Pth.nil _ hh, List.take_nil, List.drop_nil]; done) | (intro hh; simp only [Rks.nil _ hh, List.take_nil, List.drop_nil]; done) | (simp only [List.length_take, List.length_drop, List.length_append, List.length_cons, List.length_nil, List.length_replicate, List.length_map, ints_len]; omega)) only [resA, rvA, tupA, fin, frzV, frzTup, frzA, frz, isI, isI.all, Option.bind_some, go_sem, if_pos, if_neg, Nat.reduceBEq, Nat.reduceEqDiff, ↓reduceIte, Nat.reduceSub, Nat.reduceAdd, Int.reduceToNat, reduceCtorEq, Nat.reduceLeDiff, Nat.reduceLT, Nat.reduceMul, Nat.reduceDiv, Int.reduceLT, Int.reduceLE, Int.reduceEq, Int.reduceNe, Int.reduceAdd, Int.reduceSub, Int.reduceNeg, Int.reduceGT, Int.reduceGE, Int.reduceBEq, Int.reduceBNe, Int.reduceMul, *])
    refine ⟨_, rfl, [], [], cd, by simp, ?_⟩
    have : dd z z.length = z := by rw [dd_full (Nat.le_refl _) (fun j h1 h2 => by omega), List.take_length]
    rw [this, List.append_nil, hself]
  refine W_rng 3 1 z.length (fun k _ => ∀ j, j < k → 1 ≤ j → z.getD j 0 ≠ z.getD (j - 1) 0) (by simp only [asg, asgO, List.append_nil, List.nil_append, List.cons_append]; rfl) (by (simp (disch := first | assumption | decide | omega | exact Pth.le _ | exact Rks.le _ | exact List.getElem_mem _ | exact allI_ints _ | exact allI_rks _ | exact allI_pths _ | exact Pth.nil _ | exact Rks.nil _ | (intro hh; simp only [Pth.nil _ hh, List.take_nil, List.drop_nil]; done) | (intro hh; simp only [Rks.nil _ hh, List.take_nil, List.drop_nil]; done) | (simp only [List.length_take, List.length_drop, List.length_append, List.length_cons, List.length_nil, List.length_replicate, List.length_map, ints_len]; omega)) only [go_sem, if_pos, if_neg, Nat.reduceBEq, Nat.reduceEqDiff, ↓reduceIte, Nat.reduceSub, Nat.reduceAdd, Int.reduceToNat, reduceCtorEq, Nat.reduceLeDiff, Nat.reduceLT, Nat.reduceMul, Nat.reduceDiv, Int.reduceLT, Int.reduceLE, Int.reduceEq, Int.reduceNe, Int.reduceAdd, Int.reduceSub, Int.reduceNeg, Int.reduceGT, Int.reduceGE, Int.reduceBEq, Int.reduceBNe, Int.reduceMul, *])) (by omega) (fun j h1 h2 => by omega) ?_
  rintro k e hk1 hkz hk e3 hl
  repeat' (first | ((first | with_reducible apply S_0 | with_reducible apply S_q1 | with_reducible apply S_g | with_reducible apply S_c); focus (simp (disch := first | assumption | decide | omega | exact Pth.le _ | exact Rks.le _ | exact List.getElem_mem _ | exact allI_ints _ | exact allI_rks _ | exact allI_pths _ | exact Pth.nil _ | exact Rks.nil _ | (intro hh; simp only [Pth.nil _ hh, List.take_nil, List.drop_nil]; done) | (intro hh; simp only [Rks.nil _ hh, List.take_nil, List.drop_nil]; done) | (simp only [List.length_take, List.length_drop, List.length_append, List.length_cons, List.length_nil, List.length_replicate, List.length_map, ints_len]; omega)) only [↓wantA, undef, go_sem, if_pos, if_neg, Nat.reduceBEq, Nat.reduceEqDiff, ↓reduceIte, Nat.reduceSub, Nat.reduceAdd, Int.reduceToNat, reduceCtorEq, Nat.reduceLeDiff, Nat.reduceLT, Nat.reduceMul, Nat.reduceDiv, Int.reduceLT, Int.reduceLE, Int.reduceEq, Int.reduceNe, Int.reduceAdd, Int.reduceSub, Int.reduceNeg, Int.reduceGT, Int.reduceGE, Int.reduceBEq, Int.reduceBNe, Int.reduceMul, *]; first | done | rfl)) | (with_reducible apply SO_q) | (with_reducible apply SG_t) | (with_reducible apply SG_f0) | (with_reducible apply SG_f1) | (with_reducible apply S_nil) | (with_reducible apply T_n) | (with_reducible apply W_seq) | (with_reducible apply W_region) | (with_reducible apply SO_x) | (with_reducible apply SC_t) | (with_reducible apply SC_f) | (with_reducible apply W_block) | (with_reducible apply W_ret) | (with_reducible apply W_skip) | (with_reducible apply W_exit) | (with_reducible apply T_r) | (with_reducible apply T_e) | (with_reducible apply B_n) | (with_reducible apply B_e) | (with_reducible apply B_ne; focus decide) | (with_reducible apply B_r) | (with_reducible apply R_e) | (with_reducible apply R_r) | (with_reducible apply H_e) | (with_reducible apply H_r) | (with_reducible apply G_e) | (with_reducible apply G_r) | (with_reducible apply SC_n) | (with_reducible apply SC_d <;> intro hc <;> try simp only [decide_eq_true_eq, decide_eq_false_iff_not, Classical.not_not, Bool.not_eq_true', Bool.not_eq_false'] at hc) | (with_reducible apply SG_d <;> intro hc <;> try simp only [decide_eq_true_eq, decide_eq_false_iff_not, Classical.not_not, Bool.not_eq_true', Bool.not_eq_false'] at hc) | (with_reducible apply SG_n <;> intro hc <;> try simp only [decide_eq_true_eq, decide_eq_false_iff_not, Classical.not_not, Bool.not_eq_true', Bool.not_eq_false'] at hc) | (with_reducible apply SC_b <;> intro hc <;> try simp only [decide_eq_true_eq, decide_eq_false_iff_not, Classical.not_not, Bool.not_eq_true', Bool.not_eq_false'] at hc) | (with_reducible apply SG_b <;> intro hc <;> try simp only [decide_eq_true_eq, decide_eq_false_iff_not, Classical.not_not, Bool.not_eq_true', Bool.not_eq_false'] at hc))
  · have hkl : k < z.length := by omega
    have he : z.getD k 0 = z.getD (k - 1) 0 := by rw [get_of hkl, get_of (by omega)]; exact hc
    have hddk : dd z (k + 1) = dd z k := by rw [dd, if_neg fun h => h.elim (fun hh => by omega) fun hh => hh he, List.append_nil]
    have hddk' : (dd z k).length = k := by rw [dd_full (by omega) hl, List.length_take]; omega
    have htk : (intsA z).take k = intsA (dd z k) := by rw [dd_full (by omega) hl, ints_take]
    refine W_whl (fun n e m d => ∃ i c, n = z.length - k - i ∧ 1 ≤ i ∧ i ≤ z.length - k ∧ e 5 = .flat (.int .i64 (i : Nat)) ∧ e 3 = .flat (.int .i64 (dd z (k + i)).length) ∧ (∀ x ∈ d, x = id) ∧ m = M.set id (some c) ∧ c.length = z.length ∧
      c.take (dd z (k + i)).length = intsA (dd z (k + i)) ∧ ∀ j, k + i ≤ j + 1 → j < z.length → c[j]? = some (.flat (.int .i64 (z.getD j 0)))) (z.length - k - 1) (by simp only [asg, asgO, List.append_nil, List.nil_append, List.cons_append]; rfl)
      ⟨1, intsA z, rfl, by omega, by omega, by (simp (disch := first | assumption | decide | omega | exact Pth.le _ | exact Rks.le _ | exact List.getElem_mem _ | exact allI_ints _ | exact allI_rks _ | exact allI_pths _ | exact Pth.nil _ | exact Rks.nil _ | (intro hh; simp only [Pth.nil _ hh, List.take_nil, List.drop_nil]; done) | (intro hh; simp only [Rks.nil _ hh, List.take_nil, List.drop_nil]; done) | (simp only [List.length_take, List.length_drop, List.length_append, List.length_cons, List.length_nil, List.length_replicate, List.length_map, ints_len]; omega)) only [go_sem, if_pos, if_neg, Nat.reduceBEq, Nat.reduceEqDiff, ↓reduceIte, Nat.reduceSub, Nat.reduceAdd, Int.reduceToNat, reduceCtorEq, Nat.reduceLeDiff, Nat.reduceLT, Nat.reduceMul, Nat.reduceDiv, Int.reduceLT, Int.reduceLE, Int.reduceEq, Int.reduceNe, Int.reduceAdd, Int.reduceSub, Int.reduceNeg, Int.reduceGT, Int.reduceGE, Int.reduceBEq, Int.reduceBNe, Int.reduceMul, *]), by rw [hddk, hddk']; (simp (disch := first | assumption | decide | omega | exact Pth.le _ | exact Rks.le _ | exact List.getElem_mem _ | exact allI_ints _ | exact allI_rks _ | exact allI_pths _ | exact Pth.nil _ | exact Rks.nil _ | (intro hh; simp only [Pth.nil _ hh, List.take_nil, List.drop_nil]; done) | (intro hh; simp only [Rks.nil _ hh, List.take_nil, List.drop_nil]; done) | (simp only [List.length_take, List.length_drop, List.length_append, List.length_cons, List.length_nil, List.length_replicate, List.length_map, ints_len]; omega)) only [go_sem, if_pos, if_neg, Nat.reduceBEq, Nat.reduceEqDiff, ↓reduceIte, Nat.reduceSub, Nat.reduceAdd, Int.reduceToNat, reduceCtorEq, Nat.reduceLeDiff, Nat.reduceLT, Nat.reduceMul, Nat.reduceDiv, Int.reduceLT, Int.reduceLE, Int.reduceEq, Int.reduceNe, Int.reduceAdd, Int.reduceSub, Int.reduceNeg, Int.reduceGT, Int.reduceGE, Int.reduceBEq, Int.reduceBNe, Int.reduceMul, *]), by simp, hself.symm, ints_len z, by rw [hddk, hddk', htk], fun j h1 h2 => by rw [ints_get, List.getElem?_eq_getElem h2, get_of h2]; rfl⟩ ?_
    rintro n e' m d hk' ⟨i, c, rfl, hi1, hik, e5, e3', hd, rfl, hcl, htc, hcj⟩
    have q1 : c[k + i - 1]? = some (.flat (.int .i64 (z.getD (k + i - 1) 0))) := hcj _ (by omega) (by omega)
    have e0' : e' 0 = .ms id 0 z.length 1 cd := by rw [hk' 0 rfl]; (simp (disch := first | assumption | decide | omega | exact Pth.le _ | exact Rks.le _ | exact List.getElem_mem _ | exact allI_ints _ | exact allI_rks _ | exact allI_pths _ | exact Pth.nil _ | exact Rks.nil _ | (intro hh; simp only [Pth.nil _ hh, List.take_nil, List.drop_nil]; done) | (intro hh; simp only [Rks.nil _ hh, List.take_nil, List.drop_nil]; done) | (simp only [List.length_take, List.length_drop, List.length_append, List.length_cons, List.length_nil, List.length_replicate, List.length_map, ints_len]; omega)) only [go_sem, if_pos, if_neg, Nat.reduceBEq, Nat.reduceEqDiff, ↓reduceIte, Nat.reduceSub, Nat.reduceAdd, Int.reduceToNat, reduceCtorEq, Nat.reduceLeDiff, Nat.reduceLT, Nat.reduceMul, Nat.reduceDiv, Int.reduceLT, Int.reduceLE, Int.reduceEq, Int.reduceNe, Int.reduceAdd, Int.reduceSub, Int.reduceNeg, Int.reduceGT, Int.reduceGE, Int.reduceBEq, Int.reduceBNe, Int.reduceMul, *])
    have e4' : e' 4 = .ms id k (z.length - k) 1 cd := by rw [hk' 4 rfl]; (simp (disch := first | assumption | decide | omega | exact Pth.le _ | exact Rks.le _ | exact List.getElem_mem _ | exact allI_ints _ | exact allI_rks _ | exact allI_pths _ | exact Pth.nil _ | exact Rks.nil _ | (intro hh; simp only [Pth.nil _ hh, List.take_nil, List.drop_nil]; done) | (intro hh; simp only [Rks.nil _ hh, List.take_nil, List.drop_nil]; done) | (simp only [List.length_take, List.length_drop, List.length_append, List.length_cons, List.length_nil, List.length_replicate, List.length_map, ints_len]; omega)) only [go_sem, if_pos, if_neg, Nat.reduceBEq, Nat.reduceEqDiff, ↓reduceIte, Nat.reduceSub, Nat.reduceAdd, Int.reduceToNat, reduceCtorEq, Nat.reduceLeDiff, Nat.reduceLT, Nat.reduceMul, Nat.reduceDiv, Int.reduceLT, Int.reduceLE, Int.reduceEq, Int.reduceNe, Int.reduceAdd, Int.reduceSub, Int.reduceNeg, Int.reduceGT, Int.reduceGE, Int.reduceBEq, Int.reduceBNe, Int.reduceMul, *])
    clear hk' hk hl htk
    have hd1 := dd_lt (z := z) (k := k) (i := k + i) (by omega) hk1 he
    have hd2 : 1 ≤ (dd z (k + i)).length := dd_pos (by omega)
    have hq : ∀ j (h : j < ((c.drop k).take (z.length - k)).length), i ≤ j + 1 → ((c.drop k).take (z.length - k))[j] = .flat (.int .i64 (z.getD (k + j) 0)) := by
      intro j h h1
      simp only [List.length_take, List.length_drop] at h
      have := hcj (k + j) (by omega) (by omega)
      rw [List.getElem?_eq_getElem (by omega)] at this
      rw [List.getElem_take, List.getElem_drop]
      exact Option.some.inj this
    clear q1
    repeat' (first | ((first | with_reducible apply S_0 | with_reducible apply S_q1 | with_reducible apply S_g | with_reducible apply S_c); focus (simp (disch := first | assumption | decide | omega | exact Pth.le _ | exact Rks.le _ | exact List.getElem_mem _ | exact allI_ints _ | exact allI_rks _ | exact allI_pths _ | exact Pth.nil _ | exact Rks.nil _ | (intro hh; simp only [Pth.nil _ hh, List.take_nil, List.drop_nil]; done) | (intro hh; simp only [Rks.nil _ hh, List.take_nil, List.drop_nil]; done) | (simp only [List.length_take, List.length_drop, List.length_append, List.length_cons, List.length_nil, List.length_replicate, List.length_map, ints_len]; omega)) only [↓wantA, undef, go_sem, if_pos, if_neg, Nat.reduceBEq, Nat.reduceEqDiff, ↓reduceIte, Nat.reduceSub, Nat.reduceAdd, Int.reduceToNat, reduceCtorEq, Nat.reduceLeDiff, Nat.reduceLT, Nat.reduceMul, Nat.reduceDiv, Int.reduceLT, Int.reduceLE, Int.reduceEq, Int.reduceNe, Int.reduceAdd, Int.reduceSub, Int.reduceNeg, Int.reduceGT, Int.reduceGE, Int.reduceBEq, Int.reduceBNe, Int.reduceMul, *]; first | done | rfl)) | (with_reducible apply SO_q) | (with_reducible apply SG_t) | (with_reducible apply SG_f0) | (with_reducible apply SG_f1) | (with_reducible apply S_nil) | (with_reducible apply T_n) | (with_reducible apply W_seq) | (with_reducible apply W_region) | (with_reducible apply SO_x) | (with_reducible apply SC_t) | (with_reducible apply SC_f) | (with_reducible apply W_block) | (with_reducible apply W_ret) | (with_reducible apply W_skip) | (with_reducible apply W_exit) | (with_reducible apply T_r) | (with_reducible apply T_e) | (with_reducible apply B_n) | (with_reducible apply B_e) | (with_reducible apply B_ne; focus decide) | (with_reducible apply B_r) | (with_reducible apply R_e) | (with_reducible apply R_r) | (with_reducible apply H_e) | (with_reducible apply H_r) | (with_reducible apply G_e) | (with_reducible apply G_r) | (with_reducible apply SC_n) | (with_reducible apply SC_d <;> intro hc <;> try simp only [decide_eq_true_eq, decide_eq_false_iff_not, Classical.not_not, Bool.not_eq_true', Bool.not_eq_false'] at hc) | (with_reducible apply SG_d <;> intro hc <;> try simp only [decide_eq_true_eq, decide_eq_false_iff_not, Classical.not_not, Bool.not_eq_true', Bool.not_eq_false'] at hc) | (with_reducible apply SG_n <;> intro hc <;> try simp only [decide_eq_true_eq, decide_eq_false_iff_not, Classical.not_not, Bool.not_eq_true', Bool.not_eq_false'] at hc) | (with_reducible apply SC_b <;> intro hc <;> try simp only [decide_eq_true_eq, decide_eq_false_iff_not, Classical.not_not, Bool.not_eq_true', Bool.not_eq_false'] at hc) | (with_reducible apply SG_b <;> intro hc <;> try simp only [decide_eq_true_eq, decide_eq_false_iff_not, Classical.not_not, Bool.not_eq_true', Bool.not_eq_false'] at hc))
    · have hki : k + (i - 1) = k + i - 1 := by omega
      have hn : dd z (k + (i + 1)) = dd z (k + i) ++ [z.getD (k + i) 0] := by
        rw [← Nat.add_assoc, dd, if_pos (.inr (by rw [← hki]; exact hc))]
      have hl1 : (dd z (k + (i + 1))).length = (dd z (k + i)).length + 1 := by rw [hn]; simp
      obtain ⟨p1, p2, p3⟩ := put_ok (v := z.getD (k + i) 0) hcl (show (dd z (k + i)).length < z.length by omega)
      refine R_n _ (by omega) ⟨i + 1, _, rfl, by omega, by omega, by (simp (disch := first | assumption | decide | omega | exact Pth.le _ | exact Rks.le _ | exact List.getElem_mem _ | exact allI_ints _ | exact allI_rks _ | exact allI_pths _ | exact Pth.nil _ | exact Rks.nil _ | (intro hh; simp only [Pth.nil _ hh, List.take_nil, List.drop_nil]; done) | (intro hh; simp only [Rks.nil _ hh, List.take_nil, List.drop_nil]; done) | (simp only [List.length_take, List.length_drop, List.length_append, List.length_cons, List.length_nil, List.length_replicate, List.length_map, ints_len]; omega)) only [go_sem, if_pos, if_neg, Nat.reduceBEq, Nat.reduceEqDiff, ↓reduceIte, Nat.reduceSub, Nat.reduceAdd, Int.reduceToNat, reduceCtorEq, Nat.reduceLeDiff, Nat.reduceLT, Nat.reduceMul, Nat.reduceDiv, Int.reduceLT, Int.reduceLE, Int.reduceEq, Int.reduceNe, Int.reduceAdd, Int.reduceSub, Int.reduceNeg, Int.reduceGT, Int.reduceGE, Int.reduceBEq, Int.reduceBNe, Int.reduceMul, *]), by rw [hl1]; (simp (disch := first | assumption | decide | omega | exact Pth.le _ | exact Rks.le _ | exact List.getElem_mem _ | exact allI_ints _ | exact allI_rks _ | exact allI_pths _ | exact Pth.nil _ | exact Rks.nil _ | (intro hh; simp only [Pth.nil _ hh, List.take_nil, List.drop_nil]; done) | (intro hh; simp only [Rks.nil _ hh, List.take_nil, List.drop_nil]; done) | (simp only [List.length_take, List.length_drop, List.length_append, List.length_cons, List.length_nil, List.length_replicate, List.length_map, ints_len]; omega)) only [go_sem, if_pos, if_neg, Nat.reduceBEq, Nat.reduceEqDiff, ↓reduceIte, Nat.reduceSub, Nat.reduceAdd, Int.reduceToNat, reduceCtorEq, Nat.reduceLeDiff, Nat.reduceLT, Nat.reduceMul, Nat.reduceDiv, Int.reduceLT, Int.reduceLE, Int.reduceEq, Int.reduceNe, Int.reduceAdd, Int.reduceSub, Int.reduceNeg, Int.reduceGT, Int.reduceGE, Int.reduceBEq, Int.reduceBNe, Int.reduceMul, *]), ?_, rfl, p1, ?_, ?_⟩
      · intro x hx
        rcases List.mem_cons.1 hx with h | h
        · exact h
        · exact hd x h
      · rw [hl1, hn]; exact p2
      · intro j h1 h2
        rw [p3 j (by omega)]; exact hcj j (by omega) h2
    · have hki : k + (i - 1) = k + i - 1 := by omega
      have hn : dd z (k + (i + 1)) = dd z (k + i) := by
        rw [← Nat.add_assoc, dd, if_neg fun h => h.elim (fun hh => by omega) fun hh => hh (by rw [← hki]; exact hc), List.append_nil]
      refine R_n _ (by omega) ⟨i + 1, c, rfl, by omega, by omega, by (simp (disch := first | assumption | decide | omega | exact Pth.le _ | exact Rks.le _ | exact List.getElem_mem _ | exact allI_ints _ | exact allI_rks _ | exact allI_pths _ | exact Pth.nil _ | exact Rks.nil _ | (intro hh; simp only [Pth.nil _ hh, List.take_nil, List.drop_nil]; done) | (intro hh; simp only [Rks.nil _ hh, List.take_nil, List.drop_nil]; done) | (simp only [List.length_take, List.length_drop, List.length_append, List.length_cons, List.length_nil, List.length_replicate, List.length_map, ints_len]; omega)) only [go_sem, if_pos, if_neg, Nat.reduceBEq, Nat.reduceEqDiff, ↓reduceIte, Nat.reduceSub, Nat.reduceAdd, Int.reduceToNat, reduceCtorEq, Nat.reduceLeDiff, Nat.reduceLT, Nat.reduceMul, Nat.reduceDiv, Int.reduceLT, Int.reduceLE, Int.reduceEq, Int.reduceNe, Int.reduceAdd, Int.reduceSub, Int.reduceNeg, Int.reduceGT, Int.reduceGE, Int.reduceBEq, Int.reduceBNe, Int.reduceMul, *]), by rw [hn]; (simp (disch := first | assumption | decide | omega | exact Pth.le _ | exact Rks.le _ | exact List.getElem_mem _ | exact allI_ints _ | exact allI_rks _ | exact allI_pths _ | exact Pth.nil _ | exact Rks.nil _ | (intro hh; simp only [Pth.nil _ hh, List.take_nil, List.drop_nil]; done) | (intro hh; simp only [Rks.nil _ hh, List.take_nil, List.drop_nil]; done) | (simp only [List.length_take, List.length_drop, List.length_append, List.length_cons, List.length_nil, List.length_replicate, List.length_map, ints_len]; omega)) only [go_sem, if_pos, if_neg, Nat.reduceBEq, Nat.reduceEqDiff, ↓reduceIte, Nat.reduceSub, Nat.reduceAdd, Int.reduceToNat, reduceCtorEq, Nat.reduceLeDiff, Nat.reduceLT, Nat.reduceMul, Nat.reduceDiv, Int.reduceLT, Int.reduceLE, Int.reduceEq, Int.reduceNe, Int.reduceAdd, Int.reduceSub, Int.reduceNeg, Int.reduceGT, Int.reduceGE, Int.reduceBEq, Int.reduceBNe, Int.reduceMul, *]), hd, rfl, hcl, by rw [hn]; exact htc, fun j h1 h2 => hcj j (by omega) h2⟩
    · have hkz : k + i = z.length := by omega
      (refine ⟨by first | exact .inr rfl | exact .inl rfl, ?_⟩; simp (disch := first | assumption | decide | omega | exact Pth.le _ | exact Rks.le _ | exact List.getElem_mem _ | exact allI_ints _ | exact allI_rks _ | exact allI_pths _ | exact Pth.nil _ | exact Rks.nil _ | (intro hh; simp only [Pth.nil _ hh, List.take_nil, List.drop_nil]; done) | (intro hh; simp only [Rks.nil _ hh, List.take_nil, List.drop_nil]; done) | (simp only [List.length_take, List.length_drop, List.length_append, List.length_cons, List.length_nil, List.length_replicate, List.length_map, ints_len]; omega)) only [resA, rvA, tupA, fin, frzV, frzTup, frzA, frz, isI, isI.all, Option.bind_some, go_sem, if_pos, if_neg, Nat.reduceBEq, Nat.reduceEqDiff, ↓reduceIte, Nat.reduceSub, Nat.reduceAdd, Int.reduceToNat, reduceCtorEq, Nat.reduceLeDiff, Nat.reduceLT, Nat.reduceMul, Nat.reduceDiv, Int.reduceLT, Int.reduceLE, Int.reduceEq, Int.reduceNe, Int.reduceAdd, Int.reduceSub, Int.reduceNeg, Int.reduceGT, Int.reduceGE, Int.reduceBEq, Int.reduceBNe, Int.reduceMul, *])
      refine ⟨_, rfl, _, _, _, ?_, rfl⟩
      intro x hx
      rcases List.mem_cons.1 hx with h | h
      · exact h
      · exact hd x h
  · refine H_n (by (simp (disch := first | assumption | decide | omega | exact Pth.le _ | exact Rks.le _ | exact List.getElem_mem _ | exact allI_ints _ | exact allI_rks _ | exact allI_pths _ | exact Pth.nil _ | exact Rks.nil _ | (intro hh; simp only [Pth.nil _ hh, List.take_nil, List.drop_nil]; done) | (intro hh; simp only [Rks.nil _ hh, List.take_nil, List.drop_nil]; done) | (simp only [List.length_take, List.length_drop, List.length_append, List.length_cons, List.length_nil, List.length_replicate, List.length_map, ints_len]; omega)) only [go_sem, if_pos, if_neg, Nat.reduceBEq, Nat.reduceEqDiff, ↓reduceIte, Nat.reduceSub, Nat.reduceAdd, Int.reduceToNat, reduceCtorEq, Nat.reduceLeDiff, Nat.reduceLT, Nat.reduceMul, Nat.reduceDiv, Int.reduceLT, Int.reduceLE, Int.reduceEq, Int.reduceNe, Int.reduceAdd, Int.reduceSub, Int.reduceNeg, Int.reduceGT, Int.reduceGE, Int.reduceBEq, Int.reduceBNe, Int.reduceMul, *])) (by omega) (ext1 hl fun _ => ?_)
    rw [get_of (by omega), get_of (by omega)]; exact hc
  · (refine ⟨by first | exact .inr rfl | exact .inl rfl, ?_⟩; simp (disch := first | assumption | decide | omega | exact Pth.le _ | exact Rks.le _ | exact List.getElem_mem _ | exact allI_ints _ | exact allI_rks _ | exact allI_pths _ | exact Pth.nil _ | exact Rks.nil _ | (intro hh; simp only [Pth.nil _ hh, List.take_nil, List.drop_nil]; done) | (intro hh; simp only [Rks.nil _ hh, List.take_nil, List.drop_nil]; done) | (simp only [List.length_take, List.length_drop, List.length_append, List.length_cons, List.length_nil, List.length_replicate, List.length_map, ints_len]; omega)) only [resA, rvA, tupA, fin, frzV, frzTup, frzA, frz, isI, isI.all, Option.bind_some, go_sem, if_pos, if_neg, Nat.reduceBEq, Nat.reduceEqDiff, ↓reduceIte, Nat.reduceSub, Nat.reduceAdd, Int.reduceToNat, reduceCtorEq, Nat.reduceLeDiff, Nat.reduceLT, Nat.reduceMul, Nat.reduceDiv, Int.reduceLT, Int.reduceLE, Int.reduceEq, Int.reduceNe, Int.reduceAdd, Int.reduceSub, Int.reduceNeg, Int.reduceGT, Int.reduceGE, Int.reduceBEq, Int.reduceBNe, Int.reduceMul, *])
    refine ⟨_, rfl, [], [], cd, by simp, ?_⟩
    have : dd z z.length = z := by rw [dd_full (Nat.le_refl _) (fun j h1 h2 => hl j (by omega) h2), List.take_length]
    rw [this, List.append_nil, hself]
/-- In sorted rows what stands twice stands side by side. -/
theorem dd_sorted {z : List Int} (hs : z.Pairwise (· ≤ ·)) : (dd z z.length).length = z.length ↔ z.Nodup := by
  have mono : ∀ a b (ha : a < b) (hb : b < z.length), z[a]'(by omega) ≤ z[b] := fun a b ha hb => List.pairwise_iff_getElem.1 hs a b (by omega) hb ha
  constructor
  · intro h
    have hne : ∀ k, 1 ≤ k → k < z.length → z.getD k 0 ≠ z.getD (k - 1) 0 := fun k h1 h2 he => by
      have := dd_lt (z := z) (k := k) (i := z.length) h2 h1 he; omega
    have lt1 : ∀ k, 1 ≤ k → (h2 : k < z.length) → z[k - 1] < z[k] := fun k h1 h2 => by
      have h3 := hne k h1 h2
      rw [get_of h2, get_of (by omega)] at h3
      have := mono (k - 1) k (by omega) h2
      omega
    rw [List.nodup_iff_pairwise_ne, List.pairwise_iff_getElem]
    intro i j hi hj hij
    have h1 := lt1 j (by omega) hj
    by_cases hh : i = j - 1
    · subst hh; omega
    · have := mono i (j - 1) (by omega) (by omega); omega
  · intro h
    rw [dd_full (Nat.le_refl _), List.take_length]
    intro j h1 h2 he
    rw [get_of h1, get_of (by omega)] at he
    rw [List.nodup_iff_pairwise_ne, List.pairwise_iff_getElem] at h
    exact h (j - 1) j (by omega) h1 (by omega) he.symm
theorem filter_own {D : List Nat} {n id : Nat} (h : ∀ x ∈ D, x = id) (hn : n ≤ id) : D.filter (fun x => decide (x < n)) = [] := by
  rw [List.filter_eq_nil_iff]
  intro a ha
  have := h a ha
  simp only [decide_eq_true_eq]; omega
attribute [go_sem] t104
theorem t140 (l : List Int) (nl cd : Bool) (M : MS) (hne : 0 < l.length) (hl : l.length ≤ 1000000) (hn : nl = true → l = []) : ev pr 140 [.list 1 (intsA l) nl cd] M = some (.q (.flat (.bool (decide l.Nodup)))) := by
  have h1 := t75 l nl cd M hne hl hn
  have h2 := t145 l M.length false (M ++ [some (intsA l)]) (by simp) hl
  have e2 : (M ++ [some (intsA l)]).set M.length (some (intsA (sorted l))) = M ++ [some (intsA (sorted l))] := by rw [set_app0]; rfl
  rw [e2] at h2
  obtain ⟨_, h3, D, rest, cd', hD, rfl⟩ := t146 (sorted l) M.length false (M ++ [some (intsA (sorted l))]) (by simp) (by simp) (by rw [sorted_len]; exact hl)
  rw [sorted_len] at h3
  have h4 := filter_own hD (Nat.le_refl M.length)
  have h5 := dd_sorted (sorted_pw l)
  rw [sorted_len] at h5
  have h6 : (sorted l).Nodup ↔ l.Nodup := (sorted_perm l).nodup_iff
  have h7 : List.filter (fun x => decide (x < M.length)) [M.length] = [] := by simp
  clear e2 hD
  refine ev_fn' A140 ?_
  repeat' (first | ((first | with_reducible apply S_0 | with_reducible apply S_q1 | with_reducible apply S_g | with_reducible apply S_c); focus (simp (disch := first | assumption | decide | omega | exact Pth.le _ | exact Rks.le _ | exact List.getElem_mem _ | exact allI_ints _ | exact allI_rks _ | exact allI_pths _ | exact Pth.nil _ | exact Rks.nil _ | (intro hh; simp only [Pth.nil _ hh, List.take_nil, List.drop_nil]; done) | (intro hh; simp only [Rks.nil _ hh, List.take_nil, List.drop_nil]; done) | (simp only [List.length_take, List.length_drop, List.length_append, List.length_cons, List.length_nil, List.length_replicate, List.length_map, ints_len]; omega)) only [↓wantA, undef, go_sem, if_pos, if_neg, Nat.reduceBEq, Nat.reduceEqDiff, ↓reduceIte, Nat.reduceSub, Nat.reduceAdd, Int.reduceToNat, reduceCtorEq, Nat.reduceLeDiff, Nat.reduceLT, Nat.reduceMul, Nat.reduceDiv, Int.reduceLT, Int.reduceLE, Int.reduceEq, Int.reduceNe, Int.reduceAdd, Int.reduceSub, Int.reduceNeg, Int.reduceGT, Int.reduceGE, Int.reduceBEq, Int.reduceBNe, Int.reduceMul, *]; first | done | rfl)) | (with_reducible apply SO_q) | (with_reducible apply SG_t) | (with_reducible apply SG_f0) | (with_reducible apply SG_f1) | (with_reducible apply S_nil) | (with_reducible apply T_n) | (with_reducible apply W_seq) | (with_reducible apply W_region) | (with_reducible apply SO_x) | (with_reducible apply SC_t) | (with_reducible apply SC_f) | (with_reducible apply W_block) | (with_reducible apply W_ret) | (with_reducible apply W_skip) | (with_reducible apply W_exit) | (with_reducible apply T_r) | (with_reducible apply T_e) | (with_reducible apply B_n) | (with_reducible apply B_e) | (with_reducible apply B_ne; focus decide) | (with_reducible apply B_r) | (with_reducible apply R_e) | (with_reducible apply R_r) | (with_reducible apply H_e) | (with_reducible apply H_r) | (with_reducible apply G_e) | (with_reducible apply G_r) | (with_reducible apply SC_n) | (with_reducible apply SC_d <;> intro hc <;> try simp only [decide_eq_true_eq, decide_eq_false_iff_not, Classical.not_not, Bool.not_eq_true', Bool.not_eq_false'] at hc) | (with_reducible apply SG_d <;> intro hc <;> try simp only [decide_eq_true_eq, decide_eq_false_iff_not, Classical.not_not, Bool.not_eq_true', Bool.not_eq_false'] at hc) | (with_reducible apply SG_n <;> intro hc <;> try simp only [decide_eq_true_eq, decide_eq_false_iff_not, Classical.not_not, Bool.not_eq_true', Bool.not_eq_false'] at hc) | (with_reducible apply SC_b <;> intro hc <;> try simp only [decide_eq_true_eq, decide_eq_false_iff_not, Classical.not_not, Bool.not_eq_true', Bool.not_eq_false'] at hc) | (with_reducible apply SG_b <;> intro hc <;> try simp only [decide_eq_true_eq, decide_eq_false_iff_not, Classical.not_not, Bool.not_eq_true', Bool.not_eq_false'] at hc))
  (refine ⟨by first | exact .inr rfl | exact .inl rfl, ?_⟩; simp (disch := first | assumption | decide | omega | exact Pth.le _ | exact Rks.le _ | exact List.getElem_mem _ | exact allI_ints _ | exact allI_rks _ | exact allI_pths _ | exact Pth.nil _ | exact Rks.nil _ | (intro hh; simp only [Pth.nil _ hh, List.take_nil, List.drop_nil]; done) | (intro hh; simp only [Rks.nil _ hh, List.take_nil, List.drop_nil]; done) | (simp only [List.length_take, List.length_drop, List.length_append, List.length_cons, List.length_nil, List.length_replicate, List.length_map, ints_len]; omega)) only [resA, rvA, tupA, fin, frzV, frzTup, frzA, frz, isI, isI.all, Option.bind_some, go_sem, if_pos, if_neg, Nat.reduceBEq, Nat.reduceEqDiff, ↓reduceIte, Nat.reduceSub, Nat.reduceAdd, Int.reduceToNat, reduceCtorEq, Nat.reduceLeDiff, Nat.reduceLT, Nat.reduceMul, Nat.reduceDiv, Int.reduceLT, Int.reduceLE, Int.reduceEq, Int.reduceNe, Int.reduceAdd, Int.reduceSub, Int.reduceNeg, Int.reduceGT, Int.reduceGE, Int.reduceBEq, Int.reduceBNe, Int.reduceMul, *])
  have : ((((dd (sorted l) l.length).length : Nat) : Int) = l.length) = l.Nodup := by rw [eq_iff_iff, ← h6, ← h5]; omega
  simp only [this]
end Go.Proofs.Ytopiaiibpacmlaa.Av
