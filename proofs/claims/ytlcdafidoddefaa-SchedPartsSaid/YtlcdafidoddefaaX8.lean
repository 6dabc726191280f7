/- Rows of pairs: compared, sorted, without what stands twice. -/
import Derived.Test.YtlcdafidoddefaaX7
namespace Go.Proofs.Ytlcdafidoddefaa.Av
open Go.RowKit
set_option linter.unusedSimpArgs false
set_option linter.unusedVariables false
set_option maxHeartbeats 10000000
def pairA (p : I2) : AV := .agg [.flat (.int .i64 p.1), .flat (.int .i64 p.2)]
theorem cells2_cons (p : I2) (l : List I2) : cells2 (p :: l) = .flat (.int .i64 p.1) :: .flat (.int .i64 p.2) :: cells2 l := rfl
theorem cells2_nil : cells2 [] = [] := rfl
theorem cells2_app (x y : List I2) : cells2 (x ++ y) = cells2 x ++ cells2 y := by simp [cells2]
theorem cells2_len' (l : List I2) : (cells2 l).length = l.length * 2 := by rw [cells2_len]; omega
theorem cells2_drop (l : List I2) (k : Nat) : (cells2 l).drop (k * 2) = cells2 (l.drop k) := by
  induction l generalizing k with
  | nil => simp [cells2]
  | cons a l ih =>
    cases k with
    | zero => rfl
    | succ k => rw [cells2_cons, Nat.add_mul, Nat.one_mul, List.drop_succ_cons, List.drop_succ_cons, List.drop_succ_cons]; exact ih k
theorem cells2_take (l : List I2) (k : Nat) : (cells2 l).take (k * 2) = cells2 (l.take k) := by
  induction l generalizing k with
  | nil => simp [cells2]
  | cons a l ih =>
    cases k with
    | zero => rfl
    | succ k => rw [cells2_cons, Nat.add_mul, Nat.one_mul, List.take_succ_cons, List.take_succ_cons, List.take_succ_cons, cells2_cons, ih k]
theorem cells2_at {l : List I2} {k : Nat} (h : k < l.length) : (cells2 l).drop (k * 2) = .flat (.int .i64 l[k].1) :: .flat (.int .i64 l[k].2) :: cells2 (l.drop (k + 1)) := by
  rw [cells2_drop, List.drop_eq_getElem_cons h, cells2_cons]
theorem allI_cells2 : ∀ l : List I2, allI (cells2 l) = true
  | [] => rfl
  | p :: l => by rw [cells2_cons]; simp only [allI, isI, allI_cells2 l, Bool.and_self]
/-- What is left of the first i pairs where each like the one ahead of it goes. -/
def dd2 (z : List I2) : Nat → List I2
  | 0 => []
  | i + 1 => dd2 z i ++ (if i = 0 ∨ z.getD i (0, 0) ≠ z.getD (i - 1) (0, 0) then [z.getD i (0, 0)] else [])
theorem dd2_le (z : List I2) : ∀ i, (dd2 z i).length ≤ i
  | 0 => by simp [dd2]
  | i + 1 => by have := dd2_le z i; simp only [dd2, List.length_append]; split <;> simp <;> omega
theorem dd2_full {z : List I2} : ∀ {i}, i ≤ z.length → (∀ j, j < i → 1 ≤ j → z.getD j (0, 0) ≠ z.getD (j - 1) (0, 0)) → dd2 z i = z.take i
  | 0, _, _ => by simp [dd2]
  | i + 1, hi, h => by
    rw [dd2, dd2_full (by omega) fun j hj => h j (by omega), if_pos, List.take_succ_eq_append_getElem (by omega)]
    · simp [List.getD, List.getElem?_eq_getElem (show i < z.length by omega)]
    · by_cases h0 : i = 0
      · exact .inl h0
      · exact .inr (h i (by omega) (by omega))
theorem dd2_lt {z : List I2} {k : Nat} : ∀ {i}, k < i → 1 ≤ k → z.getD k (0, 0) = z.getD (k - 1) (0, 0) → (dd2 z i).length < i
  | 0, h, _, _ => by omega
  | i + 1, h, h1, he => by
    simp only [dd2, List.length_append]
    by_cases hk : k = i
    · subst hk
      have := dd2_le z k
      rw [if_neg fun h => h.elim (fun hh => by omega) fun hh => hh he]; simp; omega
    · have := dd2_lt (i := i) (by omega) h1 he
      split <;> simp <;> omega
theorem dd2_pos {z : List I2} : ∀ {i}, 0 < i → 1 ≤ (dd2 z i).length
  | 1, _ => by simp [dd2]
  | i + 2, _ => by
    have := dd2_pos (z := z) (i := i + 1) (by omega)
    rw [dd2, List.length_append]; omega
theorem get2_of {z : List I2} {j : Nat} (h : j < z.length) : z.getD j (0, 0) = z[j] := by simp [List.getD, List.getElem?_eq_getElem h]
/-- Sorted pairs without what stands twice: each once, rising. -/
theorem dd2_mem {z : List I2} (p : I2) : ∀ {i}, i ≤ z.length → (p ∈ dd2 z i ↔ p ∈ z.take i)
  | 0, _ => by simp [dd2]
  | i + 1, hi => by
    have hil : i < z.length := by omega
    have ih := dd2_mem (z := z) p (i := i) (by omega)
    rw [dd2, List.mem_append, ih, List.take_succ_eq_append_getElem hil, List.mem_append]
    constructor
    · rintro (h | h)
      · exact .inl h
      · split at h
        · rw [get2_of hil] at h; exact .inr h
        · simp at h
    · rintro (h | h)
      · exact .inl h
      · simp only [List.mem_singleton] at h
        by_cases hc : i = 0 ∨ z.getD i (0, 0) ≠ z.getD (i - 1) (0, 0)
        · rw [if_pos hc, get2_of hil]; exact .inr (by simp [h])
        · simp only [not_or, Classical.not_not] at hc
          refine .inl ?_
          rw [h, ← get2_of hil, hc.2, get2_of (by omega)]
          exact List.mem_take_iff_getElem.2 ⟨i - 1, by omega, rfl⟩
abbrev Lt2 (a b : I2) : Prop := lt2 a b = true
theorem lt2_iff {a b : I2} : Lt2 a b ↔ (a.1 < b.1 ∨ (a.1 = b.1 ∧ a.2 < b.2)) := by
  simp only [Lt2, lt2, Bool.or_eq_true, Bool.and_eq_true, decide_eq_true_eq]
theorem dd2_pw {z : List I2} (hz : z.Pairwise le2) : ∀ {i}, i ≤ z.length → (dd2 z i).Pairwise Lt2
  | 0, _ => by simp [dd2]
  | i + 1, hi => by
    have hil : i < z.length := by omega
    rw [dd2, List.pairwise_append]
    refine ⟨dd2_pw hz (by omega), by split <;> simp, fun a ha b hb => ?_⟩
    split at hb
    · rename_i hc
      rw [get2_of hil, List.mem_singleton] at hb
      subst hb
      have ha' := (dd2_mem a (i := i) (by omega)).1 ha
      obtain ⟨j, hj, rfl⟩ := List.mem_take_iff_getElem.1 ha'
      have hji : j < i := by omega
      have h1 : le2 z[j] z[i] := List.pairwise_iff_getElem.1 hz j i (by omega) hil hji
      rcases hc with h0 | hc
      · omega
      · rw [get2_of hil, get2_of (by omega)] at hc
        have h2 : le2 z[j] z[i - 1] := by
          rcases Nat.lt_or_ge j (i - 1) with h | h
          · exact List.pairwise_iff_getElem.1 hz j (i - 1) (by omega) (by omega) h
          · have : j = i - 1 := by omega
            subst this
            rw [le2_iff]; omega
        have h3 : le2 z[i - 1] z[i] := List.pairwise_iff_getElem.1 hz (i - 1) i (by omega) hil (by omega)
        rw [le2_iff] at h1 h2 h3
        rw [lt2_iff]
        have : z[i].1 ≠ z[i - 1].1 ∨ z[i].2 ≠ z[i - 1].2 := by
          by_cases h5 : z[i].1 = z[i - 1].1
          · exact .inr fun h6 => hc (Prod.ext h5 h6)
          · exact .inl h5
        omega
    · simp at hb
/-- All pairs, rising, each once. -/
def prs (z : List I2) : List I2 := dd2 (sorted2 z) z.length
theorem prs_mem {z : List I2} {p : I2} : p ∈ prs z ↔ p ∈ z := by
  have h := sorted2_len z
  rw [prs, dd2_mem p (by omega), ← h, List.take_length]
  exact (sorted2_perm z).mem_iff
theorem prs_pw (z : List I2) : (prs z).Pairwise Lt2 := dd2_pw (sorted2_pw z) (by rw [sorted2_len]; omega)
end Go.Proofs.Ytlcdafidoddefaa.Av
namespace Go.Proofs.Ytlcdafidoddefaa.Av
open Go.RowKit
set_option linter.unusedSimpArgs false
set_option linter.unusedVariables false
set_option maxHeartbeats 10000000
theorem put2_ok {c : List AV} {dl : List I2} {v : I2} {n : Nat} (hc : c.length = n * 2) (hd : dl.length < n) : (cells2 dl ++ AV.flat (.int .i64 v.1) :: AV.flat (.int .i64 v.2) :: c.drop (dl.length * 2 + 2)).length = n * 2 ∧
    (cells2 dl ++ AV.flat (.int .i64 v.1) :: AV.flat (.int .i64 v.2) :: c.drop (dl.length * 2 + 2)).take ((dl.length + 1) * 2) = cells2 (dl ++ [v]) ∧ ∀ j, dl.length * 2 + 2 ≤ j → (cells2 dl ++ AV.flat (.int .i64 v.1) :: AV.flat (.int .i64 v.2) :: c.drop (dl.length * 2 + 2))[j]? = c[j]? := by
  have e : cells2 dl ++ AV.flat (.int .i64 v.1) :: AV.flat (.int .i64 v.2) :: c.drop (dl.length * 2 + 2) = cells2 (dl ++ [v]) ++ c.drop (dl.length * 2 + 2) := by
    rw [cells2_app, cells2_cons, cells2_nil]; simp
  rw [e]
  have hl : (cells2 (dl ++ [v])).length = dl.length * 2 + 2 := by rw [cells2_len']; simp; omega
  refine ⟨by rw [List.length_append, hl, List.length_drop]; omega, ?_, fun j hj => ?_⟩
  · rw [List.take_left' (by rw [hl]; omega)]
  · rw [List.getElem?_append_right (by omega), hl, List.getElem?_drop]; congr 1; omega
theorem take2_at {l : List I2} {k : Nat} (h : k < l.length) : ((cells2 l).drop (k * 2)).take 2 = [.flat (.int .i64 l[k].1), .flat (.int .i64 l[k].2)] := by
  rw [cells2_at h]; rfl
theorem take2_of {c : List AV} {z : List I2} {k : Nat} (h : ∀ j, k * 2 ≤ j → j < k * 2 + 2 → c[j]? = (cells2 z)[j]?) (hk : k < z.length) : (c.drop (k * 2)).take 2 = [.flat (.int .i64 z[k].1), .flat (.int .i64 z[k].2)] := by
  rw [← take2_at hk]
  apply List.ext_getElem?
  intro j
  rw [List.getElem?_take, List.getElem?_take, List.getElem?_drop, List.getElem?_drop]
  split
  · exact h _ (by omega) (by omega)
  · rfl
theorem beq2 (a b c d : Int) : ([a, b] == [c, d]) = decide ((a, b) = (c, d)) := by
  by_cases h : (a, b) = (c, d)
  · cases h; simp
  · rw [decide_eq_false h]
    simp only [Prod.mk.injEq] at h
    have h : a = c → ¬ b = d := fun h1 h2 => h ⟨h1, h2⟩
    simpa using h
theorem frzAll2 (base : Nat) (M : MS) (v w : Value) : frzAll base M [.flat v, .flat w] = some ([.flat v, .flat w], M) := frzAll_I rfl
theorem rep2_len (a b : AV) : ∀ k : Nat, (List.replicate k [a, b]).flatten.length = k * 2
  | 0 => rfl
  | k + 1 => by rw [List.replicate_succ, List.flatten_cons, List.length_append, rep2_len a b k]; simp; omega
theorem rep2_I (v w : Value) : ∀ k : Nat, allI (List.replicate k [AV.flat v, AV.flat w]).flatten = true
  | 0 => rfl
  | k + 1 => by rw [List.replicate_succ, List.flatten_cons]; exact allI_app rfl (rep2_I v w k)
theorem rest2 {v w : Value} {k m : Nat} {c : List AV} (h : c.length ≤ m + k * 2) : allI ((List.replicate k [AV.flat v, AV.flat w]).flatten ++ c.drop (m + (List.replicate k [AV.flat v, AV.flat w]).flatten.length)) = true := by
  rw [rep2_len, List.drop_eq_nil_of_le h, List.append_nil]; exact rep2_I v w k
attribute [go_sem] beq2 cells2_len' frzAll2
theorem t74 (z : List I2) (id : Nat) (cd : Bool) (M : MS) (hid : id < M.length) (hM : M[id]? = some (some (cells2 z))) (hz : z.length ≤ 1000000) : ∃ out, ev pr 74 [.ms id 0 z.length 2 cd] M = some out ∧
    ∃ (D : List Nat) (rest : List AV) (cd' : Bool), (∀ x ∈ D, x = id) ∧ allI rest = true ∧ out = .x (.ms id 0 (dd2 z z.length).length 2 cd') (M.set id (some (cells2 (dd2 z z.length) ++ rest))) D := by
  have hself : M.set id (some (cells2 z)) = M := by
    apply List.ext_getElem?
    intro i
    by_cases hi : id = i
    · subst hi; rw [List.getElem?_set_self hid, hM]
    · rw [List.getElem?_set_ne hi]
  have htake : (cells2 z).take (z.length * 2) = cells2 z := by rw [← cells2_len', List.take_length]
  refine ev_fnE A74 ?_
  repeat' (first | ((with_reducible first | apply S_0 | apply S_q1 | apply S_g | apply S_c); exact sgc) | refine Stp.h ?_ | (with_reducible apply B_ne; focus decide) | ((with_reducible first | apply SC_d | apply SG_d | apply SG_n | apply SC_b | apply SG_b) <;> intro hc <;> try simp only [dq1, dq2, dq3, dq4, dq5] at hc))
  · (refine ⟨by first | exact .inr rfl | exact .inl rfl, ?_⟩; simp (disch := first | assumption | decide | omega | exact Pth.le _ | exact Rks.le _ | exact List.getElem_mem _ | exact allI_ints _ | exact allI_rks _ | exact allI_pths _ | exact Pth.nil _ | exact Rks.nil _ | (intro hh; simp only [Pth.nil _ hh, List.take_nil, List.drop_nil]; done) | (intro hh; simp only [Rks.nil _ hh, List.take_nil, List.drop_nil]; done) | (simp only [List.length_take, List.length_drop, List.length_append, List.length_cons, List.length_nil, List.length_replicate, List.length_map, ints_len]; omega)) only [resA, rvA, tupA, fin, frzV, frzTup, frzA, frz, isI, isI.all, Option.bind_some, go_sem, if_pos, if_neg, Nat.reduceBEq, Nat.reduceEqDiff, ↓reduceIte, Nat.reduceSub, Nat.reduceAdd, Int.reduceToNat, reduceCtorEq, Nat.reduceLeDiff, Nat.reduceLT, Nat.reduceMul, Nat.reduceDiv, Int.reduceLT, Int.reduceLE, Int.reduceEq, Int.reduceNe, Int.reduceAdd, Int.reduceSub, Int.reduceNeg, Int.reduceGT, Int.reduceGE, Int.reduceBEq, Int.reduceBNe, Int.reduceMul, *])
    refine ⟨_, rfl, [], [], cd, by simp, rfl, ?_⟩
    have : dd2 z z.length = z := by rw [dd2_full (Nat.le_refl _) (fun j h1 h2 => by omega), List.take_length]
    rw [this, List.append_nil, hself]
  refine W_rng 3 1 z.length (fun k _ => ∀ j, j < k → 1 ≤ j → z.getD j (0, 0) ≠ z.getD (j - 1) (0, 0)) (by simp only [asg, asgO, List.append_nil, List.nil_append, List.cons_append]; rfl) (by exact svc) (by omega) (fun j h1 h2 => by omega) ?_
  rintro k e hk1 hkz hk e3 hl
  rcases Nat.lt_or_ge k z.length with hkl | hkl
  · have hkl' : (k : Int) < z.length := by omega
    have l1 := take2_at (l := z) hkl
    have l2 := take2_at (l := z) (k := k - 1) (by omega)
    repeat' (first | ((with_reducible first | apply S_0 | apply S_q1 | apply S_g | apply S_c); exact sgc) | refine Stp.h ?_ | (with_reducible apply B_ne; focus decide) | ((with_reducible first | apply SC_d | apply SG_d | apply SG_n | apply SC_b | apply SG_b) <;> intro hc <;> try simp only [dq1, dq2, dq3, dq4, dq5] at hc))
    · have he : z.getD k (0, 0) = z.getD (k - 1) (0, 0) := by rw [get2_of hkl, get2_of (by omega)]; exact hc
      have hddk : dd2 z (k + 1) = dd2 z k := by rw [dd2, if_neg fun h => h.elim (fun hh => by omega) fun hh => hh he, List.append_nil]
      have hddk' : (dd2 z k).length = k := by rw [dd2_full (by omega) hl, List.length_take]; omega
      have htk : (cells2 z).take (k * 2) = cells2 (dd2 z k) := by rw [dd2_full (by omega) hl, cells2_take]
      clear l1 l2
      refine W_whl (fun n e m d => ∃ i c, n = z.length - k - i ∧ 1 ≤ i ∧ i ≤ z.length - k ∧ e 5 = .flat (.int .i64 (i : Nat)) ∧ e 3 = .flat (.int .i64 (dd2 z (k + i)).length) ∧ (∀ x ∈ d, x = id) ∧ m = M.set id (some c) ∧ c.length = z.length * 2 ∧
        c.take ((dd2 z (k + i)).length * 2) = cells2 (dd2 z (k + i)) ∧ ∀ j, (k + i - 1) * 2 ≤ j → j < z.length * 2 → c[j]? = (cells2 z)[j]?) (z.length - k - 1) (by simp only [asg, asgO, List.append_nil, List.nil_append, List.cons_append]; rfl)
        ⟨1, cells2 z, rfl, by omega, by omega, by exact svc, by rw [hddk, hddk']; exact svc, by simp, hself.symm, cells2_len' z, by rw [hddk, hddk', htk], fun j h1 h2 => rfl⟩ ?_
      rintro n e' m d hk' ⟨i, c, rfl, hi1, hik, e5, e3', hd, rfl, hcl, htc, hcj⟩
      have e0' : e' 0 = .ms id 0 z.length 2 cd := by rw [hk' 0 rfl]; exact svc
      have e4' : e' 4 = .ms id (k * 2) (z.length - k) 2 cd := by rw [hk' 4 rfl]; exact svc
      clear hk' hk hl htk
      have hd1 := dd2_lt (z := z) (k := k) (i := k + i) (by omega) hk1 he
      have hd2 : 1 ≤ (dd2 z (k + i)).length := dd2_pos (by omega)
      have hq : ∀ j, i ≤ j + 1 → j < z.length - k → ((((c.drop (k * 2)).take ((z.length - k) * 2)).drop (j * 2)).take 2) = [.flat (.int .i64 (z.getD (k + j) (0, 0)).1), .flat (.int .i64 (z.getD (k + j) (0, 0)).2)] := by
        intro j h1 h2
        have := take2_of (c := c) (z := z) (k := k + j) (fun x h3 h4 => hcj x (by omega) (by omega)) (by omega)
        rw [get2_of (by omega), ← this]
        apply List.ext_getElem?
        intro x
        rw [List.getElem?_take, List.getElem?_take, List.getElem?_drop, List.getElem?_drop, List.getElem?_take, List.getElem?_drop]
        by_cases hx : x < 2
        · rw [if_pos hx, if_pos hx, if_pos (by omega)]; congr 1; omega
        · rw [if_neg hx, if_neg hx]
      repeat' (first | ((with_reducible first | apply S_0 | apply S_q1 | apply S_g | apply S_c); exact sgc) | refine Stp.h ?_ | (with_reducible apply B_ne; focus decide) | ((with_reducible first | apply SC_d | apply SG_d | apply SG_n | apply SC_b | apply SG_b) <;> intro hc <;> try simp only [dq1, dq2, dq3, dq4, dq5] at hc))
      · have hki : k + (i - 1) = k + i - 1 := by omega
        have hn : dd2 z (k + (i + 1)) = dd2 z (k + i) := by
          rw [← Nat.add_assoc, dd2, if_neg fun h => h.elim (fun hh => by omega) fun hh => hh (by rw [← hki]; exact hc), List.append_nil]
        refine R_n _ (by omega) ⟨i + 1, c, rfl, by omega, by omega, by exact svc, by rw [hn]; exact svc, hd, rfl, hcl, by rw [hn]; exact htc, fun j h1 h2 => hcj j (by omega) h2⟩
      · have hki : k + (i - 1) = k + i - 1 := by omega
        have hn : dd2 z (k + (i + 1)) = dd2 z (k + i) ++ [z.getD (k + i) (0, 0)] := by
          rw [← Nat.add_assoc, dd2, if_pos (.inr (by rw [← hki]; exact hc))]
        have hl1 : (dd2 z (k + (i + 1))).length = (dd2 z (k + i)).length + 1 := by rw [hn]; simp
        obtain ⟨p1, p2, p3⟩ := put2_ok (v := z.getD (k + i) (0, 0)) hcl (show (dd2 z (k + i)).length < z.length by omega)
        refine R_n _ (by omega) ⟨i + 1, _, rfl, by omega, by omega, by exact svc, by rw [hl1]; exact svc, ?_, rfl, p1, ?_, ?_⟩
        · intro x hx
          rcases List.mem_cons.1 hx with h | h
          · exact h
          · exact hd x h
        · rw [hl1, hn]; exact p2
        · intro j h1 h2
          rw [p3 j (by omega)]; exact hcj j (by omega) h2
      · have hkz : k + i = z.length := by omega
        (refine ⟨by first | exact .inr rfl | exact .inl rfl, ?_⟩; simp (disch := first | assumption | decide | omega | exact Pth.le _ | exact Rks.le _ | exact List.getElem_mem _ | exact allI_ints _ | exact allI_rks _ | exact allI_pths _ | exact Pth.nil _ | exact Rks.nil _ | (intro hh; simp only [Pth.nil _ hh, List.take_nil, List.drop_nil]; done) | (intro hh; simp only [Rks.nil _ hh, List.take_nil, List.drop_nil]; done) | (simp only [List.length_take, List.length_drop, List.length_append, List.length_cons, List.length_nil, List.length_replicate, List.length_map, ints_len]; omega)) only [resA, rvA, tupA, fin, frzV, frzTup, frzA, frz, isI, isI.all, Option.bind_some, go_sem, if_pos, if_neg, Nat.reduceBEq, Nat.reduceEqDiff, ↓reduceIte, Nat.reduceSub, Nat.reduceAdd, Int.reduceToNat, reduceCtorEq, Nat.reduceLeDiff, Nat.reduceLT, Nat.reduceMul, Nat.reduceDiv, Int.reduceLT, Int.reduceLE, Int.reduceEq, Int.reduceNe, Int.reduceAdd, Int.reduceSub, Int.reduceNeg, Int.reduceGT, Int.reduceGE, Int.reduceBEq, Int.reduceBNe, Int.reduceMul, *])
        refine ⟨_, rfl, _, _, _, ?_, ?_, rfl⟩; rotate_left; · exact rest2 (by omega)
        intro x hx
        rcases List.mem_cons.1 hx with h | h
        · exact h
        · exact hd x h
    · refine H_n (by exact svc) (by omega) (ext1 hl fun _ => ?_)
      rw [get2_of (by omega), get2_of (by omega)]; exact hc
  · have hkl' : ¬ (k : Int) < z.length := by omega
    repeat' (first | ((with_reducible first | apply S_0 | apply S_q1 | apply S_g | apply S_c); exact sgc) | refine Stp.h ?_ | (with_reducible apply B_ne; focus decide) | ((with_reducible first | apply SC_d | apply SG_d | apply SG_n | apply SC_b | apply SG_b) <;> intro hc <;> try simp only [dq1, dq2, dq3, dq4, dq5] at hc))
    (refine ⟨by first | exact .inr rfl | exact .inl rfl, ?_⟩; simp (disch := first | assumption | decide | omega | exact Pth.le _ | exact Rks.le _ | exact List.getElem_mem _ | exact allI_ints _ | exact allI_rks _ | exact allI_pths _ | exact Pth.nil _ | exact Rks.nil _ | (intro hh; simp only [Pth.nil _ hh, List.take_nil, List.drop_nil]; done) | (intro hh; simp only [Rks.nil _ hh, List.take_nil, List.drop_nil]; done) | (simp only [List.length_take, List.length_drop, List.length_append, List.length_cons, List.length_nil, List.length_replicate, List.length_map, ints_len]; omega)) only [resA, rvA, tupA, fin, frzV, frzTup, frzA, frz, isI, isI.all, Option.bind_some, go_sem, if_pos, if_neg, Nat.reduceBEq, Nat.reduceEqDiff, ↓reduceIte, Nat.reduceSub, Nat.reduceAdd, Int.reduceToNat, reduceCtorEq, Nat.reduceLeDiff, Nat.reduceLT, Nat.reduceMul, Nat.reduceDiv, Int.reduceLT, Int.reduceLE, Int.reduceEq, Int.reduceNe, Int.reduceAdd, Int.reduceSub, Int.reduceNeg, Int.reduceGT, Int.reduceGE, Int.reduceBEq, Int.reduceBNe, Int.reduceMul, *])
    refine ⟨_, rfl, [], [], cd, by simp, rfl, ?_⟩
    have : dd2 z z.length = z := by rw [dd2_full (Nat.le_refl _) (fun j h1 h2 => hl j (by omega) h2), List.take_length]
    rw [this, List.append_nil, hself]
end Go.Proofs.Ytlcdafidoddefaa.Av
namespace Go.Proofs.Ytlcdafidoddefaa.Av
open Go.RowKit
set_option linter.unusedSimpArgs false
set_option linter.unusedVariables false
set_option maxHeartbeats 10000000
theorem t71 (l : List I2) (id : Nat) (cd : Bool) (M : MS) (hM : M[id]? = some (some (cells2 l))) (hl : l.length ≤ 1000000) : ev pr 71 [.ms id 0 l.length 2 cd, .clo 72 []] M = some (.x (.flat undef) (M.set id (some (cells2 (sorted2 l)))) [id]) := by
  have h0 : (sorted2 l).length = l.length := sorted2_len l
  have hs : sortA2 72 [.ms id 0 l.length 2 cd, .clo 72 []] M = some (.x (.flat undef) (M.set id (some (cells2 (sorted2 l)))) [id]) := by
    simp only [sortA2, hM]
    rw [if_pos ⟨trivial, trivial, by rw [cells2_len']; omega, by unfold LIM; omega⟩]
    have e1 : ((cells2 l).drop 0).take (l.length * 2) = cells2 l := by rw [List.drop_zero, ← cells2_len', List.take_length]
    simp only [e1, of2_cells]
    simp only [splice, List.take_zero, List.nil_append, Nat.zero_add, cells2_len', h0]
    rw [← cells2_len', List.drop_length, List.append_nil]
  rw [ev_ext (by rfl)]
  simp only [pr, orC, extS, extS0, extS2, if_true, hs]
  rfl
theorem t71n (nl cd : Bool) (M : MS) : ev pr 71 [.list 2 [] nl cd, .clo 72 []] M = some (.q (.flat undef)) := by
  rw [ev_ext (by rfl)]
  rfl
theorem t74n (nl cd : Bool) (M : MS) : ev pr 74 [.list 2 [] nl cd] M = some (.x (.list 2 [] nl cd) M []) := by
  refine ev_fn' A74 ?_
  repeat' (first | ((with_reducible first | apply S_0 | apply S_q1 | apply S_g | apply S_c); exact sgc) | refine Stp.h ?_ | (with_reducible apply B_ne; focus decide) | ((with_reducible first | apply SC_d | apply SG_d | apply SG_n | apply SC_b | apply SG_b) <;> intro hc <;> try simp only [dq1, dq2, dq3, dq4, dq5] at hc))
  (first | exact fincR | exact fincN)
/-- The lines that a node's paths run by. -/
def prI (r : List Rnk) : List I2 := r.map fun q => (q.p.l.getD 1 0, q.p.l.getD 0 0)
def prL (l : List Rks) : List I2 := l.flatMap fun r => prI r.l
theorem prL_take {l : List Rks} {i : Nat} (h : i < l.length) : prL (l.take (i + 1)) = prL (l.take i) ++ prI l[i].l := by
  rw [prL, List.take_succ_eq_append_getElem h, List.flatMap_append]; simp [prL]
theorem prI_take {r : List Rnk} {j : Nat} (h : j < r.length) : prI (r.take (j + 1)) = prI (r.take j) ++ [(r[j].p.l.getD 1 0, r[j].p.l.getD 0 0)] := by
  rw [prI, List.take_succ_eq_append_getElem h, List.map_append]; rfl
theorem prI_len (r : List Rnk) : (prI r).length = r.length := by simp [prI]
theorem prL_len {l : List Rks} {m : Nat} (h : ∀ r ∈ l, r.l.length ≤ m) : (prL l).length ≤ l.length * m := by
  induction l with
  | nil => simp [prL]
  | cons a l ih =>
    have := ih fun r hr => h r (by simp [hr])
    have := h a (by simp)
    simp only [prL, List.flatMap_cons, List.length_append, prI_len, List.length_cons] at *
    rw [Nat.add_mul]; omega
theorem t45 (n : Int) (l : List Rks) (nl cd : Bool) (M : MS) (hS : SmallX l) (hp : ∀ r ∈ l, ∀ q ∈ r.l, 2 ≤ q.p.l.length) : ∃ out, ev pr 45 [.agg [.flat (.int .i64 n), .list 1 (l.map Rks.av) nl cd]] M = some out ∧ ∃ ne ce, (ne = true → prs (prL l) = []) ∧ out = .q (.list 2 (cells2 (prs (prL l))) ne ce) := by
  refine ev_fnE A45 ?_
  obtain ⟨B, hB⟩ : ∃ B, B = M ++ [some [AV.flat (.int .i64 n), AV.list 1 (l.map Rks.av) nl cd]] := ⟨_, rfl⟩
  have hBl : M.length ≤ B.length := by rw [hB]; simp
  repeat' (first | ((with_reducible first | apply S_0 | apply S_q1 | apply S_g | apply S_c); exact sgc) | refine Stp.h ?_ | (with_reducible apply B_ne; focus decide) | ((with_reducible first | apply SC_d | apply SG_d | apply SG_n | apply SC_b | apply SG_b) <;> intro hc <;> try simp only [dq1, dq2, dq3, dq4, dq5] at hc))
  refine W_rngM 11 0 l.length (fun i e m => ∃ v G, e 3 = v ∧ m = B ++ G ∧ Own B.length (B ++ G) v 2 (cells2 (prL (l.take i)))) (by simp only [asg, asgO, List.append_nil, List.nil_append, List.cons_append]; rfl) (by exact svc) (by omega)
    ⟨.list 2 [] true true, [], by exact svc, by rw [hB]; simp, by simpa [prL, cells2] using Own.nil _ _ (by decide)⟩ ?_
  have hH : Hid (B = M ++ [some [AV.flat (.int .i64 n), AV.list 1 (l.map Rks.av) nl cd]]) := hB
  clear hB
  rintro i e _ _ hi hk e11 ⟨w, G, e3, rfl, hO⟩
  have k9 : e 9 = .list 1 (l.map Rks.av) nl cd := by rw [hk 9 rfl]; exact svc
  have k10 : e 10 = .flat (.int .i64 l.length) := by rw [hk 10 rfl]; exact svc
  clear hk
  rcases Nat.lt_or_ge i l.length with hlt | hlt
  · have hlt' : (i : Int) < l.length := by omega
    repeat' (first | ((with_reducible first | apply S_0 | apply S_q1 | apply S_g | apply S_c); exact sgc) | refine Stp.h ?_ | (with_reducible apply B_ne; focus decide) | ((with_reducible first | apply SC_d | apply SG_d | apply SG_n | apply SC_b | apply SG_b) <;> intro hc <;> try simp only [dq1, dq2, dq3, dq4, dq5] at hc))
    refine W_rngM 17 0 l[i].l.length (fun j e m => ∃ v G, e 3 = v ∧ m = B ++ G ∧ Own B.length (B ++ G) v 2 (cells2 (prL (l.take i) ++ prI (l[i].l.take j)))) (by simp only [asg, asgO, List.append_nil, List.nil_append, List.cons_append]; rfl) (by exact svc) (by omega)
      ⟨w, G, by exact svc, rfl, by simpa [prI] using hO⟩ ?_
    rintro j e' _ _ hj hk' e17 ⟨w', G', e3', rfl, hO'⟩
    have j15 : e' 15 = .list 2 (rksA l[i].l) l[i].nl l[i].cd := by rw [hk' 15 rfl]; exact svc
    have j16 : e' 16 = .flat (.int .i64 l[i].l.length) := by rw [hk' 16 rfl]; exact svc
    have j9 : e' 9 = .list 1 (l.map Rks.av) nl cd := by rw [hk' 9 rfl]; exact svc
    have j10 : e' 10 = .flat (.int .i64 l.length) := by rw [hk' 10 rfl]; exact svc
    have j11 : e' 11 = .flat (.int .i64 i) := by rw [hk' 11 rfl]; exact svc
    clear hk' k9 k10 e11 hO e3
    have hm1 : (prL (l.take i)).length ≤ 12 * 70 := by
      have := prL_len (l := l.take i) (m := 70) fun r hr => (hS.2 r (List.mem_of_mem_take hr)).1
      rw [List.length_take, Nat.min_eq_left hi] at this
      have := hS.1
      have : i * 70 ≤ 12 * 70 := Nat.mul_le_mul_right _ (by omega)
      omega
    have hb1 := hS.1
    have hb2 := (hS.2 _ (List.getElem_mem hlt)).1
    rcases Nat.lt_or_ge j l[i].l.length with hjl | hjl
    · have hjl' : (j : Int) < l[i].l.length := by omega
      have hpl := hp _ (List.getElem_mem hlt) _ (List.getElem_mem hjl)
      have hm2 : (prI (l[i].l.take j)).length ≤ 70 := by
        have := (hS.2 _ (List.getElem_mem hlt)).1
        rw [prI_len, List.length_take]; omega
      have hg1 : l[i].l[j].p.l.getD 1 0 = l[i].l[j].p.l[1] := by simp [List.getD, List.getElem?_eq_getElem (show 1 < l[i].l[j].p.l.length by omega)]
      have hg0 : l[i].l[j].p.l.getD 0 0 = l[i].l[j].p.l[0] := by simp [List.getD, List.getElem?_eq_getElem (show 0 < l[i].l[j].p.l.length by omega)]
      have hO3 := hO'.growG [some [.list 1 (intsA l[i].l[j].p.l) l[i].l[j].p.nl l[i].l[j].p.cd, .flat (.int .i64 l[i].l[j].r)]]
      repeat' (first | ((with_reducible first | apply S_0 | apply S_q1 | apply S_g | apply S_c); exact sgc) | refine Stp.h ?_ | (with_reducible apply B_ne; focus decide) | ((with_reducible first | apply SC_d | apply SG_d | apply SG_n | apply SC_b | apply SG_b) <;> intro hc <;> try simp only [dq1, dq2, dq3, dq4, dq5] at hc))
      have hcl : (cells2 (prL (l.take i) ++ prI (l[i].l.take j))).length / 2 ≤ 12 * 70 + 70 := by
        rw [cells2_len', half, List.length_append]; omega
      (refine S_ownG (cs := cells2 (prL (l.take i) ++ prI (l[i].l.take j))) B (G' ++ [some [.list 1 (intsA l[i].l[j].p.l) l[i].l[j].p.nl l[i].l[j].p.cd, .flat (.int .i64 l[i].l[j].r)]]) (by assumption) (by first | rfl | simp only [List.append_assoc, List.cons_append, List.nil_append]) (by exact sgc) (by exact sgc) (by exact sgc) (by exact sgc) (by exact sgc) (by (first | assumption | omega | (simp only [ints_len, Nat.div_one, Nat.one_mul, Nat.mul_one, List.length_map, rks_len, half, List.length_cons, List.length_nil, List.length_append, List.length_replicate]; omega))) (by (first | assumption | omega | (simp only [ints_len, Nat.div_one, Nat.one_mul, Nat.mul_one, List.length_map, rks_len, half, List.length_cons, List.length_nil, List.length_append, List.length_replicate]; omega))) (by first | omega | (simp; done) | (simp; omega)) ?_)
      intro v' G2 hO2
      repeat' (first | ((with_reducible first | apply S_0 | apply S_q1 | apply S_g | apply S_c); exact sgc) | refine Stp.h ?_ | (with_reducible apply B_ne; focus decide) | ((with_reducible first | apply SC_d | apply SG_d | apply SG_n | apply SC_b | apply SG_b) <;> intro hc <;> try simp only [dq1, dq2, dq3, dq4, dq5] at hc))
      refine G_n (by exact svc) hjl ⟨v', G2, by exact svc, rfl, ?_⟩
      rw [prI_take hjl, ← List.append_assoc, cells2_app, hg1, hg0]; exact hO2
    · have hjl' : ¬ (j : Int) < l[i].l.length := by omega
      repeat' (first | ((with_reducible first | apply S_0 | apply S_q1 | apply S_g | apply S_c); exact sgc) | refine Stp.h ?_ | (with_reducible apply B_ne; focus decide) | ((with_reducible first | apply SC_d | apply SG_d | apply SG_n | apply SC_b | apply SG_b) <;> intro hc <;> try simp only [dq1, dq2, dq3, dq4, dq5] at hc))
      refine G_n (by exact svc) hlt ⟨w', G', by exact svc, rfl, ?_⟩
      rw [prL_take hlt]
      rw [List.take_of_length_le hjl] at hO'
      exact hO'
  · have hlt' : ¬ (i : Int) < l.length := by omega
    have hil : i = l.length := by omega
    subst hil
    rw [List.take_length] at hO
    have hm1 : (prL l).length ≤ 12 * 70 := by
      have := prL_len (l := l) (m := 70) fun r hr => (hS.2 r hr).1
      have := hS.1
      have : l.length * 70 ≤ 12 * 70 := Nat.mul_le_mul_right _ (by omega)
      omega
    obtain ⟨_, _, _, ⟨hn, rfl⟩ | ⟨hn, id, g1, g2, rfl, g3⟩⟩ := hO
    · have h71 := fun M => t71n true true M
      have h74 := fun M => t74n true true M
      repeat' (first | ((with_reducible first | apply S_0 | apply S_q1 | apply S_g | apply S_c); exact sgc) | refine Stp.h ?_ | (with_reducible apply B_ne; focus decide) | ((with_reducible first | apply SC_d | apply SG_d | apply SG_n | apply SC_b | apply SG_b) <;> intro hc <;> try simp only [dq1, dq2, dq3, dq4, dq5] at hc))
      have hn0 : prL l = [] := List.eq_nil_of_length_eq_zero (by have := cells2_len' (prL l); rw [hn] at this; simp at this; omega)
      (refine ⟨by first | exact .inr rfl | exact .inl rfl, ?_⟩; simp (disch := first | assumption | decide | omega | exact Pth.le _ | exact Rks.le _ | exact List.getElem_mem _ | exact allI_ints _ | exact allI_rks _ | exact allI_pths _ | exact Pth.nil _ | exact Rks.nil _ | (intro hh; simp only [Pth.nil _ hh, List.take_nil, List.drop_nil]; done) | (intro hh; simp only [Rks.nil _ hh, List.take_nil, List.drop_nil]; done) | (simp only [List.length_take, List.length_drop, List.length_append, List.length_cons, List.length_nil, List.length_replicate, List.length_map, ints_len]; omega)) only [resA, rvA, tupA, fin, frzV, frzTup, frzA, frz, isI, isI.all, Option.bind_some, go_sem, if_pos, if_neg, Nat.reduceBEq, Nat.reduceEqDiff, ↓reduceIte, Nat.reduceSub, Nat.reduceAdd, Int.reduceToNat, reduceCtorEq, Nat.reduceLeDiff, Nat.reduceLT, Nat.reduceMul, Nat.reduceDiv, Int.reduceLT, Int.reduceLE, Int.reduceEq, Int.reduceNe, Int.reduceAdd, Int.reduceSub, Int.reduceNeg, Int.reduceGT, Int.reduceGE, Int.reduceBEq, Int.reduceBNe, Int.reduceMul, *])
      exact ⟨_, rfl, true, true, fun _ => rfl, rfl⟩
    · have hn2 : (cells2 (prL l)).length / 2 = (prL l).length := by rw [cells2_len', half]
      have hid : id < (B ++ G).length := g2
      have h71 := t71 (prL l) id false (B ++ G) g3 (by omega)
      obtain ⟨out, h74, D, rest, cd', hD, hre, rfl⟩ := t74 (sorted2 (prL l)) id false ((B ++ G).set id (some (cells2 (sorted2 (prL l))))) (by simpa using g2) (by rw [List.getElem?_set_self g2]) (by rw [sorted2_len]; omega)
      rw [sorted2_len] at h74
      have hidM : M.length ≤ id := by omega
      have hDf : D.filter (fun x => decide (x < M.length)) = [] := by
        rw [List.filter_eq_nil_iff]; intro x hx; have := hD x hx; simp; omega
      have hI : allI (cells2 (dd2 (sorted2 (prL l)) (prL l).length) ++ rest) = true := allI_app (allI_cells2 _) hre
      have hIf : [id].filter (fun x => decide (x < M.length)) = [] := by simp; omega
      have hdl := dd2_le (sorted2 (prL l)) (prL l).length
      repeat' (first | ((with_reducible first | apply S_0 | apply S_q1 | apply S_g | apply S_c); exact sgc) | refine Stp.h ?_ | (with_reducible apply B_ne; focus decide) | ((with_reducible first | apply SC_d | apply SG_d | apply SG_n | apply SC_b | apply SG_b) <;> intro hc <;> try simp only [dq1, dq2, dq3, dq4, dq5] at hc))
      (refine ⟨by first | exact .inr rfl | exact .inl rfl, ?_⟩; simp (disch := first | assumption | decide | omega | exact Pth.le _ | exact Rks.le _ | exact List.getElem_mem _ | exact allI_ints _ | exact allI_rks _ | exact allI_pths _ | exact Pth.nil _ | exact Rks.nil _ | (intro hh; simp only [Pth.nil _ hh, List.take_nil, List.drop_nil]; done) | (intro hh; simp only [Rks.nil _ hh, List.take_nil, List.drop_nil]; done) | (simp only [List.length_take, List.length_drop, List.length_append, List.length_cons, List.length_nil, List.length_replicate, List.length_map, ints_len]; omega)) only [resA, rvA, tupA, fin, frzV, frzTup, frzA, frz, isI, isI.all, Option.bind_some, go_sem, if_pos, if_neg, Nat.reduceBEq, Nat.reduceEqDiff, ↓reduceIte, Nat.reduceSub, Nat.reduceAdd, Int.reduceToNat, reduceCtorEq, Nat.reduceLeDiff, Nat.reduceLT, Nat.reduceMul, Nat.reduceDiv, Int.reduceLT, Int.reduceLE, Int.reduceEq, Int.reduceNe, Int.reduceAdd, Int.reduceSub, Int.reduceNeg, Int.reduceGT, Int.reduceGE, Int.reduceBEq, Int.reduceBNe, Int.reduceMul, *])
      refine ⟨_, rfl, false, cd', (fun h => by cases h), ?_⟩
      rw [List.take_left' (by rw [cells2_len'])]; rfl
end Go.Proofs.Ytlcdafidoddefaa.Av
namespace Go.Proofs.Ytlcdafidoddefaa.Av
open Go.RowKit
set_option linter.unusedSimpArgs false
set_option linter.unusedVariables false
section
variable {p : Pr} {L : Nat} {M Mo C Y C' : MS} {ks : List Nat} {d : Option Nat} {i : I} {r : List AOp} {env : Env} {K : Env → MS → MS → List Nat → Prop} {v : AV}
theorem WH_nil (h : K env C Y ks) : WH p L M Mo [] env C Y ks K := h
theorem WH_q (hc : i.isCall = false) (hf : evFr M Mo env (L + Y.length) i = none) (hv : evI (fun _ _ _ => none) 0 env Mo [] i = some (.q v)) (h : WH p L M Mo r (updO env d v) C Y ks K) : WH p L M Mo (⟨d, i, none⟩ :: r) env C Y ks K := by
  refine ⟨rfl, ?_⟩
  rw [if_neg (by rw [hc]; simp), hf]
  simp only [evQh, hv]; exact h
theorem WH_f {cs : List AV} (hc : i.isCall = false) (hf : evFr M Mo env (L + Y.length) i = some (v, cs, none)) (h : WH p L M Mo r (updO env d v) C (Y ++ [some cs]) ks K) : WH p L M Mo (⟨d, i, none⟩ :: r) env C Y ks K := by
  refine ⟨rfl, ?_⟩
  rw [if_neg (by rw [hc]; simp), hf]
  simpa using h
theorem WH_k {cs : List AV} {k : Nat} (hc : i.isCall = false) (hf : evFr M Mo env (L + Y.length) i = some (v, cs, some k)) (h : WH p L M Mo r (updO env d v) C (Y ++ [some cs]) (ks ++ [k]) K) : WH p L M Mo (⟨d, i, none⟩ :: r) env C Y ks K := by
  refine ⟨rfl, ?_⟩
  rw [if_neg (by rw [hc]; simp), hf]
  simpa using h
theorem WH_cq (hc : i.isCall = true) (hv : evI (ev p) C.length env C [] i = some (.q v)) (h : WH p L M Mo r (updO env d v) C Y ks K) : WH p L M Mo (⟨d, i, none⟩ :: r) env C Y ks K := by
  refine ⟨rfl, ?_⟩
  rw [if_pos hc, hv]; exact h
theorem WH_cx (hc : i.isCall = true) (hv : evI (ev p) C.length env C [] i = some (.x v C' [])) (h : WH p L M Mo r (updO env d v) C' Y ks K) : WH p L M Mo (⟨d, i, none⟩ :: r) env C Y ks K := by
  refine ⟨rfl, ?_⟩
  rw [if_pos hc, hv]; exact ⟨rfl, h⟩
theorem WH_mono {K' : Env → MS → MS → List Nat → Prop} (hK : ∀ e C Y ks, K e C Y ks → K' e C Y ks) : ∀ {ops : List AOp} {env : Env} {C Y : MS} {ks : List Nat}, WH p L M Mo ops env C Y ks K → WH p L M Mo ops env C Y ks K'
  | [], _, _, _, _, h => hK _ _ _ _ h
  | o :: r, env, C, Y, ks, h => by
    obtain ⟨h1, h2⟩ := h
    refine ⟨h1, ?_⟩
    split at h2
    · rename_i hc
      rw [if_pos hc]
      split at h2
      · exact WH_mono hK h2
      · exact ⟨h2.1, WH_mono hK h2.2⟩
      · cases h2
    · rename_i hc
      rw [if_neg hc]
      split at h2
      · exact WH_mono hK h2
      · split at h2
        · exact WH_mono hK h2
        · cases h2
/-- A drawn head that lays blocks and whose calls lay none. -/
theorem W_regionF2 {base : Nat} {D : List Nat} {Q : Post} {k : Nat} {ops : List AOp} (h : WH p M.length M M (ops.take k) env M [] [] fun e C Y ks => ks = [] ∧ C.length = M.length ∧ WS p base 0 (ops.drop k) e (C ++ Y) D (Q .nrm)) : W p base (.regionF k ops) env M D Q :=
  W_regionF0 M.length (WH_mono (fun _ _ _ _ h => ⟨h.1, h.2.1⟩) h) h
end
attribute [go_sem] evFr okO I.isCall
theorem whc {P : Prop} (h : P := by simp (disch := first | assumption | decide | omega | exact Pth.le _ | exact Rks.le _ | exact List.getElem_mem _ | exact allI_ints _ | exact allI_rks _ | exact allI_pths _ | exact Pth.nil _ | exact Rks.nil _ | (intro hh; simp only [Pth.nil _ hh, List.take_nil, List.drop_nil]; done) | (intro hh; simp only [Rks.nil _ hh, List.take_nil, List.drop_nil]; done) | (simp only [List.length_take, List.length_drop, List.length_append, List.length_cons, List.length_nil, List.length_replicate, List.length_map, ints_len]; omega)) only [undef, evFr, okO, Bool.or_self, Bool.or_false, Bool.or_true, Bool.not_false, Bool.not_true, go_sem, if_pos, if_neg, Nat.reduceBEq, Nat.reduceEqDiff, ↓reduceIte, Nat.reduceSub, Nat.reduceAdd, Int.reduceToNat, reduceCtorEq, Nat.reduceLeDiff, Nat.reduceLT, Nat.reduceMul, Nat.reduceDiv, Int.reduceLT, Int.reduceLE, Int.reduceEq, Int.reduceNe, Int.reduceAdd, Int.reduceSub, Int.reduceNeg, Int.reduceGT, Int.reduceGE, Int.reduceBEq, Int.reduceBNe, Int.reduceMul, *]; first | done | rfl) : P := h
end Go.Proofs.Ytlcdafidoddefaa.Av
namespace Go.Proofs.Ytlcdafidoddefaa.Av
open Go.RowKit
set_option linter.unusedSimpArgs false
set_option linter.unusedVariables false
set_option maxHeartbeats 10000000
/-- A line: its row as it stands, what waits, what was heard, whether anything was. -/
structure Lin where
  x : AV
  row : List Pth
  heard : Pth
  any : Bool
def Lin.cs (z : Lin) : List AV := [z.x, z.heard.av, .flat (.bool z.any)]
def linsA (l : List Lin) : List AV := (l.map Lin.cs).flatten
theorem lins_cons (a : Lin) (l : List Lin) : linsA (a :: l) = a.x :: a.heard.av :: .flat (.bool a.any) :: linsA l := rfl
theorem lins_len (l : List Lin) : (linsA l).length = l.length * 3 := by
  induction l with
  | nil => rfl
  | cons a l ih => rw [lins_cons]; simp only [List.length_cons, ih]; omega
theorem lins_app (a b : List Lin) : linsA (a ++ b) = linsA a ++ linsA b := by simp [linsA]
theorem lins_drop (l : List Lin) (k : Nat) : (linsA l).drop (k * 3) = linsA (l.drop k) := by
  induction l generalizing k with
  | nil => simp [linsA]
  | cons a l ih =>
    cases k with
    | zero => rfl
    | succ k => rw [lins_cons, Nat.add_mul, Nat.one_mul, List.drop_succ_cons, List.drop_succ_cons, List.drop_succ_cons, List.drop_succ_cons]; exact ih k
theorem lins_take (l : List Lin) (k : Nat) : (linsA l).take (k * 3) = linsA (l.take k) := by
  induction l generalizing k with
  | nil => simp [linsA]
  | cons a l ih =>
    cases k with
    | zero => rw [Nat.zero_mul]; rfl
    | succ k => rw [lins_cons, Nat.add_mul, Nat.one_mul, List.take_succ_cons, List.take_succ_cons, List.take_succ_cons, List.take_succ_cons, lins_cons, ih k]
theorem lins_at (l : List Lin) (k : Nat) (h : k < l.length) : (linsA l).drop (k * 3) = l[k].x :: l[k].heard.av :: .flat (.bool l[k].any) :: linsA (l.drop (k + 1)) := by
  rw [lins_drop, List.drop_eq_getElem_cons h, lins_cons]
theorem lins_g0 (l : List Lin) (k : Nat) (h : k < l.length) : (linsA l)[k * 3]? = some l[k].x := by
  have := congrArg List.head? (lins_at l k h)
  rwa [List.head?_drop] at this
theorem lins_at1 (l : List Lin) (k : Nat) (h : k < l.length) : (linsA l).drop (k * 3 + 1) = l[k].heard.av :: .flat (.bool l[k].any) :: linsA (l.drop (k + 1)) := by
  rw [← List.drop_drop, lins_at l k h]; rfl
theorem lins_at2 (l : List Lin) (k : Nat) (h : k < l.length) : (linsA l).drop (k * 3 + 2) = .flat (.bool l[k].any) :: linsA (l.drop (k + 1)) := by
  rw [← List.drop_drop, lins_at l k h]; rfl
theorem lins_g1 (l : List Lin) (k : Nat) (h : k < l.length) : (linsA l)[k * 3 + 1]? = some l[k].heard.av := by
  have := congrArg List.head? (lins_at1 l k h)
  rwa [List.head?_drop] at this
theorem lins_g2 (l : List Lin) (k : Nat) (h : k < l.length) : (linsA l)[k * 3 + 2]? = some (.flat (.bool l[k].any)) := by
  have := congrArg List.head? (lins_at2 l k h)
  rwa [List.head?_drop] at this
theorem lins_set (l : List Lin) (k : Nat) (h : k < l.length) (z : Lin) : linsA (l.set k z) = linsA (l.take k) ++ z.x :: z.heard.av :: .flat (.bool z.any) :: linsA (l.drop (k + 1)) := by
  rw [List.set_eq_take_append_cons_drop, if_pos h, lins_app, lins_cons]
/-- The map from a line to its number. -/
def mapE : List I2 → Nat → List AV
  | [], _ => []
  | p :: r, i => .tup [.agg [.flat (.int .i64 p.1), .flat (.int .i64 p.2)], .flat (.int .i64 i)] :: mapE r (i + 1)
theorem find_map (p : I2) : ∀ (L : List I2) (i j : Nat), findA (.arr 2 .i64) (.agg [.flat (.int .i64 p.1), .flat (.int .i64 p.2)]) (mapE L i) j = some (if p ∈ L then some (j + L.idxOf p, .flat (.int .i64 ((i + L.idxOf p : Nat) : Int))) else none)
  | [], i, j => by simp [mapE, findA]
  | q :: L, i, j => by
    obtain ⟨a, b⟩ := p; obtain ⟨c, d⟩ := q
    simp only [mapE, findA, keyEqA, asInts, if_true, Option.map_some, List.length_cons, List.length_nil, and_self]
    have hb : ([a, b] == [c, d]) = decide ((a, b) = (c, d)) := beq2 a b c d
    rw [hb]
    by_cases h : (a, b) = (c, d)
    · cases h; simp
    · rw [decide_eq_false h]
      have ih := find_map (a, b) L (i + 1) (j + 1)
      simp only at ih ⊢
      rw [ih]
      by_cases hm : (a, b) ∈ L
      · rw [if_pos hm, if_pos (by simp [hm]), List.idxOf_cons, show ((c, d) == (a, b)) = false from by simpa using fun h1 h2 => h (by simp [h1, h2])]
        simp only [cond_false, Option.some.injEq, Prod.mk.injEq, AV.flat.injEq, Value.int.injEq, true_and]
        omega
      · rw [if_neg hm, if_neg]
        simp only [List.mem_cons, not_or]; exact ⟨h, hm⟩
theorem mapE_app (p : I2) : ∀ (L : List I2) (i : Nat), mapE (L ++ [p]) i = mapE L i ++ [.tup [.agg [.flat (.int .i64 p.1), .flat (.int .i64 p.2)], .flat (.int .i64 ((i + L.length : Nat) : Int))]]
  | [], i => by simp [mapE]
  | q :: L, i => by simp only [List.cons_append, mapE, mapE_app p L (i + 1), List.length_cons]; simp; omega
theorem get_grow {M : MS} {i : Nat} {x : Option (List AV)} (h : M[i]? = some x) (G : MS) : (M ++ G)[i]? = some x := by
  rw [List.getElem?_append_left (by
    rcases Nat.lt_or_ge i M.length with h1 | h1
    · exact h1
    · rw [List.getElem?_eq_none h1] at h; cases h), h]
structure Mc where
  id : Nat
  mid : Nat
  lid : Nat
  cid : Nat
  n : Int
  l : List Rks
  nl : Bool
  cd : Bool
  L : List I2
  ne : Bool
  ce : Bool
  Z : List Lin
  lv : AV
  C : List Pth
  ccd : Bool
def Mc.cells (m : Mc) : List AV := [.flat (.int .i64 m.n), .list 1 (m.l.map Rks.av) m.nl m.cd, .list 2 (cells2 m.L) m.ne m.ce, .mp m.mid, m.lv, .ms m.cid 0 m.C.length 1 m.ccd]
def RowOk (M : MS) (z : Lin) : Prop := (∃ nl, z.x = .list 1 (z.row.map Pth.av) nl true ∧ (nl = true → z.row = [])) ∨
  (z.row ≠ [] ∧ ∃ a off cd cs, z.x = .ms a off z.row.length 1 cd ∧ M[a]? = some (some cs) ∧ off + z.row.length ≤ cs.length ∧ (cs.drop off).take z.row.length = z.row.map Pth.av ∧ (cd = true ∨ off = 0))
def rid : AV → Option Nat
  | .ms a _ _ _ _ => some a
  | _ => none
structure Mach (M : MS) (m : Mc) : Prop where
  blk : M[m.id]? = some (some m.cells)
  map : M[m.mid]? = some (some (mapE m.L 0))
  cho : M[m.cid]? = some (some (m.C.map Pth.av))
  lin : (m.Z = [] ∧ ∃ sz nl cd, m.lv = .list sz [] nl cd) ∨ (m.Z ≠ [] ∧ ∃ cd, m.lv = .ms m.lid 0 m.Z.length 3 cd ∧ M[m.lid]? = some (some (linsA m.Z)))
  row : ∀ z ∈ m.Z, RowOk M z
  i1 : m.id ≠ m.mid
  i2 : m.id ≠ m.lid
  i3 : m.id ≠ m.cid
  i4 : m.mid ≠ m.lid
  i5 : m.mid ≠ m.cid
  i6 : m.lid ≠ m.cid
  rds : ∀ z ∈ m.Z, ∀ a, rid z.x = some a → a ≠ m.id ∧ a ≠ m.mid ∧ a ≠ m.lid ∧ a ≠ m.cid
  sep : ∀ i j (hi : i < m.Z.length) (hj : j < m.Z.length) a, i ≠ j → rid m.Z[i].x = some a → rid m.Z[j].x ≠ some a
  len : m.Z.length = m.L.length
  clen : m.C.length = m.l.length
  nd : m.L.Nodup
  lim : ∀ p ∈ m.L, 0 ≤ p.1 ∧ p.1 < m.l.length ∧ 1 ≤ p.2 ∧ p.2 < m.l.length
  lle : m.L.length ≤ 1000
  nel : m.ne = true → m.L = []
  may : MayX m.n m.l
  small : SmallX m.l
  Leq : m.L = prs (prL m.l)
  rle : ∀ z ∈ m.Z, z.row.length ≤ 64
  csm : ∀ p ∈ m.C, p.l.length ≤ 1000
  rsm : ∀ z ∈ m.Z, z.heard.l.length ≤ 1000 ∧ ∀ p ∈ z.row, p.l.length ≤ 1000
attribute [go_sem] evX nilP nilM nilB mapA isKeyA keyEqA getA lins_len lins_take lins_at lins_at1 lins_at2 lins_g0 lins_g1 lins_g2 find_map Bool.or_self Bool.or_false
theorem RowOk.grow {M : MS} {z : Lin} (h : RowOk M z) (G : MS) : RowOk (M ++ G) z := by
  rcases h with h | ⟨h1, a, off, cd, cs, h2, h3, h4⟩
  · exact .inl h
  · exact .inr ⟨h1, a, off, cd, cs, h2, get_grow h3 G, h4⟩
theorem Mach.grow {M : MS} {m : Mc} (h : Mach M m) (G : MS) : Mach (M ++ G) m where
  blk := get_grow h.blk G
  map := get_grow h.map G
  cho := get_grow h.cho G
  lin := h.lin.imp_right fun ⟨h1, cd, h2, h3⟩ => ⟨h1, cd, h2, get_grow h3 G⟩
  row z hz := (h.row z hz).grow G
  i1 := h.i1
  i2 := h.i2
  i3 := h.i3
  i4 := h.i4
  i5 := h.i5
  i6 := h.i6
  rds := h.rds
  sep := h.sep
  len := h.len
  clen := h.clen
  nd := h.nd
  lim := h.lim
  lle := h.lle
  nel := h.nel
  may := h.may
  small := h.small
  rle := h.rle
  Leq := h.Leq
  csm := h.csm
  rsm := h.rsm
theorem Mach.lvl {M : MS} {m : Mc} (h : Mach M m) : lenOf m.lv = some m.Z.length := by
  rcases h.lin with ⟨h1, sz, nl, cd, h2⟩ | ⟨h1, cd, h2, h3⟩
  · rw [h1, h2]; simp [lenOf]
  · rw [h2]; rfl
theorem Mach.b {M : MS} {m : Mc} (h : Mach M m) : M[m.id]? = some (some [.flat (.int .i64 m.n), .list 1 (m.l.map Rks.av) m.nl m.cd, .list 2 (cells2 m.L) m.ne m.ce, .mp m.mid, m.lv, .ms m.cid 0 m.C.length 1 m.ccd]) := h.blk
theorem Mach.ln {M : MS} {m : Mc} (h : Mach M m) {i : Nat} (hi : i < m.Z.length) : ∃ cd, m.lv = .ms m.lid 0 m.Z.length 3 cd ∧ M[m.lid]? = some (some (linsA m.Z)) := by
  rcases h.lin with ⟨h1, _⟩ | ⟨_, h2⟩
  · rw [h1] at hi; simp at hi
  · exact h2
theorem t42 (m : Mc) (i : Int) (M : MS) (h : Mach M m) : ev pr 42 [.mptr m.id 0, .flat (.int .i64 i)] M = some (.q (.flat (.bool (decide (0 ≤ i ∧ i < m.Z.length))))) := by
  have hb := h.b
  have hlv := h.lvl
  clear h
  refine ev_fn' A42 ?_
  repeat' (first | ((with_reducible first | apply S_0 | apply S_q1 | apply S_g | apply S_c); exact sgc) | refine Stp.h ?_ | (with_reducible apply B_ne; focus decide) | ((with_reducible first | apply SC_d | apply SG_d | apply SG_n | apply SC_b | apply SG_b) <;> intro hc <;> try simp only [dq1, dq2, dq3, dq4, dq5] at hc))
  · (first | exact fincR | exact fincN)
  · (first | exact fincR | exact fincN)
/-- Whether a line has told the rest of a path. -/
def hasP (L : List I2) (Z : List Lin) (p : List Int) : Bool := match Z[L.idxOf (p.getD 1 0, p.getD 0 0)]? with
  | some z => z.any && decide (z.heard.l = p.drop 1)
  | none => false
theorem t76 (m : Mc) (p : Pth) (M : MS) (h : Mach M m) (hp : 2 ≤ p.l.length) (hp2 : p.l.length ≤ 1000) (hL : (p.l.getD 1 0, p.l.getD 0 0) ∈ m.L) : ev pr 76 [.mptr m.id 0, .list 1 (intsA p.l) p.nl p.cd] M = some (.q (.flat (.bool (hasP m.L m.Z p.l)))) := by
  have hb := h.b
  have hi : m.L.idxOf (p.l.getD 1 0, p.l.getD 0 0) < m.Z.length := by rw [h.len]; exact List.idxOf_lt_length_of_mem hL
  obtain ⟨cd, hlv, hln⟩ := h.ln hi
  have hmp := h.map
  have hg1 : p.l.getD 1 0 = p.l[1] := by simp [List.getD, List.getElem?_eq_getElem (show 1 < p.l.length by omega)]
  have hg0 : p.l.getD 0 0 = p.l[0] := by simp [List.getD, List.getElem?_eq_getElem (show 0 < p.l.length by omega)]
  rw [hg1, hg0] at hi hL
  have hle : m.Z.length ≤ 1000 := by rw [h.len]; exact h.lle
  have hnp := p.nil
  obtain ⟨k, hk⟩ : ∃ k, k = m.L.idxOf (p.l[1], p.l[0]) := ⟨_, rfl⟩
  have hfm := fun j => find_map (p.l[1], p.l[0]) m.L 0 j
  simp only [if_pos hL, Nat.zero_add, ← hk] at hfm
  rw [← hk] at hi
  rw [show hasP m.L m.Z p.l = (m.Z[k].any && decide (m.Z[k].heard.l = p.l.drop 1)) by
    simp only [hasP, hg1, hg0, ← hk]; rw [List.getElem?_eq_getElem hi]]
  have hid : m.id < M.length := by
    rcases Nat.lt_or_ge m.id M.length with h1 | h1
    · exact h1
    · rw [List.getElem?_eq_none h1] at hb; cases hb
  have hli : m.lid < M.length := by
    rcases Nat.lt_or_ge m.lid M.length with h1 | h1
    · exact h1
    · rw [List.getElem?_eq_none h1] at hln; cases hln
  have h49 := fun M => t49 m.Z[k].heard.l (p.l.drop 1) m.Z[k].heard.nl m.Z[k].heard.cd p.nl p.cd M (by have := m.Z[k].heard.le; omega)
  clear h hk hg1 hg0
  refine ev_fn' A76 ?_
  repeat' (first | ((with_reducible first | apply S_0 | apply S_q1 | apply S_g | apply S_c); exact sgc) | refine Stp.h ?_ | (with_reducible apply B_ne; focus decide) | ((with_reducible first | apply SC_d | apply SG_d | apply SG_n | apply SC_b | apply SG_b) <;> intro hc <;> try simp only [dq1, dq2, dq3, dq4, dq5] at hc))
  refine W_regionF2 ?_
  (try simp only [List.take_succ_cons, List.take_zero, List.drop_succ_cons, List.drop_zero]; repeat (first | (with_reducible apply WH_nil) | ((with_reducible apply WH_q); (focus rfl); (focus rfl); focus (exact whc)) | ((with_reducible apply WH_cq); (focus rfl); focus (exact whc)) | ((with_reducible apply WH_cx); (focus rfl); focus (exact whc)) | ((with_reducible apply WH_f); (focus rfl); focus (exact whc)) | ((with_reducible apply WH_k); (focus rfl); focus (exact whc))))
  refine ⟨rfl, rfl, ?_⟩
  repeat' (first | ((with_reducible first | apply S_0 | apply S_q1 | apply S_g | apply S_c); exact sgc) | refine Stp.h ?_ | (with_reducible apply B_ne; focus decide) | ((with_reducible first | apply SC_d | apply SG_d | apply SG_n | apply SC_b | apply SG_b) <;> intro hc <;> try simp only [dq1, dq2, dq3, dq4, dq5] at hc))
  · (first | exact fincR | exact fincN)
  · (refine ⟨by first | exact .inr rfl | exact .inl rfl, ?_⟩; simp (disch := first | assumption | decide | omega | exact Pth.le _ | exact Rks.le _ | exact List.getElem_mem _ | exact allI_ints _ | exact allI_rks _ | exact allI_pths _ | exact Pth.nil _ | exact Rks.nil _ | (intro hh; simp only [Pth.nil _ hh, List.take_nil, List.drop_nil]; done) | (intro hh; simp only [Rks.nil _ hh, List.take_nil, List.drop_nil]; done) | (simp only [List.length_take, List.length_drop, List.length_append, List.length_cons, List.length_nil, List.length_replicate, List.length_map, ints_len]; omega)) only [resA, rvA, tupA, fin, frzV, frzTup, frzA, frz, isI, isI.all, Option.bind_some, go_sem, if_pos, if_neg, Nat.reduceBEq, Nat.reduceEqDiff, ↓reduceIte, Nat.reduceSub, Nat.reduceAdd, Int.reduceToNat, reduceCtorEq, Nat.reduceLeDiff, Nat.reduceLT, Nat.reduceMul, Nat.reduceDiv, Int.reduceLT, Int.reduceLE, Int.reduceEq, Int.reduceNe, Int.reduceAdd, Int.reduceSub, Int.reduceNeg, Int.reduceGT, Int.reduceGE, Int.reduceBEq, Int.reduceBNe, Int.reduceMul, *])
    rfl
/-- The first path that a node may have. -/
def choiceP (L : List I2) (Z : List Lin) (r : List Rnk) : Pth := match r.find? (fun q => hasP L Z q.p.l) with
  | some q => q.p
  | none => ⟨[], true, true, fun _ => ⟨rfl, rfl⟩, by decide⟩
theorem prL_mem {l : List Rks} {i j : Nat} (hi : i < l.length) (hj : j < l[i].l.length) : (l[i].l[j].p.l.getD 1 0, l[i].l[j].p.l.getD 0 0) ∈ prL l := by
  rw [prL, List.mem_flatMap]
  exact ⟨l[i], List.getElem_mem hi, by rw [prI, List.mem_map]; exact ⟨l[i].l[j], List.getElem_mem hj, rfl⟩⟩
theorem pair_mem {l : List Rks} {i j : Nat} (hi : i < l.length) (hj : j < l[i].l.length) : (l[i].l[j].p.l.getD 1 0, l[i].l[j].p.l.getD 0 0) ∈ prs (prL l) := prs_mem.2 (prL_mem hi hj)
theorem t48 (m : Mc) (v : Nat) (M : MS) (h : Mach M m) (hv : v < m.l.length) (hL : ∀ (j : Nat) (hj : j < m.l[v].l.length), 2 ≤ m.l[v].l[j].p.l.length ∧ m.l[v].l[j].p.l.length ≤ 1000 ∧ (m.l[v].l[j].p.l.getD 1 0, m.l[v].l[j].p.l.getD 0 0) ∈ m.L) : ev pr 48 [.mptr m.id 0, .flat (.int .i64 v)] M = some (.q (choiceP m.L m.Z m.l[v].l).av) := by
  have hb := h.b
  refine ev_fn' A48 ?_
  repeat' (first | ((with_reducible first | apply S_0 | apply S_q1 | apply S_g | apply S_c); exact sgc) | refine Stp.h ?_ | (with_reducible apply B_ne; focus decide) | ((with_reducible first | apply SC_d | apply SG_d | apply SG_n | apply SC_b | apply SG_b) <;> intro hc <;> try simp only [dq1, dq2, dq3, dq4, dq5] at hc))
  refine W_rngM 16 0 m.l[v].l.length (fun i e m' => ∃ G, m' = M ++ G ∧ ∀ j, j < i → ∀ h : j < m.l[v].l.length, hasP m.L m.Z m.l[v].l[j].p.l = false) (by simp only [asg, asgO, List.append_nil, List.nil_append, List.cons_append]; rfl) (by exact svc) (by omega)
    ⟨[], by simp, fun j hj => by omega⟩ ?_
  rintro i e _ _ hi hk e16 ⟨G, rfl, hno⟩
  have k0 : e 0 = .mptr m.id 0 := by rw [hk 0 rfl]; exact svc
  have k14 : e 14 = .list 2 (rksA m.l[v].l) m.l[v].nl m.l[v].cd := by rw [hk 14 rfl]; exact svc
  have k15 : e 15 = .flat (.int .i64 m.l[v].l.length) := by rw [hk 15 rfl]; exact svc
  have hsm := (h.small.2 _ (List.getElem_mem hv)).1
  clear hk hb
  rcases Nat.lt_or_ge i m.l[v].l.length with hlt | hlt
  · have hlt' : (i : Int) < m.l[v].l.length := by omega
    obtain ⟨q1, q2, q3⟩ := hL i hlt
    have h76 := t76 m m.l[v].l[i].p (M ++ (G ++ [some m.l[v].l[i].cs])) (h.grow _) q1 q2 q3
    simp only [Rnk.cs, Pth.av_eq] at h76
    clear h
    repeat' (first | ((with_reducible first | apply S_0 | apply S_q1 | apply S_g | apply S_c); exact sgc) | refine Stp.h ?_ | (with_reducible apply B_ne; focus decide) | ((with_reducible first | apply SC_d | apply SG_d | apply SG_n | apply SC_b | apply SG_b) <;> intro hc <;> try simp only [dq1, dq2, dq3, dq4, dq5] at hc))
    · have hf : m.l[v].l.find? (fun q => hasP m.L m.Z q.p.l) = some m.l[v].l[i] := by
        rw [List.find?_eq_some_iff_getElem]
        exact ⟨hc, i, hlt, rfl, fun j hj => by rw [hno j hj (by omega)]; rfl⟩
      rw [show choiceP m.L m.Z m.l[v].l = m.l[v].l[i].p by rw [choiceP, hf]]
      (first | exact fincR | exact fincN)
    · refine G_n (by exact svc) hlt ⟨_, rfl, ?_⟩
      intro j hj hl
      rcases Nat.lt_or_ge j i with h1 | h1
      · exact hno j h1 hl
      · obtain rfl : j = i := by omega
        simpa using hc
  · have hlt' : ¬ (i : Int) < m.l[v].l.length := by omega
    have hf : m.l[v].l.find? (fun q => hasP m.L m.Z q.p.l) = none := by
      rw [List.find?_eq_none]
      intro q hq
      obtain ⟨j, hj, rfl⟩ := List.getElem_of_mem hq
      rw [hno j (by omega) hj]; simp
    rw [show choiceP m.L m.Z m.l[v].l = ⟨[], true, true, fun _ => ⟨rfl, rfl⟩, by decide⟩ by rw [choiceP, hf]]
    repeat' (first | ((with_reducible first | apply S_0 | apply S_q1 | apply S_g | apply S_c); exact sgc) | refine Stp.h ?_ | (with_reducible apply B_ne; focus decide) | ((with_reducible first | apply SC_d | apply SG_d | apply SG_n | apply SC_b | apply SG_b) <;> intro hc <;> try simp only [dq1, dq2, dq3, dq4, dq5] at hc))
    (refine ⟨by first | exact .inr rfl | exact .inl rfl, ?_⟩; simp (disch := first | assumption | decide | omega | exact Pth.le _ | exact Rks.le _ | exact List.getElem_mem _ | exact allI_ints _ | exact allI_rks _ | exact allI_pths _ | exact Pth.nil _ | exact Rks.nil _ | (intro hh; simp only [Pth.nil _ hh, List.take_nil, List.drop_nil]; done) | (intro hh; simp only [Rks.nil _ hh, List.take_nil, List.drop_nil]; done) | (simp only [List.length_take, List.length_drop, List.length_append, List.length_cons, List.length_nil, List.length_replicate, List.length_map, ints_len]; omega)) only [resA, rvA, tupA, fin, frzV, frzTup, frzA, frz, isI, isI.all, Option.bind_some, go_sem, if_pos, if_neg, Nat.reduceBEq, Nat.reduceEqDiff, ↓reduceIte, Nat.reduceSub, Nat.reduceAdd, Int.reduceToNat, reduceCtorEq, Nat.reduceLeDiff, Nat.reduceLT, Nat.reduceMul, Nat.reduceDiv, Int.reduceLT, Int.reduceLE, Int.reduceEq, Int.reduceNe, Int.reduceAdd, Int.reduceSub, Int.reduceNeg, Int.reduceGT, Int.reduceGE, Int.reduceBEq, Int.reduceBNe, Int.reduceMul, *])
    rfl
/-- The numbers of the lines that a node tells by. -/
def frL (L : List I2) (u : Int) : Nat → List Int
  | 0 => []
  | k + 1 => frL L u k ++ (if (L.getD k (0, 0)).1 = u then [(k : Int)] else [])
theorem frL_len (L : List I2) (u : Int) : ∀ k, (frL L u k).length ≤ k
  | 0 => by simp [frL]
  | k + 1 => by have := frL_len L u k; simp only [frL, List.length_append]; split <;> simp <;> omega
theorem frL_mem {L : List I2} {u : Int} {a : Int} : ∀ {k : Nat}, a ∈ frL L u k ↔ ∃ j, j < k ∧ a = (j : Nat) ∧ (L.getD j (0, 0)).1 = u
  | 0 => by simp [frL]
  | k + 1 => by
    rw [frL, List.mem_append, frL_mem]
    constructor
    · rintro (⟨j, h1, h2, h3⟩ | h)
      · exact ⟨j, by omega, h2, h3⟩
      · split at h
        · rename_i hc
          simp only [List.mem_singleton] at h
          exact ⟨k, by omega, h, hc⟩
        · simp at h
    · rintro ⟨j, h1, h2, h3⟩
      rcases Nat.lt_or_ge j k with h4 | h4
      · exact .inl ⟨j, h4, h2, h3⟩
      · obtain rfl : j = k := by omega
        exact .inr (by rw [if_pos h3, h2]; simp)
theorem frL_nd (L : List I2) (u : Int) : ∀ k, (frL L u k).Nodup
  | 0 => by simp [frL]
  | k + 1 => by
    rw [frL, List.nodup_append]
    refine ⟨frL_nd L u k, by split <;> simp, fun a ha b hb hab => ?_⟩
    obtain ⟨j, h1, h2, _⟩ := frL_mem.1 ha
    split at hb
    · simp only [List.mem_singleton] at hb
      omega
    · simp at hb
theorem t50 (m : Mc) (u : Int) (M : MS) (h : Mach M m) : ev pr 50 [.mptr m.id 0, .flat (.int .i64 u)] M = some (.q (lst 1 (intsA (frL m.L u m.L.length)))) := by
  have hb := h.b
  have hle := h.lle
  have hne := h.nel
  clear h
  refine ev_fn' A50 ?_
  repeat' (first | ((with_reducible first | apply S_0 | apply S_q1 | apply S_g | apply S_c); exact sgc) | refine Stp.h ?_ | (with_reducible apply B_ne; focus decide) | ((with_reducible first | apply SC_d | apply SG_d | apply SG_n | apply SC_b | apply SG_b) <;> intro hc <;> try simp only [dq1, dq2, dq3, dq4, dq5] at hc))
  refine W_rngM 13 0 m.L.length (fun i e m' => ∃ v G, e 5 = v ∧ m' = M ++ G ∧ Own M.length (M ++ G) v 1 (intsA (frL m.L u i))) (by simp only [asg, asgO, List.append_nil, List.nil_append, List.cons_append]; rfl) (by exact svc) (by omega)
    ⟨.list 1 [] true true, [], by exact svc, by simp, by simpa [frL, intsA] using Own.nil _ _ (by decide)⟩ ?_
  rintro i e _ _ hi hk e13 ⟨w, G, e5, rfl, hO⟩
  have k1 : e 1 = .flat (.int .i64 u) := by rw [hk 1 rfl]; exact svc
  have k11 : e 11 = .list 2 (cells2 m.L) m.ne m.ce := by rw [hk 11 rfl]; exact svc
  have k12 : e 12 = .flat (.int .i64 m.L.length) := by rw [hk 12 rfl]; exact svc
  have hfl := frL_len m.L u i
  clear hk hb
  rcases Nat.lt_or_ge i m.L.length with hlt | hlt
  · have hlt' : (i : Int) < m.L.length := by omega
    have hO' := hO.growG [some [.flat (.int .i64 m.L[i].1), .flat (.int .i64 m.L[i].2)]]
    have hat := take2_at hlt
    have hgd : m.L.getD i (0, 0) = m.L[i] := get2_of hlt
    repeat' (first | ((with_reducible first | apply S_0 | apply S_q1 | apply S_g | apply S_c); exact sgc) | refine Stp.h ?_ | (with_reducible apply B_ne; focus decide) | ((with_reducible first | apply SC_d | apply SG_d | apply SG_n | apply SC_b | apply SG_b) <;> intro hc <;> try simp only [dq1, dq2, dq3, dq4, dq5] at hc))
    · (refine S_ownG (cs := intsA (frL m.L u i)) M (G ++ [some [.flat (.int .i64 m.L[i].1), .flat (.int .i64 m.L[i].2)]]) (by assumption) (by first | rfl | simp only [List.append_assoc, List.cons_append, List.nil_append]) (by exact sgc) (by exact sgc) (by exact sgc) (by exact sgc) (by exact sgc) (by (first | assumption | omega | (simp only [ints_len, Nat.div_one, Nat.one_mul, Nat.mul_one, List.length_map, rks_len, half, List.length_cons, List.length_nil, List.length_append, List.length_replicate]; omega))) (by (first | assumption | omega | (simp only [ints_len, Nat.div_one, Nat.one_mul, Nat.mul_one, List.length_map, rks_len, half, List.length_cons, List.length_nil, List.length_append, List.length_replicate]; omega))) (by first | omega | (simp; done) | (simp; omega)) ?_)
      intro v' G' hO2
      repeat' (first | ((with_reducible first | apply S_0 | apply S_q1 | apply S_g | apply S_c); exact sgc) | refine Stp.h ?_ | (with_reducible apply B_ne; focus decide) | ((with_reducible first | apply SC_d | apply SG_d | apply SG_n | apply SC_b | apply SG_b) <;> intro hc <;> try simp only [dq1, dq2, dq3, dq4, dq5] at hc))
      refine G_n (by exact svc) hlt ⟨v', G', by exact svc, rfl, ?_⟩
      rw [frL, hgd, if_pos hc]
      simpa [intsA] using hO2
    · refine G_n (by exact svc) hlt ⟨w, _, by exact svc, by first | rfl | (simp only [List.append_assoc, List.cons_append, List.nil_append]; rfl), ?_⟩
      rw [frL, hgd, if_neg hc, List.append_nil]
      simpa using hO'
  · have hlt' : ¬ (i : Int) < m.L.length := by omega
    have hil : i = m.L.length := by omega
    subst hil
    have hf := hO.finG (base := M.length) (by simp)
    repeat' (first | ((with_reducible first | apply S_0 | apply S_q1 | apply S_g | apply S_c); exact sgc) | refine Stp.h ?_ | (with_reducible apply B_ne; focus decide) | ((with_reducible first | apply SC_d | apply SG_d | apply SG_n | apply SC_b | apply SG_b) <;> intro hc <;> try simp only [dq1, dq2, dq3, dq4, dq5] at hc))
    (refine ⟨by first | exact .inr rfl | exact .inl rfl, ?_⟩; simp (disch := first | assumption | decide | omega | exact Pth.le _ | exact Rks.le _ | exact List.getElem_mem _ | exact allI_ints _ | exact allI_rks _ | exact allI_pths _ | exact Pth.nil _ | exact Rks.nil _ | (intro hh; simp only [Pth.nil _ hh, List.take_nil, List.drop_nil]; done) | (intro hh; simp only [Rks.nil _ hh, List.take_nil, List.drop_nil]; done) | (simp only [List.length_take, List.length_drop, List.length_append, List.length_cons, List.length_nil, List.length_replicate, List.length_map, ints_len]; omega)) only [resA, rvA, tupA, Option.bind_some, go_sem, if_pos, if_neg, Nat.reduceBEq, Nat.reduceEqDiff, ↓reduceIte, Nat.reduceSub, Nat.reduceAdd, Int.reduceToNat, reduceCtorEq, Nat.reduceLeDiff, Nat.reduceLT, Nat.reduceMul, Nat.reduceDiv, Int.reduceLT, Int.reduceLE, Int.reduceEq, Int.reduceNe, Int.reduceAdd, Int.reduceSub, Int.reduceNeg, Int.reduceGT, Int.reduceGE, Int.reduceBEq, Int.reduceBNe, Int.reduceMul, *])
theorem t52 (m : Mc) (k : Nat) (q : Nat) (M : MS) (h : Mach M m) (hq : M[q]? = some (some [.mptr m.id 0])) (hk : k < m.Z.length) : ev pr 52 [.flat (.int .i64 k), .mptr q 0] M = some (.q (.flat (.bool (decide (64 ≤ m.Z[k].row.length))))) := by
  have hb := h.b
  obtain ⟨cd, hlv, hln⟩ := h.ln hk
  have hr := h.row _ (List.getElem_mem hk)
  have hx : lenOf m.Z[k].x = some m.Z[k].row.length := by
    rcases hr with ⟨nl, h1, _⟩ | ⟨_, a, off, cd, cs, h1, _⟩ <;> rw [h1] <;> simp [lenOf]
  clear h hr
  refine ev_fn' A52 ?_
  repeat' (first | ((with_reducible first | apply S_0 | apply S_q1 | apply S_g | apply S_c); exact sgc) | refine Stp.h ?_ | (with_reducible apply B_ne; focus decide) | ((with_reducible first | apply SC_d | apply SG_d | apply SG_n | apply SC_b | apply SG_b) <;> intro hc <;> try simp only [dq1, dq2, dq3, dq4, dq5] at hc))
  (refine ⟨by first | exact .inr rfl | exact .inl rfl, ?_⟩; simp (disch := first | assumption | decide | omega | exact Pth.le _ | exact Rks.le _ | exact List.getElem_mem _ | exact allI_ints _ | exact allI_rks _ | exact allI_pths _ | exact Pth.nil _ | exact Rks.nil _ | (intro hh; simp only [Pth.nil _ hh, List.take_nil, List.drop_nil]; done) | (intro hh; simp only [Rks.nil _ hh, List.take_nil, List.drop_nil]; done) | (simp only [List.length_take, List.length_drop, List.length_append, List.length_cons, List.length_nil, List.length_replicate, List.length_map, ints_len]; omega)) only [resA, rvA, tupA, fin, frzV, frzTup, frzA, frz, isI, isI.all, Option.bind_some, go_sem, if_pos, if_neg, Nat.reduceBEq, Nat.reduceEqDiff, ↓reduceIte, Nat.reduceSub, Nat.reduceAdd, Int.reduceToNat, reduceCtorEq, Nat.reduceLeDiff, Nat.reduceLT, Nat.reduceMul, Nat.reduceDiv, Int.reduceLT, Int.reduceLE, Int.reduceEq, Int.reduceNe, Int.reduceAdd, Int.reduceSub, Int.reduceNeg, Int.reduceGT, Int.reduceGE, Int.reduceBEq, Int.reduceBNe, Int.reduceMul, *])
  rw [show decide (64 ≤ (m.Z[k].row.length : Int)) = decide (64 ≤ m.Z[k].row.length) from decide_eq_decide.2 (by omega)]
end Go.Proofs.Ytlcdafidoddefaa.Av
namespace Go.Proofs.Ytlcdafidoddefaa.Av
open Go.RowKit
set_option linter.unusedSimpArgs false
set_option linter.unusedVariables false
set_option maxHeartbeats 10000000
/-- The numbers of the lines on which something waits. -/
def wtL (Z : List Lin) : Nat → List Int
  | 0 => []
  | k + 1 => wtL Z k ++ (match Z[k]? with
    | some z => if 0 < z.row.length then [(k : Int)] else []
    | none => [])
theorem wtL_len (Z : List Lin) : ∀ k, (wtL Z k).length ≤ k
  | 0 => by simp [wtL]
  | k + 1 => by
    have := wtL_len Z k
    simp only [wtL, List.length_append]
    cases Z[k]? with
    | none => simp; omega
    | some z => simp only; split <;> simp <;> omega
theorem RowOk.lenOf {M : MS} {z : Lin} (hr : RowOk M z) : Av.lenOf z.x = some z.row.length := by
  rcases hr with ⟨nl, h1, _⟩ | ⟨_, a, off, cd, cs, h1, _⟩ <;> rw [h1] <;> simp [Av.lenOf]
theorem t35 (m : Mc) (M : MS) (h : Mach M m) : ev pr 35 [.mptr m.id 0] M = some (.q (lst 1 (intsA (wtL m.Z m.Z.length)))) := by
  have hb := h.b
  have hlv := h.lvl
  have hle : m.Z.length ≤ 1000 := by rw [h.len]; exact h.lle
  refine ev_fn' A35 ?_
  repeat' (first | ((with_reducible first | apply S_0 | apply S_q1 | apply S_g | apply S_c); exact sgc) | refine Stp.h ?_ | (with_reducible apply B_ne; focus decide) | ((with_reducible first | apply SC_d | apply SG_d | apply SG_n | apply SC_b | apply SG_b) <;> intro hc <;> try simp only [dq1, dq2, dq3, dq4, dq5] at hc))
  refine W_rngM 14 0 m.Z.length (fun i e m' => ∃ v G, e 3 = v ∧ m' = M ++ G ∧ Own M.length (M ++ G) v 1 (intsA (wtL m.Z i))) (by simp only [asg, asgO, List.append_nil, List.nil_append, List.cons_append]; rfl) (by exact svc) (by omega)
    ⟨.list 1 [] true true, [], by exact svc, by simp, by simpa [wtL, intsA] using Own.nil _ _ (by decide)⟩ ?_
  rintro i e _ _ hi hk e14 ⟨w, G, e3, rfl, hO⟩
  have k12 : e 12 = m.lv := by rw [hk 12 rfl]; exact svc
  have k13 : e 13 = .flat (.int .i64 m.Z.length) := by rw [hk 13 rfl]; exact svc
  have hfl := wtL_len m.Z i
  clear hk hb
  rcases Nat.lt_or_ge i m.Z.length with hlt | hlt
  · have hlt' : (i : Int) < m.Z.length := by omega
    obtain ⟨cd, hlv2, hln⟩ := (h.grow G).ln hlt
    have hx := (h.row _ (List.getElem_mem hlt)).lenOf
    have hli : m.lid < (M ++ G).length := by
      rcases Nat.lt_or_ge m.lid (M ++ G).length with h1 | h1
      · exact h1
      · rw [List.getElem?_eq_none h1] at hln; cases hln
    have hO' := hO.growG [some [m.Z[i].x, .list 1 (intsA m.Z[i].heard.l) m.Z[i].heard.nl m.Z[i].heard.cd, .flat (.bool m.Z[i].any)]]
    have hw : wtL m.Z (i + 1) = wtL m.Z i ++ (if 0 < m.Z[i].row.length then [(i : Int)] else []) := by
      rw [wtL, List.getElem?_eq_getElem hlt]
    rw [hlv2] at hlv k12
    clear h
    repeat' (first | ((with_reducible first | apply S_0 | apply S_q1 | apply S_g | apply S_c); exact sgc) | refine Stp.h ?_ | (with_reducible apply B_ne; focus decide) | ((with_reducible first | apply SC_d | apply SG_d | apply SG_n | apply SC_b | apply SG_b) <;> intro hc <;> try simp only [dq1, dq2, dq3, dq4, dq5] at hc))
    · (refine S_ownG (cs := intsA (wtL m.Z i)) M (G ++ [some [m.Z[i].x, .list 1 (intsA m.Z[i].heard.l) m.Z[i].heard.nl m.Z[i].heard.cd, .flat (.bool m.Z[i].any)]]) (by assumption) (by first | rfl | simp only [List.append_assoc, List.cons_append, List.nil_append]) (by exact sgc) (by exact sgc) (by exact sgc) (by exact sgc) (by exact sgc) (by (first | assumption | omega | (simp only [ints_len, Nat.div_one, Nat.one_mul, Nat.mul_one, List.length_map, rks_len, half, List.length_cons, List.length_nil, List.length_append, List.length_replicate]; omega))) (by (first | assumption | omega | (simp only [ints_len, Nat.div_one, Nat.one_mul, Nat.mul_one, List.length_map, rks_len, half, List.length_cons, List.length_nil, List.length_append, List.length_replicate]; omega))) (by first | omega | (simp; done) | (simp; omega)) ?_)
      intro v' G' hO2
      repeat' (first | ((with_reducible first | apply S_0 | apply S_q1 | apply S_g | apply S_c); exact sgc) | refine Stp.h ?_ | (with_reducible apply B_ne; focus decide) | ((with_reducible first | apply SC_d | apply SG_d | apply SG_n | apply SC_b | apply SG_b) <;> intro hc <;> try simp only [dq1, dq2, dq3, dq4, dq5] at hc))
      refine G_n (by exact svc) hlt ⟨v', G', by exact svc, rfl, ?_⟩
      rw [hw, if_pos (by omega)]
      simpa [intsA] using hO2
    · refine G_n (by exact svc) hlt ⟨w, _, by exact svc, by first | rfl | (simp only [List.append_assoc, List.cons_append, List.nil_append]; rfl), ?_⟩
      rw [hw, if_neg (by omega), List.append_nil]
      simpa using hO'
  · have hlt' : ¬ (i : Int) < m.Z.length := by omega
    have hil : i = m.Z.length := by omega
    subst hil
    have hf := hO.finG (base := M.length) (by simp)
    repeat' (first | ((with_reducible first | apply S_0 | apply S_q1 | apply S_g | apply S_c); exact sgc) | refine Stp.h ?_ | (with_reducible apply B_ne; focus decide) | ((with_reducible first | apply SC_d | apply SG_d | apply SG_n | apply SC_b | apply SG_b) <;> intro hc <;> try simp only [dq1, dq2, dq3, dq4, dq5] at hc))
    (refine ⟨by first | exact .inr rfl | exact .inl rfl, ?_⟩; simp (disch := first | assumption | decide | omega | exact Pth.le _ | exact Rks.le _ | exact List.getElem_mem _ | exact allI_ints _ | exact allI_rks _ | exact allI_pths _ | exact Pth.nil _ | exact Rks.nil _ | (intro hh; simp only [Pth.nil _ hh, List.take_nil, List.drop_nil]; done) | (intro hh; simp only [Rks.nil _ hh, List.take_nil, List.drop_nil]; done) | (simp only [List.length_take, List.length_drop, List.length_append, List.length_cons, List.length_nil, List.length_replicate, List.length_map, ints_len]; omega)) only [resA, rvA, tupA, Option.bind_some, go_sem, if_pos, if_neg, Nat.reduceBEq, Nat.reduceEqDiff, ↓reduceIte, Nat.reduceSub, Nat.reduceAdd, Int.reduceToNat, reduceCtorEq, Nat.reduceLeDiff, Nat.reduceLT, Nat.reduceMul, Nat.reduceDiv, Int.reduceLT, Int.reduceLE, Int.reduceEq, Int.reduceNe, Int.reduceAdd, Int.reduceSub, Int.reduceNeg, Int.reduceGT, Int.reduceGE, Int.reduceBEq, Int.reduceBNe, Int.reduceMul, *])
/-- The longest row. -/
def lnL (Z : List Lin) : Nat → Nat
  | 0 => 0
  | k + 1 => max (lnL Z k) (match Z[k]? with
    | some z => z.row.length
    | none => 0)
end Go.Proofs.Ytlcdafidoddefaa.Av
namespace Go.Proofs.Ytlcdafidoddefaa.Av
open Go.RowKit
set_option linter.unusedSimpArgs false
set_option linter.unusedVariables false
set_option maxHeartbeats 10000000
theorem get_lt {M : MS} {i : Nat} {x : Option (List AV)} (h : M[i]? = some x) : i < M.length := by
  rcases Nat.lt_or_ge i M.length with h1 | h1
  · exact h1
  · rw [List.getElem?_eq_none h1] at h; cases h
theorem RowOk.vw {M : MS} {z : Lin} (hr : RowOk M z) : Vw M z.x (z.row.map Pth.av) z.row.length := by
  refine ⟨hr.lenOf, fun G => ?_, ?_⟩
  · rcases hr.grow G with ⟨nl, h1, _⟩ | ⟨_, a, off, cd, cs, h1, h2, h3, h4, _⟩
    · rw [h1]; rfl
    · rw [h1]; simp only [view, h2, Nat.mul_one]; rw [if_pos h3, h4]
  · rcases hr with ⟨nl, h1, _⟩ | ⟨_, a, off, cd, cs, h1, _⟩ <;> rw [h1] <;> rfl
end Go.Proofs.Ytlcdafidoddefaa.Av
namespace Go.Proofs.Ytlcdafidoddefaa.Av
open Go.RowKit
set_option linter.unusedSimpArgs false
set_option linter.unusedVariables false
set_option maxHeartbeats 10000000
def nilPth : Pth := ⟨[], true, true, fun _ => ⟨rfl, rfl⟩, by decide⟩
theorem ok0 : false = true → ([0] : List Int) = [] ∧ true = true := fun h => Bool.noConfusion h
def zeroPth : Pth := ⟨[0], false, true, ok0, by decide⟩
def newLin (p : I2) : Lin := if p.1 = 0 then ⟨.list 1 [zeroPth.av] false true, [zeroPth], nilPth, false⟩ else ⟨.list 1 [] true true, [], nilPth, false⟩
theorem app_nil {base sz sz' bytes m : Nat} {M : MS} {D : List Nat} {news : List AV} (hm : 0 < m) (hn : m * sz = news.length) (h1 : m ≤ 1099511627776) (h2 : m * bytes ≤ 140737488355328) :
    appA base M D sz bytes (.list sz' [] true true) m news = some (.x (.ms M.length 0 m sz false) (M ++ [some news]) D) := by
  simp only [appA]
  rw [if_neg (by omega), if_pos ⟨.inl trivial, trivial, hn, by simpa [LIM] using h1, by simpa using h2⟩]
  simp
attribute [go_sem] putE app_nil
theorem small_cp {l : List Rks} (hS : SmallX l) : SmallX (l.map cpR) := by
  refine ⟨by simpa using hS.1, fun r hr => ?_⟩
  obtain ⟨r', hr', rfl⟩ := List.mem_map.1 hr
  have h := hS.2 r' hr'
  refine ⟨by simpa [cpR] using h.1, fun q hq => ?_⟩
  obtain ⟨q', hq', rfl⟩ := List.mem_map.1 (show q ∈ r'.l.map cpQ from hq)
  exact h.2 q' hq'
theorem lok_cp {l : List Rnk} {v n : Int} (h : LOk l v n) : LOk (l.map cpQ) v n := by
  refine ⟨by simpa using h.1, fun i hi => ?_⟩
  have hi' : i < l.length := by simpa using hi
  obtain ⟨h1, h2, h3⟩ := h.2 i hi'
  refine ⟨by simpa [cpQ] using h1, by simpa [cpQ, cln] using h2, ?_⟩
  rw [← List.map_take, pl_cpQ]
  simpa [cpQ, cln] using h3
theorem may_cp {l : List Rks} {n : Int} (hX : MayX n l) : MayX n (l.map cpR) := by
  obtain ⟨h1, h2, h3, h4, h5⟩ := hX
  refine ⟨h1, h2, by simpa using h3, fun h => ?_, fun v hv hv1 => ?_⟩
  · have h' : 0 < l.length := by simpa using h
    simp [cpR, h4 h']
  · have hv' : v < l.length := by simpa using hv
    have := lok_cp (h5 v hv' hv1)
    simpa [cpR] using this
theorem prI_cp (r : List Rnk) : prI (r.map cpQ) = prI r := by simp [prI, cpQ, cln, Function.comp_def]
theorem prL_cp (l : List Rks) : prL (l.map cpR) = prL l := by
  simp only [prL, List.flatMap_map]
  congr 1; funext r; exact prI_cp r.l
/-- What a machine is made as. -/
structure NewM (base : Nat) (l : List Rks) (m : Mc) : Prop where
  hl : m.l = l.map cpR
  hn : m.n = l.length
  hZ : m.Z = m.L.map newLin
  hC : m.C = zeroPth :: List.replicate (l.length - 1) nilPth
  b1 : base ≤ m.id
  b2 : base ≤ m.mid
  b3 : base ≤ m.lid
  b4 : base ≤ m.cid
theorem mach_new {l : List Rks} {A : MS} {nl cd ne ce : Bool} {w : AV} {cho : List AV} {G : MS} (hS : SmallX l) (hX : MayX l.length l) (hne : ne = true → prs (prL l) = [])
    (hcho : cho = (AV.list 1 [AV.flat (.int .i64 0)] false true :: List.drop 1 (List.replicate l.length (AV.list 1 [] true true))))
    (hw : (prs (prL l) = [] ∧ w = .list 1 [] true true) ∨ Own (A.length + 4) (A ++ (some [.flat (.int .i64 l.length), .list 1 (l.map Rks.av) nl cd] :: some (mapE (prs (prL l)) 0) :: some cho ::
      some [.flat (.int .i64 l.length), lst 1 ((l.map cpR).map Rks.av), .list 2 (cells2 (prs (prL l))) ne ce, .mp (A.length + 1), w, .ms (A.length + 2) 0 l.length 1 true] :: G)) w 3 (linsA ((prs (prL l)).map newLin))) :
    ∃ m : Mc, m.id = A.length + 3 ∧ NewM A.length l m ∧ Mach (A ++ (some [.flat (.int .i64 l.length), .list 1 (l.map Rks.av) nl cd] :: some (mapE (prs (prL l)) 0) :: some cho ::
      some [.flat (.int .i64 l.length), lst 1 ((l.map cpR).map Rks.av), .list 2 (cells2 (prs (prL l))) ne ce, .mp (A.length + 1), w, .ms (A.length + 2) 0 l.length 1 true] :: G)) m := by
  have hl1 : 1 ≤ l.length := by have := hX.1; omega
  obtain ⟨lid, hlid, hlin⟩ : ∃ lid, A.length + 4 ≤ lid ∧ (((prs (prL l)).map newLin = [] ∧ ∃ sz nl cd, w = .list sz [] nl cd) ∨ ((prs (prL l)).map newLin ≠ [] ∧ ∃ cd', w = .ms lid 0 ((prs (prL l)).map newLin).length 3 cd' ∧ (A ++ (some [.flat (.int .i64 l.length), .list 1 (l.map Rks.av) nl cd] :: some (mapE (prs (prL l)) 0) :: some cho ::
      some [.flat (.int .i64 l.length), lst 1 ((l.map cpR).map Rks.av), .list 2 (cells2 (prs (prL l))) ne ce, .mp (A.length + 1), w, .ms (A.length + 2) 0 l.length 1 true] :: G))[lid]? = some (some (linsA ((prs (prL l)).map newLin))))) := by
    rcases hw with ⟨h1, h2⟩ | hO
    · exact ⟨A.length + 4, by omega, .inl ⟨by rw [h1]; rfl, 1, true, true, h2⟩⟩
    · rcases hO.own with ⟨h1, h2⟩ | ⟨id, i1, i2, h3, h4⟩
      · have h0 : (prs (prL l)).map newLin = [] := List.eq_nil_of_length_eq_zero (by have := lins_len ((prs (prL l)).map newLin); rw [h2] at this; simp only [List.length_nil] at this; omega)
        exact ⟨A.length + 4, by omega, .inl ⟨h0, 3, true, true, h1⟩⟩
      · refine ⟨id, i1, ?_⟩
        rw [lins_len, Nat.mul_div_cancel _ (by decide)] at h3
        by_cases h0 : (prs (prL l)).map newLin = []
        · exfalso
          obtain ⟨_, _, _, ⟨_, h⟩ | ⟨h, _⟩⟩ := hO
          · rw [h3] at h; cases h
          · rw [h0] at h; exact h rfl
        · exact .inr ⟨h0, false, h3, h4⟩
  have hll := hS.1
  have hLl : (prs (prL l)).length ≤ 12 * 70 := by
    have h1 : (prs (prL l)).length ≤ (prL l).length := by rw [prs]; exact dd2_le _ _
    have := prL_len (l := l) (m := 70) fun r hr => (hS.2 r hr).1
    have : l.length * 70 ≤ 12 * 70 := Nat.mul_le_mul_right _ (by omega)
    omega
  have hcC : cho = (zeroPth :: List.replicate (l.length - 1) nilPth).map Pth.av := by
    rw [hcho, List.map_cons, List.map_replicate, List.drop_replicate]; rfl
  have hclen : (zeroPth :: List.replicate (l.length - 1) nilPth).length = l.length := by simp; omega
  have hzx : ∀ z ∈ (prs (prL l)).map newLin, ∃ p, z = newLin p := fun z hz => by
    obtain ⟨p, _, rfl⟩ := List.mem_map.1 hz; exact ⟨p, rfl⟩
  have hrid : ∀ p, rid (newLin p).x = none := fun p => by unfold newLin; split <;> rfl
  refine ⟨⟨A.length + 3, A.length + 1, lid, A.length + 2, l.length, l.map cpR, ((l.map cpR).map Rks.av).isEmpty, ((l.map cpR).map Rks.av).isEmpty, prs (prL l), ne, ce, (prs (prL l)).map newLin, w, zeroPth :: List.replicate (l.length - 1) nilPth, true⟩, rfl, ⟨rfl, rfl, rfl, rfl, by simp, by simp, by simp; omega, by simp⟩, ?_⟩
  constructor
  · simp [Mc.cells, lst]; omega
  · simp
  · simp [hcC]
  · exact hlin
  · intro z hz
    obtain ⟨p, rfl⟩ := hzx z hz
    unfold newLin
    split
    · exact .inl ⟨false, rfl, fun h => by cases h⟩
    · exact .inl ⟨true, rfl, fun _ => rfl⟩
  · show A.length + 3 ≠ A.length + 1; omega
  · show A.length + 3 ≠ lid; omega
  · show A.length + 3 ≠ A.length + 2; omega
  · show A.length + 1 ≠ lid; omega
  · show A.length + 1 ≠ A.length + 2; omega
  · show lid ≠ A.length + 2; omega
  · intro z hz a ha
    obtain ⟨p, rfl⟩ := hzx z hz
    rw [hrid] at ha; cases ha
  · intro i j hi hj a hij ha
    simp only [List.getElem_map] at ha
    rw [hrid] at ha; cases ha
  · simp
  · simpa using hclen
  · exact (prs_pw (prL l)).imp fun {a b} h hab => by rw [lt2_iff] at h; subst hab; omega
  · intro p hp
    have hm := prs_mem.1 hp
    simp only [prL, List.mem_flatMap, prI, List.mem_map] at hm
    obtain ⟨r, hr, q, hq, rfl⟩ := hm
    obtain ⟨i, hi, rfl⟩ := List.getElem_of_mem hr
    have hi1 : 1 ≤ i := by
      rcases Nat.eq_zero_or_pos i with h0 | h0
      · subst h0; rw [hX.2.2.2.1 hi] at hq; simp at hq
      · exact h0
    have hpo := lok_path (hX.2.2.2.2 i hi hi1) q hq
    obtain ⟨h1, h2, h3⟩ := path1 hpo
    have g1 : q.p.l.getD 1 0 = q.p.l[1] := by simp [List.getD, List.getElem?_eq_getElem h1]
    have g0 : q.p.l.getD 0 0 = i := by simp [List.getD, hpo.2.1]
    simp only [g1, g0, List.length_map]
    omega
  · show (prs (prL l)).length ≤ 1000; omega
  · exact hne
  · exact may_cp hX
  · exact small_cp hS
  · show prs (prL l) = prs (prL (l.map cpR)); rw [prL_cp]
  · intro z hz
    obtain ⟨p, rfl⟩ := hzx z hz
    unfold newLin; split <;> simp
  · intro p hp
    rcases List.mem_cons.1 hp with rfl | hp
    · simp [zeroPth]
    · rw [(List.mem_replicate.1 hp).2]; simp [nilPth]
  · intro z hz
    obtain ⟨p, rfl⟩ := hzx z hz
    unfold newLin; split <;> simp [nilPth, zeroPth]
theorem t18 (n : Int) (l : List Rks) (nl cd : Bool) (M : MS) (hS : SmallX l) (hX : MayX n l) : ∃ out, ev pr 18 [.agg [.flat (.int .i64 n), .list 1 (l.map Rks.av) nl cd]] M = some out ∧ ∃ (m : Mc) (G : MS), out = .x (.tup [.mptr m.id 0, .flat (.int .i64 0)]) (M ++ G) [] ∧ Mach (M ++ G) m ∧ NewM M.length l m := by
  have h43 := fun M => t43 n l nl cd M hS
  rw [decide_eq_true hX] at h43
  have hll := hS.1
  have h44 := fun M => t44 n l nl cd M (by omega) (fun r hr => ⟨by have := (hS.2 r hr).1; omega, fun q hq => by have := (hS.2 r hr).2 q hq; omega⟩)
  have hp2 : ∀ r ∈ l, ∀ q ∈ r.l, 2 ≤ q.p.l.length := by
    intro r hr q hq
    obtain ⟨i, hi, rfl⟩ := List.getElem_of_mem hr
    rcases Nat.eq_zero_or_pos i with h0 | h0
    · subst h0
      have := hX.2.2.2.1 hi
      rw [this] at hq; simp at hq
    · exact (lok_path (hX.2.2.2.2 i hi h0) q hq).1
  obtain ⟨ne, ce, hne, h45⟩ : ∃ ne ce, (ne = true → prs (prL l) = []) ∧ ev pr 45 [.agg [.flat (.int .i64 n), .list 1 (l.map Rks.av) nl cd]] (M ++ [some [.flat (.int .i64 n), .list 1 (l.map Rks.av) nl cd]]) = some (.q (.list 2 (cells2 (prs (prL l))) ne ce)) := by
    obtain ⟨out, h1, ne, ce, hne, rfl⟩ := t45 n l nl cd (M ++ [some [.flat (.int .i64 n), .list 1 (l.map Rks.av) nl cd]]) hS hp2
    exact ⟨ne, ce, hne, h1⟩
  have hn : n = l.length := hX.2.2.1.symm
  have hl1 : 1 ≤ l.length := by have := hX.1; omega
  subst hn
  obtain ⟨L, hLe⟩ : ∃ L, L = prs (prL l) := ⟨_, rfl⟩
  rw [← hLe] at h45
  have hLl : L.length ≤ 12 * 70 := by
    have h1 : (prs (prL l)).length ≤ (prL l).length := by rw [prs]; exact dd2_le _ _
    have := prL_len (l := l) (m := 70) fun r hr => (hS.2 r hr).1
    have : l.length * 70 ≤ 12 * 70 := Nat.mul_le_mul_right _ (by omega)
    rw [hLe]; omega
  have hnd : L.Nodup := by
    rw [hLe]
    exact (prs_pw (prL l)).imp fun {a b} h hab => by
      rw [lt2_iff] at h; subst hab; omega
  have hH : Hid (L = prs (prL l)) := hLe
  clear hLe
  have hlim : (l.length : Int) ≤ LIM := by unfold LIM; omega
  refine ev_fnE A18 ?_
  repeat' (first | ((with_reducible first | apply S_0 | apply S_q1 | apply S_g | apply S_c); exact sgc) | refine Stp.h ?_ | (with_reducible apply B_ne; focus decide) | ((with_reducible first | apply SC_d | apply SG_d | apply SG_n | apply SC_b | apply SG_b) <;> intro hc <;> try simp only [dq1, dq2, dq3, dq4, dq5] at hc))
  refine W_regionF2 ?_
  (try simp only [List.take_succ_cons, List.take_zero, List.drop_succ_cons, List.drop_zero]; repeat (first | (with_reducible apply WH_nil) | ((with_reducible apply WH_q); (focus rfl); (focus rfl); focus (exact whc)) | ((with_reducible apply WH_cq); (focus rfl); focus (exact whc)) | ((with_reducible apply WH_cx); (focus rfl); focus (exact whc)) | ((with_reducible apply WH_f); (focus rfl); focus (exact whc)) | ((with_reducible apply WH_k); (focus rfl); focus (exact whc))))
  refine ⟨rfl, rfl, ?_⟩
  clear h43 h44 h45
  repeat' (first | ((with_reducible first | apply S_0 | apply S_q1 | apply S_g | apply S_c); exact sgc) | refine Stp.h ?_ | (with_reducible apply B_ne; focus decide) | ((with_reducible first | apply SC_d | apply SG_d | apply SG_n | apply SC_b | apply SG_b) <;> intro hc <;> try simp only [dq1, dq2, dq3, dq4, dq5] at hc))
  obtain ⟨cho, hcho⟩ : ∃ cho, cho = (AV.list 1 [AV.flat (.int .i64 0)] false true :: List.drop 1 (List.replicate l.length (AV.list 1 [] true true))) := ⟨_, rfl⟩
  rw [← hcho]
  refine W_rngM 32 0 L.length (fun i e m => ∃ w G, m = M ++ (some [.flat (.int .i64 l.length), .list 1 (l.map Rks.av) nl cd] :: some (mapE (L.take i) 0) :: some cho ::
      some [.flat (.int .i64 l.length), lst 1 ((l.map cpR).map Rks.av), .list 2 (cells2 L) ne ce, .mp (M.length + 1), w, .ms (M.length + 2) 0 l.length 1 true] :: G) ∧
      ((i = 0 ∧ w = .list 1 [] true true ∧ G = []) ∨ (0 < i ∧ Own (M.length + 4) (M ++ (some [.flat (.int .i64 l.length), .list 1 (l.map Rks.av) nl cd] :: some (mapE (L.take i) 0) :: some cho ::
      some [.flat (.int .i64 l.length), lst 1 ((l.map cpR).map Rks.av), .list 2 (cells2 L) ne ce, .mp (M.length + 1), w, .ms (M.length + 2) 0 l.length 1 true] :: G)) w 3 (linsA ((L.take i).map newLin))))) (by simp only [asg, asgO, List.append_nil, List.nil_append, List.cons_append]; rfl) (by exact svc) (by omega)
    ⟨_, [], rfl, .inl ⟨rfl, rfl, rfl⟩⟩ ?_
  have hcl : cho.length = l.length := by rw [hcho]; simp; omega
  have hH2 : Hid (cho = (AV.list 1 [AV.flat (.int .i64 0)] false true :: List.drop 1 (List.replicate l.length (AV.list 1 [] true true)))) := hcho
  clear hcho
  rintro i e _ _ hi hk e32 ⟨w, G, rfl, hw⟩
  have k4 : e 4 = .mptr (M.length + 3) 0 := by rw [hk 4 rfl]; exact svc
  have k30 : e 30 = .list 2 (cells2 L) ne ce := by rw [hk 30 rfl]; exact svc
  have k31 : e 31 = .flat (.int .i64 L.length) := by rw [hk 31 rfl]; exact svc
  clear hk
  rcases Nat.lt_or_ge i L.length with hlt | hlt
  · have hlt' : (i : Int) < L.length := by omega
    have hat := take2_at hlt
    have hfm := fun j => find_map L[i] (L.take i) 0 j
    have hnm : L[i] ∉ L.take i := by
      intro hm
      obtain ⟨j, hj, he⟩ := List.mem_take_iff_getElem.1 hm
      exact List.pairwise_iff_getElem.1 hnd j i (by omega) hlt (by omega) he
    simp only [if_neg hnm] at hfm
    have hme : mapE (L.take i) 0 ++ [.tup [.agg [.flat (.int .i64 L[i].1), .flat (.int .i64 L[i].2)], .flat (.int .i64 (i : Nat))]] = mapE (L.take (i + 1)) 0 := by
      rw [List.take_succ_eq_append_getElem hlt, mapE_app, Nat.zero_add, List.length_take, Nat.min_eq_left hi]
    have hll2 : linsA ((L.take (i + 1)).map newLin) = linsA ((L.take i).map newLin) ++ (newLin L[i]).cs := by
      rw [List.take_succ_eq_append_getElem hlt, List.map_append, lins_app]; simp [linsA]
    rcases hw with ⟨hi0, rfl, rfl⟩ | ⟨hi0, hO⟩
    · have hH3 : Hid (i = 0) := hi0
      clear hi0
      repeat' (first | ((with_reducible first | apply S_0 | apply S_q1 | apply S_g | apply S_c); exact sgc) | refine Stp.h ?_ | (with_reducible apply B_ne; focus decide) | ((with_reducible first | apply SC_d | apply SG_d | apply SG_n | apply SC_b | apply SG_b) <;> intro hc <;> try simp only [dq1, dq2, dq3, dq4, dq5] at hc))
      · have hnl : (newLin L[i]).cs = [AV.list 1 [.list 1 [.flat (.int .i64 0)] false true] false true, .list 1 [] true true, .flat (.bool false)] := by
          rw [newLin, if_pos hc]; rfl
        refine G_n (by exact svc) hlt ⟨_, _, rfl, .inr ⟨by omega, ?_⟩⟩
        have h0 : L.take i = [] := by rw [show i = 0 from hH3]; rfl
        rw [hll2, hnl, h0]
        exact ⟨by decide, rfl, ⟨1, rfl⟩, .inr ⟨by simp [linsA], M.length + 6, by omega, by simp, rfl, by simp [linsA]⟩⟩
      · have hnl : (newLin L[i]).cs = [AV.list 1 [] true true, .list 1 [] true true, .flat (.bool false)] := by
          rw [newLin, if_neg hc]; rfl
        refine G_n (by exact svc) hlt ⟨_, _, rfl, .inr ⟨by omega, ?_⟩⟩
        have h0 : L.take i = [] := by rw [show i = 0 from hH3]; rfl
        rw [hll2, hnl, h0]
        exact ⟨by decide, rfl, ⟨1, rfl⟩, .inr ⟨by simp [linsA], M.length + 6, by omega, by simp, rfl, by simp [linsA]⟩⟩
    · have hwc := hO.cell
      have hcl3 : (linsA ((L.take i).map newLin)).length / 3 = i := by rw [lins_len, List.length_map, List.length_take, Nat.min_eq_left hi, Nat.mul_div_cancel _ (by decide)]
      repeat' (first | ((with_reducible first | apply S_0 | apply S_q1 | apply S_g | apply S_c); exact sgc) | refine Stp.h ?_ | (with_reducible apply B_ne; focus decide) | ((with_reducible first | apply SC_d | apply SG_d | apply SG_n | apply SC_b | apply SG_b) <;> intro hc <;> try simp only [dq1, dq2, dq3, dq4, dq5] at hc))
      · have hnl : (newLin L[i]).cs = [AV.list 1 [.list 1 [.flat (.int .i64 0)] false true] false true, .list 1 [] true true, .flat (.bool false)] := by
          rw [newLin, if_pos hc]; rfl
        have hO1 : Own (M ++ [some [.flat (.int .i64 l.length), .list 1 (l.map Rks.av) nl cd], some (mapE (L.take (i + 1)) 0), some cho, some [.flat (.int .i64 l.length), lst 1 ((l.map cpR).map Rks.av), .list 2 (cells2 L) ne ce, .mp (M.length + 1), w, .ms (M.length + 2) 0 l.length 1 true]]).length ((M ++ [some [.flat (.int .i64 l.length), .list 1 (l.map Rks.av) nl cd], some (mapE (L.take (i + 1)) 0), some cho, some [.flat (.int .i64 l.length), lst 1 ((l.map cpR).map Rks.av), .list 2 (cells2 L) ne ce, .mp (M.length + 1), w, .ms (M.length + 2) 0 l.length 1 true]]) ++ G) w 3 (linsA ((L.take i).map newLin)) := by
          have := Own.swap (B := (M ++ [some [.flat (.int .i64 l.length), .list 1 (l.map Rks.av) nl cd], some (mapE (L.take i) 0), some cho, some [.flat (.int .i64 l.length), lst 1 ((l.map cpR).map Rks.av), .list 2 (cells2 L) ne ce, .mp (M.length + 1), w, .ms (M.length + 2) 0 l.length 1 true]])) (B' := (M ++ [some [.flat (.int .i64 l.length), .list 1 (l.map Rks.av) nl cd], some (mapE (L.take (i + 1)) 0), some cho, some [.flat (.int .i64 l.length), lst 1 ((l.map cpR).map Rks.av), .list 2 (cells2 L) ne ce, .mp (M.length + 1), w, .ms (M.length + 2) 0 l.length 1 true]])) (G := G) (by simpa using hO) (by simp) (by simp)
          simpa using this
        have hO' := hO1.growG [some [.flat (.int .i64 0), .flat (.int .i64 L[i].2)], some [AV.list 1 [.list 1 [.flat (.int .i64 0)] false true] false true, .list 1 [] true true, .flat (.bool false)]]
        (refine S_ownG (cs := linsA ((L.take i).map newLin)) (M ++ [some [.flat (.int .i64 l.length), .list 1 (l.map Rks.av) nl cd], some (mapE (L.take (i + 1)) 0), some cho, some [.flat (.int .i64 l.length), lst 1 ((l.map cpR).map Rks.av), .list 2 (cells2 L) ne ce, .mp (M.length + 1), w, .ms (M.length + 2) 0 l.length 1 true]]) (G ++ [some [.flat (.int .i64 0), .flat (.int .i64 L[i].2)], some [AV.list 1 [.list 1 [.flat (.int .i64 0)] false true] false true, .list 1 [] true true, .flat (.bool false)]]) (by assumption) (by first | rfl | simp only [List.append_assoc, List.cons_append, List.nil_append]) (by exact sgc) (by exact sgc) (by exact sgc) (by exact sgc) (by exact sgc) (by (first | assumption | omega | (simp only [ints_len, Nat.div_one, Nat.one_mul, Nat.mul_one, List.length_map, rks_len, half, List.length_cons, List.length_nil, List.length_append, List.length_replicate]; omega))) (by (first | assumption | omega | (simp only [ints_len, Nat.div_one, Nat.one_mul, Nat.mul_one, List.length_map, rks_len, half, List.length_cons, List.length_nil, List.length_append, List.length_replicate]; omega))) (by first | omega | (simp; done) | (simp; omega)) ?_)
        intro v' G' hO2
        have hvc := hO2.cell
        simp only [List.append_assoc, List.cons_append, List.nil_append]
        repeat' (first | ((with_reducible first | apply S_0 | apply S_q1 | apply S_g | apply S_c); exact sgc) | refine Stp.h ?_ | (with_reducible apply B_ne; focus decide) | ((with_reducible first | apply SC_d | apply SG_d | apply SG_n | apply SC_b | apply SG_b) <;> intro hc <;> try simp only [dq1, dq2, dq3, dq4, dq5] at hc))
        refine G_n (by exact svc) hlt ⟨v', G', by simp, .inr ⟨by omega, ?_⟩⟩
        rw [hll2, hnl]
        have := Own.swap (B := (M ++ [some [.flat (.int .i64 l.length), .list 1 (l.map Rks.av) nl cd], some (mapE (L.take (i + 1)) 0), some cho, some [.flat (.int .i64 l.length), lst 1 ((l.map cpR).map Rks.av), .list 2 (cells2 L) ne ce, .mp (M.length + 1), w, .ms (M.length + 2) 0 l.length 1 true]])) (B' := (M ++ [some [.flat (.int .i64 l.length), .list 1 (l.map Rks.av) nl cd], some (mapE (L.take (i + 1)) 0), some cho, some [.flat (.int .i64 l.length), lst 1 ((l.map cpR).map Rks.av), .list 2 (cells2 L) ne ce, .mp (M.length + 1), v', .ms (M.length + 2) 0 l.length 1 true]])) (G := G') hO2 (by simp) (by simp)
        simpa using this
      · have hnl : (newLin L[i]).cs = [AV.list 1 [] true true, .list 1 [] true true, .flat (.bool false)] := by
          rw [newLin, if_neg hc]; rfl
        have hO1 : Own (M ++ [some [.flat (.int .i64 l.length), .list 1 (l.map Rks.av) nl cd], some (mapE (L.take (i + 1)) 0), some cho, some [.flat (.int .i64 l.length), lst 1 ((l.map cpR).map Rks.av), .list 2 (cells2 L) ne ce, .mp (M.length + 1), w, .ms (M.length + 2) 0 l.length 1 true]]).length ((M ++ [some [.flat (.int .i64 l.length), .list 1 (l.map Rks.av) nl cd], some (mapE (L.take (i + 1)) 0), some cho, some [.flat (.int .i64 l.length), lst 1 ((l.map cpR).map Rks.av), .list 2 (cells2 L) ne ce, .mp (M.length + 1), w, .ms (M.length + 2) 0 l.length 1 true]]) ++ G) w 3 (linsA ((L.take i).map newLin)) := by
          have := Own.swap (B := (M ++ [some [.flat (.int .i64 l.length), .list 1 (l.map Rks.av) nl cd], some (mapE (L.take i) 0), some cho, some [.flat (.int .i64 l.length), lst 1 ((l.map cpR).map Rks.av), .list 2 (cells2 L) ne ce, .mp (M.length + 1), w, .ms (M.length + 2) 0 l.length 1 true]])) (B' := (M ++ [some [.flat (.int .i64 l.length), .list 1 (l.map Rks.av) nl cd], some (mapE (L.take (i + 1)) 0), some cho, some [.flat (.int .i64 l.length), lst 1 ((l.map cpR).map Rks.av), .list 2 (cells2 L) ne ce, .mp (M.length + 1), w, .ms (M.length + 2) 0 l.length 1 true]])) (G := G) (by simpa using hO) (by simp) (by simp)
          simpa using this
        have hO' := hO1.growG [some [.flat (.int .i64 L[i].1), .flat (.int .i64 L[i].2)], some [AV.list 1 [] true true, .list 1 [] true true, .flat (.bool false)]]
        (refine S_ownG (cs := linsA ((L.take i).map newLin)) (M ++ [some [.flat (.int .i64 l.length), .list 1 (l.map Rks.av) nl cd], some (mapE (L.take (i + 1)) 0), some cho, some [.flat (.int .i64 l.length), lst 1 ((l.map cpR).map Rks.av), .list 2 (cells2 L) ne ce, .mp (M.length + 1), w, .ms (M.length + 2) 0 l.length 1 true]]) (G ++ [some [.flat (.int .i64 L[i].1), .flat (.int .i64 L[i].2)], some [AV.list 1 [] true true, .list 1 [] true true, .flat (.bool false)]]) (by assumption) (by first | rfl | simp only [List.append_assoc, List.cons_append, List.nil_append]) (by exact sgc) (by exact sgc) (by exact sgc) (by exact sgc) (by exact sgc) (by (first | assumption | omega | (simp only [ints_len, Nat.div_one, Nat.one_mul, Nat.mul_one, List.length_map, rks_len, half, List.length_cons, List.length_nil, List.length_append, List.length_replicate]; omega))) (by (first | assumption | omega | (simp only [ints_len, Nat.div_one, Nat.one_mul, Nat.mul_one, List.length_map, rks_len, half, List.length_cons, List.length_nil, List.length_append, List.length_replicate]; omega))) (by first | omega | (simp; done) | (simp; omega)) ?_)
        intro v' G' hO2
        have hvc := hO2.cell
        simp only [List.append_assoc, List.cons_append, List.nil_append]
        repeat' (first | ((with_reducible first | apply S_0 | apply S_q1 | apply S_g | apply S_c); exact sgc) | refine Stp.h ?_ | (with_reducible apply B_ne; focus decide) | ((with_reducible first | apply SC_d | apply SG_d | apply SG_n | apply SC_b | apply SG_b) <;> intro hc <;> try simp only [dq1, dq2, dq3, dq4, dq5] at hc))
        refine G_n (by exact svc) hlt ⟨v', G', by simp, .inr ⟨by omega, ?_⟩⟩
        rw [hll2, hnl]
        have := Own.swap (B := (M ++ [some [.flat (.int .i64 l.length), .list 1 (l.map Rks.av) nl cd], some (mapE (L.take (i + 1)) 0), some cho, some [.flat (.int .i64 l.length), lst 1 ((l.map cpR).map Rks.av), .list 2 (cells2 L) ne ce, .mp (M.length + 1), w, .ms (M.length + 2) 0 l.length 1 true]])) (B' := (M ++ [some [.flat (.int .i64 l.length), .list 1 (l.map Rks.av) nl cd], some (mapE (L.take (i + 1)) 0), some cho, some [.flat (.int .i64 l.length), lst 1 ((l.map cpR).map Rks.av), .list 2 (cells2 L) ne ce, .mp (M.length + 1), v', .ms (M.length + 2) 0 l.length 1 true]])) (G := G') hO2 (by simp) (by simp)
        simpa using this
  · have hlt' : ¬ (i : Int) < L.length := by omega
    obtain rfl : i = L.length := by omega
    rw [List.take_length] at hw ⊢
    repeat' (first | ((with_reducible first | apply S_0 | apply S_q1 | apply S_g | apply S_c); exact sgc) | refine Stp.h ?_ | (with_reducible apply B_ne; focus decide) | ((with_reducible first | apply SC_d | apply SG_d | apply SG_n | apply SC_b | apply SG_b) <;> intro hc <;> try simp only [dq1, dq2, dq3, dq4, dq5] at hc))
    (refine ⟨by first | exact .inr rfl | exact .inl rfl, ?_⟩; simp (disch := first | assumption | decide | omega | exact Pth.le _ | exact Rks.le _ | exact List.getElem_mem _ | exact allI_ints _ | exact allI_rks _ | exact allI_pths _ | exact Pth.nil _ | exact Rks.nil _ | (intro hh; simp only [Pth.nil _ hh, List.take_nil, List.drop_nil]; done) | (intro hh; simp only [Rks.nil _ hh, List.take_nil, List.drop_nil]; done) | (simp only [List.length_take, List.length_drop, List.length_append, List.length_cons, List.length_nil, List.length_replicate, List.length_map, ints_len]; omega)) only [resA, rvA, tupA, fin, frzV, frzTup, frzA, frz, isI, isI.all, Option.bind_some, go_sem, if_pos, if_neg, Nat.reduceBEq, Nat.reduceEqDiff, ↓reduceIte, Nat.reduceSub, Nat.reduceAdd, Int.reduceToNat, reduceCtorEq, Nat.reduceLeDiff, Nat.reduceLT, Nat.reduceMul, Nat.reduceDiv, Int.reduceLT, Int.reduceLE, Int.reduceEq, Int.reduceNe, Int.reduceAdd, Int.reduceSub, Int.reduceNeg, Int.reduceGT, Int.reduceGE, Int.reduceBEq, Int.reduceBNe, Int.reduceMul, *])
    have hL : L = prs (prL l) := hH
    subst hL
    obtain ⟨m, h1, h2, h3⟩ := mach_new (A := M) (nl := nl) (cd := cd) (ne := ne) (ce := ce) (w := w) (cho := cho) (G := G) hS hX hne hH2 (by
      rcases hw with ⟨h0, h1, _⟩ | ⟨_, h1⟩
      · exact .inl ⟨List.eq_nil_of_length_eq_zero h0, h1⟩
      · exact .inr h1)
    exact ⟨_, rfl, m, _, by rw [h1], h3, h2⟩
end Go.Proofs.Ytlcdafidoddefaa.Av
namespace Go.Proofs.Ytlcdafidoddefaa.Av
open Go.RowKit
set_option linter.unusedSimpArgs false
set_option linter.unusedVariables false
set_option maxHeartbeats 10000000
section
variable {p : Pr} {base : Nat} {r : List AOp} {d : Option Nat} {env : Env} {m : MS} {D : List Nat} {R : Env → MS → List Nat → Prop}
/-- A store that keeps what it stores: what the memory is then. -/
theorem S_KE {n : Nat} {a x : O} {id off len sz k : Nat} {cd : Bool} {cs old : List AV} (ha : a.ev env = .elem (.ms id off len sz cd) k) (hx : cellsOf (x.ev env) = some cs) (hn : cs.length = n) (hm : m[id]? = some (some old)) (h1 : k + n ≤ len * sz) (h2 : off + len * sz ≤ old.length)
    (h : ∀ m', m'.length = m.length → m'[id]? = some (some (splice old (off + k) cs)) → (∀ i, i ≠ id → m'[i]? = m[i]?) → WS p base 0 r (updO env d (.flat undef)) m' (dirt base id D) R) : WS p base 0 (⟨d, .storeK n a x, none⟩ :: r) env m D R := by
  have hv : evI (ev p) base env m D (.storeK n a x) = some (.x (.flat undef) (m.set id (some (splice old (off + k) cs))) (dirt base id D)) := by
    simp only [evI, hx, ha, hn, if_true, storeKA, hm]
    rw [if_pos ⟨h1, h2⟩]
  exact S_0 hv (SO_x (h _ (by simp) (by rw [List.getElem?_set_self (get_lt hm)]) fun i hi => by rw [List.getElem?_set_ne (Ne.symm hi)]))
end
theorem splice_lins {Z : List Lin} {k : Nat} (h : k < Z.length) (z : Lin) : splice (linsA Z) (k * 3) z.cs = linsA (Z.set k z) := by
  rw [lins_set _ _ h, splice, lins_take, show k * 3 + z.cs.length = (k + 1) * 3 by simp [Lin.cs]; omega, lins_drop]
  simp [Lin.cs]
theorem splice_pths {C : List Pth} {k : Nat} (h : k < C.length) (c : Pth) : splice (C.map Pth.av) k [c.av] = (C.set k c).map Pth.av := by
  rw [splice, List.set_eq_take_append_cons_drop, if_pos h]; simp
/-- The blocks that are a machine's own. -/
def Mc.own (m : Mc) (j : Nat) : Prop := j = m.id ∨ (m.Z ≠ [] ∧ j = m.lid) ∨ j = m.cid ∨ ∃ z ∈ m.Z, rid z.x = some j
theorem RowOk.rid_lt {M : MS} {z : Lin} (h : RowOk M z) {a : Nat} (ha : rid z.x = some a) : a < M.length := by
  rcases h with ⟨nl, h1, _⟩ | ⟨_, b, off, cd, cs, h1, h2, _⟩
  · rw [h1] at ha; cases ha
  · rw [h1] at ha
    have : b = a := Option.some.inj ha
    subst this; exact get_lt h2
theorem RowOk.ext {M M' : MS} {z : Lin} (h : RowOk M z) (hf : ∀ a, rid z.x = some a → M'[a]? = M[a]?) : RowOk M' z := by
  rcases h with h | ⟨h1, b, off, cd, cs, h2, h3, h4⟩
  · exact .inl h
  · exact .inr ⟨h1, b, off, cd, cs, h2, by rw [hf b (by rw [h2]; rfl)]; exact h3, h4⟩
theorem Mach.lidlt {M : MS} {m : Mc} (h : Mach M m) (hz : m.Z ≠ []) : m.lid < M.length := by
  rcases h.lin with ⟨h1, _⟩ | ⟨_, cd, _, h2⟩
  · exact absurd h1 hz
  · exact get_lt h2
theorem Mach.ext {M M' : MS} {m : Mc} (h : Mach M m) (hm : M'[m.mid]? = M[m.mid]?) (hf : ∀ j, m.own j → M'[j]? = M[j]?) : Mach M' m where
  blk := by rw [hf _ (.inl rfl)]; exact h.blk
  map := by rw [hm]; exact h.map
  cho := by rw [hf _ (.inr (.inr (.inl rfl)))]; exact h.cho
  lin := h.lin.imp_right fun ⟨h1, cd, h2, h3⟩ => ⟨h1, cd, h2, by rw [hf _ (.inr (.inl ⟨h1, rfl⟩))]; exact h3⟩
  row z hz := (h.row z hz).ext fun a ha => hf a (.inr (.inr (.inr ⟨z, hz, ha⟩)))
  i1 := h.i1
  i2 := h.i2
  i3 := h.i3
  i4 := h.i4
  i5 := h.i5
  i6 := h.i6
  rds := h.rds
  sep := h.sep
  len := h.len
  clen := h.clen
  nd := h.nd
  lim := h.lim
  lle := h.lle
  nel := h.nel
  may := h.may
  small := h.small
  Leq := h.Leq
  rle := h.rle
  csm := h.csm
  rsm := h.rsm
/-- A line is written. -/
theorem Mach.setZ {M M' : MS} {m : Mc} (h : Mach M m) {k : Nat} (hk : k < m.Z.length) {z' : Lin} (hl : M'[m.lid]? = some (some (linsA (m.Z.set k z'))))
    (hf : ∀ j, j < M.length → j ≠ m.lid → rid m.Z[k].x ≠ some j → M'[j]? = M[j]?) (hr : RowOk M' z') (h64 : z'.row.length ≤ 64) (hsm : z'.heard.l.length ≤ 1000 ∧ ∀ p ∈ z'.row, p.l.length ≤ 1000)
    (hz : ∀ a, rid z'.x = some a → rid m.Z[k].x = some a ∨ M.length ≤ a) : Mach M' {m with Z := m.Z.set k z'} := by
  have hne : m.Z ≠ [] := fun h0 => by rw [h0] at hk; simp at hk
  have hid := get_lt h.blk
  have hmid := get_lt h.map
  have hcid := get_lt h.cho
  have hlid := h.lidlt hne
  have hrk := h.rds _ (List.getElem_mem hk)
  have mem : ∀ z ∈ m.Z.set k z', z = z' ∨ ∃ j, ∃ hj : j < m.Z.length, j ≠ k ∧ z = m.Z[j] := by
    intro z hz'
    obtain ⟨j, hj, rfl⟩ := List.getElem_of_mem hz'
    rw [List.length_set] at hj
    by_cases hjk : k = j
    · left; rw [List.getElem_set, if_pos hjk]
    · exact .inr ⟨j, hj, Ne.symm hjk, by rw [List.getElem_set, if_neg hjk]⟩
  constructor
  · rw [hf _ hid h.i2 fun h1 => (hrk _ h1).1 rfl]
    rw [h.blk]; simp [Mc.cells]
  · rw [hf _ hmid h.i4 fun h1 => (hrk _ h1).2.1 rfl]; exact h.map
  · rw [hf _ hcid (Ne.symm h.i6) fun h1 => (hrk _ h1).2.2.2 rfl]; exact h.cho
  · obtain ⟨cd, h1, _⟩ := h.ln hk
    exact .inr ⟨by simpa using hne, cd, by simpa using h1, hl⟩
  · intro z hz'
    rcases mem z hz' with rfl | ⟨j, hj, hjk, rfl⟩
    · exact hr
    · have hrj := h.row _ (List.getElem_mem hj)
      refine hrj.ext fun a ha => hf a (hrj.rid_lt ha) (h.rds _ (List.getElem_mem hj) a ha).2.2.1 (h.sep j k hj hk a hjk ha)
  · exact h.i1
  · exact h.i2
  · exact h.i3
  · exact h.i4
  · exact h.i5
  · exact h.i6
  · intro z hz' a ha
    rcases mem z hz' with rfl | ⟨j, hj, hjk, rfl⟩
    · rcases hz a ha with h1 | h1
      · exact hrk a h1
      · exact ⟨by show a ≠ m.id; omega, by show a ≠ m.mid; omega, by show a ≠ m.lid; omega, by show a ≠ m.cid; omega⟩
    · exact h.rds _ (List.getElem_mem hj) a ha
  · intro i j hi hj a hij ha hb
    simp only [List.length_set] at hi hj
    simp only [List.getElem_set] at ha hb
    split at ha
    · rename_i hki
      split at hb
      · rename_i hkj; exact hij (hki.symm.trans hkj)
      · have hlt := (h.row _ (List.getElem_mem hj)).rid_lt hb
        rcases hz a ha with h1 | h1
        · subst hki; exact h.sep k j hk hj a hij h1 hb
        · omega
    · split at hb
      · rename_i hkj
        have hlt := (h.row _ (List.getElem_mem hi)).rid_lt ha
        rcases hz a hb with h1 | h1
        · subst hkj; exact h.sep i k hi hk a hij ha h1
        · omega
      · exact h.sep i j hi hj a hij ha hb
  · simpa using h.len
  · exact h.clen
  · exact h.nd
  · exact h.lim
  · exact h.lle
  · exact h.nel
  · exact h.may
  · exact h.small
  · exact h.Leq
  · intro z hz'
    rcases mem z hz' with rfl | ⟨j, hj, hjk, rfl⟩
    · exact h64
    · exact h.rle _ (List.getElem_mem hj)
  · exact h.csm
  · intro z hz'
    rcases mem z hz' with rfl | ⟨j, hj, hjk, rfl⟩
    · exact hsm
    · exact h.rsm _ (List.getElem_mem hj)
/-- What is chosen is written. -/
theorem Mach.setC {M M' : MS} {m : Mc} (h : Mach M m) {k : Nat} {c : Pth} (hl : M'[m.cid]? = some (some ((m.C.set k c).map Pth.av)))
    (hf : ∀ j, j ≠ m.cid → M'[j]? = M[j]?) (hc : c.l.length ≤ 1000) : Mach M' {m with C := m.C.set k c} where
  blk := by rw [hf _ h.i3, h.blk]; simp [Mc.cells]
  map := by rw [hf _ h.i5]; exact h.map
  cho := hl
  lin := h.lin.imp_right fun ⟨h1, cd, h2, h3⟩ => ⟨h1, cd, h2, by rw [hf _ h.i6]; exact h3⟩
  row z hz := (h.row z hz).ext fun a ha => hf a (h.rds z hz a ha).2.2.2
  i1 := h.i1
  i2 := h.i2
  i3 := h.i3
  i4 := h.i4
  i5 := h.i5
  i6 := h.i6
  rds := h.rds
  sep := h.sep
  len := h.len
  clen := by simpa using h.clen
  nd := h.nd
  lim := h.lim
  lle := h.lle
  nel := h.nel
  may := h.may
  small := h.small
  Leq := h.Leq
  rle := h.rle
  csm p hp := by
    rcases List.mem_or_eq_of_mem_set hp with h1 | h1
    · exact h.csm p h1
    · rw [h1]; exact hc
  rsm := h.rsm
/-- The memory is cut behind a machine whose rows are values. -/
theorem Mach.cut {M : MS} {m : Mc} (h : Mach M m) {N : Nat} (h1 : m.id < N) (h2 : m.mid < N) (h3 : m.Z ≠ [] → m.lid < N) (h4 : m.cid < N) (hI : ∀ z ∈ m.Z, rid z.x = none) : Mach (M.take N) m := by
  have g : ∀ j, j < N → (M.take N)[j]? = M[j]? := fun j hj => by rw [List.getElem?_take, if_pos hj]
  exact {
    blk := by rw [g _ h1]; exact h.blk
    map := by rw [g _ h2]; exact h.map
    cho := by rw [g _ h4]; exact h.cho
    lin := h.lin.imp_right fun ⟨h1, cd, h2, h5⟩ => ⟨h1, cd, h2, by rw [g _ (h3 h1)]; exact h5⟩
    row := fun z hz => (h.row z hz).ext fun a ha => by rw [hI z hz] at ha; cases ha
    i1 := h.i1
    i2 := h.i2
    i3 := h.i3
    i4 := h.i4
    i5 := h.i5
    i6 := h.i6
    rds := h.rds
    sep := h.sep
    len := h.len
    clen := h.clen
    nd := h.nd
    lim := h.lim
    lle := h.lle
    nel := h.nel
    may := h.may
    small := h.small
    Leq := h.Leq
    rle := h.rle
    csm := h.csm
    rsm := h.rsm }
theorem allI_lins : ∀ {Z : List Lin}, allI (linsA Z) = true → ∀ z ∈ Z, rid z.x = none
  | [], _, z, hz => by simp at hz
  | a :: Z, h, z, hz => by
    rw [lins_cons] at h
    simp only [allI, Bool.and_eq_true] at h
    rcases List.mem_cons.1 hz with rfl | hz
    · revert h
      cases z.x <;> simp [isI, rid]
    · exact allI_lins h.2.2.2 z hz
/-- How a call ends that may have written a machine. -/
theorem fin_mach {b : Bool} {c : Int} {M N : MS} {m : Mc} {D : List Nat} {v : AV} (hv : v = .tup [.flat (.bool b), .flat (.int .i64 c)]) (h : Mach N m) (h1 : m.id < M.length) (h2 : m.mid < M.length) (h3 : m.Z ≠ [] → m.lid < M.length) (h4 : m.cid < M.length) (hl : M.length ≤ N.length) (hD : D = [] → ∀ j, j < M.length → N[j]? = M[j]?) (hr0 : D = [] → ∀ z ∈ m.Z, ∀ a, rid z.x = some a → a < M.length)
    (hDl : D ≠ [] → m.Z ≠ [] → m.lid ∈ D) : ∃ out, fin M.length false v N D = some out ∧ ∃ N', (out = .x v N' D ∨ (out = .q v ∧ N' = M ∧ D = [])) ∧ Mach N' m ∧ M.length ≤ N'.length ∧ ∀ j, j < M.length → N'[j]? = N[j]? := by
  subst hv
  have hf : frzV M.length N (.tup [.flat (.bool b), .flat (.int .i64 c)]) = some (.tup [.flat (.bool b), .flat (.int .i64 c)], N) := rfl
  cases D with
  | nil =>
    refine ⟨_, rfl, M, .inr ⟨rfl, rfl, rfl⟩, ?_, Nat.le_refl _, fun j hj => (hD rfl j hj).symm⟩
    refine h.ext (by rw [hD rfl _ h2]) fun j hj => ?_
    by_cases hjl : j < M.length
    · rw [hD rfl j hjl]
    · rcases hj with rfl | ⟨hz, rfl⟩ | rfl | ⟨z, hz, ha⟩
      · exact absurd h1 hjl
      · exact absurd (h3 hz) hjl
      · exact absurd h4 hjl
      · exact absurd (hr0 rfl z hz _ ha) hjl
  | cons d D =>
    by_cases hall : ((d :: D).all fun id => match N[id]? with | some (some cs) => allI cs | _ => true) = true
    · refine ⟨_, by simp only [fin, Bool.false_eq_true, if_false, hf, isI, isI.all, Bool.and_self, if_true]; exact if_pos hall, N.take M.length, .inl rfl, ?_, by simp; omega, fun j hj => by rw [List.getElem?_take, if_pos hj]⟩
      refine h.cut h1 h2 h3 h4 ?_
      by_cases hz : m.Z = []
      · rw [hz]; simp
      · have hm := hDl (by simp) hz
        have := List.all_eq_true.1 hall _ hm
        rcases h.lin with ⟨h0, _⟩ | ⟨_, cd, _, h0⟩
        · exact absurd h0 hz
        · rw [h0] at this
          exact allI_lins this
    · refine ⟨_, by simp only [fin, Bool.false_eq_true, if_false, hf, isI, isI.all, Bool.and_self, if_true]; exact if_neg hall, N, .inl rfl, h, hl, fun _ _ => rfl⟩
end Go.Proofs.Ytlcdafidoddefaa.Av
namespace Go.Proofs.Ytlcdafidoddefaa.Av
open Go.RowKit
set_option linter.unusedSimpArgs false
set_option linter.unusedVariables false
set_option maxHeartbeats 10000000
/-- A line, a machine, as plain data. -/
structure PL where
  row : List (List Int)
  heard : List Int
  any : Bool
structure PM where
  Z : List PL
  C : List (List Int)
def Lin.pln (z : Lin) : PL := ⟨z.row.map Pth.l, z.heard.l, z.any⟩
def Mc.pm (m : Mc) : PM := ⟨m.Z.map Lin.pln, pl m.C⟩
def hasQ (L : List I2) (Z : List PL) (p : List Int) : Bool := match Z[L.idxOf (p.getD 1 0, p.getD 0 0)]? with
  | some z => z.any && decide (z.heard = p.drop 1)
  | none => false
def choQ (L : List I2) (Z : List PL) (ps : List (List Int)) : List Int := (ps.find? (hasQ L Z)).getD []
def rowN (Z : List PL) (k : Nat) : Nat := match Z[k]? with
  | some z => z.row.length
  | none => 0
def fullQ (L : List I2) (Z : List PL) (u : Int) : Bool := (List.range L.length).any fun k => decide ((L.getD k (0, 0)).1 = u) && decide (64 ≤ rowN Z k)
def tellQ (L : List I2) (u : Int) (c : List Int) (Z : List PL) : List PL := Z.mapIdx fun k z => if (L.getD k (0, 0)).1 = u then ⟨z.row ++ [c], z.heard, z.any⟩ else z
def dlv (X : List (List (List Int))) (L : List I2) (s : PM) (i : Int) : PM × Bool × Int :=
  if 0 ≤ i ∧ i < s.Z.length then
    match s.Z[i.toNat]? with
    | none => (s, false, 7)
    | some z => match z.row with
      | [] => (s, false, 0)
      | p :: r =>
        let Z1 := s.Z.set i.toNat ⟨r, p, true⟩
        let u := (L.getD i.toNat (0, 0)).2
        let c := choQ L Z1 (X.getD u.toNat [])
        if c = s.C.getD u.toNat [] then (⟨Z1, s.C⟩, true, 0)
        else if fullQ L Z1 u then (s, false, 11)
        else (⟨tellQ L u c Z1, s.C.set u.toNat c⟩, true, 0)
  else (s, false, 7)
theorem hasQ_eq (L : List I2) (Z : List Lin) (p : List Int) : hasQ L (Z.map Lin.pln) p = hasP L Z p := by
  simp only [hasQ, hasP, List.getElem?_map]
  cases Z[L.idxOf (p.getD 1 0, p.getD 0 0)]? <;> rfl
theorem choQ_eq (L : List I2) (Z : List Lin) (r : List Rnk) : choQ L (Z.map Lin.pln) (paths r) = (choiceP L Z r).l := by
  have : (paths r).find? (hasQ L (Z.map Lin.pln)) = (r.find? fun q => hasP L Z q.p.l).map (·.p.l) := by
    simp only [paths, List.find?_map, Function.comp_def, hasQ_eq]
  rw [choQ, this, choiceP]
  cases r.find? fun q => hasP L Z q.p.l <;> rfl
theorem set_pln (Z : List Lin) (k : Nat) (z : Lin) : (Z.set k z).map Lin.pln = (Z.map Lin.pln).set k z.pln := List.map_set
/-- A row without its head. -/
theorem RowOk.tail {M : MS} {z : Lin} (h : RowOk M z) (hr : 0 < z.row.length) (hd : Pth) (an : Bool) : ∃ x1, sliceA 1 z.x (some (.flat (.int .i64 1))) (some (.flat (.int .i64 z.row.length))) (some (.flat (.int .i64 z.row.length))) = some (.q x1) ∧
    cellsOf x1 = some [x1] ∧ RowOk M ⟨x1, z.row.drop 1, hd, an⟩ ∧ ∀ a, rid x1 = some a → rid z.x = some a := by
  rcases h with ⟨nl, h1, h2⟩ | ⟨h1, a, off, cd, cs, h2, h3, h4, h5, h6⟩
  · have hnl : nl = false := by
      cases nl with
      | false => rfl
      | true => rw [h2 rfl] at hr; simp at hr
    subst hnl
    refine ⟨.list 1 ((z.row.drop 1).map Pth.av) false true, ?_, rfl, .inl ⟨false, rfl, fun h => by cases h⟩, fun a ha => by cases ha⟩
    rw [h1]
    simp only [sliceA, optNat, List.length_map, Nat.div_one, Int.toNat_natCast, Option.isSome_some, imp_self, and_true, Nat.le_refl, Bool.false_eq_true, false_or, if_false, Nat.mul_one, cutCapd, decide_true, show ((1 : Int)).toNat = 1 from rfl]
    have e1 : (0 : Int) ≤ (z.row.length : Int) := by omega
    simp only [e1, if_true, show (0 : Int) ≤ 1 by decide]
    rw [if_pos ⟨trivial, by omega⟩, List.map_drop, List.take_of_length_le (by simp)]
    rfl
  · have e1 : (0 : Int) ≤ (z.row.length : Int) := by omega
    have hs : sliceA 1 z.x (some (.flat (.int .i64 1))) (some (.flat (.int .i64 z.row.length))) (some (.flat (.int .i64 z.row.length))) = some (.q (if z.row.length = 1 then .list 1 [] false true else .ms a (off + 1) (z.row.length - 1) 1 true)) := by
      rw [h2]
      simp only [sliceA, optNat, Int.toNat_natCast, Option.isSome_some, imp_self, and_true, Nat.le_refl, true_and, cutCapd, decide_true, show ((1 : Int)).toNat = 1 from rfl, e1, if_true, show (0 : Int) ≤ 1 by decide]
      rw [if_pos (by omega), if_neg (by decide)]
      split
      · rfl
      · rw [Nat.mul_one]
    refine ⟨_, hs, by split <;> rfl, ?_, ?_⟩
    · split
      · rename_i hl
        refine .inl ⟨false, ?_, fun h => by cases h⟩
        rw [List.drop_eq_nil_of_le (by omega)]; rfl
      · rename_i hl
        refine .inr ⟨fun hh => ?_, a, off + 1, true, cs, by simp, h3, by simp; omega, ?_, .inl rfl⟩
        · have := congrArg List.length hh
          simp at this; omega
        · show (cs.drop (off + 1)).take (z.row.drop 1).length = (z.row.drop 1).map Pth.av
          rw [List.map_drop, ← h5, List.drop_take, List.drop_drop, List.length_drop]
    · intro b hb
      rw [h2]
      split at hb
      · cases hb
      · exact hb
theorem Mach.pth {M : MS} {m : Mc} (h : Mach M m) {v : Nat} (hv : v < m.l.length) : ∀ (j : Nat) (hj : j < m.l[v].l.length), 2 ≤ m.l[v].l[j].p.l.length ∧ m.l[v].l[j].p.l.length ≤ 1000 ∧ (m.l[v].l[j].p.l.getD 1 0, m.l[v].l[j].p.l.getD 0 0) ∈ m.L := by
  intro j hj
  have hX := h.may
  have hv1 : 1 ≤ v := by
    rcases Nat.eq_zero_or_pos v with h0 | h0
    · subst h0
      have := hX.2.2.2.1 hv
      rw [this] at hj; simp at hj
    · exact h0
  refine ⟨(lok_path (hX.2.2.2.2 v hv hv1) _ (List.getElem_mem hj)).1, ?_, by rw [h.Leq]; exact pair_mem hv hj⟩
  have := (h.small.2 _ (List.getElem_mem hv)).2 _ (List.getElem_mem hj)
  omega
/-- What a delivery does. -/
structure Dr (M M' : MS) (m m' : Mc) (D : List Nat) : Prop where
  mach : Mach M' m'
  same : m' = {m with Z := m'.Z, C := m'.C}
  zl : m'.Z.length = m.Z.length
  len : M.length ≤ M'.length
  fr : ∀ j, j < M.length → ¬ m.own j → M'[j]? = M[j]?
  own : ∀ j, m'.own j → m.own j ∨ M.length ≤ j
  drt : ∀ d ∈ D, m.own d
def tupBC (b : Bool) (c : Int) : AV := .tup [.flat (.bool b), .flat (.int .i64 c)]
def Dlv (M : MS) (m : Mc) (i : Int) (out : Out) : Prop := ∃ M' m' D, (out = .x (tupBC (dlv (plX m.l) m.L m.pm i).2.1 (dlv (plX m.l) m.L m.pm i).2.2) M' D ∨ (out = .q (tupBC (dlv (plX m.l) m.L m.pm i).2.1 (dlv (plX m.l) m.L m.pm i).2.2) ∧ M' = M ∧ D = [])) ∧ Dr M M' m m' D ∧ m'.pm = (dlv (plX m.l) m.L m.pm i).1
theorem Dr.refl {M : MS} {m : Mc} (h : Mach M m) : Dr M M m m [] := ⟨h, rfl, rfl, Nat.le_refl _, fun _ _ _ => rfl, fun _ h => .inl h, fun _ h => by cases h⟩
theorem Dr.sid {M M' : MS} {m m' : Mc} {D : List Nat} (h : Dr M M' m m' D) : m'.id = m.id ∧ m'.mid = m.mid ∧ m'.lid = m.lid ∧ m'.cid = m.cid ∧ m'.l = m.l ∧ m'.L = m.L ∧ m'.lv = m.lv ∧ m'.n = m.n := by
  rw [h.same]; exact ⟨rfl, rfl, rfl, rfl, rfl, rfl, rfl, rfl⟩
theorem Dr.grow {M M' : MS} {m m' : Mc} {D : List Nat} (h : Dr M M' m m' D) (G : MS) : Dr M (M' ++ G) m m' D :=
  ⟨h.mach.grow G, h.same, h.zl, by have := h.len; simp; omega, fun j h1 h2 => by rw [List.getElem?_append_left (by have := h.len; omega)]; exact h.fr j h1 h2, h.own, h.drt⟩
theorem Dr.setZ {M Mj Mj' : MS} {m mj : Mc} {D D' : List Nat} (h : Dr M Mj m mj D) {k : Nat} (hk : k < mj.Z.length) {z' : Lin} (hl : Mj'[m.lid]? = some (some (linsA (mj.Z.set k z')))) (hlen : Mj.length ≤ Mj'.length)
    (hf : ∀ j, j < Mj.length → j ≠ m.lid → rid mj.Z[k].x ≠ some j → Mj'[j]? = Mj[j]?) (hr : RowOk Mj' z') (h64 : z'.row.length ≤ 64) (hsm : z'.heard.l.length ≤ 1000 ∧ ∀ p ∈ z'.row, p.l.length ≤ 1000)
    (hz : ∀ a, rid z'.x = some a → rid mj.Z[k].x = some a ∨ Mj.length ≤ a) (hD : ∀ d ∈ D', d ∈ D ∨ mj.own d ∧ d < M.length) : Dr M Mj' m {mj with Z := mj.Z.set k z'} D' := by
  obtain ⟨s1, s2, s3, s4, s5, s6, s7, s8⟩ := h.sid
  have hne : m.Z ≠ [] := fun h0 => by have := h.zl; rw [h0] at this; simp at this; rw [this] at hk; simp at hk
  refine ⟨h.mach.setZ hk (by rw [s3]; exact hl) (fun j h1 h2 h3 => hf j h1 (by rw [← s3]; exact h2) h3) hr h64 hsm hz, ?_, by simpa using h.zl, by have := h.len; omega, ?_, ?_, ?_⟩
  · have := h.same
    show ({mj with Z := mj.Z.set k z'} : Mc) = {m with Z := mj.Z.set k z', C := mj.C}
    rw [this]
  · intro j h1 h2
    have h3 := h.len
    rw [hf j (by omega) (fun he => h2 (.inr (.inl ⟨hne, he⟩))) fun hx => ?_]
    · exact h.fr j h1 h2
    · rcases h.own j (.inr (.inr (.inr ⟨_, List.getElem_mem hk, hx⟩))) with h4 | h4
      · exact h2 h4
      · omega
  · intro j hj
    have h3 := h.len
    rcases hj with hj | ⟨_, hj⟩ | hj | ⟨z, hz1, hj⟩
    · exact h.own j (.inl hj)
    · exact .inl (.inr (.inl ⟨hne, by rw [hj]; exact s3⟩))
    · exact h.own j (.inr (.inr (.inl hj)))
    · obtain ⟨q, hq, rfl⟩ := List.getElem_of_mem hz1
      simp only [List.length_set] at hq
      simp only [List.getElem_set] at hj
      split at hj
      · rename_i he
        rcases hz j hj with h4 | h4
        · exact h.own j (.inr (.inr (.inr ⟨_, List.getElem_mem hk, h4⟩)))
        · right; omega
      · exact h.own j (.inr (.inr (.inr ⟨_, List.getElem_mem hq, hj⟩)))
  · intro d hd
    rcases hD d hd with h1 | ⟨h1, h2⟩
    · exact h.drt d h1
    · rcases h.own d h1 with h4 | h4
      · exact h4
      · omega
theorem Dr.setC {M Mj Mj' : MS} {m mj : Mc} {D D' : List Nat} (h : Dr M Mj m mj D) {k : Nat} {c : Pth} (hl : Mj'[m.cid]? = some (some ((mj.C.set k c).map Pth.av))) (hlen : Mj'.length = Mj.length)
    (hf : ∀ j, j ≠ m.cid → Mj'[j]? = Mj[j]?) (hc : c.l.length ≤ 1000) (hD : ∀ d ∈ D', d ∈ D ∨ d = m.cid) : Dr M Mj' m {mj with C := mj.C.set k c} D' := by
  obtain ⟨s1, s2, s3, s4, s5, s6, s7, s8⟩ := h.sid
  refine ⟨h.mach.setC (by rw [s4]; exact hl) (fun j h1 => hf j (by rw [← s4]; exact h1)) hc, ?_, h.zl, by rw [hlen]; exact h.len, ?_, h.own, ?_⟩
  · have := h.same
    show ({mj with C := mj.C.set k c} : Mc) = {m with Z := mj.Z, C := mj.C.set k c}
    rw [this]
  · intro j h1 h2
    rw [hf j fun he => h2 (.inr (.inr (.inl he)))]
    exact h.fr j h1 h2
  · intro d hd
    rcases hD d hd with h1 | h1
    · exact h.drt d h1
    · exact .inr (.inr (.inl h1))
theorem splice_lins1 {Z : List Lin} {k : Nat} (h : k < Z.length) (x : AV) (row : List Pth) : splice (linsA Z) (k * 3) [x] = linsA (Z.set k ⟨x, row, Z[k].heard, Z[k].any⟩) := by
  rw [lins_set _ _ h, splice, lins_take, show k * 3 + [x].length = k * 3 + 1 from rfl, lins_at1 _ _ h]
  simp
theorem tell_step {M mm MM M4 : MS} {m mj : Mc} {d dd : List Nat} (hDr : Dr M mm m mj d) {j : Nat} (hj : j < mj.Z.length) {c : Pth} (hc : c.l.length ≤ 1000) (h63 : mj.Z[j].row.length ≤ 63) (hlen : MM.length = mm.length + 1)
    (hnew : MM[mm.length]? = some (some (mj.Z[j].row.map Pth.av ++ [c.av]))) (hold : ∀ i, i < mm.length → rid mj.Z[j].x ≠ some i → MM[i]? = mm[i]?) (hl4 : M4.length = MM.length)
    (hg4 : M4[m.lid]? = some (some (splice (linsA mj.Z) (j * 3) [.ms mm.length 0 (mj.Z[j].row.length + 1) 1 false]))) (hf4 : ∀ i, i ≠ m.lid → M4[i]? = MM[i]?) (hli : m.lid < mm.length)
    (hdd : ∀ x ∈ dd, x ∈ d ∨ rid mj.Z[j].x = some x ∧ x < M.length) : Dr M M4 m {mj with Z := mj.Z.set j ⟨.ms mm.length 0 (mj.Z[j].row.length + 1) 1 false, mj.Z[j].row ++ [c], mj.Z[j].heard, mj.Z[j].any⟩} (dirt M.length m.lid dd) := by
  obtain ⟨s1, s2, s3, s4, s5, s6, s7, s8⟩ := hDr.sid
  have hsm := hDr.mach.rsm _ (List.getElem_mem hj)
  refine hDr.setZ hj (by rw [hg4, splice_lins1 hj]) (by omega) (fun i h1 h2 h3 => by rw [hf4 i h2, hold i h1 h3]) (.inr ⟨by simp, mm.length, 0, false, mj.Z[j].row.map Pth.av ++ [c.av], by simp, by rw [hf4 _ (by omega), hnew], by simp, ?_, .inr rfl⟩) (by simp; omega) ⟨hsm.1, fun p hp => ?_⟩ (fun a ha => .inr (by have : mm.length = a := Option.some.inj ha; omega)) (fun x hx => ?_)
  · rw [List.drop_zero, List.map_append, List.take_of_length_le (by simp)]; rfl
  · rcases List.mem_append.1 hp with h1 | h1
    · exact hsm.2 p h1
    · rw [List.mem_singleton.1 h1]; exact hc
  · have hne : mj.Z ≠ [] := fun h0 => by rw [h0] at hj; simp at hj
    have key : ∀ x ∈ dd, x ∈ d ∨ mj.own x ∧ x < M.length := fun x hx => by
      rcases hdd x hx with h1 | ⟨h1, h2⟩
      · exact .inl h1
      · exact .inr ⟨.inr (.inr (.inr ⟨_, List.getElem_mem hj, h1⟩)), h2⟩
    unfold dirt at hx
    split at hx
    · rename_i hlt
      rcases List.mem_cons.1 hx with h1 | h1
      · rw [h1]; exact .inr ⟨.inr (.inl ⟨hne, s3.symm⟩), hlt⟩
      · exact key x h1
    · exact key x hx
theorem Dr.fin {M N : MS} {m m' : Mc} {D : List Nat} (hM : Mach M m) (h : Dr M N m m' D) (hl : m.lid ∈ D) (b : Bool) (c : Int) : ∃ out, Av.fin M.length false (tupBC b c) N D = some out ∧ ∃ N', (out = .x (tupBC b c) N' D ∨ (out = .q (tupBC b c) ∧ N' = M ∧ D = [])) ∧ Dr M N' m m' D := by
  obtain ⟨s1, s2, s3, s4, s5, s6, s7, s8⟩ := h.sid
  have hne : D ≠ [] := fun h0 => by rw [h0] at hl; simp at hl
  have hz : m'.Z ≠ [] → m.Z ≠ [] := fun h1 h2 => h1 (List.eq_nil_of_length_eq_zero (by rw [h.zl, h2]; rfl))
  obtain ⟨out, h1, N', h2, h3, h4, h5⟩ := fin_mach (M := M) (v := tupBC b c) rfl h.mach (by rw [s1]; exact get_lt hM.blk) (by rw [s2]; exact get_lt hM.map) (fun h1 => by rw [s3]; exact hM.lidlt (hz h1)) (by rw [s4]; exact get_lt hM.cho) h.len (fun h0 => absurd h0 hne) (fun h0 => absurd h0 hne) (fun _ _ => by rw [s3]; exact hl)
  exact ⟨out, h1, N', h2, h3, h.same, h.zl, h4, fun j h6 h7 => by rw [h5 j h6]; exact h.fr j h6 h7, h.own, h.drt⟩
end Go.Proofs.Ytlcdafidoddefaa.Av
namespace Go.Proofs.Ytlcdafidoddefaa.Av
open Go.RowKit
set_option linter.unusedSimpArgs false
set_option linter.unusedVariables false
set_option maxHeartbeats 10000000
theorem get_lt' {α : Type} {M : List α} {i : Nat} {x : α} (h : M[i]? = some x) : i < M.length := by
  rcases Nat.lt_or_ge i M.length with h1 | h1
  · exact h1
  · rw [List.getElem?_eq_none h1] at h; cases h
theorem t21 (m : Mc) (i : Int) (M : MS) (h : Mach M m) : ∃ out, ev pr 21 [.mptr m.id 0, .flat (.int .i64 i)] M = some out ∧ Dlv M m i out := by
  have h42 := t42 m i (M ++ [some [.mptr m.id 0]]) (h.grow _)
  have hb := get_grow h.b [some [.mptr m.id 0]]
  have hid := get_lt h.b
  by_cases hi : 0 ≤ i ∧ i < m.Z.length
  case neg =>
    have hd : dlv (plX m.l) m.L m.pm i = (m.pm, false, 7) := by rw [dlv, if_neg (by simpa [Mc.pm] using hi)]
    rw [decide_eq_false hi] at h42
    refine ev_fnE A21 ?_
    repeat' (first | ((with_reducible first | apply S_0 | apply S_q1 | apply S_g | apply S_c); exact sgc) | refine Stp.h ?_ | (with_reducible apply B_ne; focus decide) | ((with_reducible first | apply SC_d | apply SG_d | apply SG_n | apply SC_b | apply SG_b) <;> intro hc <;> try simp only [dq1, dq2, dq3, dq4, dq5] at hc))
    (refine ⟨by first | exact .inr rfl | exact .inl rfl, ?_⟩; simp (disch := first | assumption | decide | omega | exact Pth.le _ | exact Rks.le _ | exact List.getElem_mem _ | exact allI_ints _ | exact allI_rks _ | exact allI_pths _ | exact Pth.nil _ | exact Rks.nil _ | (intro hh; simp only [Pth.nil _ hh, List.take_nil, List.drop_nil]; done) | (intro hh; simp only [Rks.nil _ hh, List.take_nil, List.drop_nil]; done) | (simp only [List.length_take, List.length_drop, List.length_append, List.length_cons, List.length_nil, List.length_replicate, List.length_map, ints_len]; omega)) only [resA, rvA, tupA, fin, frzV, frzTup, frzA, frz, isI, isI.all, Option.bind_some, go_sem, if_pos, if_neg, Nat.reduceBEq, Nat.reduceEqDiff, ↓reduceIte, Nat.reduceSub, Nat.reduceAdd, Int.reduceToNat, reduceCtorEq, Nat.reduceLeDiff, Nat.reduceLT, Nat.reduceMul, Nat.reduceDiv, Int.reduceLT, Int.reduceLE, Int.reduceEq, Int.reduceNe, Int.reduceAdd, Int.reduceSub, Int.reduceNeg, Int.reduceGT, Int.reduceGE, Int.reduceBEq, Int.reduceBNe, Int.reduceMul, *])
    exact ⟨_, rfl, M, m, [], .inr ⟨by rw [hd]; rfl, rfl, rfl⟩, Dr.refl h, by rw [hd]⟩
  rw [decide_eq_true hi] at h42
  obtain ⟨k, rfl⟩ : ∃ k : Nat, i = k := ⟨i.toNat, by omega⟩
  have hk : k < m.Z.length := by omega
  obtain ⟨cd, hlv, hln⟩ := h.ln hk
  have hlg := get_grow hln [some [.mptr m.id 0]]
  have hli := get_lt hln
  have hle : m.Z.length ≤ 1000 := by rw [h.len]; exact h.lle
  have hkL : k < m.L.length := by rw [← h.len]; exact hk
  have hx := (h.row _ (List.getElem_mem hk)).lenOf
  have hzk : m.pm.Z[(k : Int).toNat]? = some m.Z[k].pln := by simp [Mc.pm, hk]
  have hgd : dlv (plX m.l) m.L m.pm k = (match m.Z[k].pln.row with
      | [] => (m.pm, false, 0)
      | p :: r =>
        if choQ m.L (m.pm.Z.set k ⟨r, p, true⟩) ((plX m.l).getD (m.L.getD k (0, 0)).2.toNat []) = m.pm.C.getD (m.L.getD k (0, 0)).2.toNat [] then (⟨m.pm.Z.set k ⟨r, p, true⟩, m.pm.C⟩, true, 0)
        else if fullQ m.L (m.pm.Z.set k ⟨r, p, true⟩) (m.L.getD k (0, 0)).2 then (m.pm, false, 11)
        else (⟨tellQ m.L (m.L.getD k (0, 0)).2 (choQ m.L (m.pm.Z.set k ⟨r, p, true⟩) ((plX m.l).getD (m.L.getD k (0, 0)).2.toNat [])) (m.pm.Z.set k ⟨r, p, true⟩), m.pm.C.set (m.L.getD k (0, 0)).2.toNat (choQ m.L (m.pm.Z.set k ⟨r, p, true⟩) ((plX m.l).getD (m.L.getD k (0, 0)).2.toNat []))⟩, true, 0)) := by
    rw [dlv, if_pos (by simpa [Mc.pm] using hk), hzk]
    rfl
  rcases Nat.eq_zero_or_pos m.Z[k].row.length with h0 | h0
  · have hd : dlv (plX m.l) m.L m.pm k = (m.pm, false, 0) := by
      rw [hgd]; simp only [Lin.pln, List.eq_nil_of_length_eq_zero h0, List.map_nil]
    refine ev_fnE A21 ?_
    repeat' (first | ((with_reducible first | apply S_0 | apply S_q1 | apply S_g | apply S_c); exact sgc) | refine Stp.h ?_ | (with_reducible apply B_ne; focus decide) | ((with_reducible first | apply SC_d | apply SG_d | apply SG_n | apply SC_b | apply SG_b) <;> intro hc <;> try simp only [dq1, dq2, dq3, dq4, dq5] at hc))
    (refine ⟨by first | exact .inr rfl | exact .inl rfl, ?_⟩; simp (disch := first | assumption | decide | omega | exact Pth.le _ | exact Rks.le _ | exact List.getElem_mem _ | exact allI_ints _ | exact allI_rks _ | exact allI_pths _ | exact Pth.nil _ | exact Rks.nil _ | (intro hh; simp only [Pth.nil _ hh, List.take_nil, List.drop_nil]; done) | (intro hh; simp only [Rks.nil _ hh, List.take_nil, List.drop_nil]; done) | (simp only [List.length_take, List.length_drop, List.length_append, List.length_cons, List.length_nil, List.length_replicate, List.length_map, ints_len]; omega)) only [resA, rvA, tupA, fin, frzV, frzTup, frzA, frz, isI, isI.all, Option.bind_some, go_sem, if_pos, if_neg, Nat.reduceBEq, Nat.reduceEqDiff, ↓reduceIte, Nat.reduceSub, Nat.reduceAdd, Int.reduceToNat, reduceCtorEq, Nat.reduceLeDiff, Nat.reduceLT, Nat.reduceMul, Nat.reduceDiv, Int.reduceLT, Int.reduceLE, Int.reduceEq, Int.reduceNe, Int.reduceAdd, Int.reduceSub, Int.reduceNeg, Int.reduceGT, Int.reduceGE, Int.reduceBEq, Int.reduceBNe, Int.reduceMul, *])
    exact ⟨_, rfl, M, m, [], .inr ⟨by rw [hd]; rfl, rfl, rfl⟩, Dr.refl h, by rw [hd]⟩
  obtain ⟨x1, hsl, hxc, hx1, hx1r⟩ := (h.row _ (List.getElem_mem hk)).tail h0 m.Z[k].row[0] true
  have hxk := (h.row _ (List.getElem_mem hk)).vw.cell
  have hlm := h.lim _ (List.getElem_mem hkL)
  have hne := h.nel
  have htk := take2_at hkL
  have h0' : ¬ (m.Z[k].row.length : Int) = 0 := by omega
  have htk1 : (cells2 m.L)[k * 2 + 1]? = some (.flat (.int .i64 m.L[k].2)) := by
    have h1 := cells2_at hkL
    have h2 := congrArg (·[1]?) h1
    simpa using h2
  obtain ⟨v, hv⟩ : ∃ v : Nat, m.L[k].2 = v := ⟨m.L[k].2.toNat, by omega⟩
  have hvl : v < m.l.length := by omega
  rw [hv] at htk htk1
  have hvw := fun G => (h.row _ (List.getElem_mem hk)).vw.vw G
  have hH1 : Hid (m.L[k].2 = v) := hv
  have hH2 : Hid (dlv (plX m.l) m.L m.pm k = (dlv (plX m.l) m.L m.pm k)) := rfl
  clear hv
  have hlc := h.clen
  have hll := h.small.1
  refine ev_fnE A21 ?_
  repeat' (first | ((with_reducible first | apply S_0 | apply S_q1 | apply S_g | apply S_c); exact sgc) | refine Stp.h ?_ | (with_reducible apply B_ne; focus decide) | ((with_reducible first | apply SC_d | apply SG_d | apply SG_n | apply SC_b | apply SG_b) <;> intro hc <;> try simp only [dq1, dq2, dq3, dq4, dq5] at hc))
  refine S_0 (out := .x (.flat undef) (M ++ [some [.mptr m.id 0], some [m.Z[k].x, .list 1 (intsA m.Z[k].heard.l) m.Z[k].heard.nl m.Z[k].heard.cd, .flat (.bool m.Z[k].any)]]) []) (by (simp (disch := first | assumption | decide | omega | exact Pth.le _ | exact Rks.le _ | exact List.getElem_mem _ | exact allI_ints _ | exact allI_rks _ | exact allI_pths _ | exact Pth.nil _ | exact Rks.nil _ | (intro hh; simp only [Pth.nil _ hh, List.take_nil, List.drop_nil]; done) | (intro hh; simp only [Rks.nil _ hh, List.take_nil, List.drop_nil]; done) | (simp only [List.length_take, List.length_drop, List.length_append, List.length_cons, List.length_nil, List.length_replicate, List.length_map, ints_len]; omega)) only [storeKA, go_sem, if_pos, if_neg, Nat.reduceBEq, Nat.reduceEqDiff, ↓reduceIte, Nat.reduceSub, Nat.reduceAdd, Int.reduceToNat, reduceCtorEq, Nat.reduceLeDiff, Nat.reduceLT, Nat.reduceMul, Nat.reduceDiv, Int.reduceLT, Int.reduceLE, Int.reduceEq, Int.reduceNe, Int.reduceAdd, Int.reduceSub, Int.reduceNeg, Int.reduceGT, Int.reduceGE, Int.reduceBEq, Int.reduceBNe, Int.reduceMul, *])) (SO_x ?_)
  have hbM := get_grow h.b [some [.mptr m.id 0], some [m.Z[k].x, .list 1 (intsA m.Z[k].heard.l) m.Z[k].heard.nl m.Z[k].heard.cd, .flat (.bool m.Z[k].any)]]
  have hlM := get_grow hln [some [.mptr m.id 0], some [m.Z[k].x, .list 1 (intsA m.Z[k].heard.l) m.Z[k].heard.nl m.Z[k].heard.cd, .flat (.bool m.Z[k].any)]]
  clear hb hlg
  repeat' (first | ((with_reducible first | apply S_0 | apply S_q1 | apply S_g | apply S_c); exact sgc) | refine Stp.h ?_ | (with_reducible apply B_ne; focus decide) | ((with_reducible first | apply SC_d | apply SG_d | apply SG_n | apply SC_b | apply SG_b) <;> intro hc <;> try simp only [dq1, dq2, dq3, dq4, dq5] at hc))
  refine S_KE (id := m.lid) (off := 0) (len := m.Z.length) (sz := 3) (k := k * 3) (cd := cd) (cs := [x1, .list 1 (intsA m.Z[k].row[0].l) m.Z[k].row[0].nl m.Z[k].row[0].cd, .flat (.bool true)]) (old := linsA m.Z) (by exact svc) (by exact svc) rfl hlM (by omega) (by rw [lins_len]; omega) ?_
  intro M1 hl1 hg1 hf1
  rw [Nat.zero_add, show [x1, AV.list 1 (intsA m.Z[k].row[0].l) m.Z[k].row[0].nl m.Z[k].row[0].cd, .flat (.bool true)] = (⟨x1, m.Z[k].row.drop 1, m.Z[k].row[0], true⟩ : Lin).cs from rfl, splice_lins hk] at hg1
  have hD1 : Dr M M1 m {m with Z := m.Z.set k ⟨x1, m.Z[k].row.drop 1, m.Z[k].row[0], true⟩} [m.lid] := by
    refine ((Dr.refl h).grow [some [.mptr m.id 0], some [m.Z[k].x, .list 1 (intsA m.Z[k].heard.l) m.Z[k].heard.nl m.Z[k].heard.cd, .flat (.bool m.Z[k].any)]]).setZ hk hg1 (by omega) (fun j _ h2 _ => hf1 j h2) ?_ ?_ ?_ (fun a ha => .inl (hx1r a ha)) ?_
    · exact (hx1.grow _).ext fun a ha => hf1 a (h.rds _ (List.getElem_mem hk) a (hx1r a ha)).2.2.1
    · have := h.rle _ (List.getElem_mem hk); simp; omega
    · have h1 := (h.rsm _ (List.getElem_mem hk)).2
      exact ⟨h1 _ (List.getElem_mem h0), fun p hp => h1 p (List.mem_of_mem_drop hp)⟩
    · intro d hd
      rw [List.mem_singleton.1 hd]
      exact .inr ⟨.inr (.inl ⟨fun h0 => by rw [h0] at hk; simp at hk, rfl⟩), hli⟩
  have hA : M1[M.length]? = some (some [.mptr m.id 0]) := by rw [hf1 _ (by omega)]; simp
  have hA1 : M1[M.length + 1]? = some (some [m.Z[k].x, .list 1 (intsA m.Z[k].heard.l) m.Z[k].heard.nl m.Z[k].heard.cd, .flat (.bool m.Z[k].any)]) := by rw [hf1 _ (by omega)]; simp
  have hlow : ∀ j, j < M.length → j ≠ m.lid → M1[j]? = M[j]? := fun j h1 h2 => by rw [hf1 j h2, List.getElem?_append_left h1]
  have hl1' : M1.length = M.length + 2 := by rw [hl1]; simp
  clear hf1 hl1 hbM hlM h42
  obtain ⟨Z1, hZ1⟩ : ∃ Z1, Z1 = m.Z.set k ⟨x1, m.Z[k].row.drop 1, m.Z[k].row[0], true⟩ := ⟨_, rfl⟩
  rw [← hZ1] at hD1 hg1
  have hM1 := hD1.mach
  have hZl : Z1.length = m.Z.length := by rw [hZ1]; simp
  have hpmZ : Z1.map Lin.pln = m.pm.Z.set k ⟨(m.Z[k].row.map Pth.l).drop 1, m.Z[k].row[0].l, true⟩ := by
    rw [hZ1, set_pln]; simp [Mc.pm, Lin.pln]
  have hH3 : Hid (Z1 = m.Z.set k ⟨x1, m.Z[k].row.drop 1, m.Z[k].row[0], true⟩) := hZ1
  clear hZ1
  have hb1 := hM1.b
  have hc1 := hM1.cho
  have hci := get_lt h.cho
  have h48 := t48 _ v M1 hM1 hvl (hM1.pth hvl)
  obtain ⟨c, hcc⟩ : ∃ c, c = choiceP m.L Z1 m.l[v].l := ⟨_, rfl⟩
  have hcl : c.l.length ≤ 1000 := by
    rw [hcc]
    unfold choiceP
    split
    · rename_i q hq
      obtain ⟨j, hj, rfl⟩ := List.getElem_of_mem (List.mem_of_find?_eq_some hq)
      exact (h.pth hvl j hj).2.1
    · simp
  simp only at h48 hb1 hc1
  rw [← hcc] at h48
  have hvC : v < m.C.length := by rw [h.clen]; exact hvl
  have hCle : m.C.length ≤ 12 := by rw [h.clen]; exact h.small.1
  have h49 := fun M => t49 c.l m.C[v].l c.nl c.cd m.C[v].nl m.C[v].cd M (by omega)
  have hH4 : Hid (c = choiceP m.L Z1 m.l[v].l) := hcc
  clear hcc
  simp only [Pth.av_eq] at h48
  have hcZ : m.Z.length ≤ 1000 := hle
  have hH5 : Hid (m.C.length = m.l.length) := h.clen
  have h50 := t50 _ (v : Int) M1 hM1
  obtain ⟨fr, hfr⟩ : ∃ fr, fr = frL m.L v m.L.length := ⟨_, rfl⟩
  simp only [lst, ← hfr] at h50
  have hfm : ∀ a, a ∈ fr ↔ ∃ j, j < m.L.length ∧ a = (j : Nat) ∧ (m.L.getD j (0, 0)).1 = v := fun a => by rw [hfr]; exact frL_mem
  have hfl : fr.length ≤ 1000 := by
    have h1 := frL_len m.L v m.L.length
    have := h.lle
    rw [hfr]; omega
  obtain ⟨b, h51, hbf⟩ : ∃ b : Bool, ev pr 51 [.list 1 (intsA fr) (intsA fr).isEmpty (intsA fr).isEmpty, .clo 52 [.mptr M.length 0]] M1 = some (.q (.flat (.bool b))) ∧ fullQ m.L (Z1.map Lin.pln) v = b := by
    classical
    refine ⟨_, t51 (P := fun a => ∃ j : Nat, ∃ hj : j < Z1.length, a = j ∧ 64 ≤ Z1[j].row.length) (by omega) fun a ha => ?_, ?_⟩
    · obtain ⟨j, hj, rfl, _⟩ := (hfm a).1 ha
      have hj' : j < Z1.length := by rw [hZl, h.len]; exact hj
      rw [t52 _ j M.length M1 hM1 hA hj']
      refine congrArg (fun x => some (Out.q (.flat (.bool x)))) (decide_eq_decide.2 ?_)
      constructor
      · intro h1; exact ⟨j, hj', rfl, h1⟩
      · rintro ⟨j', hj2, h1, h2⟩
        obtain rfl : j = j' := by omega
        exact h2
    · rw [Bool.eq_iff_iff, decide_eq_true_iff, fst_ge]
      simp only [fullQ, List.any_eq_true, List.mem_range, Bool.and_eq_true, decide_eq_true_eq]
      constructor
      · rintro ⟨j, h1, h2, h3⟩
        have hj' : j < Z1.length := by rw [hZl, h.len]; exact h1
        refine ⟨j, (hfm _).2 ⟨j, h1, rfl, h2⟩, j, hj', rfl, ?_⟩
        simp only [rowN, List.getElem?_map, List.getElem?_eq_getElem hj', Option.map_some, Lin.pln, List.length_map] at h3
        exact h3
      · rintro ⟨a, ha, j, hj', rfl, h3⟩
        obtain ⟨j2, h1, h2, h4⟩ := (hfm _).1 ha
        obtain rfl : j = j2 := by omega
        refine ⟨j, h1, h4, ?_⟩
        simp only [rowN, List.getElem?_map, List.getElem?_eq_getElem hj', Option.map_some, Lin.pln, List.length_map]
        exact h3
  have hd : dlv (plX m.l) m.L m.pm k = if c.l = m.C[v].l then (⟨Z1.map Lin.pln, m.pm.C⟩, true, 0) else if b = true then (m.pm, false, 11) else (⟨tellQ m.L v c.l (Z1.map Lin.pln), m.pm.C.set v c.l⟩, true, 0) := by
    have hrow : m.Z[k].pln.row = m.Z[k].row[0].l :: (m.Z[k].row.map Pth.l).drop 1 := by
      show m.Z[k].row.map Pth.l = _
      have := List.drop_eq_getElem_cons (l := m.Z[k].row.map Pth.l) (i := 0) (by simpa using h0)
      rw [List.drop_zero] at this
      rw [this]; simp
    have e1 : (m.L.getD k (0, 0)).2 = v := by rw [get2_of hkL]; exact hH1
    have e2 : choQ m.L (Z1.map Lin.pln) (paths m.l[v].l) = c.l := by rw [choQ_eq]; exact congrArg Pth.l (show choiceP m.L Z1 m.l[v].l = c from Eq.symm hH4)
    have e3 : m.pm.C.getD v [] = m.C[v].l := pl_getD hvC
    rw [hgd]
    simp only [hrow, e1, Int.toNat_natCast, ← hpmZ, plX_get hvl, e2, e3, hbf]
  have hHd : Hid (dlv (plX m.l) m.L m.pm k = if c.l = m.C[v].l then (⟨Z1.map Lin.pln, m.pm.C⟩, true, 0) else if b = true then (m.pm, false, 11) else (⟨tellQ m.L v c.l (Z1.map Lin.pln), m.pm.C.set v c.l⟩, true, 0)) := hd
  have hHb : Hid (fullQ m.L (Z1.map Lin.pln) v = b) := hbf
  clear hd hgd hbf hpmZ hzk hx1 hx1r hsl
  have hH6 : Hid (fr = frL m.L v m.L.length) := hfr
  have hH7 : Hid (∀ a, a ∈ fr ↔ ∃ j, j < m.L.length ∧ a = (j : Nat) ∧ (m.L.getD j (0, 0)).1 = v) := hfm
  have hHl : Hid (∀ j, j < M.length → j ≠ m.lid → M1[j]? = M[j]?) := hlow
  clear hM1 hlow hlc hfr hfm
  repeat' (first | ((with_reducible first | apply S_0 | apply S_q1 | apply S_g | apply S_c); exact sgc) | refine Stp.h ?_ | (with_reducible apply B_ne; focus decide) | ((with_reducible first | apply SC_d | apply SG_d | apply SG_n | apply SC_b | apply SG_b) <;> intro hc <;> try simp only [dq1, dq2, dq3, dq4, dq5] at hc))
  · (refine ⟨by first | exact .inr rfl | exact .inl rfl, ?_⟩; simp (disch := first | assumption | decide | omega | exact Pth.le _ | exact Rks.le _ | exact List.getElem_mem _ | exact allI_ints _ | exact allI_rks _ | exact allI_pths _ | exact Pth.nil _ | exact Rks.nil _ | (intro hh; simp only [Pth.nil _ hh, List.take_nil, List.drop_nil]; done) | (intro hh; simp only [Rks.nil _ hh, List.take_nil, List.drop_nil]; done) | (simp only [List.length_take, List.length_drop, List.length_append, List.length_cons, List.length_nil, List.length_replicate, List.length_map, ints_len]; omega)) only [resA, rvA, tupA, Option.bind_some, go_sem, if_pos, if_neg, Nat.reduceBEq, Nat.reduceEqDiff, ↓reduceIte, Nat.reduceSub, Nat.reduceAdd, Int.reduceToNat, reduceCtorEq, Nat.reduceLeDiff, Nat.reduceLT, Nat.reduceMul, Nat.reduceDiv, Int.reduceLT, Int.reduceLE, Int.reduceEq, Int.reduceNe, Int.reduceAdd, Int.reduceSub, Int.reduceNeg, Int.reduceGT, Int.reduceGE, Int.reduceBEq, Int.reduceBNe, Int.reduceMul, *])
    have hd : dlv (plX m.l) m.L m.pm k = _ := hHd
    rw [if_pos hc] at hd
    obtain ⟨out, h1, N', h2, h3⟩ := Dr.fin h hD1 (by simp) true 0
    exact ⟨out, h1, N', _, _, by rw [hd]; exact h2, h3, by rw [hd]; rfl⟩
  · refine S_KE (id := m.lid) (off := 0) (len := m.Z.length) (sz := 3) (k := k * 3) (cd := cd) (cs := [m.Z[k].x, .list 1 (intsA m.Z[k].heard.l) m.Z[k].heard.nl m.Z[k].heard.cd, .flat (.bool m.Z[k].any)]) (old := linsA Z1) (by exact svc) (by exact svc) rfl hg1 (by omega) (by rw [lins_len]; omega) ?_
    intro M2 hl2 hg2 hf2
    have hZ1 : Z1 = m.Z.set k ⟨x1, m.Z[k].row.drop 1, m.Z[k].row[0], true⟩ := hH3
    have hlow : ∀ j, j < M.length → j ≠ m.lid → M1[j]? = M[j]? := hHl
    rw [Nat.zero_add, show [m.Z[k].x, AV.list 1 (intsA m.Z[k].heard.l) m.Z[k].heard.nl m.Z[k].heard.cd, .flat (.bool m.Z[k].any)] = m.Z[k].cs from rfl, splice_lins (by omega),
      show Z1.set k m.Z[k] = m.Z by rw [hZ1, List.set_set, List.set_getElem_self]] at hg2
    have hM2 : ∀ j, j < M.length → M2[j]? = M[j]? := by
      intro j hj
      by_cases he : j = m.lid
      · rw [he, hg2, hln]
      · rw [hf2 j he, hlow j hj he]
    have hne : m.Z ≠ [] := fun h0 => by rw [h0] at hk; simp at hk
    have hD2 : Dr M M2 m m [m.lid, m.lid] := by
      refine ⟨h.ext (hM2 _ (get_lt h.map)) fun j hj => hM2 j ?_, rfl, rfl, by omega, fun j h1 _ => hM2 j h1, fun j hj => .inl hj, fun d hd => ?_⟩
      · rcases hj with rfl | ⟨_, rfl⟩ | rfl | ⟨z, hz, ha⟩
        · exact hid
        · exact hli
        · exact hci
        · exact (h.row z hz).rid_lt ha
      · have : d = m.lid := by simpa using hd
        rw [this]; exact .inr (.inl ⟨hne, rfl⟩)
    clear hf2 hg2 hl2 hM2 hlow hZ1
    repeat' (first | ((with_reducible first | apply S_0 | apply S_q1 | apply S_g | apply S_c); exact sgc) | refine Stp.h ?_ | (with_reducible apply B_ne; focus decide) | ((with_reducible first | apply SC_d | apply SG_d | apply SG_n | apply SC_b | apply SG_b) <;> intro hc <;> try simp only [dq1, dq2, dq3, dq4, dq5] at hc))
    (refine ⟨by first | exact .inr rfl | exact .inl rfl, ?_⟩; simp (disch := first | assumption | decide | omega | exact Pth.le _ | exact Rks.le _ | exact List.getElem_mem _ | exact allI_ints _ | exact allI_rks _ | exact allI_pths _ | exact Pth.nil _ | exact Rks.nil _ | (intro hh; simp only [Pth.nil _ hh, List.take_nil, List.drop_nil]; done) | (intro hh; simp only [Rks.nil _ hh, List.take_nil, List.drop_nil]; done) | (simp only [List.length_take, List.length_drop, List.length_append, List.length_cons, List.length_nil, List.length_replicate, List.length_map, ints_len]; omega)) only [resA, rvA, tupA, Option.bind_some, go_sem, if_pos, if_neg, Nat.reduceBEq, Nat.reduceEqDiff, ↓reduceIte, Nat.reduceSub, Nat.reduceAdd, Int.reduceToNat, reduceCtorEq, Nat.reduceLeDiff, Nat.reduceLT, Nat.reduceMul, Nat.reduceDiv, Int.reduceLT, Int.reduceLE, Int.reduceEq, Int.reduceNe, Int.reduceAdd, Int.reduceSub, Int.reduceNeg, Int.reduceGT, Int.reduceGE, Int.reduceBEq, Int.reduceBNe, Int.reduceMul, *])
    have hd : dlv (plX m.l) m.L m.pm k = _ := hHd
    rw [if_neg ‹¬ c.l = m.C[v].l›, if_pos hc] at hd
    obtain ⟨out, h1, N', h2, h3⟩ := Dr.fin h hD2 (by simp) false 11
    exact ⟨out, h1, N', _, _, by rw [hd]; exact h2, h3, by rw [hd]⟩
  · have hcn : ¬ c.l = m.C[v].l := ‹¬ c.l = m.C[v].l›
    have hbn : b = false := by simpa using hc
    refine S_KE (id := m.cid) (off := 0) (len := m.C.length) (sz := 1) (k := v) (cd := m.ccd) (cs := [.list 1 (intsA c.l) c.nl c.cd]) (old := m.C.map Pth.av) (by exact svc) (by exact svc) rfl hc1 (by omega) (by simp) ?_
    intro M3 hl3 hg3 hf3
    rw [Nat.zero_add, show [AV.list 1 (intsA c.l) c.nl c.cd] = [c.av] from rfl, splice_pths hvC] at hg3
    have hdd : dirt M.length m.cid (dirt M.length m.lid []) = [m.cid, m.lid] := by simp only [dirt, if_pos hli, if_pos hci]
    rw [hdd]
    have hD3 : Dr M M3 m {m with Z := Z1, C := m.C.set v c} [m.cid, m.lid] := hD1.setC (k := v) (c := c) hg3 hl3 hf3 hcl (by
      intro d hd
      rcases List.mem_cons.1 hd with h1 | h1
      · exact .inr h1
      · exact .inl h1)
    have hA3 : M3[M.length]? = some (some [.mptr m.id 0]) := by rw [hf3 _ (by omega)]; exact hA
    have hl3' : M3.length = M.length + 2 := by omega
    clear hf3 hg3 hl3 hA hA1 hl1' hg1 hb1 hc1 h48 h49 h50 h51 hD1 hc hHl
    repeat' (first | ((with_reducible first | apply S_0 | apply S_q1 | apply S_g | apply S_c); exact sgc) | refine Stp.h ?_ | (with_reducible apply B_ne; focus decide) | ((with_reducible first | apply SC_d | apply SG_d | apply SG_n | apply SC_b | apply SG_b) <;> intro hc <;> try simp only [dq1, dq2, dq3, dq4, dq5] at hc))
    have hfs : (0 : Nat) ≤ fr.length := by omega
    refine W_whl (fun n e mm d => ∃ q mj, n = fr.length - q ∧ q ≤ fr.length ∧ e 100 = .flat (.int .i64 (q : Nat)) ∧ Dr M mm m mj d ∧ m.lid ∈ d ∧ mm[M.length]? = some (some [.mptr m.id 0]) ∧ M.length + 2 ≤ mm.length ∧ mj.C = m.C.set v c ∧
        ∀ j : Nat, (mj.Z.map Lin.pln)[j]? = ((Z1.map Lin.pln)[j]?).map fun z => if (j : Int) ∈ fr.take q then ⟨z.row ++ [c.l], z.heard, z.any⟩ else z) fr.length (by simp only [asg, asgO, List.append_nil, List.nil_append, List.cons_append]; rfl)
      ⟨0, _, by omega, by omega, by exact svc, hD3, by simp, hA3, by omega, rfl, fun j => by simp; rfl⟩ ?_
    rintro n e2 mm d hkk ⟨q, mj, rfl, hq, e100, hDr, hld, hAm, hml, hmC, hmZ⟩
    have k98 : e2 98 = .list 1 (intsA fr) (intsA fr).isEmpty (intsA fr).isEmpty := by rw [hkk 98 rfl]; exact svc
    have k99 : e2 99 = .flat (.int .i64 fr.length) := by rw [hkk 99 rfl]; exact svc
    have k2 : e2 2 = .mptr M.length 0 := by rw [hkk 2 rfl]; exact svc
    have k8 : e2 8 = .list 1 (intsA c.l) c.nl c.cd := by rw [hkk 8 rfl]; exact svc
    clear hkk hA3 hl3' hD3 hdd htk htk1 hx hxc hxk h0'
    rcases Nat.lt_or_ge q fr.length with hlt | hlt
    · have hlt' : (q : Int) < fr.length := by omega
      obtain ⟨j, hjL, hfq, hju⟩ := (show ∀ a, a ∈ fr ↔ ∃ j, j < m.L.length ∧ a = (j : Nat) ∧ (m.L.getD j (0, 0)).1 = v from hH7) _ |>.1 (List.getElem_mem hlt)
      have hjZ : j < mj.Z.length := by rw [hDr.zl, h.len]; exact hjL
      have hnot : (j : Int) ∉ fr.take q := by
        intro hm
        obtain ⟨i, hi, he⟩ := List.mem_take_iff_getElem.1 hm
        have hnd : fr.Nodup := by rw [show fr = _ from hH6]; exact frL_nd _ _ _
        exact List.pairwise_iff_getElem.1 hnd i q (by omega) hlt (by omega) (by rw [he, hfq])
      have hjZ1 : j < Z1.length := by rw [hZl, h.len]; exact hjL
      have hpj : mj.Z[j].pln = Z1[j].pln := by
        have := hmZ j
        rw [List.getElem?_map, List.getElem?_map, List.getElem?_eq_getElem hjZ, List.getElem?_eq_getElem hjZ1] at this
        simpa [hnot] using this
      have h63 : mj.Z[j].row.length ≤ 63 := by
        have h1 : (mj.Z[j].row.map Pth.l).length = (Z1[j].row.map Pth.l).length := congrArg (fun z => z.row.length) hpj
        have h2 : fullQ m.L (Z1.map Lin.pln) v = false := by rw [show fullQ m.L (Z1.map Lin.pln) v = b from hHb, hbn]
        simp only [fullQ, List.any_eq_false, List.mem_range, Bool.and_eq_true, decide_eq_true_eq, not_and] at h2
        have h3 := h2 j hjL hju
        simp only [rowN, List.getElem?_map, List.getElem?_eq_getElem hjZ1, Option.map_some, Lin.pln, List.length_map] at h3
        simp only [List.length_map] at h1
        omega
      obtain ⟨s1, s2, s3, s4, s5, s6, s7, s8⟩ := hDr.sid
      have hbm := hDr.mach.b
      rw [s1, s7] at hbm
      obtain ⟨_, _, hlm3⟩ := hDr.mach.ln hjZ
      rw [s3] at hlm3
      have hlmm := get_lt hlm3
      have hidm := get_lt hbm
      have hzl := hDr.zl
      have htz : List.take m.Z.length mj.Z = mj.Z := List.take_of_length_le (by omega)
      have hrow := hDr.mach.row _ (List.getElem_mem hjZ)
      have hlimN : mj.Z[j].row.length + 1 ≤ LIM := by unfold LIM; omega
      have hgd2 : ∀ j' : Nat, (fr.take (q + 1)) = fr.take q ++ [(j : Int)] := fun _ => by rw [List.take_succ_eq_append_getElem hlt, hfq]
      have hfin : ∀ (z' : Lin) (m4 : Mc), m4 = {mj with Z := mj.Z.set j ⟨z'.x, mj.Z[j].row ++ [c], mj.Z[j].heard, mj.Z[j].any⟩} → ∀ i : Nat, (m4.Z.map Lin.pln)[i]? = ((Z1.map Lin.pln)[i]?).map fun z => if (i : Int) ∈ fr.take (q + 1) then ⟨z.row ++ [c.l], z.heard, z.any⟩ else z := by
        rintro z' m4 rfl i
        have h1 := hmZ i
        show ((mj.Z.set j ⟨z'.x, mj.Z[j].row ++ [c], mj.Z[j].heard, mj.Z[j].any⟩).map Lin.pln)[i]? = _
        rw [set_pln, hgd2 0]
        by_cases hij : j = i
        · subst hij
          rw [List.getElem?_set_self (by simpa using hjZ), List.getElem?_map, List.getElem?_eq_getElem hjZ1, Option.map_some, Option.map_some, if_pos (by simp), ← hpj]
          simp [Lin.pln]
        · rw [List.getElem?_set_ne hij, h1]
          have : ((i : Int) ∈ fr.take q ++ [(j : Int)]) ↔ (i : Int) ∈ fr.take q := by
            rw [List.mem_append, List.mem_singleton]
            constructor
            · rintro (h | h)
              · exact h
              · omega
            · exact .inl
          simp only [this]
      rcases hrow with ⟨nl, xe, x2⟩ | ⟨x2, a, off, cd2, cs, xe, x3, x4, x5, x6⟩
      · clear s1 s2 s3 s4 s5 s6 s7 s8
        repeat' (first | ((with_reducible first | apply S_0 | apply S_q1 | apply S_g | apply S_c); exact sgc) | refine Stp.h ?_ | (with_reducible apply B_ne; focus decide) | ((with_reducible first | apply SC_d | apply SG_d | apply SG_n | apply SC_b | apply SG_b) <;> intro hc <;> try simp only [dq1, dq2, dq3, dq4, dq5] at hc))
        refine W_regionF2 ?_
        (try simp only [List.take_succ_cons, List.take_zero, List.drop_succ_cons, List.drop_zero]; repeat (first | (with_reducible apply WH_nil) | ((with_reducible apply WH_q); (focus rfl); (focus rfl); focus (exact whc)) | ((with_reducible apply WH_cq); (focus rfl); focus (exact whc)) | ((with_reducible apply WH_cx); (focus rfl); focus (exact whc)) | ((with_reducible apply WH_f); (focus rfl); focus (exact whc)) | ((with_reducible apply WH_k); (focus rfl); focus (exact whc))))
        refine ⟨rfl, rfl, ?_⟩
        rw [List.nil_append]
        have hlmM := get_grow hlm3 [some (mj.Z[j].row.map Pth.av ++ [.list 1 (intsA c.l) c.nl c.cd])]
        repeat' (first | ((with_reducible first | apply S_0 | apply S_q1 | apply S_g | apply S_c); exact sgc) | refine Stp.h ?_ | (with_reducible apply B_ne; focus decide) | ((with_reducible first | apply SC_d | apply SG_d | apply SG_n | apply SC_b | apply SG_b) <;> intro hc <;> try simp only [dq1, dq2, dq3, dq4, dq5] at hc))
        refine S_KE (id := m.lid) (off := 0) (len := m.Z.length) (sz := 3) (k := j * 3) (cd := cd) (cs := [.ms mm.length 0 (mj.Z[j].row.length + 1) 1 false]) (old := linsA mj.Z) (by exact svc) (by exact svc) rfl hlmM (by omega) (by rw [lins_len]; omega) ?_
        intro M4 hl4 hg4 hf4
        rw [Nat.zero_add] at hg4
        have hst := tell_step (c := c) hDr hjZ hcl h63 (MM := mm ++ [some (mj.Z[j].row.map Pth.av ++ [c.av])]) (dd := d) (by simp) (by simp) (by intro i h1 _; rw [List.getElem?_append_left h1]) hl4 hg4 hf4 hlmm (by intro x hx; exact .inl hx)
        repeat' (first | ((with_reducible first | apply S_0 | apply S_q1 | apply S_g | apply S_c); exact sgc) | refine Stp.h ?_ | (with_reducible apply B_ne; focus decide) | ((with_reducible first | apply SC_d | apply SG_d | apply SG_n | apply SC_b | apply SG_b) <;> intro hc <;> try simp only [dq1, dq2, dq3, dq4, dq5] at hc))
        refine R_n (fr.length - (q + 1)) (by omega) ⟨q + 1, _, by omega, by omega, by exact svc, hst, ?_, ?_, ?_, hmC, ?_⟩
        · unfold dirt; rw [if_pos hli]; simp
        · rw [hf4 _ (by omega), List.getElem?_append_left (by omega)]; exact hAm
        · rw [hl4]; simp; omega
        · exact hfin ⟨_, [], nilPth, false⟩ _ rfl
      · cases cd2 with
        | true =>
          clear s1 s2 s3 s4 s5 s6 s7 s8 x6 hmZ
          repeat' (first | ((with_reducible first | apply S_0 | apply S_q1 | apply S_g | apply S_c); exact sgc) | refine Stp.h ?_ | (with_reducible apply B_ne; focus decide) | ((with_reducible first | apply SC_d | apply SG_d | apply SG_n | apply SC_b | apply SG_b) <;> intro hc <;> try simp only [dq1, dq2, dq3, dq4, dq5] at hc))
          refine W_regionF2 ?_
          (try simp only [List.take_succ_cons, List.take_zero, List.drop_succ_cons, List.drop_zero]; repeat (first | (with_reducible apply WH_nil) | ((with_reducible apply WH_q); (focus rfl); (focus rfl); focus (exact whc)) | ((with_reducible apply WH_cq); (focus rfl); focus (exact whc)) | ((with_reducible apply WH_cx); (focus rfl); focus (exact whc)) | ((with_reducible apply WH_f); (focus rfl); focus (exact whc)) | ((with_reducible apply WH_k); (focus rfl); focus (exact whc))))
          refine ⟨rfl, rfl, ?_⟩
          rw [List.nil_append]
          have hlmM := get_grow hlm3 [some (mj.Z[j].row.map Pth.av ++ [.list 1 (intsA c.l) c.nl c.cd])]
          repeat' (first | ((with_reducible first | apply S_0 | apply S_q1 | apply S_g | apply S_c); exact sgc) | refine Stp.h ?_ | (with_reducible apply B_ne; focus decide) | ((with_reducible first | apply SC_d | apply SG_d | apply SG_n | apply SC_b | apply SG_b) <;> intro hc <;> try simp only [dq1, dq2, dq3, dq4, dq5] at hc))
          refine S_KE (id := m.lid) (off := 0) (len := m.Z.length) (sz := 3) (k := j * 3) (cd := cd) (cs := [.ms mm.length 0 (mj.Z[j].row.length + 1) 1 false]) (old := linsA mj.Z) (by exact svc) (by exact svc) rfl hlmM (by omega) (by rw [lins_len]; omega) ?_
          intro M4 hl4 hg4 hf4
          rw [Nat.zero_add] at hg4
          have hst := tell_step (c := c) hDr hjZ hcl h63 (MM := mm ++ [some (mj.Z[j].row.map Pth.av ++ [c.av])]) (dd := d) (by simp) (by simp) (by intro i h1 _; rw [List.getElem?_append_left h1]) hl4 hg4 hf4 hlmm (by intro x hx; exact .inl hx)
          repeat' (first | ((with_reducible first | apply S_0 | apply S_q1 | apply S_g | apply S_c); exact sgc) | refine Stp.h ?_ | (with_reducible apply B_ne; focus decide) | ((with_reducible first | apply SC_d | apply SG_d | apply SG_n | apply SC_b | apply SG_b) <;> intro hc <;> try simp only [dq1, dq2, dq3, dq4, dq5] at hc))
          refine R_n (fr.length - (q + 1)) (by omega) ⟨q + 1, _, by omega, by omega, by exact svc, hst, ?_, ?_, ?_, hmC, ?_⟩
          · unfold dirt; rw [if_pos hli]; simp
          · rw [hf4 _ (by omega), List.getElem?_append_left (by omega)]; exact hAm
          · rw [hl4]; simp; omega
          · exact hfin ⟨_, [], nilPth, false⟩ _ rfl
        | false =>
          have hoff : off = 0 := by simpa using x6
          subst hoff
          rw [List.drop_zero] at x5
          have hrd : rid mj.Z[j].x = some a := by rw [xe]; rfl
          obtain ⟨r1, r2, r3, r4⟩ := hDr.mach.rds _ (List.getElem_mem hjZ) a hrd
          rw [s1] at r1; rw [s3] at r3
          have haA : a ≠ M.length := by
            intro he
            rw [he, hAm] at x3
            cases x3
            cases hzr : mj.Z[j].row with
            | nil => exact x2 hzr
            | cons a0 r0 => rw [hzr] at x5; simp [Pth.av] at x5
          have hko : ∀ i, i ≠ a → (killA mm [a])[i]? = mm[i]? := fun i hi => by simp only [killA, List.foldl_cons, List.foldl_nil]; rw [List.getElem?_set_ne (Ne.symm hi)]
          have hbo := (hko m.id (Ne.symm r1)).trans hbm
          have hlo := (hko m.lid (Ne.symm r3)).trans hlm3
          have hAo := (hko M.length (Ne.symm haA)).trans hAm
          have hkl : (killA mm [a]).length = mm.length := by simp [killA]
          clear s1 s2 s3 s4 s5 s6 s7 s8 x6 hmZ
          repeat' (first | ((with_reducible first | apply S_0 | apply S_q1 | apply S_g | apply S_c); exact sgc) | refine Stp.h ?_ | (with_reducible apply B_ne; focus decide) | ((with_reducible first | apply SC_d | apply SG_d | apply SG_n | apply SC_b | apply SG_b) <;> intro hc <;> try simp only [dq1, dq2, dq3, dq4, dq5] at hc))
          refine W_regionF1 [a] (by simp) rfl ?_ ?_
          · (try simp only [List.take_succ_cons, List.take_zero, List.drop_succ_cons, List.drop_zero]; repeat (first | (with_reducible apply WH_nil) | ((with_reducible apply WH_q); (focus rfl); (focus rfl); focus (exact whc)) | ((with_reducible apply WH_cq); (focus rfl); focus (exact whc)) | ((with_reducible apply WH_cx); (focus rfl); focus (exact whc)) | ((with_reducible apply WH_f); (focus rfl); focus (exact whc)) | ((with_reducible apply WH_k); (focus rfl); focus (exact whc))))
            exact ⟨rfl, rfl⟩
          generalize hMo : killA mm [a] = Mo at *
          (try simp only [List.take_succ_cons, List.take_zero, List.drop_succ_cons, List.drop_zero]; repeat (first | (with_reducible apply WH_nil) | ((with_reducible apply WH_q); (focus rfl); (focus rfl); focus (exact whc)) | ((with_reducible apply WH_cq); (focus rfl); focus (exact whc)) | ((with_reducible apply WH_cx); (focus rfl); focus (exact whc)) | ((with_reducible apply WH_f); (focus rfl); focus (exact whc)) | ((with_reducible apply WH_k); (focus rfl); focus (exact whc))))
          refine ⟨rfl, rfl, ?_⟩
          rw [List.nil_append]
          have hlmM := get_grow hlo [some (mj.Z[j].row.map Pth.av ++ [.list 1 (intsA c.l) c.nl c.cd])]
          clear hlm3
          repeat' (first | ((with_reducible first | apply S_0 | apply S_q1 | apply S_g | apply S_c); exact sgc) | refine Stp.h ?_ | (with_reducible apply B_ne; focus decide) | ((with_reducible first | apply SC_d | apply SG_d | apply SG_n | apply SC_b | apply SG_b) <;> intro hc <;> try simp only [dq1, dq2, dq3, dq4, dq5] at hc))
          refine S_KE (id := m.lid) (off := 0) (len := m.Z.length) (sz := 3) (k := j * 3) (cd := cd) (cs := [.ms mm.length 0 (mj.Z[j].row.length + 1) 1 false]) (old := linsA mj.Z) (by exact svc) (by exact svc) rfl hlmM (by omega) (by rw [lins_len]; omega) ?_
          intro M4 hl4 hg4 hf4
          rw [Nat.zero_add] at hg4
          have hst := tell_step (c := c) hDr hjZ hcl h63 (MM := Mo ++ [some (mj.Z[j].row.map Pth.av ++ [c.av])]) (dd := dirtK M.length [a] d) (by simp; omega) (by rw [← hkl]; simp) (by
            intro i h1 h2
            rw [List.getElem?_append_left (by omega)]
            exact hko i fun h3 => h2 (by rw [hrd, h3])) hl4 hg4 hf4 hlmm (by
            intro x hx
            simp only [dirtK, List.foldr_cons, List.foldr_nil, dirt] at hx
            split at hx
            · rename_i hal
              rcases List.mem_cons.1 hx with h1 | h1
              · exact .inr ⟨by rw [hrd, h1], by rw [h1]; exact hal⟩
              · exact .inl h1
            · exact .inl hx)
          repeat' (first | ((with_reducible first | apply S_0 | apply S_q1 | apply S_g | apply S_c); exact sgc) | refine Stp.h ?_ | (with_reducible apply B_ne; focus decide) | ((with_reducible first | apply SC_d | apply SG_d | apply SG_n | apply SC_b | apply SG_b) <;> intro hc <;> try simp only [dq1, dq2, dq3, dq4, dq5] at hc))
          refine R_n (fr.length - (q + 1)) (by omega) ⟨q + 1, _, by omega, by omega, by exact svc, hst, ?_, ?_, ?_, hmC, ?_⟩
          · unfold dirt; rw [if_pos hli]; simp
          · rw [hf4 _ (by omega), List.getElem?_append_left (by omega)]; exact hAo
          · rw [hl4]; simp; omega
          · exact hfin ⟨_, [], nilPth, false⟩ _ rfl
    · have hlt' : ¬ (q : Int) < fr.length := by omega
      have hqe : q = fr.length := by omega
      have hpm : mj.pm = ⟨tellQ m.L v c.l (Z1.map Lin.pln), m.pm.C.set v c.l⟩ := by
        have e1 : mj.Z.map Lin.pln = tellQ m.L v c.l (Z1.map Lin.pln) := by
          refine List.ext_getElem? fun i => ?_
          rw [hmZ i, hqe, List.take_length, tellQ, List.getElem?_mapIdx]
          cases hzi : (Z1.map Lin.pln)[i]? with
          | none => rfl
          | some z =>
            have hil : i < m.L.length := by
              have := get_lt' hzi
              rw [List.length_map, hZl, h.len] at this; exact this
            have hif : ((i : Int) ∈ fr) ↔ (m.L.getD i (0, 0)).1 = v := by
              refine ((show ∀ a, a ∈ fr ↔ ∃ j, j < m.L.length ∧ a = (j : Nat) ∧ (m.L.getD j (0, 0)).1 = v from hH7) _).trans ⟨?_, fun h1 => ⟨i, hil, rfl, h1⟩⟩
              rintro ⟨j, _, h2, h3⟩
              obtain rfl : i = j := by omega
              exact h3
            simp only [Option.map_some, hif]
        show (⟨mj.Z.map Lin.pln, pl mj.C⟩ : PM) = _
        rw [e1, hmC, pl, List.map_set]; rfl
      clear hqe
      repeat' (first | ((with_reducible first | apply S_0 | apply S_q1 | apply S_g | apply S_c); exact sgc) | refine Stp.h ?_ | (with_reducible apply B_ne; focus decide) | ((with_reducible first | apply SC_d | apply SG_d | apply SG_n | apply SC_b | apply SG_b) <;> intro hc <;> try simp only [dq1, dq2, dq3, dq4, dq5] at hc))
      (refine ⟨by first | exact .inr rfl | exact .inl rfl, ?_⟩; simp (disch := first | assumption | decide | omega | exact Pth.le _ | exact Rks.le _ | exact List.getElem_mem _ | exact allI_ints _ | exact allI_rks _ | exact allI_pths _ | exact Pth.nil _ | exact Rks.nil _ | (intro hh; simp only [Pth.nil _ hh, List.take_nil, List.drop_nil]; done) | (intro hh; simp only [Rks.nil _ hh, List.take_nil, List.drop_nil]; done) | (simp only [List.length_take, List.length_drop, List.length_append, List.length_cons, List.length_nil, List.length_replicate, List.length_map, ints_len]; omega)) only [resA, rvA, tupA, Option.bind_some, go_sem, if_pos, if_neg, Nat.reduceBEq, Nat.reduceEqDiff, ↓reduceIte, Nat.reduceSub, Nat.reduceAdd, Int.reduceToNat, reduceCtorEq, Nat.reduceLeDiff, Nat.reduceLT, Nat.reduceMul, Nat.reduceDiv, Int.reduceLT, Int.reduceLE, Int.reduceEq, Int.reduceNe, Int.reduceAdd, Int.reduceSub, Int.reduceNeg, Int.reduceGT, Int.reduceGE, Int.reduceBEq, Int.reduceBNe, Int.reduceMul, *])
      have hd : dlv (plX m.l) m.L m.pm k = _ := hHd
      rw [if_neg hcn, if_neg (by simp [hbn])] at hd
      obtain ⟨out, h1, N', h2, h3⟩ := Dr.fin h hDr hld true 0
      exact ⟨out, h1, N', _, _, by rw [hd]; exact h2, h3, by rw [hd]; exact hpm⟩
end Go.Proofs.Ytlcdafidoddefaa.Av
namespace Go.Proofs.Ytlcdafidoddefaa.Av
open Go.RowKit
set_option linter.unusedSimpArgs false
set_option linter.unusedVariables false
/-- Lines and paths that fit one another. -/
structure Fit (X : List (List (List Int))) (L : List I2) : Prop where
  nd : L.Nodup
  lim : ∀ p ∈ L, 0 ≤ p.1 ∧ p.1 < X.length ∧ 1 ≤ p.2 ∧ p.2 < X.length
  pth : ∀ (v : Nat) (h : v < X.length), ∀ p ∈ X[v], 2 ≤ p.length ∧ p.getD 0 0 = v ∧ (p.getD 1 0, p.getD 0 0) ∈ L
/-- What a line has told last is c. -/
def toldOk (z : PL) (c : List Int) : Prop := match z.row.getLast? with
  | some p => p = c
  | none => if z.any = true then z.heard = c else c = []
structure Keeps (X : List (List (List Int))) (L : List I2) (s : PM) : Prop where
  zl : s.Z.length = L.length
  cl : s.C.length = X.length
  c0 : s.C.getD 0 [] = [0]
  told : ∀ (k : Nat) (h : k < L.length) (h' : k < s.Z.length), toldOk s.Z[k] (s.C.getD L[k].1.toNat [])
  cho : ∀ v, 1 ≤ v → v < X.length → s.C.getD v [] = choQ L s.Z (X.getD v [])
theorem choQ_congr {L : List I2} {Z Z' : List PL} {ps : List (List Int)} (h : ∀ p ∈ ps, hasQ L Z p = hasQ L Z' p) : choQ L Z ps = choQ L Z' ps := by
  have : ps.find? (hasQ L Z) = ps.find? (hasQ L Z') := by
    induction ps with
    | nil => rfl
    | cons p ps ih =>
      simp only [List.find?_cons, h p (by simp)]
      rw [ih fun q hq => h q (by simp [hq])]
  rw [choQ, choQ, this]
theorem hasQ_set {L : List I2} {Z : List PL} {k : Nat} {z : PL} {p : List Int} (h : L.idxOf (p.getD 1 0, p.getD 0 0) ≠ k) : hasQ L (Z.set k z) p = hasQ L Z p := by
  rw [hasQ, hasQ, List.getElem?_set_ne (Ne.symm h)]
theorem hasQ_tell {L : List I2} {u : Int} {c : List Int} {Z : List PL} {p : List Int} : hasQ L (tellQ L u c Z) p = hasQ L Z p := by
  rw [hasQ, hasQ, tellQ, List.getElem?_mapIdx]
  cases Z[L.idxOf (p.getD 1 0, p.getD 0 0)]? with
  | none => rfl
  | some z =>
    simp only [Option.map_some]
    by_cases hc : (L.getD (L.idxOf (p.getD 1 0, p.getD 0 0)) (0, 0)).1 = u
    · rw [if_pos hc]
    · rw [if_neg hc]
theorem toldOk_tail {z : PL} {p : List Int} {r : List (List Int)} {c : List Int} (hr : z.row = p :: r) (h : toldOk z c) : toldOk ⟨r, p, true⟩ c := by
  unfold toldOk at h ⊢
  rw [hr, List.getLast?_cons] at h
  simp only at h ⊢
  cases hl : r.getLast? with
  | none => rw [hl] at h; simpa using h
  | some q => rw [hl] at h; simpa using h
theorem toldOk_app {r : List (List Int)} {hd : List Int} {a : Bool} {c : List Int} : toldOk ⟨r ++ [c], hd, a⟩ c := by simp [toldOk]
theorem Fit.line {X : List (List (List Int))} {L : List I2} (hF : Fit X L) {v : Nat} (hv : v < X.length) {p : List Int} (hp : p ∈ X[v]) : ∃ k, ∃ hk : k < L.length, L.idxOf (p.getD 1 0, p.getD 0 0) = k ∧ L[k] = (p.getD 1 0, (v : Int)) := by
  obtain ⟨h1, h2, h3⟩ := hF.pth v hv p hp
  have h4 := List.idxOf_lt_length_of_mem h3
  exact ⟨_, h4, rfl, by rw [List.getElem_idxOf h4, h2]⟩
theorem getD_of {α : Type} {l : List α} {k : Nat} {d : α} (h : k < l.length) : l.getD k d = l[k] := by simp [List.getD, List.getElem?_eq_getElem h]
theorem Keeps.dlv {X : List (List (List Int))} {L : List I2} {s : PM} (hF : Fit X L) (h : Keeps X L s) (i : Int) : Keeps X L (Av.dlv X L s i).1 := by
  unfold Av.dlv
  split
  rotate_left
  · exact h
  rename_i hi
  split
  · exact h
  rename_i z hz
  split
  · exact h
  rename_i p r hr
  obtain ⟨k, rfl⟩ : ∃ k : Nat, i = k := ⟨i.toNat, by omega⟩
  simp only [Int.toNat_natCast] at hz ⊢
  have hk : k < s.Z.length := get_lt' hz
  have hkL : k < L.length := by rw [← h.zl]; exact hk
  have hze : s.Z[k] = z := by rw [List.getElem?_eq_getElem hk] at hz; exact Option.some.inj hz
  have hlim := hF.lim _ (List.getElem_mem hkL)
  obtain ⟨v, hv⟩ : ∃ v : Nat, L[k].2 = v := ⟨L[k].2.toNat, by omega⟩
  simp only [get2_of hkL, hv, Int.toNat_natCast]
  obtain ⟨Z1, hZ1⟩ : ∃ Z1, Z1 = s.Z.set k ⟨r, p, true⟩ := ⟨_, rfl⟩
  simp only [← hZ1]
  have hZl : Z1.length = s.Z.length := by rw [hZ1]; simp
  have h1 : ∀ (j : Nat) (hj : j < L.length) (hj' : j < Z1.length), toldOk Z1[j] (s.C.getD L[j].1.toNat []) := by
    intro j hj hj'
    have h2 := h.told j hj (by omega)
    subst hZ1
    rw [List.getElem_set]
    split
    · rename_i he
      subst he
      rw [hze] at h2
      exact toldOk_tail hr h2
    · exact h2
  have h2 : ∀ w, 1 ≤ w → w < X.length → w ≠ v → s.C.getD w [] = choQ L Z1 (X.getD w []) := by
    intro w hw1 hw hwv
    rw [h.cho w hw1 hw, hZ1, getD_of hw]
    refine choQ_congr fun q hq => (hasQ_set ?_).symm
    obtain ⟨k', hk', h3, h4⟩ := hF.line hw hq
    rw [h3]
    intro he
    subst he
    rw [h4] at hv
    simp only at hv
    omega
  have hvX : v < X.length := by omega
  obtain ⟨c, hc⟩ : ∃ c, c = choQ L Z1 (X.getD v []) := ⟨_, rfl⟩
  rw [← hc]
  split
  · rename_i he
    refine ⟨by rw [← h.zl]; exact hZl, h.cl, h.c0, h1, fun w hw1 hw => ?_⟩
    by_cases hwv : w = v
    · subst hwv; rw [← hc]; exact he.symm
    · exact h2 w hw1 hw hwv
  · split
    · exact h
    · refine ⟨by simp [tellQ, hZl, h.zl], by simp [h.cl], ?_, fun j hj hj' => ?_, fun w hw1 hw => ?_⟩
      · simp only [List.getD, List.getElem?_set_ne (show v ≠ 0 by omega)]
        exact h.c0
      · have hjl := hF.lim _ (List.getElem_mem hj)
        have hj2 : j < Z1.length := by rw [hZl, h.zl]; exact hj
        simp only [tellQ, List.getElem_mapIdx, get2_of hj]
        split
        · rename_i hu
          rw [hu, Int.toNat_natCast, getD_of (by simp [h.cl]; exact hvX), List.getElem_set_self]
          exact toldOk_app
        · rename_i hu
          have := h1 j hj hj2
          simp only [List.getD, List.getElem?_set_ne (show v ≠ L[j].1.toNat by omega)] at this ⊢
          exact this
      · have hch : ∀ ps, choQ L (tellQ L v c Z1) ps = choQ L Z1 ps := fun ps => choQ_congr fun _ _ => hasQ_tell
        rw [hch]
        by_cases hwv : w = v
        · subst hwv
          rw [← hc, getD_of (by simp [h.cl]; exact hvX), List.getElem_set_self]
        · rw [← h2 w hw1 hw hwv]
          simp only [List.getD, List.getElem?_set_ne (Ne.symm hwv)]
/-- When nothing waits, what is chosen is stable. -/
theorem Keeps.quiet {X : List (List (List Int))} {L : List I2} {s : PM} (hF : Fit X L) (h : Keeps X L s) (hq : ∀ z ∈ s.Z, z.row = []) : StabP X s.C := by
  intro v hv1 hv
  rw [h.cho v hv1 hv, getD_of hv]
  have key : ∀ p ∈ X[v], hasQ L s.Z p = decide (opn s.C p) := by
    intro p hp
    obtain ⟨k, hk, h1, h2⟩ := hF.line hv hp
    obtain ⟨h3, h4, h5⟩ := hF.pth v hv p hp
    have hlim := hF.lim _ (List.getElem_mem hk)
    rw [h2] at hlim
    have hkZ : k < s.Z.length := by rw [h.zl]; exact hk
    have ht := h.told k hk hkZ
    rw [h2] at ht
    simp only at ht hlim
    obtain ⟨u, hu⟩ : ∃ u : Nat, p.getD 1 0 = u := ⟨(p.getD 1 0).toNat, by omega⟩
    have hp1 : p[1]? = some (u : Int) := by rw [← hu, getD_of (by omega), List.getElem?_eq_getElem (by omega)]
    have huC : u < s.C.length := by rw [h.cl]; omega
    rw [hu, Int.toNat_natCast, getD_of huC] at ht
    have hr : s.Z[k].row = [] := hq _ (List.getElem_mem hkZ)
    unfold toldOk at ht
    rw [hr] at ht
    simp only [List.getLast?_nil] at ht
    have ho : opn s.C p ↔ s.C[u] = p.drop 1 := by
      constructor
      · rintro ⟨w, hw1, hw2⟩
        rw [hp1] at hw1
        have : u = w := by have := Option.some.inj hw1; omega
        subst this
        rw [List.getElem?_eq_getElem huC] at hw2
        exact Option.some.inj hw2
      · intro he
        exact ⟨u, hp1, by rw [List.getElem?_eq_getElem huC, he]⟩
    rw [hasQ, h1, List.getElem?_eq_getElem hkZ]
    simp only
    cases ha : s.Z[k].any with
    | true =>
      rw [ha] at ht
      simp only [if_true] at ht
      rw [Bool.true_and, ht]
      exact decide_eq_decide.2 ho.symm
    | false =>
      rw [ha] at ht
      simp only [Bool.false_eq_true, if_false] at ht
      rw [Bool.false_and]
      refine (decide_eq_false fun hh => ?_).symm
      have := ho.1 hh
      rw [ht] at this
      have := congrArg List.length this
      simp at this; omega
  rw [choQ, resp]
  congr 1
  have : ∀ ps : List (List Int), (∀ p ∈ ps, hasQ L s.Z p = decide (opn s.C p)) → ps.find? (hasQ L s.Z) = ps.find? fun p => decide (opn s.C p) := by
    intro ps
    induction ps with
    | nil => intro _; rfl
    | cons p ps ih =>
      intro hh
      simp only [List.find?_cons, hh p (by simp)]
      rw [ih fun q hq => hh q (by simp [hq])]
  exact this _ key
/-- A machine at first. -/
def newPL (p : I2) : PL := if p.1 = 0 then ⟨[[0]], [], false⟩ else ⟨[], [], false⟩
def newQ (n : Nat) (L : List I2) : PM := ⟨L.map newPL, [0] :: List.replicate (n - 1) []⟩
theorem Keeps.new {X : List (List (List Int))} {L : List I2} (hF : Fit X L) (h1 : 1 ≤ X.length) : Keeps X L (newQ X.length L) where
  zl := by simp [newQ]
  cl := by simp [newQ]; omega
  c0 := rfl
  told k hk hk' := by
    have hl := hF.lim _ (List.getElem_mem hk)
    simp only [newQ, List.getElem_map, newPL]
    by_cases h0 : L[k].1 = 0
    · rw [if_pos h0, h0]; rfl
    · rw [if_neg h0]
      obtain ⟨u, hu⟩ : ∃ u : Nat, L[k].1 = ((u + 1 : Nat) : Int) := ⟨(L[k].1 - 1).toNat, by omega⟩
      rw [hu, Int.toNat_natCast]
      simp only [toldOk, List.getLast?_nil, Bool.false_eq_true, if_false, List.getD, List.getElem?_cons_succ]
      rw [List.getElem?_replicate]
      split <;> rfl
  cho v hv1 hv := by
    obtain ⟨u, rfl⟩ : ∃ u, v = u + 1 := ⟨v - 1, by omega⟩
    have hno : ∀ p, hasQ L (newQ X.length L).Z p = false := by
      intro p
      simp only [hasQ, newQ, List.getElem?_map]
      cases L[L.idxOf (p.getD 1 0, p.getD 0 0)]? with
      | none => rfl
      | some q => simp only [Option.map_some, newPL]; split <;> rfl
    have : choQ L (newQ X.length L).Z (X.getD (u + 1) []) = [] := by
      rw [choQ, List.find?_eq_none.2 fun p _ => by rw [hno]; simp]; rfl
    rw [this]
    simp only [newQ, List.getD, List.getElem?_cons_succ]
    rw [List.getElem?_replicate]
    split <;> rfl
/-- A machine behind deliveries. -/
def dlvs (X : List (List (List Int))) (L : List I2) : PM → List Int → PM
  | s, [] => s
  | s, i :: r => dlvs X L (Av.dlv X L s i).1 r
theorem dlvs_snoc {X : List (List (List Int))} {L : List I2} {i : Int} : ∀ {r : List Int} {s : PM}, dlvs X L s (r ++ [i]) = (Av.dlv X L (dlvs X L s r) i).1
  | [], _ => rfl
  | a :: r, s => by simp only [List.cons_append, dlvs]; exact dlvs_snoc
theorem Keeps.run {X : List (List (List Int))} {L : List I2} (hF : Fit X L) : ∀ (r : List Int) (s : PM), Keeps X L s → Keeps X L (dlvs X L s r)
  | [], _, h => h
  | i :: r, s, h => Keeps.run hF r _ (h.dlv hF i)
end Go.Proofs.Ytlcdafidoddefaa.Av
namespace Go.Proofs.Ytlcdafidoddefaa.Av
open Go.RowKit
set_option linter.unusedSimpArgs false
set_option linter.unusedVariables false
set_option maxHeartbeats 10000000
theorem Mach.fit {M : MS} {m : Mc} (h : Mach M m) : Fit (plX m.l) m.L where
  nd := h.nd
  lim := by rw [plX_len]; exact h.lim
  pth v hv p hp := by
    rw [plX_len] at hv
    have hg : (plX m.l)[v]'(by rw [plX_len]; exact hv) = paths m.l[v].l := by simp [plX]
    rw [hg] at hp
    obtain ⟨q, hq, rfl⟩ := List.mem_map.1 (show p ∈ m.l[v].l.map (·.p.l) from hp)
    obtain ⟨j, hj, rfl⟩ := List.getElem_of_mem hq
    obtain ⟨h1, h2, h3⟩ := h.pth hv j hj
    refine ⟨h1, ?_, h3⟩
    have hv1 : 1 ≤ v := by
      rcases Nat.eq_zero_or_pos v with h0 | h0
      · subst h0
        have := h.may.2.2.2.1 hv
        rw [this] at hj; simp at hj
      · exact h0
    have hpo := lok_path (h.may.2.2.2.2 v hv hv1) _ hq
    simp [List.getD, hpo.2.1]
theorem NewM.pm {base : Nat} {l : List Rks} {m : Mc} (h : NewM base l m) : m.pm = newQ l.length m.L := by
  have e1 : m.Z.map Lin.pln = m.L.map newPL := by
    rw [h.hZ, List.map_map]
    congr 1; funext p
    simp only [Function.comp_def, newLin, newPL]
    split <;> rfl
  have e2 : pl m.C = [0] :: List.replicate (l.length - 1) [] := by
    rw [h.hC, pl, List.map_cons, List.map_replicate]; rfl
  show (⟨m.Z.map Lin.pln, pl m.C⟩ : PM) = _
  rw [e1, e2]; rfl
theorem NewM.keeps {base : Nat} {l : List Rks} {m : Mc} {M : MS} (h : NewM base l m) (hM : Mach M m) : Keeps (plX m.l) m.L m.pm := by
  have hll : m.l.length = l.length := by rw [h.hl]; simp
  rw [h.pm, ← hll, ← plX_len]
  refine Keeps.new hM.fit ?_
  rw [plX_len]
  have := hM.may.1; have := hM.may.2.2.1; omega
/-- A machine that lies behind a memory. -/
structure Gen (M N : MS) (m : Mc) : Prop where
  mach : Mach N m
  len : M.length ≤ N.length
  fr : ∀ j, j < M.length → N[j]? = M[j]?
  own : ∀ j, m.own j → M.length ≤ j
  mid : M.length ≤ m.mid
theorem Gen.step {M N N' : MS} {m m' : Mc} {D : List Nat} (h : Gen M N m) (hd : Dr N N' m m' D) : Gen M N' m' := by
  have h1 := h.len
  have h2 := hd.len
  refine ⟨hd.mach, by omega, fun j hj => ?_, fun j hj => ?_, by rw [hd.sid.2.1]; exact h.mid⟩
  · rw [hd.fr j (by omega) fun ho => by have := h.own j ho; omega]; exact h.fr j hj
  · rcases hd.own j hj with h3 | h3
    · exact h.own j h3
    · omega
/-- A delivery, in a walk. -/
theorem S_dlv {base : Nat} {r : List AOp} {d : Option Nat} {env : Env} {M : MS} {D : List Nat} {R : Env → MS → List Nat → Prop} {a b : O} {m : Mc} {i : Int} (hM : Mach M m) (ha : a.ev env = .mptr m.id 0) (hb : b.ev env = .flat (.int .i64 i)) (hlo : ∀ j, m.own j → base ≤ j)
    (h : ∀ M' m' D', Dr M M' m m' D' → m'.pm = (dlv (plX m.l) m.L m.pm i).1 → WS pr base 0 r (updO env d (tupBC (dlv (plX m.l) m.L m.pm i).2.1 (dlv (plX m.l) m.L m.pm i).2.2)) M' D R) : WS pr base 0 (⟨d, .call 21 [a, b], none⟩ :: r) env M D R := by
  obtain ⟨out, h21, M', m', D', ho, hDr, hpm⟩ := t21 m i M hM
  have hD' : D'.filter (· < base) = [] := List.filter_eq_nil_iff.2 fun x hx => by have := hlo _ (hDr.drt x hx); simp; omega
  have h1 := h M' m' D' hDr hpm
  rcases ho with rfl | ⟨rfl, rfl, rfl⟩
  · refine S_0 (out := .x _ M' (D'.filter (· < base) ++ D)) ?_ (SO_x (by rw [hD', List.nil_append]; exact h1))
    simp only [evI, List.map_cons, List.map_nil, ha, hb, evI.callA, h21]
  · refine S_0 (out := .q _) ?_ (SO_q h1)
    simp only [evI, List.map_cons, List.map_nil, ha, hb, evI.callA, h21]
end Go.Proofs.Ytlcdafidoddefaa.Av
namespace Go.Proofs.Ytlcdafidoddefaa.Av
open Go.RowKit
set_option linter.unusedSimpArgs false
set_option linter.unusedVariables false
set_option maxHeartbeats 10000000
end Go.Proofs.Ytlcdafidoddefaa.Av
