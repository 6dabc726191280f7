/- The law BestOrder on the evaluator. -/
import Derived.Test.YtopiaiibpacmlaaS16
import Derived.Test.YtopiaiibpacmlaaD2
namespace Go.Proofs.Ytopiaiibpacmlaa.Av
open Go.RowKit
set_option linter.unusedSimpArgs false
set_option linter.unusedVariables false
set_option maxHeartbeats 10000000
theorem placeN_inj {L : List (List Int)} {p q : List Int} (hp : p ∈ L) (hq : q ∈ L) (h : place L p = place L q) : p = q := by
  unfold place at h
  rw [if_pos hp, if_pos hq] at h
  have h1 : L.idxOf p = L.idxOf q := by omega
  have h2 : L[L.idxOf p]'(List.idxOf_lt_length_of_mem hp) = p := List.getElem_idxOf _
  have h3 : L[L.idxOf q]'(List.idxOf_lt_length_of_mem hq) = q := List.getElem_idxOf _
  rw [← h2, ← h3]; simp only [h1]
theorem rnk_inj {L : List (List Int)} {p q : List Int} (hL : L.length ≤ 64) (hp : p = [] ∨ p ∈ L) (hq : q = [] ∨ q ∈ L) (h : rnk L p = rnk L q) : p = q := by
  have key : ∀ {r : List Int}, r ∈ L → place L r < 64 := fun {r} hr => by
    rcases place_le L r with h1 | ⟨h1, _⟩
    · omega
    · rw [h1] at hr; simp at hr
  unfold rnk at h
  by_cases h1 : p = []
  · by_cases h2 : q = []
    · rw [h1, h2]
    · rw [if_pos h1, if_neg h2] at h
      have := key (hq.resolve_left h2); omega
  · by_cases h2 : q = []
    · rw [if_neg h1, if_pos h2] at h
      have := key (hp.resolve_left h1); omega
    · rw [if_neg h1, if_neg h2] at h
      exact placeN_inj (hp.resolve_left h1) (hq.resolve_left h2) h
theorem rkF_get {L : List (List (List Int))} {a b : List (List Int)} : ∀ {k i}, rkF L a i k = rkF L b i k → ∀ v, i ≤ v → v < i + k → rnk (L.getD v []) (a.getD v []) = rnk (L.getD v []) (b.getD v [])
  | 0, i, _, v, h1, h2 => by omega
  | k + 1, i, h, v, h1, h2 => by
    simp only [rkF, List.cons.injEq] at h
    by_cases hv : v = i
    · subst hv; exact h.1
    · exact rkF_get h.2 v (by omega) (by omega)
theorem cmpS_eq {l : List Rks} {a b : List Pth} (ha : MayS l.length l a) (hb : MayS l.length l b) : cmpS (plX l) (pl a) (pl b) = 0 ↔ pl a = pl b := by
  obtain ⟨_, a1, a2, a3⟩ := mayS_n ha
  obtain ⟨_, b1, _, _⟩ := mayS_n hb
  unfold cmpS
  rw [lexI_eq (by rw [rkF_len, rkF_len])]
  constructor
  · intro h
    apply List.ext_getElem
    · rw [pl_len, pl_len]; omega
    intro v h1 h2
    rw [pl_len] at h1 h2
    rw [pl_get, pl_get]
    by_cases hv : v = 0
    · subst hv; rw [ha.2.2.1 h1, hb.2.2.1 h2]
    · have h3 := rkF_get h v (by omega) (by rw [plX_len]; omega)
      rw [pl_getD h1, pl_getD h2, plX_get (by omega)] at h3
      have h4 := (a3.2.2.2.2 v (by omega) (by omega)).1
      exact rnk_inj (by rw [paths_len]; exact h4) (ha.2.2.2 v h1 _ (by omega)) (hb.2.2.2 v h2 _ (by omega)) h3
  · intro h; rw [h]
theorem law10 (n : Int) (l : List Rks) (nl cd : Bool) (a b c : List Pth) (na ca nb cb nc cc : Bool) (hl : l.length ≤ 9223372036854775807) (ha : a.length ≤ 9223372036854775807) (hb : b.length ≤ 9223372036854775807) (hc : c.length ≤ 9223372036854775807) (M : MS) :
    ev pr 10 [.agg [.flat (.int .i64 n), .list 1 (l.map Rks.av) nl cd], .agg [.list 1 (a.map Pth.av) na ca, .list 1 (b.map Pth.av) nb cb, .list 1 (c.map Pth.av) nc cc]] M = some (.q (.flat (.bool true))) := by
  have h19 := lives22
  have h18a := fun M => t18 n l nl cd a na ca M hl ha
  have h18b := fun M => t18 n l nl cd b nb cb M hl hb
  have h18c := fun M => t18 n l nl cd c nc cc M hl hc
  refine ev_fn' A10 ?_
  by_cases hSa : SmallX l ∧ SmallS a
  · by_cases hSb : SmallX l ∧ SmallS b
    · by_cases hSc : SmallX l ∧ SmallS c
      · have a12 : a.length ≤ 1000 := by have := hSa.2.1; omega
        have b12 : b.length ≤ 1000 := by have := hSb.2.1; omega
        have c12 : c.length ≤ 1000 := by have := hSc.2.1; omega
        have hl12 := hSa.1.1
        have ab := fun M => t55 n l nl cd a b na ca nb cb M hSa.1 a12 b12
        have ba := fun M => t55 n l nl cd b a nb cb na ca M hSa.1 b12 a12
        have bc := fun M => t55 n l nl cd b c nb cb nc cc M hSa.1 b12 c12
        have ac := fun M => t55 n l nl cd a c na ca nc cc M hSa.1 a12 c12
        have h31 := fun M => t31 n l nl cd M (by omega)
        have h56 := fun M => t56 n l nl cd M hSa.1
        have g21a := fun M => t21 n l nl cd a na ca M hSa.1 a12
        have g21b := fun M => t21 n l nl cd b nb cb M hSa.1 b12
        have g21c := fun M => t21 n l nl cd c nc cc M hSa.1 c12
        have h24 := fun M => t24 a b na ca nb cb M ha
        simp only [hSa, hSb, hSc, and_self, decide_true] at h18a h18b h18c
        by_cases hm : MayX n l
        · obtain rfl : n = l.length := hm.2.2.1.symm
          have h1 : 1 ≤ l.length := by have := hm.1; omega
          have h57 := fun M => t57 l nl cd M h1 hl12
          have g24 := fun M => t24 (sta (l.length - 1)) (sta (l.length - 1)) false true false (decide (l.length = 1)) M (by rw [sta_len]; omega)
          simp only [hm, decide_true, if_true] at h31 h56 g24
          by_cases ma : MayS l.length l a
          · by_cases mb : MayS l.length l b
            · obtain ⟨_, a1, _, _⟩ := mayS_n ma
              obtain ⟨_, b1, _, _⟩ := mayS_n mb
              have h58 := fun M => t58 l nl cd a b na ca nb cb M hSa.1 a1 b1 h1
              have eab := cmpS_eq ma mb
              have anti : cmpS (plX l) (pl b) (pl a) = 0 - cmpS (plX l) (pl a) (pl b) := by
                have := lexI_anti (rkF (plX l) (pl a) 1 ((plX l).length - 1)) (rkF (plX l) (pl b) 1 ((plX l).length - 1))
                simp only [cmpS]; omega
              have rab := lexI_range (rkF (plX l) (pl a) 1 ((plX l).length - 1)) (rkF (plX l) (pl b) 1 ((plX l).length - 1))
              simp only [ma, mb, and_self, if_true, true_and, and_true, decide_true] at ab ba bc ac g21a g21b
              rw [anti] at ba
              by_cases mc : MayS l.length l c
              · have tr := lexI_trans (rkF (plX l) (pl a) 1 ((plX l).length - 1)) (rkF (plX l) (pl b) 1 ((plX l).length - 1)) (rkF (plX l) (pl c) 1 ((plX l).length - 1)) (by rw [rkF_len, rkF_len]) (by rw [rkF_len, rkF_len])
                simp only [mc, if_true, decide_true] at bc ac g21c
                change -1 ≤ cmpS (plX l) (pl a) (pl b) ∧ cmpS (plX l) (pl a) (pl b) ≤ 1 at rab
                change cmpS (plX l) (pl a) (pl b) ≤ 0 → cmpS (plX l) (pl b) (pl c) ≤ 0 → cmpS (plX l) (pl a) (pl c) ≤ 0 ∧ (cmpS (plX l) (pl a) (pl b) = 0 ∧ cmpS (plX l) (pl b) (pl c) = 0 ∨ cmpS (plX l) (pl a) (pl c) < 0) at tr
                generalize hx : cmpS (plX l) (pl a) (pl b) = x at *
                generalize hy : cmpS (plX l) (pl b) (pl c) = y at *
                generalize hz : cmpS (plX l) (pl a) (pl c) = z at *
                clear anti hm ma mb mc
                simp only [← eab] at h24
                clear eab
                repeat' (first | ((first | with_reducible apply S_0 | with_reducible apply S_q1 | with_reducible apply S_g | with_reducible apply S_c); exact sgc) | (with_reducible apply SO_q) | (with_reducible apply SG_t) | (with_reducible apply SG_f0) | (with_reducible apply SG_f1) | (with_reducible apply S_nil) | (with_reducible apply T_n) | (with_reducible apply W_seq) | (with_reducible apply W_region) | (with_reducible apply SO_x) | (with_reducible apply SC_t) | (with_reducible apply SC_f) | (with_reducible apply W_block) | (with_reducible apply W_ret) | (with_reducible apply W_skip) | (with_reducible apply W_exit) | (with_reducible apply T_r) | (with_reducible apply T_e) | (with_reducible apply B_n) | (with_reducible apply B_e) | (with_reducible apply B_ne; focus decide) | (with_reducible apply B_r) | (with_reducible apply R_e) | (with_reducible apply R_r) | (with_reducible apply H_e) | (with_reducible apply H_r) | (with_reducible apply G_e) | (with_reducible apply G_r) | (with_reducible apply SC_n) | (with_reducible apply SC_d <;> intro hc <;> try simp only [decide_eq_true_eq, decide_eq_false_iff_not, Classical.not_not, Bool.not_eq_true', Bool.not_eq_false'] at hc) | (with_reducible apply SG_d <;> intro hc <;> try simp only [decide_eq_true_eq, decide_eq_false_iff_not, Classical.not_not, Bool.not_eq_true', Bool.not_eq_false'] at hc) | (with_reducible apply SG_n <;> intro hc <;> try simp only [decide_eq_true_eq, decide_eq_false_iff_not, Classical.not_not, Bool.not_eq_true', Bool.not_eq_false'] at hc) | (with_reducible apply SC_b <;> intro hc <;> try simp only [decide_eq_true_eq, decide_eq_false_iff_not, Classical.not_not, Bool.not_eq_true', Bool.not_eq_false'] at hc) | (with_reducible apply SG_b <;> intro hc <;> try simp only [decide_eq_true_eq, decide_eq_false_iff_not, Classical.not_not, Bool.not_eq_true', Bool.not_eq_false'] at hc))
                all_goals first
                  | ((refine ⟨by first | exact .inr rfl | exact .inl rfl, ?_⟩; simp (disch := first | assumption | decide | omega | exact Pth.le _ | exact Rks.le _ | exact List.getElem_mem _ | exact allI_ints _ | exact allI_rks _ | exact allI_pths _ | exact Pth.nil _ | exact Rks.nil _ | (intro hh; simp only [Pth.nil _ hh, List.take_nil, List.drop_nil]; done) | (intro hh; simp only [Rks.nil _ hh, List.take_nil, List.drop_nil]; done) | (simp only [List.length_take, List.length_drop, List.length_append, List.length_cons, List.length_nil, List.length_replicate, List.length_map, ints_len]; omega)) only [resA, rvA, tupA, fin, frzV, frzTup, frzA, frz, isI, isI.all, Option.bind_some, go_sem, if_pos, if_neg, Nat.reduceBEq, Nat.reduceEqDiff, ↓reduceIte, Nat.reduceSub, Nat.reduceAdd, Int.reduceToNat, reduceCtorEq, Nat.reduceLeDiff, Nat.reduceLT, Nat.reduceMul, Nat.reduceDiv, Int.reduceLT, Int.reduceLE, Int.reduceEq, Int.reduceNe, Int.reduceAdd, Int.reduceSub, Int.reduceNeg, Int.reduceGT, Int.reduceGE, Int.reduceBEq, Int.reduceBNe, Int.reduceMul, *]); done)
                  | (exfalso; omega)
              · simp only [mc, if_false, decide_false] at bc ac g21c
                change -1 ≤ cmpS (plX l) (pl a) (pl b) ∧ cmpS (plX l) (pl a) (pl b) ≤ 1 at rab
                generalize hx : cmpS (plX l) (pl a) (pl b) = x at *
                clear anti hm ma mb
                simp only [← eab] at h24
                clear eab
                repeat' (first | ((first | with_reducible apply S_0 | with_reducible apply S_q1 | with_reducible apply S_g | with_reducible apply S_c); exact sgc) | (with_reducible apply SO_q) | (with_reducible apply SG_t) | (with_reducible apply SG_f0) | (with_reducible apply SG_f1) | (with_reducible apply S_nil) | (with_reducible apply T_n) | (with_reducible apply W_seq) | (with_reducible apply W_region) | (with_reducible apply SO_x) | (with_reducible apply SC_t) | (with_reducible apply SC_f) | (with_reducible apply W_block) | (with_reducible apply W_ret) | (with_reducible apply W_skip) | (with_reducible apply W_exit) | (with_reducible apply T_r) | (with_reducible apply T_e) | (with_reducible apply B_n) | (with_reducible apply B_e) | (with_reducible apply B_ne; focus decide) | (with_reducible apply B_r) | (with_reducible apply R_e) | (with_reducible apply R_r) | (with_reducible apply H_e) | (with_reducible apply H_r) | (with_reducible apply G_e) | (with_reducible apply G_r) | (with_reducible apply SC_n) | (with_reducible apply SC_d <;> intro hc <;> try simp only [decide_eq_true_eq, decide_eq_false_iff_not, Classical.not_not, Bool.not_eq_true', Bool.not_eq_false'] at hc) | (with_reducible apply SG_d <;> intro hc <;> try simp only [decide_eq_true_eq, decide_eq_false_iff_not, Classical.not_not, Bool.not_eq_true', Bool.not_eq_false'] at hc) | (with_reducible apply SG_n <;> intro hc <;> try simp only [decide_eq_true_eq, decide_eq_false_iff_not, Classical.not_not, Bool.not_eq_true', Bool.not_eq_false'] at hc) | (with_reducible apply SC_b <;> intro hc <;> try simp only [decide_eq_true_eq, decide_eq_false_iff_not, Classical.not_not, Bool.not_eq_true', Bool.not_eq_false'] at hc) | (with_reducible apply SG_b <;> intro hc <;> try simp only [decide_eq_true_eq, decide_eq_false_iff_not, Classical.not_not, Bool.not_eq_true', Bool.not_eq_false'] at hc))
                all_goals first
                  | ((refine ⟨by first | exact .inr rfl | exact .inl rfl, ?_⟩; simp (disch := first | assumption | decide | omega | exact Pth.le _ | exact Rks.le _ | exact List.getElem_mem _ | exact allI_ints _ | exact allI_rks _ | exact allI_pths _ | exact Pth.nil _ | exact Rks.nil _ | (intro hh; simp only [Pth.nil _ hh, List.take_nil, List.drop_nil]; done) | (intro hh; simp only [Rks.nil _ hh, List.take_nil, List.drop_nil]; done) | (simp only [List.length_take, List.length_drop, List.length_append, List.length_cons, List.length_nil, List.length_replicate, List.length_map, ints_len]; omega)) only [resA, rvA, tupA, fin, frzV, frzTup, frzA, frz, isI, isI.all, Option.bind_some, go_sem, if_pos, if_neg, Nat.reduceBEq, Nat.reduceEqDiff, ↓reduceIte, Nat.reduceSub, Nat.reduceAdd, Int.reduceToNat, reduceCtorEq, Nat.reduceLeDiff, Nat.reduceLT, Nat.reduceMul, Nat.reduceDiv, Int.reduceLT, Int.reduceLE, Int.reduceEq, Int.reduceNe, Int.reduceAdd, Int.reduceSub, Int.reduceNeg, Int.reduceGT, Int.reduceGE, Int.reduceBEq, Int.reduceBNe, Int.reduceMul, *]); done)
                  | (exfalso; omega)
            · simp only [mb, and_false, if_false, decide_false] at ab g21b
              clear ba bc ac
              repeat' (first | ((first | with_reducible apply S_0 | with_reducible apply S_q1 | with_reducible apply S_g | with_reducible apply S_c); exact sgc) | (with_reducible apply SO_q) | (with_reducible apply SG_t) | (with_reducible apply SG_f0) | (with_reducible apply SG_f1) | (with_reducible apply S_nil) | (with_reducible apply T_n) | (with_reducible apply W_seq) | (with_reducible apply W_region) | (with_reducible apply SO_x) | (with_reducible apply SC_t) | (with_reducible apply SC_f) | (with_reducible apply W_block) | (with_reducible apply W_ret) | (with_reducible apply W_skip) | (with_reducible apply W_exit) | (with_reducible apply T_r) | (with_reducible apply T_e) | (with_reducible apply B_n) | (with_reducible apply B_e) | (with_reducible apply B_ne; focus decide) | (with_reducible apply B_r) | (with_reducible apply R_e) | (with_reducible apply R_r) | (with_reducible apply H_e) | (with_reducible apply H_r) | (with_reducible apply G_e) | (with_reducible apply G_r) | (with_reducible apply SC_n) | (with_reducible apply SC_d <;> intro hc <;> try simp only [decide_eq_true_eq, decide_eq_false_iff_not, Classical.not_not, Bool.not_eq_true', Bool.not_eq_false'] at hc) | (with_reducible apply SG_d <;> intro hc <;> try simp only [decide_eq_true_eq, decide_eq_false_iff_not, Classical.not_not, Bool.not_eq_true', Bool.not_eq_false'] at hc) | (with_reducible apply SG_n <;> intro hc <;> try simp only [decide_eq_true_eq, decide_eq_false_iff_not, Classical.not_not, Bool.not_eq_true', Bool.not_eq_false'] at hc) | (with_reducible apply SC_b <;> intro hc <;> try simp only [decide_eq_true_eq, decide_eq_false_iff_not, Classical.not_not, Bool.not_eq_true', Bool.not_eq_false'] at hc) | (with_reducible apply SG_b <;> intro hc <;> try simp only [decide_eq_true_eq, decide_eq_false_iff_not, Classical.not_not, Bool.not_eq_true', Bool.not_eq_false'] at hc))
              all_goals first
                | ((refine ⟨by first | exact .inr rfl | exact .inl rfl, ?_⟩; simp (disch := first | assumption | decide | omega | exact Pth.le _ | exact Rks.le _ | exact List.getElem_mem _ | exact allI_ints _ | exact allI_rks _ | exact allI_pths _ | exact Pth.nil _ | exact Rks.nil _ | (intro hh; simp only [Pth.nil _ hh, List.take_nil, List.drop_nil]; done) | (intro hh; simp only [Rks.nil _ hh, List.take_nil, List.drop_nil]; done) | (simp only [List.length_take, List.length_drop, List.length_append, List.length_cons, List.length_nil, List.length_replicate, List.length_map, ints_len]; omega)) only [resA, rvA, tupA, fin, frzV, frzTup, frzA, frz, isI, isI.all, Option.bind_some, go_sem, if_pos, if_neg, Nat.reduceBEq, Nat.reduceEqDiff, ↓reduceIte, Nat.reduceSub, Nat.reduceAdd, Int.reduceToNat, reduceCtorEq, Nat.reduceLeDiff, Nat.reduceLT, Nat.reduceMul, Nat.reduceDiv, Int.reduceLT, Int.reduceLE, Int.reduceEq, Int.reduceNe, Int.reduceAdd, Int.reduceSub, Int.reduceNeg, Int.reduceGT, Int.reduceGE, Int.reduceBEq, Int.reduceBNe, Int.reduceMul, *]); done)
                | (exfalso; omega)
          · simp only [ma, false_and, if_false, decide_false] at ab g21a
            clear ba bc ac
            repeat' (first | ((first | with_reducible apply S_0 | with_reducible apply S_q1 | with_reducible apply S_g | with_reducible apply S_c); exact sgc) | (with_reducible apply SO_q) | (with_reducible apply SG_t) | (with_reducible apply SG_f0) | (with_reducible apply SG_f1) | (with_reducible apply S_nil) | (with_reducible apply T_n) | (with_reducible apply W_seq) | (with_reducible apply W_region) | (with_reducible apply SO_x) | (with_reducible apply SC_t) | (with_reducible apply SC_f) | (with_reducible apply W_block) | (with_reducible apply W_ret) | (with_reducible apply W_skip) | (with_reducible apply W_exit) | (with_reducible apply T_r) | (with_reducible apply T_e) | (with_reducible apply B_n) | (with_reducible apply B_e) | (with_reducible apply B_ne; focus decide) | (with_reducible apply B_r) | (with_reducible apply R_e) | (with_reducible apply R_r) | (with_reducible apply H_e) | (with_reducible apply H_r) | (with_reducible apply G_e) | (with_reducible apply G_r) | (with_reducible apply SC_n) | (with_reducible apply SC_d <;> intro hc <;> try simp only [decide_eq_true_eq, decide_eq_false_iff_not, Classical.not_not, Bool.not_eq_true', Bool.not_eq_false'] at hc) | (with_reducible apply SG_d <;> intro hc <;> try simp only [decide_eq_true_eq, decide_eq_false_iff_not, Classical.not_not, Bool.not_eq_true', Bool.not_eq_false'] at hc) | (with_reducible apply SG_n <;> intro hc <;> try simp only [decide_eq_true_eq, decide_eq_false_iff_not, Classical.not_not, Bool.not_eq_true', Bool.not_eq_false'] at hc) | (with_reducible apply SC_b <;> intro hc <;> try simp only [decide_eq_true_eq, decide_eq_false_iff_not, Classical.not_not, Bool.not_eq_true', Bool.not_eq_false'] at hc) | (with_reducible apply SG_b <;> intro hc <;> try simp only [decide_eq_true_eq, decide_eq_false_iff_not, Classical.not_not, Bool.not_eq_true', Bool.not_eq_false'] at hc))
            all_goals first
              | ((refine ⟨by first | exact .inr rfl | exact .inl rfl, ?_⟩; simp (disch := first | assumption | decide | omega | exact Pth.le _ | exact Rks.le _ | exact List.getElem_mem _ | exact allI_ints _ | exact allI_rks _ | exact allI_pths _ | exact Pth.nil _ | exact Rks.nil _ | (intro hh; simp only [Pth.nil _ hh, List.take_nil, List.drop_nil]; done) | (intro hh; simp only [Rks.nil _ hh, List.take_nil, List.drop_nil]; done) | (simp only [List.length_take, List.length_drop, List.length_append, List.length_cons, List.length_nil, List.length_replicate, List.length_map, ints_len]; omega)) only [resA, rvA, tupA, fin, frzV, frzTup, frzA, frz, isI, isI.all, Option.bind_some, go_sem, if_pos, if_neg, Nat.reduceBEq, Nat.reduceEqDiff, ↓reduceIte, Nat.reduceSub, Nat.reduceAdd, Int.reduceToNat, reduceCtorEq, Nat.reduceLeDiff, Nat.reduceLT, Nat.reduceMul, Nat.reduceDiv, Int.reduceLT, Int.reduceLE, Int.reduceEq, Int.reduceNe, Int.reduceAdd, Int.reduceSub, Int.reduceNeg, Int.reduceGT, Int.reduceGE, Int.reduceBEq, Int.reduceBNe, Int.reduceMul, *]); done)
              | (exfalso; omega)
        · have ma : ¬ MayS n l a := fun h => hm h.1
          simp only [hm, ma, false_and, decide_false, if_false] at h31 h56 ab
          clear ba bc ac g21a g21b g21c
          repeat' (first | ((first | with_reducible apply S_0 | with_reducible apply S_q1 | with_reducible apply S_g | with_reducible apply S_c); exact sgc) | (with_reducible apply SO_q) | (with_reducible apply SG_t) | (with_reducible apply SG_f0) | (with_reducible apply SG_f1) | (with_reducible apply S_nil) | (with_reducible apply T_n) | (with_reducible apply W_seq) | (with_reducible apply W_region) | (with_reducible apply SO_x) | (with_reducible apply SC_t) | (with_reducible apply SC_f) | (with_reducible apply W_block) | (with_reducible apply W_ret) | (with_reducible apply W_skip) | (with_reducible apply W_exit) | (with_reducible apply T_r) | (with_reducible apply T_e) | (with_reducible apply B_n) | (with_reducible apply B_e) | (with_reducible apply B_ne; focus decide) | (with_reducible apply B_r) | (with_reducible apply R_e) | (with_reducible apply R_r) | (with_reducible apply H_e) | (with_reducible apply H_r) | (with_reducible apply G_e) | (with_reducible apply G_r) | (with_reducible apply SC_n) | (with_reducible apply SC_d <;> intro hc <;> try simp only [decide_eq_true_eq, decide_eq_false_iff_not, Classical.not_not, Bool.not_eq_true', Bool.not_eq_false'] at hc) | (with_reducible apply SG_d <;> intro hc <;> try simp only [decide_eq_true_eq, decide_eq_false_iff_not, Classical.not_not, Bool.not_eq_true', Bool.not_eq_false'] at hc) | (with_reducible apply SG_n <;> intro hc <;> try simp only [decide_eq_true_eq, decide_eq_false_iff_not, Classical.not_not, Bool.not_eq_true', Bool.not_eq_false'] at hc) | (with_reducible apply SC_b <;> intro hc <;> try simp only [decide_eq_true_eq, decide_eq_false_iff_not, Classical.not_not, Bool.not_eq_true', Bool.not_eq_false'] at hc) | (with_reducible apply SG_b <;> intro hc <;> try simp only [decide_eq_true_eq, decide_eq_false_iff_not, Classical.not_not, Bool.not_eq_true', Bool.not_eq_false'] at hc))
          all_goals first
            | ((refine ⟨by first | exact .inr rfl | exact .inl rfl, ?_⟩; simp (disch := first | assumption | decide | omega | exact Pth.le _ | exact Rks.le _ | exact List.getElem_mem _ | exact allI_ints _ | exact allI_rks _ | exact allI_pths _ | exact Pth.nil _ | exact Rks.nil _ | (intro hh; simp only [Pth.nil _ hh, List.take_nil, List.drop_nil]; done) | (intro hh; simp only [Rks.nil _ hh, List.take_nil, List.drop_nil]; done) | (simp only [List.length_take, List.length_drop, List.length_append, List.length_cons, List.length_nil, List.length_replicate, List.length_map, ints_len]; omega)) only [resA, rvA, tupA, fin, frzV, frzTup, frzA, frz, isI, isI.all, Option.bind_some, go_sem, if_pos, if_neg, Nat.reduceBEq, Nat.reduceEqDiff, ↓reduceIte, Nat.reduceSub, Nat.reduceAdd, Int.reduceToNat, reduceCtorEq, Nat.reduceLeDiff, Nat.reduceLT, Nat.reduceMul, Nat.reduceDiv, Int.reduceLT, Int.reduceLE, Int.reduceEq, Int.reduceNe, Int.reduceAdd, Int.reduceSub, Int.reduceNeg, Int.reduceGT, Int.reduceGE, Int.reduceBEq, Int.reduceBNe, Int.reduceMul, *]); done)
            | (exfalso; omega)
      · simp only [decide_eq_true hSa, decide_eq_true hSb, decide_eq_false hSc] at h18a h18b h18c
        repeat' (first | ((first | with_reducible apply S_0 | with_reducible apply S_q1 | with_reducible apply S_g | with_reducible apply S_c); exact sgc) | (with_reducible apply SO_q) | (with_reducible apply SG_t) | (with_reducible apply SG_f0) | (with_reducible apply SG_f1) | (with_reducible apply S_nil) | (with_reducible apply T_n) | (with_reducible apply W_seq) | (with_reducible apply W_region) | (with_reducible apply SO_x) | (with_reducible apply SC_t) | (with_reducible apply SC_f) | (with_reducible apply W_block) | (with_reducible apply W_ret) | (with_reducible apply W_skip) | (with_reducible apply W_exit) | (with_reducible apply T_r) | (with_reducible apply T_e) | (with_reducible apply B_n) | (with_reducible apply B_e) | (with_reducible apply B_ne; focus decide) | (with_reducible apply B_r) | (with_reducible apply R_e) | (with_reducible apply R_r) | (with_reducible apply H_e) | (with_reducible apply H_r) | (with_reducible apply G_e) | (with_reducible apply G_r) | (with_reducible apply SC_n) | (with_reducible apply SC_d <;> intro hc <;> try simp only [decide_eq_true_eq, decide_eq_false_iff_not, Classical.not_not, Bool.not_eq_true', Bool.not_eq_false'] at hc) | (with_reducible apply SG_d <;> intro hc <;> try simp only [decide_eq_true_eq, decide_eq_false_iff_not, Classical.not_not, Bool.not_eq_true', Bool.not_eq_false'] at hc) | (with_reducible apply SG_n <;> intro hc <;> try simp only [decide_eq_true_eq, decide_eq_false_iff_not, Classical.not_not, Bool.not_eq_true', Bool.not_eq_false'] at hc) | (with_reducible apply SC_b <;> intro hc <;> try simp only [decide_eq_true_eq, decide_eq_false_iff_not, Classical.not_not, Bool.not_eq_true', Bool.not_eq_false'] at hc) | (with_reducible apply SG_b <;> intro hc <;> try simp only [decide_eq_true_eq, decide_eq_false_iff_not, Classical.not_not, Bool.not_eq_true', Bool.not_eq_false'] at hc))
        (refine ⟨by first | exact .inr rfl | exact .inl rfl, ?_⟩; simp (disch := first | assumption | decide | omega | exact Pth.le _ | exact Rks.le _ | exact List.getElem_mem _ | exact allI_ints _ | exact allI_rks _ | exact allI_pths _ | exact Pth.nil _ | exact Rks.nil _ | (intro hh; simp only [Pth.nil _ hh, List.take_nil, List.drop_nil]; done) | (intro hh; simp only [Rks.nil _ hh, List.take_nil, List.drop_nil]; done) | (simp only [List.length_take, List.length_drop, List.length_append, List.length_cons, List.length_nil, List.length_replicate, List.length_map, ints_len]; omega)) only [resA, rvA, tupA, fin, frzV, frzTup, frzA, frz, isI, isI.all, Option.bind_some, go_sem, if_pos, if_neg, Nat.reduceBEq, Nat.reduceEqDiff, ↓reduceIte, Nat.reduceSub, Nat.reduceAdd, Int.reduceToNat, reduceCtorEq, Nat.reduceLeDiff, Nat.reduceLT, Nat.reduceMul, Nat.reduceDiv, Int.reduceLT, Int.reduceLE, Int.reduceEq, Int.reduceNe, Int.reduceAdd, Int.reduceSub, Int.reduceNeg, Int.reduceGT, Int.reduceGE, Int.reduceBEq, Int.reduceBNe, Int.reduceMul, *])
    · simp only [decide_eq_true hSa, decide_eq_false hSb] at h18a h18b
      repeat' (first | ((first | with_reducible apply S_0 | with_reducible apply S_q1 | with_reducible apply S_g | with_reducible apply S_c); exact sgc) | (with_reducible apply SO_q) | (with_reducible apply SG_t) | (with_reducible apply SG_f0) | (with_reducible apply SG_f1) | (with_reducible apply S_nil) | (with_reducible apply T_n) | (with_reducible apply W_seq) | (with_reducible apply W_region) | (with_reducible apply SO_x) | (with_reducible apply SC_t) | (with_reducible apply SC_f) | (with_reducible apply W_block) | (with_reducible apply W_ret) | (with_reducible apply W_skip) | (with_reducible apply W_exit) | (with_reducible apply T_r) | (with_reducible apply T_e) | (with_reducible apply B_n) | (with_reducible apply B_e) | (with_reducible apply B_ne; focus decide) | (with_reducible apply B_r) | (with_reducible apply R_e) | (with_reducible apply R_r) | (with_reducible apply H_e) | (with_reducible apply H_r) | (with_reducible apply G_e) | (with_reducible apply G_r) | (with_reducible apply SC_n) | (with_reducible apply SC_d <;> intro hc <;> try simp only [decide_eq_true_eq, decide_eq_false_iff_not, Classical.not_not, Bool.not_eq_true', Bool.not_eq_false'] at hc) | (with_reducible apply SG_d <;> intro hc <;> try simp only [decide_eq_true_eq, decide_eq_false_iff_not, Classical.not_not, Bool.not_eq_true', Bool.not_eq_false'] at hc) | (with_reducible apply SG_n <;> intro hc <;> try simp only [decide_eq_true_eq, decide_eq_false_iff_not, Classical.not_not, Bool.not_eq_true', Bool.not_eq_false'] at hc) | (with_reducible apply SC_b <;> intro hc <;> try simp only [decide_eq_true_eq, decide_eq_false_iff_not, Classical.not_not, Bool.not_eq_true', Bool.not_eq_false'] at hc) | (with_reducible apply SG_b <;> intro hc <;> try simp only [decide_eq_true_eq, decide_eq_false_iff_not, Classical.not_not, Bool.not_eq_true', Bool.not_eq_false'] at hc))
      (refine ⟨by first | exact .inr rfl | exact .inl rfl, ?_⟩; simp (disch := first | assumption | decide | omega | exact Pth.le _ | exact Rks.le _ | exact List.getElem_mem _ | exact allI_ints _ | exact allI_rks _ | exact allI_pths _ | exact Pth.nil _ | exact Rks.nil _ | (intro hh; simp only [Pth.nil _ hh, List.take_nil, List.drop_nil]; done) | (intro hh; simp only [Rks.nil _ hh, List.take_nil, List.drop_nil]; done) | (simp only [List.length_take, List.length_drop, List.length_append, List.length_cons, List.length_nil, List.length_replicate, List.length_map, ints_len]; omega)) only [resA, rvA, tupA, fin, frzV, frzTup, frzA, frz, isI, isI.all, Option.bind_some, go_sem, if_pos, if_neg, Nat.reduceBEq, Nat.reduceEqDiff, ↓reduceIte, Nat.reduceSub, Nat.reduceAdd, Int.reduceToNat, reduceCtorEq, Nat.reduceLeDiff, Nat.reduceLT, Nat.reduceMul, Nat.reduceDiv, Int.reduceLT, Int.reduceLE, Int.reduceEq, Int.reduceNe, Int.reduceAdd, Int.reduceSub, Int.reduceNeg, Int.reduceGT, Int.reduceGE, Int.reduceBEq, Int.reduceBNe, Int.reduceMul, *])
  · simp only [decide_eq_false hSa] at h18a
    repeat' (first | ((first | with_reducible apply S_0 | with_reducible apply S_q1 | with_reducible apply S_g | with_reducible apply S_c); exact sgc) | (with_reducible apply SO_q) | (with_reducible apply SG_t) | (with_reducible apply SG_f0) | (with_reducible apply SG_f1) | (with_reducible apply S_nil) | (with_reducible apply T_n) | (with_reducible apply W_seq) | (with_reducible apply W_region) | (with_reducible apply SO_x) | (with_reducible apply SC_t) | (with_reducible apply SC_f) | (with_reducible apply W_block) | (with_reducible apply W_ret) | (with_reducible apply W_skip) | (with_reducible apply W_exit) | (with_reducible apply T_r) | (with_reducible apply T_e) | (with_reducible apply B_n) | (with_reducible apply B_e) | (with_reducible apply B_ne; focus decide) | (with_reducible apply B_r) | (with_reducible apply R_e) | (with_reducible apply R_r) | (with_reducible apply H_e) | (with_reducible apply H_r) | (with_reducible apply G_e) | (with_reducible apply G_r) | (with_reducible apply SC_n) | (with_reducible apply SC_d <;> intro hc <;> try simp only [decide_eq_true_eq, decide_eq_false_iff_not, Classical.not_not, Bool.not_eq_true', Bool.not_eq_false'] at hc) | (with_reducible apply SG_d <;> intro hc <;> try simp only [decide_eq_true_eq, decide_eq_false_iff_not, Classical.not_not, Bool.not_eq_true', Bool.not_eq_false'] at hc) | (with_reducible apply SG_n <;> intro hc <;> try simp only [decide_eq_true_eq, decide_eq_false_iff_not, Classical.not_not, Bool.not_eq_true', Bool.not_eq_false'] at hc) | (with_reducible apply SC_b <;> intro hc <;> try simp only [decide_eq_true_eq, decide_eq_false_iff_not, Classical.not_not, Bool.not_eq_true', Bool.not_eq_false'] at hc) | (with_reducible apply SG_b <;> intro hc <;> try simp only [decide_eq_true_eq, decide_eq_false_iff_not, Classical.not_not, Bool.not_eq_true', Bool.not_eq_false'] at hc))
    (refine ⟨by first | exact .inr rfl | exact .inl rfl, ?_⟩; simp (disch := first | assumption | decide | omega | exact Pth.le _ | exact Rks.le _ | exact List.getElem_mem _ | exact allI_ints _ | exact allI_rks _ | exact allI_pths _ | exact Pth.nil _ | exact Rks.nil _ | (intro hh; simp only [Pth.nil _ hh, List.take_nil, List.drop_nil]; done) | (intro hh; simp only [Rks.nil _ hh, List.take_nil, List.drop_nil]; done) | (simp only [List.length_take, List.length_drop, List.length_append, List.length_cons, List.length_nil, List.length_replicate, List.length_map, ints_len]; omega)) only [resA, rvA, tupA, fin, frzV, frzTup, frzA, frz, isI, isI.all, Option.bind_some, go_sem, if_pos, if_neg, Nat.reduceBEq, Nat.reduceEqDiff, ↓reduceIte, Nat.reduceSub, Nat.reduceAdd, Int.reduceToNat, reduceCtorEq, Nat.reduceLeDiff, Nat.reduceLT, Nat.reduceMul, Nat.reduceDiv, Int.reduceLT, Int.reduceLE, Int.reduceEq, Int.reduceNe, Int.reduceAdd, Int.reduceSub, Int.reduceNeg, Int.reduceGT, Int.reduceGE, Int.reduceBEq, Int.reduceBNe, Int.reduceMul, *])
theorem state3_arg {x : AV} (h : (DT.rep 3 dtState).Arg x) : ∃ (a b c : List Pth) (na ca nb cb nc cc : Bool), x = .agg [.list 1 (a.map Pth.av) na ca, .list 1 (b.map Pth.av) nb cb, .list 1 (c.map Pth.av) nc cc] ∧ a.length ≤ 9223372036854775807 ∧ b.length ≤ 9223372036854775807 ∧ c.length ≤ 9223372036854775807 := by
  obtain ⟨xs, rfl, rows, rfl, h1, h2⟩ := h
  match rows, h1, h2 with
  | [r1, r2, r3], _, h2 =>
    have key : ∀ r ∈ [r1, r2, r3], ∃ (s : List Pth) (ns cs : Bool), r = [.list 1 (s.map Pth.av) ns cs] ∧ s.length ≤ 9223372036854775807 := by
      intro r hr
      have h3 := h2 r hr
      obtain ⟨rows, nl, cd, h4, h5⟩ := id h3
      subst h4
      obtain ⟨s, ns, cs, h6, h7⟩ := state_arg (x := .list 1 rows.flatten nl cd) h3
      exact ⟨s, ns, cs, by rw [h6], h7⟩
    obtain ⟨a, na, ca, rfl, ha⟩ := key r1 (by simp)
    obtain ⟨b, nb, cb, rfl, hb⟩ := key r2 (by simp)
    obtain ⟨c, nc, cc, rfl, hc⟩ := key r3 (by simp)
    exact ⟨a, b, c, na, ca, nb, cb, nc, cc, rfl, ha, hb, hc⟩
theorem law_bestOrder (x0 x1 : AV) (h0 : dtInst.Arg x0) (h1 : (DT.rep 3 dtState).Arg x1) : ev pr 10 [x0, x1] [] = some (.q (.flat (.bool true))) := by
  obtain ⟨n, l, nl, cd, rfl, hl⟩ := inst_arg h0
  obtain ⟨a, b, c, na, ca, nb, cb, nc, cc, rfl, ha, hb, hc⟩ := state3_arg h1
  exact law10 n l nl cd a b c na ca nb cb nc cc hl ha hb hc []
end Go.Proofs.Ytopiaiibpacmlaa.Av
