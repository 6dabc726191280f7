/- The first of the stable states. -/
import Derived.Test.YtopiaiibpacmlaaX13
import Derived.Test.YtopiaiibpacmlaaX10
import Derived.Test.YtopiaiibpacmlaaX5
namespace Go.Proofs.Ytopiaiibpacmlaa.Av
open Go.RowKit
set_option linter.unusedSimpArgs false
set_option linter.unusedVariables false
set_option maxHeartbeats 10000000
/-- What the first ones are. -/
def someF (m : Int) (E : List (List Pa)) : List (List Pa) := if 0 < m then E.take m.toNat else E
theorem yS_0 {m : Int} {B : Nat} {M : MS} (h : M.length = B + 11) (hL : M[B + 10]? = some (some [.flat (.int .i64 0), .flat (.int .i64 0)])) (h1 : M[B + 1]? = some (some [.flat (.int .i64 m)])) (h2 : M[B + 2]? = some (some [.list 1 [] true true]))
    (h3 : M[B + 3]? = some (some [.flat (.int .i64 0)])) (h4 : M[B + 4]? = some (some [.flat (.int .i64 0)])) (h7 : M[B + 7]? = some (some [.mptr (B + 6) 0])) (h5 : M[B + 8]? = some (some [.list 1 [] true true])) : YS m (B + 6) (B + 10) (B + 1) (B + 2) (B + 3) (B + 4) (B + 7) (B + 8) M false [] [B + 10, B + 1, B + 2, B + 3, B + 4, B + 7, B + 8] :=
  ⟨.list 1 [] true true, [], 0, ⟨hL, h1, h2, h3, h4, h7, h5, .inl ⟨rfl, rfl⟩, rfl, fun i hi => by cases hi⟩, rfl⟩
theorem t100 {n m st : Int} {l : List Rks} {nl cd : Bool} {M : MS} (hS : SmallX l) (hst : st ≤ 9223372036854775807) (hm2 : m ≤ 1000000) (hbd : MayX n l → (fdsT (trX l)).length ≤ 3000 ∧ (stpT (trX l) : Int) ≤ st) :
    ∃ out, ev pr 100 [.agg [.flat (.int .i64 n), .list 1 (l.map Rks.av) nl cd], .flat (.int .i64 m), .flat (.int .i64 st)] M = some out ∧ ∃ (fs : List Sta) (n' c' : Bool) (K E : Int), out = .q (.tup [.list 1 (fs.map Sta.av) n' c', .flat (.int .i64 K), .flat (.int .i64 E)]) ∧
      (¬ (MayX n l ∧ 0 ≤ st) → fs = [] ∧ E = 1) ∧ (MayX n l ∧ 0 ≤ st → fs.map Sta.l = someF m (fdsT (trX l)) ∧ E = 0) := by
  have h92 := fun M => t92 n l nl cd st M hS
  by_cases hX : MayX n l ∧ 0 ≤ st
  · have hXX := hX
    simp only [if_pos hX] at h92
    obtain ⟨hX, h0⟩ := hX
    obtain ⟨hb1, hsb⟩ := hbd hX
    obtain rfl : n = l.length := hX.2.2.1.symm
    have h93 := t93
    refine ev_fnE A100 ?_
    repeat' (first | ((with_reducible first | apply S_0 | apply S_q1 | apply S_g | apply S_c); exact sgc) | (with_reducible first | apply SO_q | apply SG_t | apply SG_f0 | apply SG_f1 | apply S_nil | apply T_n | apply W_seq | apply W_region | apply SO_x | apply SC_t | apply SC_f | apply W_block | apply W_ret | apply W_skip | apply W_exit | apply T_r | apply T_e | apply B_n | apply B_e) | (with_reducible apply B_ne; focus decide) | (with_reducible first | apply B_r | apply R_e | apply R_r | apply H_e | apply H_r | apply G_e | apply G_r) | (with_reducible apply SC_n) | ((with_reducible first | apply SC_d | apply SG_d | apply SG_n | apply SC_b | apply SG_b) <;> intro hc <;> try simp only [decide_eq_true_eq, decide_eq_false_iff_not, Classical.not_not, Bool.not_eq_true', Bool.not_eq_false'] at hc))
    refine S_putX (off := 0) (y := .mptr (M.length + 6) 0) (by exact svc) (by exact svc) rfl (ap_get _ _ 7) (by simp) ?_
    intro m1 p1 p2 p3
    rw [dirt_o (by omega)]
    have p1' : m1.length = M.length + 8 := by rw [p1]; simp
    have hq : ∀ G : MS, (m1 ++ G)[M.length + 7]? = some (some [.mptr (M.length + 6) 0]) := fun G => by rw [List.getElem?_append_left (get_lt p2)]; exact p2
    have hA := fun k (hk : M.length + k ≠ M.length + 7) => (p3 (M.length + k) hk).trans (ap_get M _ k)
    have a1 := hA 1 (by omega)
    have a2 := hA 2 (by omega)
    have a3 := hA 3 (by omega)
    have a4 := hA 4 (by omega)
    have a6 := hA 6 (by omega)
    simp only [List.getElem?_cons_succ, List.getElem?_cons_zero] at a1 a2 a3 a4 a6
    clear hA p3 p1
    obtain ⟨M9, hM9⟩ : ∃ M9 : MS, M9 = m1 ++ [some [.list 1 [] true true], some [.mptr (M.length + 6) 0], some [.flat (.int .i64 0), .flat (.int .i64 0)]] := ⟨_, rfl⟩
    have hM9l : M9.length = M.length + 11 := by rw [hM9, List.length_append, p1']; rfl
    have hg : ∀ {i : Nat} {x : Option (List AV)}, m1[i]? = some x → M9[i]? = some x := fun h => by rw [hM9, List.getElem?_append_left (get_lt h)]; exact h
    have hg8 : ∀ k : Nat, M9[M.length + 8 + k]? = [some [AV.list 1 [] true true], some [.mptr (M.length + 6) 0], some [.flat (.int .i64 0), .flat (.int .i64 0)]][k]? := fun k => by
      rw [hM9, ← p1']; exact ap_get _ _ k
    have hY := yldS (P := M.length + 6) (l := l) (nl := nl) (cd := cd) (most := st) (m := m) (Lid := M.length + 10) (B1 := M.length + 1) (R0 := M.length + 2) (R1 := M.length + 3) (R2 := M.length + 4) (Z := M.length + 7) (L := M.length + 8) (by omega) (by omega) (by omega) (by omega) (by omega) (by omega)
    have hB : Bef (YS m (M.length + 6) (M.length + 10) (M.length + 1) (M.length + 2) (M.length + 3) (M.length + 4) (M.length + 7) (M.length + 8)) (M.length + 6) l nl cd st M9 sv0 [orP] 0 [] [M.length + 10, M.length + 1, M.length + 2, M.length + 3, M.length + 4, M.length + 7, M.length + 8] :=
      ⟨hg a6, .inl rfl, yS_0 hM9l (hg8 2) (hg a1) (hg a2) (hg a3) (hg a4) (hg p2) (hg8 0), by simp, fun i hi => by cases hi⟩
    obtain ⟨out, h118, M2, D2, sv2, F2, rfl, hp⟩ := t118 hY hX hS hst (hg8 1) h0 hb1 hB
    have hra := run_some (m := m) (most := st) (trX l) ⟨0, []⟩ (by simpa using hsb) (by simp)
    simp only [Int.ofNat_zero, Int.zero_add, List.length_nil, Nat.zero_add, List.nil_append, Int.natCast_zero] at hra
    obtain ⟨r, hr⟩ : ∃ r, r = runT st (ySome m) (trX l) ⟨0, []⟩ := ⟨_, rfl⟩
    have hp' : Pst (YS m (M.length + 6) (M.length + 10) (M.length + 1) (M.length + 2) (M.length + 3) (M.length + 4) (M.length + 7) (M.length + 8)) (M.length + 6) l nl cd st M9 M2 sv0 [orP] [M.length + 10, M.length + 1, M.length + 2, M.length + 3, M.length + 4, M.length + 7, M.length + 8] D2 r sv2 F2 := by rw [hr]; exact hp
    rw [← hr] at hra
    obtain ⟨fv, fs, K, hx, hF2⟩ := hp'.yi
    have hfv : ∀ i, idOf fv = some i → M.length + 11 ≤ i := fun i hi => by
      have := (hp'.ff i (by rw [hF2]; exact List.mem_append_right _ (mem_idOf.2 hi))).resolve_left (hx.ne i hi)
      omega
    clear hF2
    have hD2 : List.filter (fun x => decide (x < M.length)) D2 = [] := filter_none fun i hi => by
      rcases Nat.lt_or_ge i M9.length with h | h
      · rcases hp'.dd i hi h with h | h | h
        · omega
        · cases h
        · simp only [List.mem_cons, List.not_mem_nil, or_false] at h
          omega
      · omega
    have hans : ∃ b, decide (r.1 = .no) = b ∧ decide (r.1 = .full) = false ∧ r.2.a = someF m (fdsT (trX l)) := by
      refine ⟨_, rfl, ?_⟩
      by_cases hc : 0 < m ∧ m ≤ ((fdsT (trX l)).length : Int)
      · obtain ⟨k1, k2⟩ := hra.1 hc
        rw [k1, k2, someF, if_pos hc.1]; exact ⟨rfl, rfl⟩
      · obtain ⟨k1, k2⟩ := hra.2 hc
        refine ⟨by rw [k1]; rfl, ?_⟩
        rw [k2, someF]
        split
        · rw [List.take_of_length_le (by omega)]
        · rfl
    obtain ⟨b, hb, hf, hac2⟩ := hans
    have hlid := hx.lid
    have hPat := hp'.at_
    have hLat := hx.l
    have hr0 := hx.r0
    have hr1 := hx.r1
    have hr2 := hx.r2
    have hzz := hx.z
    have hM2l := hp'.len
    have hrow := hx.row
    have hac : fs.map Sta.l = someF m (fdsT (trX l)) := hx.ac.trans hac2
    have hne := hx.ne
    unfold zc at hPat
    rw [hb] at hlid hr0
    rw [hf] at hPat
    rw [hM9] at h118
    have hno : ∀ M3 : MS, (M3 = M2.set (M.length + 10) (some [.flat (.int .i64 3), .flat (.int .i64 (if b then 1 else 0))])) → M3.length = M2.length ∧ ∀ i, i ≠ M.length + 10 → M3[i]? = M2[i]? := fun M3 h => ⟨by rw [h]; simp, fun i hi => by rw [h]; exact set_get hi⟩
    clear hbd hb1 hsb hB hY hx hp hp' hg hg8 hM9 hX hS hr hra hb hf hac2 a1 a2 a3 a4 a6
    repeat' (first | ((with_reducible first | apply S_0 | apply S_q1 | apply S_g | apply S_c); exact sgc) | (with_reducible first | apply SO_q | apply SG_t | apply SG_f0 | apply SG_f1 | apply S_nil | apply T_n | apply W_seq | apply W_region | apply SO_x | apply SC_t | apply SC_f | apply W_block | apply W_ret | apply W_skip | apply W_exit | apply T_r | apply T_e | apply B_n | apply B_e) | (with_reducible apply B_ne; focus decide) | (with_reducible first | apply B_r | apply R_e | apply R_r | apply H_e | apply H_r | apply G_e | apply G_r) | (with_reducible apply SC_n) | ((with_reducible first | apply SC_d | apply SG_d | apply SG_n | apply SC_b | apply SG_b) <;> intro hc <;> try simp only [decide_eq_true_eq, decide_eq_false_iff_not, Classical.not_not, Bool.not_eq_true', Bool.not_eq_false'] at hc))
    refine W_range (f := 118) (caps := [.mptr (M.length + 9) 0]) (x := .tup []) (M' := M2) (D' := D2) (st := if b then 2 else 0) (pd := if b then 1 else 0) (by exact svc) (by
      simp only [List.map_cons, List.map_nil, List.length_append, List.length_cons, List.length_nil, List.append_assoc, List.cons_append, List.nil_append]
      (simp (disch := first | assumption | decide | omega | exact Pth.le _ | exact Rks.le _ | exact List.getElem_mem _ | exact allI_ints _ | exact allI_rks _ | exact allI_pths _ | exact Pth.nil _ | exact Rks.nil _ | (intro hh; simp only [Pth.nil _ hh, List.take_nil, List.drop_nil]; done) | (intro hh; simp only [Rks.nil _ hh, List.take_nil, List.drop_nil]; done) | (simp only [List.length_take, List.length_drop, List.length_append, List.length_cons, List.length_nil, List.length_replicate, List.length_map, ints_len]; omega)) only [go_sem, if_pos, if_neg, Nat.reduceBEq, Nat.reduceEqDiff, ↓reduceIte, Nat.reduceSub, Nat.reduceAdd, Int.reduceToNat, reduceCtorEq, Nat.reduceLeDiff, Nat.reduceLT, Nat.reduceMul, Nat.reduceDiv, Int.reduceLT, Int.reduceLE, Int.reduceEq, Int.reduceNe, Int.reduceAdd, Int.reduceSub, Int.reduceNeg, Int.reduceGT, Int.reduceGE, Int.reduceBEq, Int.reduceBNe, Int.reduceMul, *])) (by
      simp only [List.length_append, List.length_cons, List.length_nil, p1']
      exact hlid) (by cases b <;> simp) ?_
    simp only [List.length_append, List.length_cons, List.length_nil, p1']
    rw [hD2]
    obtain ⟨M3, hM3⟩ : ∃ M3 : MS, M3 = M2.set (M.length + 10) (some [.flat (.int .i64 3), .flat (.int .i64 (if b then 1 else 0))]) := ⟨_, rfl⟩
    obtain ⟨z1, z2⟩ := hno M3 hM3
    have hM3' : M3 = M2.set (M.length + 8 + (0 + 1 + 1)) (some [.flat (.int .i64 3), .flat (.int .i64 (if b then 1 else 0))]) := hM3
    rw [← hM3']
    clear hM3 hM3' hno h118 p2 p1' hq
    have q0 := (z2 _ (by omega)).trans hr0
    have q1 := (z2 _ (by omega)).trans hr1
    have q2 := (z2 _ (by omega)).trans hr2
    have qZ := (z2 _ (by omega)).trans hzz
    have qP := (z2 _ (by omega)).trans hPat
    have qL := (z2 _ (by omega)).trans hLat
    have hrow3 : SRow M3 fv (fs.map Sta.av) := hrow.keep (by omega) fun i _ hi => z2 i fun e => hne i hi (by simp [e])
    clear hr0 hr1 hr2 hPat hLat hlid hrow z2 hzz
    have fin3 : ∀ (K : Int), fs.map Sta.l = someF m (fdsT (trX l)) → (¬ (MayX l.length l ∧ 0 ≤ st) → fs = [] ∧ (0 : Int) = 1) ∧ (MayX l.length l ∧ 0 ≤ st → fs.map Sta.l = someF m (fdsT (trX l)) ∧ (0 : Int) = 0) := fun _ h => ⟨fun h => absurd hXX h, fun _ => ⟨h, rfl⟩⟩
    have fin3' := fin3 0 hac
    clear hXX fin3 h92 h93
    cases b with
    | true =>
      simp only [if_true, pend1, List.append_nil] at q0 ⊢
      repeat' (first | ((with_reducible first | apply S_0 | apply S_q1 | apply S_g | apply S_c); exact sgc) | (with_reducible first | apply SO_q | apply SG_t | apply SG_f0 | apply SG_f1 | apply S_nil | apply T_n | apply W_seq | apply W_region | apply SO_x | apply SC_t | apply SC_f | apply W_block | apply W_ret | apply W_skip | apply W_exit | apply T_r | apply T_e | apply B_n | apply B_e) | (with_reducible apply B_ne; focus decide) | (with_reducible first | apply B_r | apply R_e | apply R_r | apply H_e | apply H_r | apply G_e | apply G_r) | (with_reducible apply SC_n) | ((with_reducible first | apply SC_d | apply SG_d | apply SG_n | apply SC_b | apply SG_b) <;> intro hc <;> try simp only [decide_eq_true_eq, decide_eq_false_iff_not, Classical.not_not, Bool.not_eq_true', Bool.not_eq_false'] at hc))
      rcases hrow3 with ⟨rfl, hn⟩ | ⟨id, h2, rfl, h4⟩
      · refine ⟨.inr rfl, .q (.tup [.list 1 (fs.map Sta.av) true true, .flat (.int .i64 K), .flat (.int .i64 0)]), ?_, fs, true, true, K, 0, rfl, fin3'⟩
        rw [hn]
        clear fin3' hac
        (simp (disch := first | assumption | decide | omega | exact Pth.le _ | exact Rks.le _ | exact List.getElem_mem _ | exact allI_ints _ | exact allI_rks _ | exact allI_pths _ | exact Pth.nil _ | exact Rks.nil _ | (intro hh; simp only [Pth.nil _ hh, List.take_nil, List.drop_nil]; done) | (intro hh; simp only [Rks.nil _ hh, List.take_nil, List.drop_nil]; done) | (simp only [List.length_take, List.length_drop, List.length_append, List.length_cons, List.length_nil, List.length_replicate, List.length_map, ints_len]; omega)) only [resA, rvA, tupA, fin, frzV, frzTup, frzA, frz, isI, isI.all, Option.bind_some, go_sem, if_pos, if_neg, Nat.reduceBEq, Nat.reduceEqDiff, ↓reduceIte, Nat.reduceSub, Nat.reduceAdd, Int.reduceToNat, reduceCtorEq, Nat.reduceLeDiff, Nat.reduceLT, Nat.reduceMul, Nat.reduceDiv, Int.reduceLT, Int.reduceLE, Int.reduceEq, Int.reduceNe, Int.reduceAdd, Int.reduceSub, Int.reduceNeg, Int.reduceGT, Int.reduceGE, Int.reduceBEq, Int.reduceBNe, Int.reduceMul, *])
      · have hid : M.length ≤ id := by have := hfv id rfl; omega
        refine ⟨.inr rfl, .q (.tup [.list 1 (fs.map Sta.av) false false, .flat (.int .i64 K), .flat (.int .i64 0)]), ?_, fs, false, false, K, 0, rfl, fin3'⟩
        have htk : List.take fs.length (fs.map Sta.av) = fs.map Sta.av := List.take_of_length_le (by simp)
        have hall := allI_stas fs
        clear fin3' hac
        (simp (disch := first | assumption | decide | omega | exact Pth.le _ | exact Rks.le _ | exact List.getElem_mem _ | exact allI_ints _ | exact allI_rks _ | exact allI_pths _ | exact Pth.nil _ | exact Rks.nil _ | (intro hh; simp only [Pth.nil _ hh, List.take_nil, List.drop_nil]; done) | (intro hh; simp only [Rks.nil _ hh, List.take_nil, List.drop_nil]; done) | (simp only [List.length_take, List.length_drop, List.length_append, List.length_cons, List.length_nil, List.length_replicate, List.length_map, ints_len]; omega)) only [resA, rvA, tupA, fin, frzV, frzTup, frzA, frz, isI, isI.all, Option.bind_some, go_sem, if_pos, if_neg, Nat.reduceBEq, Nat.reduceEqDiff, ↓reduceIte, Nat.reduceSub, Nat.reduceAdd, Int.reduceToNat, reduceCtorEq, Nat.reduceLeDiff, Nat.reduceLT, Nat.reduceMul, Nat.reduceDiv, Int.reduceLT, Int.reduceLE, Int.reduceEq, Int.reduceNe, Int.reduceAdd, Int.reduceSub, Int.reduceNeg, Int.reduceGT, Int.reduceGE, Int.reduceBEq, Int.reduceBNe, Int.reduceMul, *])
    | false =>
      simp only [Bool.false_eq_true, if_false, pend0, List.append_nil] at q0 ⊢
      repeat' (first | ((with_reducible first | apply S_0 | apply S_q1 | apply S_g | apply S_c); exact sgc) | (with_reducible first | apply SO_q | apply SG_t | apply SG_f0 | apply SG_f1 | apply S_nil | apply T_n | apply W_seq | apply W_region | apply SO_x | apply SC_t | apply SC_f | apply W_block | apply W_ret | apply W_skip | apply W_exit | apply T_r | apply T_e | apply B_n | apply B_e) | (with_reducible apply B_ne; focus decide) | (with_reducible first | apply B_r | apply R_e | apply R_r | apply H_e | apply H_r | apply G_e | apply G_r) | (with_reducible apply SC_n) | ((with_reducible first | apply SC_d | apply SG_d | apply SG_n | apply SC_b | apply SG_b) <;> intro hc <;> try simp only [decide_eq_true_eq, decide_eq_false_iff_not, Classical.not_not, Bool.not_eq_true', Bool.not_eq_false'] at hc))
      refine W_C (M.length + 2) ?_
      iterate 5 refine WC_s rfl (by exact sgc) (by first | exact rfl | exact calm_ld (by exact sgc) (by omega) | exact calm_fad (by exact sgc) (by omega) | exact calm_nil (by exact sgc) (by omega)) ?_
      refine WC_0 (tgt_k (off := 0) (by exact svc)) ?_
      refine S_res3 (y0 := fv) (y1 := .flat (.int .i64 r.2.k)) (y2 := .flat (.int .i64 0)) (by exact svc) (by exact svc) (by exact svc) (by exact svc) (by exact svc) (by exact svc) hrow3.cell rfl rfl q0 q1 q2 (by omega) ?_
      intro m' w0 w1 w2 w3 w4
      have hrow4 : SRow m' fv (fs.map Sta.av) := hrow3.keep (by omega) fun i _ hi => by have := hfv i hi; exact w4 i (by omega) (by omega) (by omega)
      clear w4 q0 q1 q2 qP qL qZ hrow3
      repeat' (first | ((with_reducible first | apply S_0 | apply S_q1 | apply S_g | apply S_c); exact sgc) | (with_reducible first | apply SO_q | apply SG_t | apply SG_f0 | apply SG_f1 | apply S_nil | apply T_n | apply W_seq | apply W_region | apply SO_x | apply SC_t | apply SC_f | apply W_block | apply W_ret | apply W_skip | apply W_exit | apply T_r | apply T_e | apply B_n | apply B_e) | (with_reducible apply B_ne; focus decide) | (with_reducible first | apply B_r | apply R_e | apply R_r | apply H_e | apply H_r | apply G_e | apply G_r) | (with_reducible apply SC_n) | ((with_reducible first | apply SC_d | apply SG_d | apply SG_n | apply SC_b | apply SG_b) <;> intro hc <;> try simp only [decide_eq_true_eq, decide_eq_false_iff_not, Classical.not_not, Bool.not_eq_true', Bool.not_eq_false'] at hc))
      rcases hrow4 with ⟨rfl, hn⟩ | ⟨id, h2, rfl, h4⟩
      · refine ⟨.inr rfl, .q (.tup [.list 1 (fs.map Sta.av) true true, .flat (.int .i64 r.2.k), .flat (.int .i64 0)]), ?_, fs, true, true, r.2.k, 0, rfl, fin3'⟩
        rw [hn]
        clear fin3' hac
        (simp (disch := first | assumption | decide | omega | exact Pth.le _ | exact Rks.le _ | exact List.getElem_mem _ | exact allI_ints _ | exact allI_rks _ | exact allI_pths _ | exact Pth.nil _ | exact Rks.nil _ | (intro hh; simp only [Pth.nil _ hh, List.take_nil, List.drop_nil]; done) | (intro hh; simp only [Rks.nil _ hh, List.take_nil, List.drop_nil]; done) | (simp only [List.length_take, List.length_drop, List.length_append, List.length_cons, List.length_nil, List.length_replicate, List.length_map, ints_len]; omega)) only [resA, rvA, tupA, fin, frzV, frzTup, frzA, frz, isI, isI.all, Option.bind_some, go_sem, if_pos, if_neg, Nat.reduceBEq, Nat.reduceEqDiff, ↓reduceIte, Nat.reduceSub, Nat.reduceAdd, Int.reduceToNat, reduceCtorEq, Nat.reduceLeDiff, Nat.reduceLT, Nat.reduceMul, Nat.reduceDiv, Int.reduceLT, Int.reduceLE, Int.reduceEq, Int.reduceNe, Int.reduceAdd, Int.reduceSub, Int.reduceNeg, Int.reduceGT, Int.reduceGE, Int.reduceBEq, Int.reduceBNe, Int.reduceMul, *])
      · have hid : M.length ≤ id := by have := hfv id rfl; omega
        refine ⟨.inr rfl, .q (.tup [.list 1 (fs.map Sta.av) false false, .flat (.int .i64 r.2.k), .flat (.int .i64 0)]), ?_, fs, false, false, r.2.k, 0, rfl, fin3'⟩
        have htk : List.take fs.length (fs.map Sta.av) = fs.map Sta.av := List.take_of_length_le (by simp)
        have hall := allI_stas fs
        clear fin3' hac
        (simp (disch := first | assumption | decide | omega | exact Pth.le _ | exact Rks.le _ | exact List.getElem_mem _ | exact allI_ints _ | exact allI_rks _ | exact allI_pths _ | exact Pth.nil _ | exact Rks.nil _ | (intro hh; simp only [Pth.nil _ hh, List.take_nil, List.drop_nil]; done) | (intro hh; simp only [Rks.nil _ hh, List.take_nil, List.drop_nil]; done) | (simp only [List.length_take, List.length_drop, List.length_append, List.length_cons, List.length_nil, List.length_replicate, List.length_map, ints_len]; omega)) only [resA, rvA, tupA, fin, frzV, frzTup, frzA, frz, isI, isI.all, Option.bind_some, go_sem, if_pos, if_neg, Nat.reduceBEq, Nat.reduceEqDiff, ↓reduceIte, Nat.reduceSub, Nat.reduceAdd, Int.reduceToNat, reduceCtorEq, Nat.reduceLeDiff, Nat.reduceLT, Nat.reduceMul, Nat.reduceDiv, Int.reduceLT, Int.reduceLE, Int.reduceEq, Int.reduceNe, Int.reduceAdd, Int.reduceSub, Int.reduceNeg, Int.reduceGT, Int.reduceGE, Int.reduceBEq, Int.reduceBNe, Int.reduceMul, *])
  · have fin1 : (¬ (MayX n l ∧ 0 ≤ st) → ([] : List Sta) = [] ∧ (1 : Int) = 1) ∧ (MayX n l ∧ 0 ≤ st → ([] : List Sta).map Sta.l = someF m (fdsT (trX l)) ∧ (1 : Int) = 0) := ⟨fun _ => ⟨rfl, rfl⟩, fun h => absurd h hX⟩
    simp only [if_neg hX] at h92
    clear hX hbd
    refine ev_fnE A100 ?_
    repeat' (first | ((with_reducible first | apply S_0 | apply S_q1 | apply S_g | apply S_c); exact sgc) | (with_reducible first | apply SO_q | apply SG_t | apply SG_f0 | apply SG_f1 | apply S_nil | apply T_n | apply W_seq | apply W_region | apply SO_x | apply SC_t | apply SC_f | apply W_block | apply W_ret | apply W_skip | apply W_exit | apply T_r | apply T_e | apply B_n | apply B_e) | (with_reducible apply B_ne; focus decide) | (with_reducible first | apply B_r | apply R_e | apply R_r | apply H_e | apply H_r | apply G_e | apply G_r) | (with_reducible apply SC_n) | ((with_reducible first | apply SC_d | apply SG_d | apply SG_n | apply SC_b | apply SG_b) <;> intro hc <;> try simp only [decide_eq_true_eq, decide_eq_false_iff_not, Classical.not_not, Bool.not_eq_true', Bool.not_eq_false'] at hc))
    refine S_putX (off := 0) (y := .flat (.pointer none)) (by exact svc) (by exact svc) rfl (ap_get _ _ 6) (by simp) ?_
    intro m1 p1 p2 p3
    rw [dirt_o (by omega)]
    have p1' : m1.length = M.length + 7 := by rw [p1]; simp
    have hA := fun k (hk : M.length + k ≠ M.length + 6) => (p3 (M.length + k) hk).trans (ap_get M _ k)
    have a2 := hA 2 (by omega)
    have a3 := hA 3 (by omega)
    have a4 := hA 4 (by omega)
    simp only [List.getElem?_cons_succ, List.getElem?_cons_zero] at a2 a3 a4
    clear hA p3 p1
    repeat' (first | ((with_reducible first | apply S_0 | apply S_q1 | apply S_g | apply S_c); exact sgc) | (with_reducible first | apply SO_q | apply SG_t | apply SG_f0 | apply SG_f1 | apply S_nil | apply T_n | apply W_seq | apply W_region | apply SO_x | apply SC_t | apply SC_f | apply W_block | apply W_ret | apply W_skip | apply W_exit | apply T_r | apply T_e | apply B_n | apply B_e) | (with_reducible apply B_ne; focus decide) | (with_reducible first | apply B_r | apply R_e | apply R_r | apply H_e | apply H_r | apply G_e | apply G_r) | (with_reducible apply SC_n) | ((with_reducible first | apply SC_d | apply SG_d | apply SG_n | apply SC_b | apply SG_b) <;> intro hc <;> try simp only [decide_eq_true_eq, decide_eq_false_iff_not, Classical.not_not, Bool.not_eq_true', Bool.not_eq_false'] at hc))
    refine S_res3 (y0 := .list 1 [] true true) (y1 := .flat (.int .i64 0)) (y2 := .flat (.int .i64 1)) (by exact svc) (by exact svc) (by exact svc) (by exact svc) (by exact svc) (by exact svc) rfl rfl rfl a2 a3 a4 (by omega) ?_
    intro m' w0 w1 w2 w3 w4
    repeat' (first | ((with_reducible first | apply S_0 | apply S_q1 | apply S_g | apply S_c); exact sgc) | (with_reducible first | apply SO_q | apply SG_t | apply SG_f0 | apply SG_f1 | apply S_nil | apply T_n | apply W_seq | apply W_region | apply SO_x | apply SC_t | apply SC_f | apply W_block | apply W_ret | apply W_skip | apply W_exit | apply T_r | apply T_e | apply B_n | apply B_e) | (with_reducible apply B_ne; focus decide) | (with_reducible first | apply B_r | apply R_e | apply R_r | apply H_e | apply H_r | apply G_e | apply G_r) | (with_reducible apply SC_n) | ((with_reducible first | apply SC_d | apply SG_d | apply SG_n | apply SC_b | apply SG_b) <;> intro hc <;> try simp only [decide_eq_true_eq, decide_eq_false_iff_not, Classical.not_not, Bool.not_eq_true', Bool.not_eq_false'] at hc))
    refine ⟨.inr rfl, .q (.tup [.list 1 [] true true, .flat (.int .i64 0), .flat (.int .i64 1)]), ?_, [], true, true, 0, 1, rfl, fin1⟩
    (simp (disch := first | assumption | decide | omega | exact Pth.le _ | exact Rks.le _ | exact List.getElem_mem _ | exact allI_ints _ | exact allI_rks _ | exact allI_pths _ | exact Pth.nil _ | exact Rks.nil _ | (intro hh; simp only [Pth.nil _ hh, List.take_nil, List.drop_nil]; done) | (intro hh; simp only [Rks.nil _ hh, List.take_nil, List.drop_nil]; done) | (simp only [List.length_take, List.length_drop, List.length_append, List.length_cons, List.length_nil, List.length_replicate, List.length_map, ints_len]; omega)) only [resA, rvA, tupA, fin, frzV, frzTup, frzA, frz, isI, isI.all, Option.bind_some, go_sem, if_pos, if_neg, Nat.reduceBEq, Nat.reduceEqDiff, ↓reduceIte, Nat.reduceSub, Nat.reduceAdd, Int.reduceToNat, reduceCtorEq, Nat.reduceLeDiff, Nat.reduceLT, Nat.reduceMul, Nat.reduceDiv, Int.reduceLT, Int.reduceLE, Int.reduceEq, Int.reduceNe, Int.reduceAdd, Int.reduceSub, Int.reduceNeg, Int.reduceGT, Int.reduceGE, Int.reduceBEq, Int.reduceBNe, Int.reduceMul, *])
end Go.Proofs.Ytopiaiibpacmlaa.Av
namespace Go.Proofs.Ytopiaiibpacmlaa.Av
open Go.RowKit
set_option linter.unusedSimpArgs false
set_option linter.unusedVariables false
set_option maxHeartbeats 10000000
theorem inB_plX {l : List Rks} (hX : MayX l.length l) : InB (plX l) := by
  intro u p hp
  rcases Nat.lt_or_ge u l.length with hu | hu
  · rcases Nat.eq_zero_or_pos u with rfl | h1
    · rw [(ok_plX hX).1] at hp; simp at hp
    · rw [plX_get hu] at hp
      obtain ⟨r, hr, rfl⟩ := List.mem_map.1 hp
      obtain ⟨p1, p2, p3⟩ := path1 (lok_path (hX.2.2.2.2 u hu h1) r hr)
      rw [getD_get p1, plX_len]; exact p3
  · rw [List.getD, List.getElem?_eq_none (by rw [plX_len]; exact hu)] at hp; simp at hp
/-- What the search finds. -/
theorem fds_trX {l : List Rks} (hX : MayX l.length l) : fdsT (trX l) = evF (plX l) := by
  have h1 : 1 ≤ l.length := by have := hX.1; omega
  rw [trX, fds_trc (ok_plX hX) (inB_plX hX) (l.length - 1) (s := [[0]]) (by rw [plX_len]; simp; omega) (by simp) (fun v h1 h2 => by simp at h2; omega) (by simp [fitsA])]
  rfl
theorem stp_trX {l : List Rks} (hX : MayX l.length l) (hS : SmallX l) (hb : (prodL ((plX l).drop 1)).length ≤ 3000) : (fdsT (trX l)).length ≤ 3000 ∧ stpT (trX l) ≤ 36000 := by
  have h1 : 1 ≤ l.length := by have := hX.1; omega
  have h12 := hS.1
  have h2 := stp_trc (plX l) (l.length - 1) (s := [[0]]) (by rw [plX_len]; simp; omega)
  have h3 : (l.length - 1) * (prodL ((plX l).drop 1)).length ≤ 12 * 3000 := Nat.mul_le_mul (by omega) hb
  refine ⟨?_, Nat.le_trans h2 h3⟩
  rw [trX, fds_trc (ok_plX hX) (inB_plX hX) (l.length - 1) (s := [[0]]) (by rw [plX_len]; simp; omega) (by simp) (fun v h1 h2 => by simp at h2; omega) (by simp [fitsA])]
  refine Nat.le_trans (List.length_filter_le _ _) ?_
  rw [List.length_map]; exact hb
section
variable {n : Int} {l : List Rks} {nl cd : Bool} {M : MS}
theorem t59 (hS : SmallX l) (hbd : MayX n l → (fdsT (trX l)).length ≤ 3000 ∧ stpT (trX l) ≤ 36000) : ∃ out, ev pr 59 [.agg [.flat (.int .i64 n), .list 1 (l.map Rks.av) nl cd], .flat (.int .i64 1048576)] M = some out ∧ ∃ (k : Nat) (E : Int), out = .q (.tup [.flat (.int .i64 k), .flat (.int .i64 E)]) ∧
    (¬ MayX n l → k = 0 ∧ E = 1) ∧ (MayX n l → k = (fdsT (trX l)).length ∧ E = 0) := by
  obtain ⟨out, h100, fs, n', c', K, E, rfl, f1, f2⟩ := t100 (n := n) (m := 0) (st := 1048576) (nl := nl) (cd := cd) (M := M ++ [some [.flat (.int .i64 n), .list 1 (l.map Rks.av) nl cd]]) hS (by omega) (by omega) fun h => ⟨(hbd h).1, by have := (hbd h).2; omega⟩
  have fin1 : (¬ MayX n l → fs.length = 0 ∧ E = 1) ∧ (MayX n l → fs.length = (fdsT (trX l)).length ∧ E = 0) := ⟨fun h => by
    obtain ⟨a, b⟩ := f1 fun g => h g.1
    exact ⟨by rw [a]; rfl, b⟩, fun h => by
    obtain ⟨a, b⟩ := f2 ⟨h, by omega⟩
    exact ⟨by rw [← show someF 0 (fdsT (trX l)) = fdsT (trX l) from rfl, ← a]; simp, b⟩⟩
  clear hS hbd f1 f2
  refine ev_fnE A59 ?_
  repeat' (first | ((with_reducible first | apply S_0 | apply S_q1 | apply S_g | apply S_c); exact sgc) | (with_reducible first | apply SO_q | apply SG_t | apply SG_f0 | apply SG_f1 | apply S_nil | apply T_n | apply W_seq | apply W_region | apply SO_x | apply SC_t | apply SC_f | apply W_block | apply W_ret | apply W_skip | apply W_exit | apply T_r | apply T_e | apply B_n | apply B_e) | (with_reducible apply B_ne; focus decide) | (with_reducible first | apply B_r | apply R_e | apply R_r | apply H_e | apply H_r | apply G_e | apply G_r) | (with_reducible apply SC_n) | ((with_reducible first | apply SC_d | apply SG_d | apply SG_n | apply SC_b | apply SG_b) <;> intro hc <;> try simp only [decide_eq_true_eq, decide_eq_false_iff_not, Classical.not_not, Bool.not_eq_true', Bool.not_eq_false'] at hc))
  refine ⟨.inr rfl, .q (.tup [.flat (.int .i64 fs.length), .flat (.int .i64 E)]), ?_, fs.length, E, rfl, fin1⟩
  clear fin1
  (simp (disch := first | assumption | decide | omega | exact Pth.le _ | exact Rks.le _ | exact List.getElem_mem _ | exact allI_ints _ | exact allI_rks _ | exact allI_pths _ | exact Pth.nil _ | exact Rks.nil _ | (intro hh; simp only [Pth.nil _ hh, List.take_nil, List.drop_nil]; done) | (intro hh; simp only [Rks.nil _ hh, List.take_nil, List.drop_nil]; done) | (simp only [List.length_take, List.length_drop, List.length_append, List.length_cons, List.length_nil, List.length_replicate, List.length_map, ints_len]; omega)) only [resA, rvA, tupA, fin, frzV, frzTup, frzA, frz, isI, isI.all, Option.bind_some, go_sem, if_pos, if_neg, Nat.reduceBEq, Nat.reduceEqDiff, ↓reduceIte, Nat.reduceSub, Nat.reduceAdd, Int.reduceToNat, reduceCtorEq, Nat.reduceLeDiff, Nat.reduceLT, Nat.reduceMul, Nat.reduceDiv, Int.reduceLT, Int.reduceLE, Int.reduceEq, Int.reduceNe, Int.reduceAdd, Int.reduceSub, Int.reduceNeg, Int.reduceGT, Int.reduceGE, Int.reduceBEq, Int.reduceBNe, Int.reduceMul, *])
theorem t61 (hS : SmallX l) (hbd : MayX n l → (fdsT (trX l)).length ≤ 3000 ∧ stpT (trX l) ≤ 36000) : ∃ out, ev pr 61 [.agg [.flat (.int .i64 n), .list 1 (l.map Rks.av) nl cd], .flat (.int .i64 1048576)] M = some out ∧ ∃ (k : Nat) (E : Int), out = .q (.tup [.flat (.int .i64 k), .flat (.int .i64 E)]) ∧
    (¬ MayX n l → k = 0 ∧ E = 1) ∧ (MayX n l → k = min 2 (fdsT (trX l)).length ∧ E = 0) := by
  obtain ⟨out, h100, fs, n', c', K, E, rfl, f1, f2⟩ := t100 (n := n) (m := 2) (st := 1048576) (nl := nl) (cd := cd) (M := M ++ [some [.flat (.int .i64 n), .list 1 (l.map Rks.av) nl cd]]) hS (by omega) (by omega) fun h => ⟨(hbd h).1, by have := (hbd h).2; omega⟩
  have fin1 : (¬ MayX n l → fs.length = 0 ∧ E = 1) ∧ (MayX n l → fs.length = min 2 (fdsT (trX l)).length ∧ E = 0) := ⟨fun h => by
    obtain ⟨a, b⟩ := f1 fun g => h g.1
    exact ⟨by rw [a]; rfl, b⟩, fun h => by
    obtain ⟨a, b⟩ := f2 ⟨h, by omega⟩
    have := congrArg List.length a
    rw [List.length_map, show someF 2 (fdsT (trX l)) = (fdsT (trX l)).take 2 from rfl, List.length_take] at this
    exact ⟨this, b⟩⟩
  clear hS hbd f1 f2
  refine ev_fnE A61 ?_
  repeat' (first | ((with_reducible first | apply S_0 | apply S_q1 | apply S_g | apply S_c); exact sgc) | (with_reducible first | apply SO_q | apply SG_t | apply SG_f0 | apply SG_f1 | apply S_nil | apply T_n | apply W_seq | apply W_region | apply SO_x | apply SC_t | apply SC_f | apply W_block | apply W_ret | apply W_skip | apply W_exit | apply T_r | apply T_e | apply B_n | apply B_e) | (with_reducible apply B_ne; focus decide) | (with_reducible first | apply B_r | apply R_e | apply R_r | apply H_e | apply H_r | apply G_e | apply G_r) | (with_reducible apply SC_n) | ((with_reducible first | apply SC_d | apply SG_d | apply SG_n | apply SC_b | apply SG_b) <;> intro hc <;> try simp only [decide_eq_true_eq, decide_eq_false_iff_not, Classical.not_not, Bool.not_eq_true', Bool.not_eq_false'] at hc))
  refine ⟨.inr rfl, .q (.tup [.flat (.int .i64 fs.length), .flat (.int .i64 E)]), ?_, fs.length, E, rfl, fin1⟩
  clear fin1
  (simp (disch := first | assumption | decide | omega | exact Pth.le _ | exact Rks.le _ | exact List.getElem_mem _ | exact allI_ints _ | exact allI_rks _ | exact allI_pths _ | exact Pth.nil _ | exact Rks.nil _ | (intro hh; simp only [Pth.nil _ hh, List.take_nil, List.drop_nil]; done) | (intro hh; simp only [Rks.nil _ hh, List.take_nil, List.drop_nil]; done) | (simp only [List.length_take, List.length_drop, List.length_append, List.length_cons, List.length_nil, List.length_replicate, List.length_map, ints_len]; omega)) only [resA, rvA, tupA, fin, frzV, frzTup, frzA, frz, isI, isI.all, Option.bind_some, go_sem, if_pos, if_neg, Nat.reduceBEq, Nat.reduceEqDiff, ↓reduceIte, Nat.reduceSub, Nat.reduceAdd, Int.reduceToNat, reduceCtorEq, Nat.reduceLeDiff, Nat.reduceLT, Nat.reduceMul, Nat.reduceDiv, Int.reduceLT, Int.reduceLE, Int.reduceEq, Int.reduceNe, Int.reduceAdd, Int.reduceSub, Int.reduceNeg, Int.reduceGT, Int.reduceGE, Int.reduceBEq, Int.reduceBNe, Int.reduceMul, *])
theorem t60 (hS : SmallX l) (hbd : MayX n l → (fdsT (trX l)).length ≤ 3000 ∧ stpT (trX l) ≤ 36000) : ∃ out, ev pr 60 [.agg [.flat (.int .i64 n), .list 1 (l.map Rks.av) nl cd], .flat (.int .i64 1048576)] M = some out ∧ ∃ (s : List Pth) (ns cs ok : Bool) (E : Int), out = .q (.tup [.list 1 (s.map Pth.av) ns cs, .flat (.bool ok), .flat (.int .i64 E)]) ∧
    (¬ MayX n l → s = [] ∧ ok = false ∧ E = 1) ∧ (MayX n l → ok = decide (0 < (fdsT (trX l)).length) ∧ E = 0 ∧ ∀ h : 0 < (fdsT (trX l)).length, pl s = (fdsT (trX l))[0]) := by
  obtain ⟨out, h100, fs, n', c', K, E, rfl, f1, f2⟩ := t100 (n := n) (m := 1) (st := 1048576) (nl := nl) (cd := cd) (M := M ++ [some [.flat (.int .i64 n), .list 1 (l.map Rks.av) nl cd]]) hS (by omega) (by omega) fun h => ⟨(hbd h).1, by have := (hbd h).2; omega⟩
  have hcase : (E = 1 ∧ ¬ MayX n l) ∨ (E = 0 ∧ MayX n l ∧ fs.map Sta.l = (fdsT (trX l)).take 1) := by
    by_cases h : MayX n l
    · obtain ⟨a, b⟩ := f2 ⟨h, by omega⟩
      exact .inr ⟨b, h, a⟩
    · exact .inl ⟨(f1 fun g => h g.1).2, h⟩
  clear hS hbd f1 f2
  rcases hcase with ⟨rfl, hX⟩ | ⟨rfl, hX, hfs⟩
  · have fin1 : (¬ MayX n l → ([] : List Pth) = [] ∧ false = false ∧ (1 : Int) = 1) ∧ (MayX n l → false = decide (0 < (fdsT (trX l)).length) ∧ (1 : Int) = 0 ∧ ∀ h : 0 < (fdsT (trX l)).length, pl ([] : List Pth) = (fdsT (trX l))[0]) := ⟨fun _ => ⟨rfl, rfl, rfl⟩, fun h => absurd h hX⟩
    clear hX
    refine ev_fnE A60 ?_
    repeat' (first | ((with_reducible first | apply S_0 | apply S_q1 | apply S_g | apply S_c); exact sgc) | (with_reducible first | apply SO_q | apply SG_t | apply SG_f0 | apply SG_f1 | apply S_nil | apply T_n | apply W_seq | apply W_region | apply SO_x | apply SC_t | apply SC_f | apply W_block | apply W_ret | apply W_skip | apply W_exit | apply T_r | apply T_e | apply B_n | apply B_e) | (with_reducible apply B_ne; focus decide) | (with_reducible first | apply B_r | apply R_e | apply R_r | apply H_e | apply H_r | apply G_e | apply G_r) | (with_reducible apply SC_n) | ((with_reducible first | apply SC_d | apply SG_d | apply SG_n | apply SC_b | apply SG_b) <;> intro hc <;> try simp only [decide_eq_true_eq, decide_eq_false_iff_not, Classical.not_not, Bool.not_eq_true', Bool.not_eq_false'] at hc))
    refine ⟨.inr rfl, .q (.tup [.list 1 [] true true, .flat (.bool false), .flat (.int .i64 1)]), ?_, [], true, true, false, 1, rfl, fin1⟩
    clear fin1
    (simp (disch := first | assumption | decide | omega | exact Pth.le _ | exact Rks.le _ | exact List.getElem_mem _ | exact allI_ints _ | exact allI_rks _ | exact allI_pths _ | exact Pth.nil _ | exact Rks.nil _ | (intro hh; simp only [Pth.nil _ hh, List.take_nil, List.drop_nil]; done) | (intro hh; simp only [Rks.nil _ hh, List.take_nil, List.drop_nil]; done) | (simp only [List.length_take, List.length_drop, List.length_append, List.length_cons, List.length_nil, List.length_replicate, List.length_map, ints_len]; omega)) only [resA, rvA, tupA, fin, frzV, frzTup, frzA, frz, isI, isI.all, Option.bind_some, go_sem, if_pos, if_neg, Nat.reduceBEq, Nat.reduceEqDiff, ↓reduceIte, Nat.reduceSub, Nat.reduceAdd, Int.reduceToNat, reduceCtorEq, Nat.reduceLeDiff, Nat.reduceLT, Nat.reduceMul, Nat.reduceDiv, Int.reduceLT, Int.reduceLE, Int.reduceEq, Int.reduceNe, Int.reduceAdd, Int.reduceSub, Int.reduceNeg, Int.reduceGT, Int.reduceGE, Int.reduceBEq, Int.reduceBNe, Int.reduceMul, *])
  · rcases fs with _ | ⟨s, fs⟩
    · have h0 : (fdsT (trX l)).length = 0 := by
        have := congrArg List.length hfs
        simp only [List.map_nil, List.length_nil, List.length_take] at this; omega
      have fin1 : (¬ MayX n l → ([] : List Pth) = [] ∧ false = false ∧ (0 : Int) = 1) ∧ (MayX n l → false = decide (0 < (fdsT (trX l)).length) ∧ (0 : Int) = 0 ∧ ∀ h : 0 < (fdsT (trX l)).length, pl ([] : List Pth) = (fdsT (trX l))[0]) := ⟨fun h => absurd hX h, fun h => ⟨(decide_eq_false (by omega)).symm, rfl, fun h => by omega⟩⟩
      clear hX hfs h0
      simp only [List.map_nil] at h100
      refine ev_fnE A60 ?_
      repeat' (first | ((with_reducible first | apply S_0 | apply S_q1 | apply S_g | apply S_c); exact sgc) | (with_reducible first | apply SO_q | apply SG_t | apply SG_f0 | apply SG_f1 | apply S_nil | apply T_n | apply W_seq | apply W_region | apply SO_x | apply SC_t | apply SC_f | apply W_block | apply W_ret | apply W_skip | apply W_exit | apply T_r | apply T_e | apply B_n | apply B_e) | (with_reducible apply B_ne; focus decide) | (with_reducible first | apply B_r | apply R_e | apply R_r | apply H_e | apply H_r | apply G_e | apply G_r) | (with_reducible apply SC_n) | ((with_reducible first | apply SC_d | apply SG_d | apply SG_n | apply SC_b | apply SG_b) <;> intro hc <;> try simp only [decide_eq_true_eq, decide_eq_false_iff_not, Classical.not_not, Bool.not_eq_true', Bool.not_eq_false'] at hc))
      refine ⟨.inr rfl, .q (.tup [.list 1 [] true true, .flat (.bool false), .flat (.int .i64 0)]), ?_, [], true, true, false, 0, rfl, fin1⟩
      clear fin1
      (simp (disch := first | assumption | decide | omega | exact Pth.le _ | exact Rks.le _ | exact List.getElem_mem _ | exact allI_ints _ | exact allI_rks _ | exact allI_pths _ | exact Pth.nil _ | exact Rks.nil _ | (intro hh; simp only [Pth.nil _ hh, List.take_nil, List.drop_nil]; done) | (intro hh; simp only [Rks.nil _ hh, List.take_nil, List.drop_nil]; done) | (simp only [List.length_take, List.length_drop, List.length_append, List.length_cons, List.length_nil, List.length_replicate, List.length_map, ints_len]; omega)) only [resA, rvA, tupA, fin, frzV, frzTup, frzA, frz, isI, isI.all, Option.bind_some, go_sem, if_pos, if_neg, Nat.reduceBEq, Nat.reduceEqDiff, ↓reduceIte, Nat.reduceSub, Nat.reduceAdd, Int.reduceToNat, reduceCtorEq, Nat.reduceLeDiff, Nat.reduceLT, Nat.reduceMul, Nat.reduceDiv, Int.reduceLT, Int.reduceLE, Int.reduceEq, Int.reduceNe, Int.reduceAdd, Int.reduceSub, Int.reduceNeg, Int.reduceGT, Int.reduceGE, Int.reduceBEq, Int.reduceBNe, Int.reduceMul, *])
    · have h0 : 0 < (fdsT (trX l)).length := by
        have := congrArg List.length hfs
        simp only [List.map_cons, List.length_cons, List.length_take] at this; omega
      have hs : pl s.s = (fdsT (trX l))[0] := by
        obtain ⟨a, b, hab⟩ : ∃ a b, fdsT (trX l) = a :: b := by
          cases h : fdsT (trX l) with
          | nil => rw [h] at h0; simp at h0
          | cons a b => exact ⟨a, b, rfl⟩
        simp only [hab] at hfs ⊢
        simp only [List.map_cons, List.take_succ_cons, List.take_zero, List.cons.injEq] at hfs
        exact hfs.1
      have fin1 : (¬ MayX n l → s.s = [] ∧ true = false ∧ (0 : Int) = 1) ∧ (MayX n l → true = decide (0 < (fdsT (trX l)).length) ∧ (0 : Int) = 0 ∧ ∀ h : 0 < (fdsT (trX l)).length, pl s.s = (fdsT (trX l))[0]) := ⟨fun h => absurd hX h, fun h => ⟨(decide_eq_true h0).symm, rfl, fun h => hs⟩⟩
      clear hX hfs h0 hs
      have hnz : ¬ ((fs.length : Int) + 1 = 0) := by omega
      simp only [List.map_cons] at h100
      refine ev_fnE A60 ?_
      repeat' (first | ((with_reducible first | apply S_0 | apply S_q1 | apply S_g | apply S_c); exact sgc) | (with_reducible first | apply SO_q | apply SG_t | apply SG_f0 | apply SG_f1 | apply S_nil | apply T_n | apply W_seq | apply W_region | apply SO_x | apply SC_t | apply SC_f | apply W_block | apply W_ret | apply W_skip | apply W_exit | apply T_r | apply T_e | apply B_n | apply B_e) | (with_reducible apply B_ne; focus decide) | (with_reducible first | apply B_r | apply R_e | apply R_r | apply H_e | apply H_r | apply G_e | apply G_r) | (with_reducible apply SC_n) | ((with_reducible first | apply SC_d | apply SG_d | apply SG_n | apply SC_b | apply SG_b) <;> intro hc <;> try simp only [decide_eq_true_eq, decide_eq_false_iff_not, Classical.not_not, Bool.not_eq_true', Bool.not_eq_false'] at hc))
      refine ⟨.inr rfl, .q (.tup [.list 1 (s.s.map Pth.av) s.ns s.cs, .flat (.bool true), .flat (.int .i64 0)]), ?_, s.s, s.ns, s.cs, true, 0, rfl, fin1⟩
      clear fin1
      (simp (disch := first | assumption | decide | omega | exact Pth.le _ | exact Rks.le _ | exact List.getElem_mem _ | exact allI_ints _ | exact allI_rks _ | exact allI_pths _ | exact Pth.nil _ | exact Rks.nil _ | (intro hh; simp only [Pth.nil _ hh, List.take_nil, List.drop_nil]; done) | (intro hh; simp only [Rks.nil _ hh, List.take_nil, List.drop_nil]; done) | (simp only [List.length_take, List.length_drop, List.length_append, List.length_cons, List.length_nil, List.length_replicate, List.length_map, ints_len]; omega)) only [resA, rvA, tupA, fin, frzV, frzTup, frzA, frz, isI, isI.all, Option.bind_some, go_sem, if_pos, if_neg, Nat.reduceBEq, Nat.reduceEqDiff, ↓reduceIte, Nat.reduceSub, Nat.reduceAdd, Int.reduceToNat, reduceCtorEq, Nat.reduceLeDiff, Nat.reduceLT, Nat.reduceMul, Nat.reduceDiv, Int.reduceLT, Int.reduceLE, Int.reduceEq, Int.reduceNe, Int.reduceAdd, Int.reduceSub, Int.reduceNeg, Int.reduceGT, Int.reduceGE, Int.reduceBEq, Int.reduceBNe, Int.reduceMul, *])
end
end Go.Proofs.Ytopiaiibpacmlaa.Av
namespace Go.Proofs.Ytopiaiibpacmlaa.Av
open Go.RowKit
set_option linter.unusedSimpArgs false
set_option linter.unusedVariables false
set_option maxHeartbeats 10000000
def rkP : List (List Pa) → List Pa → List Int
  | [], _ => []
  | l :: R, t => rnk l (t.headD []) :: rkP R t.tail
theorem rkF_drop (L : In) (a : List Pa) : ∀ k i, i + k = L.length → rkF L a i k = rkP (L.drop i) (a.drop i)
  | 0, i, h => by rw [List.drop_of_length_le (by omega)]; rfl
  | k + 1, i, h => by
    rw [drop_at (by omega : i < L.length)]
    simp only [rkF, rkP]
    rw [rkF_drop L a k (i + 1) (by omega), List.tail_drop]
    congr 2
    simp only [List.getD, List.headD_eq_head?_getD, List.head?_drop]
theorem rnk_rise {l : List Pa} (h64 : l.length ≤ 64) (hn : l.Nodup) (hnil : [] ∉ l) : (l ++ [[]]).Pairwise fun p q => rnk l p < rnk l q := by
  have hr : ∀ p ∈ l, rnk l p = (l.idxOf p : Int) := fun p hp => by
    have : p ≠ [] := fun e => hnil (e ▸ hp)
    rw [rnk, if_neg this, place, if_pos hp]
  rw [List.pairwise_append]
  refine ⟨?_, List.pairwise_singleton _ _, fun p hp q hq => ?_⟩
  · rw [List.pairwise_iff_getElem]
    intro i j hi hj hij
    rw [hr _ (List.getElem_mem hi), hr _ (List.getElem_mem hj), hn.idxOf_getElem, hn.idxOf_getElem]
    omega
  · rw [List.mem_singleton.1 hq, hr p hp, rnk, if_pos rfl]
    have := List.idxOf_lt_length_of_mem hp
    omega
theorem cmpI_self (a : Int) : cmpI a a = 0 := cmpI_eq.2 rfl
theorem cmpI_lt {a b : Int} (h : a < b) : cmpI a b = -1 := by rw [cmpI, if_pos h]
theorem prodL_rise : ∀ {R : List (List Pa)}, (∀ l ∈ R, l.length ≤ 64 ∧ l.Nodup ∧ [] ∉ l) → (prodL R).Pairwise fun a b => lexI (rkP R a) (rkP R b) < 0
  | [], _ => by simp [prodL]
  | l :: R, h => by
    obtain ⟨h1, h2, h3⟩ := h l (by simp)
    rw [prodL, List.pairwise_flatMap]
    refine ⟨fun p _ => ?_, (rnk_rise h1 h2 h3).imp fun {p q} hpq x hx y hy => ?_⟩
    · rw [List.pairwise_map]
      refine (prodL_rise fun l hl => h l (by simp [hl])).imp fun {a b} hab => ?_
      simp only [rkP, List.headD_cons, List.tail_cons, lexI, cmpI_self]
      simpa using hab
    · obtain ⟨a, _, rfl⟩ := List.mem_map.1 hx
      obtain ⟨b, _, rfl⟩ := List.mem_map.1 hy
      simp only [rkP, List.headD_cons, List.tail_cons, lexI, cmpI_lt hpq]
      rw [if_pos (by decide)]; decide
theorem evF_rise {l : List Rks} (hX : MayX l.length l) : (evF (plX l)).Pairwise fun a b => cmpS (plX l) a b < 0 := by
  have h1 : 1 ≤ l.length := by have := hX.1; omega
  refine List.Pairwise.filter _ ?_
  rw [sts, List.pairwise_map]
  refine (prodL_rise fun p hp => ?_).imp fun {a b} hab => ?_
  · obtain ⟨i, hi, rfl⟩ := List.mem_iff_getElem.1 hp
    rw [List.length_drop, plX_len] at hi
    have e : ((plX l).drop 1)[i]'(by rw [List.length_drop, plX_len]; exact hi) = (plX l).getD (1 + i) [] := by
      rw [List.getElem_drop]; simp [List.getD, plX_len, show 1 + i < l.length by omega]
    rw [e]
    refine ⟨?_, ((ok_plX hX).2 (1 + i)).1, ne_of_ok (ok_plX hX) _⟩
    rw [plX_get (by omega), paths_len]
    exact (hX.2.2.2.2 (1 + i) (by omega) (by omega)).1
  · rw [cmpS, plX_len, rkF_drop _ _ _ _ (by rw [plX_len]; omega), rkF_drop _ _ _ _ (by rw [plX_len]; omega)]
    exact hab
theorem evF_small {l : List Rks} (hX : MayX l.length l) (hS : SmallX l) {fs : List Sta} (h : fs.map Sta.l = evF (plX l)) : ∀ a ∈ fs, a.s.length = l.length := fun a ha => by
  have h2 : Sta.l a ∈ evF (plX l) := by rw [← h]; exact List.mem_map_of_mem ha
  have h3 := (evF_mem (fun e => by have h1 := plX_len l; rw [e] at h1; have := hX.1; simp only [List.length_nil] at h1; omega) h2).1
  rw [plX_len] at h3
  have h4 : (Sta.l a).length = a.s.length := pl_len a.s
  omega
/-- A state of the list may be. -/
theorem evF_may {l : List Rks} (hX : MayX l.length l) {s : List Pth} (h : pl s ∈ evF (plX l)) : MayS l.length l s ∧ StabP (plX l) (pl s) := by
  obtain ⟨h1, h2, h3, h4⟩ := evF_mem (fun e => by have h1 := plX_len l; rw [e] at h1; have := hX.1; simp only [List.length_nil] at h1; omega) h
  rw [pl_len, plX_len] at h1
  refine ⟨⟨hX, by omega, fun h0 => ?_, fun v hv hv' h5 => ?_⟩, h4⟩
  · rw [pl_getD h0] at h2; exact h2
  · have := h3 v h5 (by rw [plX_len]; exact hv')
    rwa [pl_getD hv, plX_get hv'] at this
noncomputable def cmpV (n : Int) (l : List Rks) (a b : List Pth) : Int := if MayS n l a ∧ MayS n l b then cmpS (plX l) (pl a) (pl b) else 0
def okI (n : Int) (l : List Rks) (x : List Sta) (i : Nat) : Prop := ∀ h : i < x.length, (MayS n l x[i].s ∧ StabP (plX l) (pl x[i].s)) ∧ (0 < i → cmpV n l (x[i - 1]'(by omega)).s x[i].s < 0)
def isL (n : Int) (l : List Rks) (x : List Sta) : Prop := (∀ i, i < x.length → okI n l x i) ∧ MayX n l
noncomputable instance (n : Int) (l : List Rks) (x : List Sta) : Decidable (isL n l x) := Classical.propDecidable _
theorem t68 (n : Int) (l : List Rks) (nl cd : Bool) (x : List Sta) (nx cx : Bool) (M : MS) (hS : SmallX l) (hx : x.length ≤ 1000000) (hs : ∀ a ∈ x, a.s.length ≤ 1000) : ev pr 68 [.agg [.flat (.int .i64 n), .list 1 (l.map Rks.av) nl cd], .list 1 (x.map Sta.av) nx cx] M = some (.q (.flat (.bool (decide (isL n l x))))) := by
  have h76 := fun M => t76 n l nl cd M hS
  refine ev_fn' A68 ?_
  repeat' (first | ((with_reducible first | apply S_0 | apply S_q1 | apply S_g | apply S_c); exact sgc) | (with_reducible first | apply SO_q | apply SG_t | apply SG_f0 | apply SG_f1 | apply S_nil | apply T_n | apply W_seq | apply W_region | apply SO_x | apply SC_t | apply SC_f | apply W_block | apply W_ret | apply W_skip | apply W_exit | apply T_r | apply T_e | apply B_n | apply B_e) | (with_reducible apply B_ne; focus decide) | (with_reducible first | apply B_r | apply R_e | apply R_r | apply H_e | apply H_r | apply G_e | apply G_r) | (with_reducible apply SC_n) | ((with_reducible first | apply SC_d | apply SG_d | apply SG_n | apply SC_b | apply SG_b) <;> intro hc <;> try simp only [decide_eq_true_eq, decide_eq_false_iff_not, Classical.not_not, Bool.not_eq_true', Bool.not_eq_false'] at hc))
  refine W_rng 9 0 x.length (fun i _ => ∀ j, j < i → okI n l x j) (by simp only [asg, asgO, List.append_nil, List.nil_append, List.cons_append]; rfl) (by exact svc) (by omega) (fun j hj => by omega) ?_
  rintro i e _ hi hk e9 hok
  have k1 : e 1 = .list 1 (x.map Sta.av) nx cx := by rw [hk 1 rfl]; exact svc
  have k2 : e 2 = .mptr M.length 0 := by rw [hk 2 rfl]; exact svc
  have k7 : e 7 = .list 1 (x.map Sta.av) nx cx := by rw [hk 7 rfl]; exact svc
  have k8 : e 8 = .flat (.int .i64 x.length) := by rw [hk 8 rfl]; exact svc
  clear hk
  rcases Nat.lt_or_ge i x.length with hlt | hlt
  · have hltZ : (i : Int) < x.length := by omega
    have hsi := hs _ (List.getElem_mem hlt)
    have h25 := fun M => t25 n l nl cd x[i].s x[i].ns x[i].cs M hS hsi
    by_cases hst : MayS n l x[i].s ∧ StabP (plX l) (pl x[i].s)
    · rw [decide_eq_true hst] at h25
      rcases Nat.eq_zero_or_pos i with rfl | h0
      · have ho : okI n l x 0 := fun _ => ⟨hst, fun h => absurd h (by omega)⟩
        have hltZ' : (0 : Int) < x.length := by omega
        clear hst hs h76 hS
        repeat' (first | ((with_reducible first | apply S_0 | apply S_q1 | apply S_g | apply S_c); exact sgc) | (with_reducible first | apply SO_q | apply SG_t | apply SG_f0 | apply SG_f1 | apply S_nil | apply T_n | apply W_seq | apply W_region | apply SO_x | apply SC_t | apply SC_f | apply W_block | apply W_ret | apply W_skip | apply W_exit | apply T_r | apply T_e | apply B_n | apply B_e) | (with_reducible apply B_ne; focus decide) | (with_reducible first | apply B_r | apply R_e | apply R_r | apply H_e | apply H_r | apply G_e | apply G_r) | (with_reducible apply SC_n) | ((with_reducible first | apply SC_d | apply SG_d | apply SG_n | apply SC_b | apply SG_b) <;> intro hc <;> try simp only [decide_eq_true_eq, decide_eq_false_iff_not, Classical.not_not, Bool.not_eq_true', Bool.not_eq_false'] at hc))
        exact H_n (by exact svc) hlt (ext1 hok ho)
      · have h0Z : (0 : Int) < i := by omega
        have hlt1 : i - 1 < x.length := by omega
        have hs1 := hs _ (List.getElem_mem hlt1)
        have h55 := fun M => t55 n l nl cd x[i - 1].s x[i].s x[i - 1].ns x[i - 1].cs x[i].ns x[i].cs M hS hs1 hsi
        obtain ⟨C, hC⟩ : ∃ C, C = (if MayS n l x[i - 1].s ∧ MayS n l x[i].s then cmpS (plX l) (pl x[i - 1].s) (pl x[i].s) else 0) := ⟨_, rfl⟩
        rw [← hC] at h55
        have hi2 : ∃ k : Nat, i = k + 1 := ⟨i - 1, by omega⟩
        obtain ⟨k, rfl⟩ := hi2
        simp only [Nat.add_sub_cancel] at h55 hlt1 hC
        have hk1 : (k : Int) + 1 - 1 = k := by omega
        have hk2 : ((k + 1 : Nat) : Int) - 1 = k := by omega
        have hk3 : (k : Int) + 1 < x.length := by omega
        have hk4 : (0 : Int) < (k : Int) + 1 := by omega
        by_cases hcm : C < 0
        · have hcm2 : ¬ 0 ≤ C := by omega
          have ho : okI n l x (k + 1) := fun _ => ⟨hst, fun _ => by
            have : cmpV n l x[k].s x[k + 1].s = C := by rw [hC]; rfl
            simp only [Nat.add_sub_cancel]; omega⟩
          clear hst hs h76 hS hC
          repeat' (first | ((with_reducible first | apply S_0 | apply S_q1 | apply S_g | apply S_c); exact sgc) | (with_reducible first | apply SO_q | apply SG_t | apply SG_f0 | apply SG_f1 | apply S_nil | apply T_n | apply W_seq | apply W_region | apply SO_x | apply SC_t | apply SC_f | apply W_block | apply W_ret | apply W_skip | apply W_exit | apply T_r | apply T_e | apply B_n | apply B_e) | (with_reducible apply B_ne; focus decide) | (with_reducible first | apply B_r | apply R_e | apply R_r | apply H_e | apply H_r | apply G_e | apply G_r) | (with_reducible apply SC_n) | ((with_reducible first | apply SC_d | apply SG_d | apply SG_n | apply SC_b | apply SG_b) <;> intro hc <;> try simp only [decide_eq_true_eq, decide_eq_false_iff_not, Classical.not_not, Bool.not_eq_true', Bool.not_eq_false'] at hc))
          have hk5 : (k : Int) + 1 + 1 = k + 2 := by omega
          exact H_n (by exact svc) hlt (ext1 hok ho)
        · have hcm2 : 0 ≤ C := by omega
          have ho : ¬ isL n l x := fun h => by
            have h1 := (h.1 (k + 1) hlt hlt).2 (by omega)
            have : cmpV n l x[k].s x[k + 1].s = C := by rw [hC]; rfl
            simp only [Nat.add_sub_cancel] at h1; omega
          rw [decide_eq_false ho]
          clear hst hs h76 hS hC ho
          repeat' (first | ((with_reducible first | apply S_0 | apply S_q1 | apply S_g | apply S_c); exact sgc) | (with_reducible first | apply SO_q | apply SG_t | apply SG_f0 | apply SG_f1 | apply S_nil | apply T_n | apply W_seq | apply W_region | apply SO_x | apply SC_t | apply SC_f | apply W_block | apply W_ret | apply W_skip | apply W_exit | apply T_r | apply T_e | apply B_n | apply B_e) | (with_reducible apply B_ne; focus decide) | (with_reducible first | apply B_r | apply R_e | apply R_r | apply H_e | apply H_r | apply G_e | apply G_r) | (with_reducible apply SC_n) | ((with_reducible first | apply SC_d | apply SG_d | apply SG_n | apply SC_b | apply SG_b) <;> intro hc <;> try simp only [decide_eq_true_eq, decide_eq_false_iff_not, Classical.not_not, Bool.not_eq_true', Bool.not_eq_false'] at hc))
          (first | exact fincR | exact fincN)
    · rw [decide_eq_false hst] at h25
      have ho : ¬ isL n l x := fun h => hst (h.1 i hlt hlt).1
      rw [decide_eq_false ho]
      clear hst hs h76 hS ho
      repeat' (first | ((with_reducible first | apply S_0 | apply S_q1 | apply S_g | apply S_c); exact sgc) | (with_reducible first | apply SO_q | apply SG_t | apply SG_f0 | apply SG_f1 | apply S_nil | apply T_n | apply W_seq | apply W_region | apply SO_x | apply SC_t | apply SC_f | apply W_block | apply W_ret | apply W_skip | apply W_exit | apply T_r | apply T_e | apply B_n | apply B_e) | (with_reducible apply B_ne; focus decide) | (with_reducible first | apply B_r | apply R_e | apply R_r | apply H_e | apply H_r | apply G_e | apply G_r) | (with_reducible apply SC_n) | ((with_reducible first | apply SC_d | apply SG_d | apply SG_n | apply SC_b | apply SG_b) <;> intro hc <;> try simp only [decide_eq_true_eq, decide_eq_false_iff_not, Classical.not_not, Bool.not_eq_true', Bool.not_eq_false'] at hc))
      (first | exact fincR | exact fincN)
  · have hltZ : ¬ (i : Int) < x.length := by omega
    by_cases hX : MayX n l
    · simp only [hX, decide_true] at h76
      have ho : isL n l x := ⟨fun j hj => hok j (by omega), hX⟩
      rw [decide_eq_true ho]
      clear hX ho hok hs hS
      repeat' (first | ((with_reducible first | apply S_0 | apply S_q1 | apply S_g | apply S_c); exact sgc) | (with_reducible first | apply SO_q | apply SG_t | apply SG_f0 | apply SG_f1 | apply S_nil | apply T_n | apply W_seq | apply W_region | apply SO_x | apply SC_t | apply SC_f | apply W_block | apply W_ret | apply W_skip | apply W_exit | apply T_r | apply T_e | apply B_n | apply B_e) | (with_reducible apply B_ne; focus decide) | (with_reducible first | apply B_r | apply R_e | apply R_r | apply H_e | apply H_r | apply G_e | apply G_r) | (with_reducible apply SC_n) | ((with_reducible first | apply SC_d | apply SG_d | apply SG_n | apply SC_b | apply SG_b) <;> intro hc <;> try simp only [decide_eq_true_eq, decide_eq_false_iff_not, Classical.not_not, Bool.not_eq_true', Bool.not_eq_false'] at hc))
      (first | exact fincR | exact fincN)
    · simp only [hX, decide_false] at h76
      rw [decide_eq_false (fun h => hX h.2)]
      clear hX hok hs hS
      repeat' (first | ((with_reducible first | apply S_0 | apply S_q1 | apply S_g | apply S_c); exact sgc) | (with_reducible first | apply SO_q | apply SG_t | apply SG_f0 | apply SG_f1 | apply S_nil | apply T_n | apply W_seq | apply W_region | apply SO_x | apply SC_t | apply SC_f | apply W_block | apply W_ret | apply W_skip | apply W_exit | apply T_r | apply T_e | apply B_n | apply B_e) | (with_reducible apply B_ne; focus decide) | (with_reducible first | apply B_r | apply R_e | apply R_r | apply H_e | apply H_r | apply G_e | apply G_r) | (with_reducible apply SC_n) | ((with_reducible first | apply SC_d | apply SG_d | apply SG_n | apply SC_b | apply SG_b) <;> intro hc <;> try simp only [decide_eq_true_eq, decide_eq_false_iff_not, Classical.not_not, Bool.not_eq_true', Bool.not_eq_false'] at hc))
      (first | exact fincR | exact fincN)
end Go.Proofs.Ytopiaiibpacmlaa.Av
namespace Go.Proofs.Ytopiaiibpacmlaa.Av
open Go.RowKit
set_option linter.unusedSimpArgs false
set_option linter.unusedVariables false
set_option maxHeartbeats 10000000
theorem sta_av_eq (x : Sta) : x.av = .list 1 (x.s.map Pth.av) x.ns x.cs := rfl
attribute [go_sem] sta_av_eq
set_option maxRecDepth 100000 in
theorem lives23_0 : ev pr 48 [] [] = some (.q (.flat (.bool true))) := ev_some.2 ⟨80, by kernel_rfl⟩
theorem lives23 (M : MS) : ev pr 48 [] M = some (.q (.flat (.bool true))) := any rfl rfl lives23_0 M
/-- The nodes below k that have the same path in all states. -/
noncomputable def comF (x : List Sta) (x0 : List Pa) : Nat → List Int
  | 0 => []
  | k + 1 => open Classical in comF x x0 k ++ if ∀ a ∈ x, a.l.getD k [] = x0.getD k [] then [(k : Int)] else []
end Go.Proofs.Ytopiaiibpacmlaa.Av
