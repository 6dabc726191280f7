/- Solved. -/
import Derived.Test.YtopiaiibpacmlaaX11
namespace Go.Proofs.Ytopiaiibpacmlaa.Av
open Go.RowKit
set_option linter.unusedSimpArgs false
set_option linter.unusedVariables false
set_option maxHeartbeats 10000000
def setP (L : In) (v : Nat) : Prop := L.getD v [] = [] ∨ ∃ p, L.getD v [] = [p] ∧ sureP L p
theorem set_iff {l : List Rks} (hX : MayX l.length l) {v : Nat} (hv1 : 1 ≤ v) (hv : v < l.length) : settledF l v ↔ setP (plX l) v := by
  have hr : rkAt l v = l[v].l := by simp [rkAt, hv]
  unfold settledF setP
  rw [hr, plX_get hv]
  constructor
  · rintro (h | ⟨p, h1, h2⟩)
    · left; rw [h]; rfl
    · right
      refine ⟨p, h1, ?_⟩
      have hm : p ∈ paths l[v].l := by rw [h1]; simp
      obtain ⟨q, hq, rfl⟩ := List.mem_map.1 hm
      exact (sure_iff (pth_nn hX hv1 hv hq)).1 h2
  · rintro (h | ⟨p, h1, h2⟩)
    · left; simpa [paths] using h
    · right
      refine ⟨p, h1, ?_⟩
      have hm : p ∈ paths l[v].l := by rw [h1]; simp
      obtain ⟨q, hq, rfl⟩ := List.mem_map.1 hm
      exact (sure_iff (pth_nn hX hv1 hv hq)).2 h2
theorem stl_le1 (l : List Rks) : ∀ k, (stl l k).length ≤ k - 1
  | 0 => by simp [stl]
  | k + 1 => by
    have := stl_le1 l k
    simp only [stl, List.length_append]
    split
    · rename_i h; simp; omega
    · simp; omega
theorem stl_all (l : List Rks) : ∀ k, k - 1 ≤ (stl l k).length ↔ ∀ v : Nat, 1 ≤ v → v < k → settledF l v
  | 0 => ⟨fun _ v _ h => by omega, fun _ => by simp⟩
  | k + 1 => by
    have ih := stl_all l k
    have hle := stl_le1 l k
    simp only [stl, List.length_append]
    rcases Nat.eq_zero_or_pos k with rfl | hk
    · exact ⟨fun _ v h1 h2 => by omega, fun _ => by simp⟩
    · by_cases hs : settledF l k
      · rw [if_pos ⟨hk, hs⟩, List.length_singleton]
        constructor
        · intro h v h1 h2
          rcases Nat.lt_or_ge v k with hv | hv
          · exact ih.1 (by omega) v h1 hv
          · obtain rfl : v = k := by omega
            exact hs
        · intro h
          have := ih.2 fun v h1 h2 => h v h1 (by omega)
          omega
      · rw [if_neg fun h => hs h.2]
        constructor
        · intro h; simp at h; omega
        · intro h; exact absurd (h k hk (by omega)) hs
def hdP (r : Rks) : Pth := match r.l with
  | [] => nlP
  | q :: _ => q.p
theorem hdP_e {r : Rks} (h : r.l = []) : hdP r = nlP := by unfold hdP; rw [h]
theorem hdP_n {r : Rks} (h : 0 < r.l.length) : hdP r = r.l[0].p := by
  unfold hdP
  match hr : r.l, h with
  | q :: t, _ => simp
def solP (R : List Rks) (i : Nat) : List Pth := orP :: (R.take i).map hdP
theorem solP_len {R : List Rks} {i : Nat} (h : i ≤ R.length) : (solP R i).length = i + 1 := by simp [solP]; omega
theorem solP_step {R : List Rks} {i : Nat} (h : i < R.length) : (solP R (i + 1)).map Pth.av = (solP R i).map Pth.av ++ [(hdP R[i]).av] := by
  simp only [solP, List.take_succ_eq_append_getElem h, List.map_cons, List.map_append, List.map_nil, List.cons_append]
theorem solP_pl (l : List Rks) : pl (solP (l.drop 1) (l.drop 1).length) = sol (plX l) := by
  simp only [solP, List.take_length, sol, pl, List.map_cons, List.map_map, plX, List.map_drop]
  congr 1
  refine congrArg (List.drop 1) (List.map_congr_left fun r _ => ?_)
  simp only [Function.comp_apply, hdP, paths]
  cases r.l <;> rfl
section
variable {p : Pr} {base : Nat} {env : Env} {M : MS} {D : List Nat} {d : Option Nat} {r : List AOp} {R : Env → MS → List Nat → Prop}
/-- The first append to a known row. -/
theorem S_ownL {bytes : Nat} {s x : O} {cs : List AV} {y : AV} (B G : MS) (hM : M = B ++ G) (hs : s.ev env = .list 1 cs false true) (hx : x.ev env = .list 1 [y] false true) (hy : isI y = true) (hA : allI cs = true) (h1 : cs.length ≤ 3000) (hb : bytes ≤ 1000)
    (h : ∀ v' G', Own B.length (B ++ G') v' 1 (cs ++ [y]) → WS p base 0 r (updO env d v') (B ++ G') D R) : WS p base 0 (⟨d, .app 1 bytes s x, none⟩ :: r) env M D R := by
  subst hM
  have hyA : allI [y] = true := by simp only [allI, hy, Bool.and_self]
  have hv : evI (ev p) base env (B ++ G) D (.app 1 bytes s x) = some (.x (.ms (B ++ G).length 0 (cs.length + 1) 1 false) (B ++ (G ++ [some (cs ++ [y])])) D) := by
    simp only [evI, hx, view_list, lenOf_list, hs, List.length_singleton, Nat.div_one, appA]
    rw [if_neg (by decide), if_pos ⟨.inr trivial, trivial, hyA, trivial, by unfold LIM; omega, Nat.le_trans (Nat.mul_le_mul (show cs.length + 1 ≤ 3001 by omega) hb) (by decide)⟩, List.append_assoc]
  refine S_0 hv (SO_x (h _ _ ⟨by decide, allI_app hA hyA, ⟨cs.length + 1, by simp⟩, .inr ⟨by simp, (B ++ G).length, by simp, by simp, by simp, ?_⟩⟩))
  rw [← List.append_assoc, List.getElem?_append_right (Nat.le_refl _)]
  simp
end
theorem fin_tp {b id len : Nat} {X : MS} {v : Value} {cs : List AV} (hb : b ≤ id) (hi : X[id]? = some (some cs)) (hl : cs.length = len) (hA : allI cs = true) : fin b false (.tup [.ms id 0 len 1 false, .flat v]) X [] = some (.q (.tup [.list 1 cs false false, .flat v])) := by
  have h1 : frz b X (.ms id 0 len 1 false) = some (.list 1 cs false false, X.set id none) := by
    simp only [frz, hi]
    rw [if_pos ⟨hb, by omega, hA⟩, List.drop_zero, Nat.mul_one, ← hl, List.take_length]
  simp only [fin, Bool.false_eq_true, if_false, frzV, frzTup, frzA, h1]
  simp only [frz, isI, if_true, Option.map_some]
  exact if_pos rfl
theorem t67 (n : Int) (l : List Rks) (nl cd : Bool) (M : MS) (hS : SmallX l) : ∃ out, ev pr 67 [.agg [.flat (.int .i64 n), .list 1 (l.map Rks.av) nl cd]] M = some out ∧ ∃ (x : AV) (ok : Bool), out = .q (.tup [x, .flat (.bool ok)]) ∧ (¬ MayX n l → ok = false ∧ x = .list 1 [] true true) ∧
    (MayX n l → ∃ (k : Nat) (l' : List Rks), l'.length = l.length ∧ MayX n l' ∧ SmallX l' ∧ Red k (plX l) (plX l') ∧ NF (plX l') ∧ ((¬ (∀ v : Nat, 1 ≤ v → v < l.length → setP (plX l') v) ∧ ok = false ∧ x = .list 1 [] true true) ∨
      ((∀ v : Nat, 1 ≤ v → v < l.length → setP (plX l') v) ∧ ok = true ∧ ∃ (s : List Pth) (c' : Bool), x = .list 1 (s.map Pth.av) false c' ∧ pl s = sol (plX l')))) := by
  obtain ⟨x30, h30, hno, hyes⟩ := t30 n l nl cd (M ++ [some [.flat (.int .i64 n), .list 1 (l.map Rks.av) nl cd]]) hS
  by_cases hX : MayX n l
  · obtain ⟨k, l', rfl, hl', hX', hS', hR, hNF⟩ := hyes hX
    obtain rfl : n = l.length := hX.2.2.1.symm
    have h38 := fun M => t38 (n := l.length) (nl := false) (cd := false) (M := M) hS'
    simp only [hX', if_true, lst_l] at h38
    obtain ⟨N, hN⟩ : ∃ N, N = l.length := ⟨_, rfl⟩
    have h12 : N ≤ 12 := by rw [hN]; exact hS.1
    have hN1 : 1 ≤ N := by rw [hN]; have := hX.1; omega
    have hXe : Hid (MayX l.length l) := hX
    rw [← hN] at hl' hX' h38 h30 ⊢
    have hle := stl_le1 l' l'.length
    have hall := stl_all l' l'.length
    have hset : (∀ v : Nat, 1 ≤ v → v < N → settledF l' v) ↔ ∀ v : Nat, 1 ≤ v → v < N → setP (plX l') v := by
      have := fun v h1 h2 => set_iff (l := l') (by rw [hl']; exact hX') (v := v) h1 h2
      rw [hl'] at this
      exact ⟨fun h v h1 h2 => (this v h1 h2).1 (h v h1 h2), fun h v h1 h2 => (this v h1 h2).2 (h v h1 h2)⟩
    rw [hl', hset] at hall
    rw [hl'] at hle h38
    have hNH : Hid (N = l.length) := hN
    clear hset hno hyes hX hS hN
    refine ev_fnE A67 ?_
    by_cases hc : N - 1 ≤ (stl l' N).length
    · have hc' : ¬ ((stl l' N).length : Int) < (N : Int) - 1 := by omega
      have hA := hall.1 hc
      obtain ⟨R, hRd⟩ : ∃ R, R = l'.drop 1 := ⟨_, rfl⟩
      have hRl : R.length = N - 1 := by rw [hRd]; simp; omega
      have hRs : ∀ r ∈ R, r.l.length ≤ 70 := fun r hr => (hS'.2 r (by rw [hRd] at hr; exact List.mem_of_mem_drop hr)).1
      have hsol : pl (solP R R.length) = sol (plX l') := by rw [hRd]; exact solP_pl l'
      have hRdr : List.drop 1 l' = R := hRd.symm
      have hRt : List.take (N - 1) R = R := List.take_of_length_le (by omega)
      have hRZ : ((N - 1 : Nat) : Int) = (N : Int) - 1 := by omega
      have hH : Hid (∃ (k : Nat) (l' : List Rks), l'.length = N ∧ MayX N l' ∧ SmallX l' ∧ Red k (plX l) (plX l') ∧ NF (plX l') ∧ (∀ v : Nat, 1 ≤ v → v < N → setP (plX l') v) ∧ pl (solP R R.length) = sol (plX l')) := ⟨k, l', hl', hX', hS', hR, hNF, hA, hsol⟩
      clear hRd hall hA hsol
      repeat' (first | ((with_reducible first | apply S_0 | apply S_q1 | apply S_g | apply S_c); exact sgc) | (with_reducible first | apply SO_q | apply SG_t | apply SG_f0 | apply SG_f1 | apply S_nil | apply T_n | apply W_seq | apply W_region | apply SO_x | apply SC_t | apply SC_f | apply W_block | apply W_ret | apply W_skip | apply W_exit | apply T_r | apply T_e | apply B_n | apply B_e) | (with_reducible apply B_ne; focus decide) | (with_reducible first | apply B_r | apply R_e | apply R_r | apply H_e | apply H_r | apply G_e | apply G_r) | (with_reducible apply SC_n) | ((with_reducible first | apply SC_d | apply SG_d | apply SG_n | apply SC_b | apply SG_b) <;> intro hc <;> try simp only [decide_eq_true_eq, decide_eq_false_iff_not, Classical.not_not, Bool.not_eq_true', Bool.not_eq_false'] at hc))
      refine W_rngM 34 0 (N - 1) (fun i e m => ∃ v G, e 7 = v ∧ m = (M ++ [some [AV.flat (.int .i64 N), AV.list 1 (l.map Rks.av) nl cd], some [AV.flat (.int .i64 N), AV.list 1 (l'.map Rks.av) false false]]) ++ G ∧ ((i = 0 ∧ v = .list 1 ((solP R 0).map Pth.av) false true) ∨ (0 < i ∧ Own (M ++ [some [AV.flat (.int .i64 N), AV.list 1 (l.map Rks.av) nl cd], some [AV.flat (.int .i64 N), AV.list 1 (l'.map Rks.av) false false]]).length ((M ++ [some [AV.flat (.int .i64 N), AV.list 1 (l.map Rks.av) nl cd], some [AV.flat (.int .i64 N), AV.list 1 (l'.map Rks.av) false false]]) ++ G) v 1 ((solP R i).map Pth.av)))) (by simp only [asg, asgO, List.append_nil, List.nil_append, List.cons_append]; rfl) (by exact svc) (Nat.zero_le _)
        ⟨.list 1 ((solP R 0).map Pth.av) false true, [], by (simp (disch := first | assumption | decide | omega | exact Pth.le _ | exact Rks.le _ | exact List.getElem_mem _ | exact allI_ints _ | exact allI_rks _ | exact allI_pths _ | exact Pth.nil _ | exact Rks.nil _ | (intro hh; simp only [Pth.nil _ hh, List.take_nil, List.drop_nil]; done) | (intro hh; simp only [Rks.nil _ hh, List.take_nil, List.drop_nil]; done) | (simp only [List.length_take, List.length_drop, List.length_append, List.length_cons, List.length_nil, List.length_replicate, List.length_map, ints_len]; omega)) only [go_sem, if_pos, if_neg, Nat.reduceBEq, Nat.reduceEqDiff, ↓reduceIte, Nat.reduceSub, Nat.reduceAdd, Int.reduceToNat, reduceCtorEq, Nat.reduceLeDiff, Nat.reduceLT, Nat.reduceMul, Nat.reduceDiv, Int.reduceLT, Int.reduceLE, Int.reduceEq, Int.reduceNe, Int.reduceAdd, Int.reduceSub, Int.reduceNeg, Int.reduceGT, Int.reduceGE, Int.reduceBEq, Int.reduceBNe, Int.reduceMul, *]); rfl, by simp, .inl ⟨rfl, rfl⟩⟩ ?_
      rintro i e _ _ hi hk e34 ⟨w, G, e7, rfl, hO⟩
      have k32 : e 32 = .list 1 (R.map Rks.av) false false := by rw [hk 32 rfl]; exact svc
      have k33 : e 33 = .flat (.int .i64 ((N : Int) - 1)) := by rw [hk 33 rfl]; exact svc
      clear hk
      have hsl : (solP R i).length = i + 1 := solP_len (by omega)
      have hsa := allI_pths (solP R i)
      rcases Nat.lt_or_ge i (N - 1) with hlt | hlt
      · have hlt' : (i : Int) < (N : Int) - 1 := by omega
        have hiR : i < R.length := by omega
        have hst := solP_step hiR
        have h70 := hRs _ (List.getElem_mem hiR)
        rcases Nat.eq_zero_or_pos R[i].l.length with h0 | h0
        · have hz : ¬ 0 < (R[i].l.length : Int) := by omega
          have hhd : (hdP R[i]).av = .list 1 [] true true := by rw [hdP_e (List.eq_nil_of_length_eq_zero h0)]; rfl
          rw [hhd] at hst
          rcases hO with ⟨h0', hw⟩ | ⟨hi0, hO⟩
          · have hwH : Hid (w = .list 1 ((solP R i).map Pth.av) false true) := by rw [h0']; exact hw
            clear h0' hw
            repeat' (first | ((with_reducible first | apply S_0 | apply S_q1 | apply S_g | apply S_c); exact sgc) | (with_reducible first | apply SO_q | apply SG_t | apply SG_f0 | apply SG_f1 | apply S_nil | apply T_n | apply W_seq | apply W_region | apply SO_x | apply SC_t | apply SC_f | apply W_block | apply W_ret | apply W_skip | apply W_exit | apply T_r | apply T_e | apply B_n | apply B_e) | (with_reducible apply B_ne; focus decide) | (with_reducible first | apply B_r | apply R_e | apply R_r | apply H_e | apply H_r | apply G_e | apply G_r) | (with_reducible apply SC_n) | ((with_reducible first | apply SC_d | apply SG_d | apply SG_n | apply SC_b | apply SG_b) <;> intro hc <;> try simp only [decide_eq_true_eq, decide_eq_false_iff_not, Classical.not_not, Bool.not_eq_true', Bool.not_eq_false'] at hc))
            refine S_ownL (cs := (solP R i).map Pth.av) (y := .list 1 [] true true) (M ++ [some [AV.flat (.int .i64 N), AV.list 1 (l.map Rks.av) nl cd], some [AV.flat (.int .i64 N), AV.list 1 (l'.map Rks.av) false false]]) G (by simp) (Eq.trans (b := w) (by exact svc) hwH) (by exact svc) rfl hsa (by simp; omega) (by decide) ?_
            intro v' G' hO2
            rw [← hst] at hO2
            repeat' (first | ((with_reducible first | apply S_0 | apply S_q1 | apply S_g | apply S_c); exact sgc) | (with_reducible first | apply SO_q | apply SG_t | apply SG_f0 | apply SG_f1 | apply S_nil | apply T_n | apply W_seq | apply W_region | apply SO_x | apply SC_t | apply SC_f | apply W_block | apply W_ret | apply W_skip | apply W_exit | apply T_r | apply T_e | apply B_n | apply B_e) | (with_reducible apply B_ne; focus decide) | (with_reducible first | apply B_r | apply R_e | apply R_r | apply H_e | apply H_r | apply G_e | apply G_r) | (with_reducible apply SC_n) | ((with_reducible first | apply SC_d | apply SG_d | apply SG_n | apply SC_b | apply SG_b) <;> intro hc <;> try simp only [decide_eq_true_eq, decide_eq_false_iff_not, Classical.not_not, Bool.not_eq_true', Bool.not_eq_false'] at hc))
            exact G_n (by exact svc) hlt ⟨v', G', by exact svc, by simp, .inr ⟨by omega, hO2⟩⟩
          · repeat' (first | ((with_reducible first | apply S_0 | apply S_q1 | apply S_g | apply S_c); exact sgc) | (with_reducible first | apply SO_q | apply SG_t | apply SG_f0 | apply SG_f1 | apply S_nil | apply T_n | apply W_seq | apply W_region | apply SO_x | apply SC_t | apply SC_f | apply W_block | apply W_ret | apply W_skip | apply W_exit | apply T_r | apply T_e | apply B_n | apply B_e) | (with_reducible apply B_ne; focus decide) | (with_reducible first | apply B_r | apply R_e | apply R_r | apply H_e | apply H_r | apply G_e | apply G_r) | (with_reducible apply SC_n) | ((with_reducible first | apply SC_d | apply SG_d | apply SG_n | apply SC_b | apply SG_b) <;> intro hc <;> try simp only [decide_eq_true_eq, decide_eq_false_iff_not, Classical.not_not, Bool.not_eq_true', Bool.not_eq_false'] at hc))
            (refine S_ownG (cs := (solP R i).map Pth.av) (M ++ [some [AV.flat (.int .i64 N), AV.list 1 (l.map Rks.av) nl cd], some [AV.flat (.int .i64 N), AV.list 1 (l'.map Rks.av) false false]]) G (by assumption) (by first | rfl | simp only [List.append_assoc, List.cons_append, List.nil_append]) (by exact sgc) (by exact sgc) (by exact sgc) (by exact sgc) (by exact sgc) (by (first | assumption | omega | (simp only [ints_len, Nat.div_one, Nat.one_mul, Nat.mul_one, List.length_map, rks_len, half, List.length_cons, List.length_nil, List.length_append]; omega))) (by (first | assumption | omega | (simp only [ints_len, Nat.div_one, Nat.one_mul, Nat.mul_one, List.length_map, rks_len, half, List.length_cons, List.length_nil, List.length_append]; omega))) (by first | omega | (simp; done) | (simp; omega)) ?_)
            intro v' G' hO2
            rw [← hst] at hO2
            repeat' (first | ((with_reducible first | apply S_0 | apply S_q1 | apply S_g | apply S_c); exact sgc) | (with_reducible first | apply SO_q | apply SG_t | apply SG_f0 | apply SG_f1 | apply S_nil | apply T_n | apply W_seq | apply W_region | apply SO_x | apply SC_t | apply SC_f | apply W_block | apply W_ret | apply W_skip | apply W_exit | apply T_r | apply T_e | apply B_n | apply B_e) | (with_reducible apply B_ne; focus decide) | (with_reducible first | apply B_r | apply R_e | apply R_r | apply H_e | apply H_r | apply G_e | apply G_r) | (with_reducible apply SC_n) | ((with_reducible first | apply SC_d | apply SG_d | apply SG_n | apply SC_b | apply SG_b) <;> intro hc <;> try simp only [decide_eq_true_eq, decide_eq_false_iff_not, Classical.not_not, Bool.not_eq_true', Bool.not_eq_false'] at hc))
            exact G_n (by exact svc) hlt ⟨v', G', by exact svc, by simp, .inr ⟨by omega, hO2⟩⟩
        · have hz : 0 < (R[i].l.length : Int) := by omega
          have hhd : (hdP R[i]).av = .list 1 (intsA R[i].l[0].p.l) R[i].l[0].p.nl R[i].l[0].p.cd := by rw [hdP_n h0]; rfl
          have hz0 : (rksA R[i].l).head? = some (.list 1 (intsA R[i].l[0].p.l) R[i].l[0].p.nl R[i].l[0].p.cd) := by
            have := rks_at' R[i].l 0 h0
            simpa [List.head?_eq_getElem?, Pth.av_eq] using this
          rw [hhd] at hst
          rcases hO with ⟨h0', hw⟩ | ⟨hi0, hO⟩
          · have hwH : Hid (w = .list 1 ((solP R i).map Pth.av) false true) := by rw [h0']; exact hw
            clear h0' hw
            repeat' (first | ((with_reducible first | apply S_0 | apply S_q1 | apply S_g | apply S_c); exact sgc) | (with_reducible first | apply SO_q | apply SG_t | apply SG_f0 | apply SG_f1 | apply S_nil | apply T_n | apply W_seq | apply W_region | apply SO_x | apply SC_t | apply SC_f | apply W_block | apply W_ret | apply W_skip | apply W_exit | apply T_r | apply T_e | apply B_n | apply B_e) | (with_reducible apply B_ne; focus decide) | (with_reducible first | apply B_r | apply R_e | apply R_r | apply H_e | apply H_r | apply G_e | apply G_r) | (with_reducible apply SC_n) | ((with_reducible first | apply SC_d | apply SG_d | apply SG_n | apply SC_b | apply SG_b) <;> intro hc <;> try simp only [decide_eq_true_eq, decide_eq_false_iff_not, Classical.not_not, Bool.not_eq_true', Bool.not_eq_false'] at hc))
            refine S_ownL (cs := (solP R i).map Pth.av) (y := .list 1 (intsA R[i].l[0].p.l) R[i].l[0].p.nl R[i].l[0].p.cd) (M ++ [some [AV.flat (.int .i64 N), AV.list 1 (l.map Rks.av) nl cd], some [AV.flat (.int .i64 N), AV.list 1 (l'.map Rks.av) false false]]) G (by simp) (Eq.trans (b := w) (by exact svc) hwH) (by exact svc) rfl hsa (by simp; omega) (by decide) ?_
            intro v' G' hO2
            rw [← hst] at hO2
            repeat' (first | ((with_reducible first | apply S_0 | apply S_q1 | apply S_g | apply S_c); exact sgc) | (with_reducible first | apply SO_q | apply SG_t | apply SG_f0 | apply SG_f1 | apply S_nil | apply T_n | apply W_seq | apply W_region | apply SO_x | apply SC_t | apply SC_f | apply W_block | apply W_ret | apply W_skip | apply W_exit | apply T_r | apply T_e | apply B_n | apply B_e) | (with_reducible apply B_ne; focus decide) | (with_reducible first | apply B_r | apply R_e | apply R_r | apply H_e | apply H_r | apply G_e | apply G_r) | (with_reducible apply SC_n) | ((with_reducible first | apply SC_d | apply SG_d | apply SG_n | apply SC_b | apply SG_b) <;> intro hc <;> try simp only [decide_eq_true_eq, decide_eq_false_iff_not, Classical.not_not, Bool.not_eq_true', Bool.not_eq_false'] at hc))
            exact G_n (by exact svc) hlt ⟨v', G', by exact svc, by simp, .inr ⟨by omega, hO2⟩⟩
          · repeat' (first | ((with_reducible first | apply S_0 | apply S_q1 | apply S_g | apply S_c); exact sgc) | (with_reducible first | apply SO_q | apply SG_t | apply SG_f0 | apply SG_f1 | apply S_nil | apply T_n | apply W_seq | apply W_region | apply SO_x | apply SC_t | apply SC_f | apply W_block | apply W_ret | apply W_skip | apply W_exit | apply T_r | apply T_e | apply B_n | apply B_e) | (with_reducible apply B_ne; focus decide) | (with_reducible first | apply B_r | apply R_e | apply R_r | apply H_e | apply H_r | apply G_e | apply G_r) | (with_reducible apply SC_n) | ((with_reducible first | apply SC_d | apply SG_d | apply SG_n | apply SC_b | apply SG_b) <;> intro hc <;> try simp only [decide_eq_true_eq, decide_eq_false_iff_not, Classical.not_not, Bool.not_eq_true', Bool.not_eq_false'] at hc))
            (refine S_ownG (cs := (solP R i).map Pth.av) (M ++ [some [AV.flat (.int .i64 N), AV.list 1 (l.map Rks.av) nl cd], some [AV.flat (.int .i64 N), AV.list 1 (l'.map Rks.av) false false]]) G (by assumption) (by first | rfl | simp only [List.append_assoc, List.cons_append, List.nil_append]) (by exact sgc) (by exact sgc) (by exact sgc) (by exact sgc) (by exact sgc) (by (first | assumption | omega | (simp only [ints_len, Nat.div_one, Nat.one_mul, Nat.mul_one, List.length_map, rks_len, half, List.length_cons, List.length_nil, List.length_append]; omega))) (by (first | assumption | omega | (simp only [ints_len, Nat.div_one, Nat.one_mul, Nat.mul_one, List.length_map, rks_len, half, List.length_cons, List.length_nil, List.length_append]; omega))) (by first | omega | (simp; done) | (simp; omega)) ?_)
            intro v' G' hO2
            rw [← hst] at hO2
            repeat' (first | ((with_reducible first | apply S_0 | apply S_q1 | apply S_g | apply S_c); exact sgc) | (with_reducible first | apply SO_q | apply SG_t | apply SG_f0 | apply SG_f1 | apply S_nil | apply T_n | apply W_seq | apply W_region | apply SO_x | apply SC_t | apply SC_f | apply W_block | apply W_ret | apply W_skip | apply W_exit | apply T_r | apply T_e | apply B_n | apply B_e) | (with_reducible apply B_ne; focus decide) | (with_reducible first | apply B_r | apply R_e | apply R_r | apply H_e | apply H_r | apply G_e | apply G_r) | (with_reducible apply SC_n) | ((with_reducible first | apply SC_d | apply SG_d | apply SG_n | apply SC_b | apply SG_b) <;> intro hc <;> try simp only [decide_eq_true_eq, decide_eq_false_iff_not, Classical.not_not, Bool.not_eq_true', Bool.not_eq_false'] at hc))
            exact G_n (by exact svc) hlt ⟨v', G', by exact svc, by simp, .inr ⟨by omega, hO2⟩⟩
      · have hlt' : ¬ (i : Int) < (N : Int) - 1 := by omega
        have hlt2 : ¬ (N : Int) - 1 < (N : Int) - 1 := by omega
        obtain rfl : i = R.length := by omega
        rcases hO with ⟨h0, rfl⟩ | ⟨hi0, hO⟩
        · have hR0 : Hid (R.length = 0) := h0
          have hlt0 : ¬ (0 : Int) < (N : Int) - 1 := by omega
          have hlt1 : ¬ (R.length : Int) < (N : Int) - 1 := by omega
          clear h0
          repeat' (first | ((with_reducible first | apply S_0 | apply S_q1 | apply S_g | apply S_c); exact sgc) | (with_reducible first | apply SO_q | apply SG_t | apply SG_f0 | apply SG_f1 | apply S_nil | apply T_n | apply W_seq | apply W_region | apply SO_x | apply SC_t | apply SC_f | apply W_block | apply W_ret | apply W_skip | apply W_exit | apply T_r | apply T_e | apply B_n | apply B_e) | (with_reducible apply B_ne; focus decide) | (with_reducible first | apply B_r | apply R_e | apply R_r | apply H_e | apply H_r | apply G_e | apply G_r) | (with_reducible apply SC_n) | ((with_reducible first | apply SC_d | apply SG_d | apply SG_n | apply SC_b | apply SG_b) <;> intro hc <;> try simp only [decide_eq_true_eq, decide_eq_false_iff_not, Classical.not_not, Bool.not_eq_true', Bool.not_eq_false'] at hc))
          refine ⟨.inr rfl, .q (.tup [.list 1 ((solP R 0).map Pth.av) false true, .flat (.bool true)]), ?_, _, _, rfl, fun h => absurd hXe (by rw [← show N = l.length from hNH]; exact h), fun _ => ?_⟩
          · simp only [resA, rvA, tupA, fin, frzV, frzTup, frzA, frz, isI, isI.all, Option.bind_some]
            (simp (disch := first | assumption | decide | omega | exact Pth.le _ | exact Rks.le _ | exact List.getElem_mem _ | exact allI_ints _ | exact allI_rks _ | exact allI_pths _ | exact Pth.nil _ | exact Rks.nil _ | (intro hh; simp only [Pth.nil _ hh, List.take_nil, List.drop_nil]; done) | (intro hh; simp only [Rks.nil _ hh, List.take_nil, List.drop_nil]; done) | (simp only [List.length_take, List.length_drop, List.length_append, List.length_cons, List.length_nil, List.length_replicate, List.length_map, ints_len]; omega)) only [go_sem, if_pos, if_neg, Nat.reduceBEq, Nat.reduceEqDiff, ↓reduceIte, Nat.reduceSub, Nat.reduceAdd, Int.reduceToNat, reduceCtorEq, Nat.reduceLeDiff, Nat.reduceLT, Nat.reduceMul, Nat.reduceDiv, Int.reduceLT, Int.reduceLE, Int.reduceEq, Int.reduceNe, Int.reduceAdd, Int.reduceSub, Int.reduceNeg, Int.reduceGT, Int.reduceGE, Int.reduceBEq, Int.reduceBNe, Int.reduceMul, *])
            exact if_pos rfl
          · obtain ⟨k, l', a1, a2, a3, a4, a5, a6, a7⟩ := hH
            rw [show R.length = 0 from hR0] at a7
            exact ⟨k, l', a1, a2, a3, a4, a5, .inr ⟨a6, rfl, _, _, rfl, a7⟩⟩
        · obtain ⟨_, _, _, ⟨hn, _⟩ | ⟨_, id, q1, q2, rfl, q4⟩⟩ := hO
          · have := congrArg List.length hn
            rw [List.length_map, hsl, List.length_nil] at this; omega
          · repeat' (first | ((with_reducible first | apply S_0 | apply S_q1 | apply S_g | apply S_c); exact sgc) | (with_reducible first | apply SO_q | apply SG_t | apply SG_f0 | apply SG_f1 | apply S_nil | apply T_n | apply W_seq | apply W_region | apply SO_x | apply SC_t | apply SC_f | apply W_block | apply W_ret | apply W_skip | apply W_exit | apply T_r | apply T_e | apply B_n | apply B_e) | (with_reducible apply B_ne; focus decide) | (with_reducible first | apply B_r | apply R_e | apply R_r | apply H_e | apply H_r | apply G_e | apply G_r) | (with_reducible apply SC_n) | ((with_reducible first | apply SC_d | apply SG_d | apply SG_n | apply SC_b | apply SG_b) <;> intro hc <;> try simp only [decide_eq_true_eq, decide_eq_false_iff_not, Classical.not_not, Bool.not_eq_true', Bool.not_eq_false'] at hc))
            refine ⟨.inr rfl, .q (.tup [.list 1 ((solP R R.length).map Pth.av) false false, .flat (.bool true)]), ?_, _, _, rfl, fun h => absurd hXe (by rw [← show N = l.length from hNH]; exact h), fun _ => ?_⟩
            · simp only [resA, rvA, tupA, Option.bind_some]
              (simp (disch := first | assumption | decide | omega | exact Pth.le _ | exact Rks.le _ | exact List.getElem_mem _ | exact allI_ints _ | exact allI_rks _ | exact allI_pths _ | exact Pth.nil _ | exact Rks.nil _ | (intro hh; simp only [Pth.nil _ hh, List.take_nil, List.drop_nil]; done) | (intro hh; simp only [Rks.nil _ hh, List.take_nil, List.drop_nil]; done) | (simp only [List.length_take, List.length_drop, List.length_append, List.length_cons, List.length_nil, List.length_replicate, List.length_map, ints_len]; omega)) only [go_sem, if_pos, if_neg, Nat.reduceBEq, Nat.reduceEqDiff, ↓reduceIte, Nat.reduceSub, Nat.reduceAdd, Int.reduceToNat, reduceCtorEq, Nat.reduceLeDiff, Nat.reduceLT, Nat.reduceMul, Nat.reduceDiv, Int.reduceLT, Int.reduceLE, Int.reduceEq, Int.reduceNe, Int.reduceAdd, Int.reduceSub, Int.reduceNeg, Int.reduceGT, Int.reduceGE, Int.reduceBEq, Int.reduceBNe, Int.reduceMul, *])
              rw [← hRl]
              refine fin_tp (by simp at q1; omega) ?_ (by simp) (allI_pths _)
              simpa using q4
            · obtain ⟨k, l', a1, a2, a3, a4, a5, a6, a7⟩ := hH
              exact ⟨k, l', a1, a2, a3, a4, a5, .inr ⟨a6, rfl, _, _, rfl, a7⟩⟩
    · have hc' : ((stl l' N).length : Int) < (N : Int) - 1 := by omega
      have hA : ¬ _ := fun h => hc (hall.2 h)
      have hH : Hid (∃ (k : Nat) (l' : List Rks), l'.length = N ∧ MayX N l' ∧ SmallX l' ∧ Red k (plX l) (plX l') ∧ NF (plX l') ∧ ¬ (∀ v : Nat, 1 ≤ v → v < N → setP (plX l') v)) := ⟨k, l', hl', hX', hS', hR, hNF, hA⟩
      clear hall hA
      repeat' (first | ((with_reducible first | apply S_0 | apply S_q1 | apply S_g | apply S_c); exact sgc) | (with_reducible first | apply SO_q | apply SG_t | apply SG_f0 | apply SG_f1 | apply S_nil | apply T_n | apply W_seq | apply W_region | apply SO_x | apply SC_t | apply SC_f | apply W_block | apply W_ret | apply W_skip | apply W_exit | apply T_r | apply T_e | apply B_n | apply B_e) | (with_reducible apply B_ne; focus decide) | (with_reducible first | apply B_r | apply R_e | apply R_r | apply H_e | apply H_r | apply G_e | apply G_r) | (with_reducible apply SC_n) | ((with_reducible first | apply SC_d | apply SG_d | apply SG_n | apply SC_b | apply SG_b) <;> intro hc <;> try simp only [decide_eq_true_eq, decide_eq_false_iff_not, Classical.not_not, Bool.not_eq_true', Bool.not_eq_false'] at hc))
      refine ⟨.inr rfl, .q (.tup [.list 1 [] true true, .flat (.bool false)]), ?_, _, _, rfl, fun h => absurd hXe (by rw [← show N = l.length from hNH]; exact h), fun _ => ?_⟩
      · simp only [resA, rvA, tupA, fin, frzV, frzTup, frzA, frz, isI, isI.all, Option.bind_some]
        (simp (disch := first | assumption | decide | omega | exact Pth.le _ | exact Rks.le _ | exact List.getElem_mem _ | exact allI_ints _ | exact allI_rks _ | exact allI_pths _ | exact Pth.nil _ | exact Rks.nil _ | (intro hh; simp only [Pth.nil _ hh, List.take_nil, List.drop_nil]; done) | (intro hh; simp only [Rks.nil _ hh, List.take_nil, List.drop_nil]; done) | (simp only [List.length_take, List.length_drop, List.length_append, List.length_cons, List.length_nil, List.length_replicate, List.length_map, ints_len]; omega)) only [go_sem, if_pos, if_neg, Nat.reduceBEq, Nat.reduceEqDiff, ↓reduceIte, Nat.reduceSub, Nat.reduceAdd, Int.reduceToNat, reduceCtorEq, Nat.reduceLeDiff, Nat.reduceLT, Nat.reduceMul, Nat.reduceDiv, Int.reduceLT, Int.reduceLE, Int.reduceEq, Int.reduceNe, Int.reduceAdd, Int.reduceSub, Int.reduceNeg, Int.reduceGT, Int.reduceGE, Int.reduceBEq, Int.reduceBNe, Int.reduceMul, *])
        exact if_pos rfl
      · obtain ⟨k, l', a1, a2, a3, a4, a5, a6⟩ := hH
        exact ⟨k, l', a1, a2, a3, a4, a5, .inl ⟨a6, rfl, rfl⟩⟩
  · have := hno hX
    subst this
    clear hno hyes
    refine ev_fnE A67 ?_
    repeat' (first | ((with_reducible first | apply S_0 | apply S_q1 | apply S_g | apply S_c); exact sgc) | (with_reducible first | apply SO_q | apply SG_t | apply SG_f0 | apply SG_f1 | apply S_nil | apply T_n | apply W_seq | apply W_region | apply SO_x | apply SC_t | apply SC_f | apply W_block | apply W_ret | apply W_skip | apply W_exit | apply T_r | apply T_e | apply B_n | apply B_e) | (with_reducible apply B_ne; focus decide) | (with_reducible first | apply B_r | apply R_e | apply R_r | apply H_e | apply H_r | apply G_e | apply G_r) | (with_reducible apply SC_n) | ((with_reducible first | apply SC_d | apply SG_d | apply SG_n | apply SC_b | apply SG_b) <;> intro hc <;> try simp only [decide_eq_true_eq, decide_eq_false_iff_not, Classical.not_not, Bool.not_eq_true', Bool.not_eq_false'] at hc))
    refine ⟨.inr rfl, .q (.tup [.list 1 [] true true, .flat (.bool false)]), ?_, _, _, rfl, fun _ => ⟨rfl, rfl⟩, fun h => absurd h hX⟩
    simp only [resA, rvA, tupA, fin, frzV, frzTup, frzA, frz, isI, isI.all, Option.bind_some]
    (simp (disch := first | assumption | decide | omega | exact Pth.le _ | exact Rks.le _ | exact List.getElem_mem _ | exact allI_ints _ | exact allI_rks _ | exact allI_pths _ | exact Pth.nil _ | exact Rks.nil _ | (intro hh; simp only [Pth.nil _ hh, List.take_nil, List.drop_nil]; done) | (intro hh; simp only [Rks.nil _ hh, List.take_nil, List.drop_nil]; done) | (simp only [List.length_take, List.length_drop, List.length_append, List.length_cons, List.length_nil, List.length_replicate, List.length_map, ints_len]; omega)) only [go_sem, if_pos, if_neg, Nat.reduceBEq, Nat.reduceEqDiff, ↓reduceIte, Nat.reduceSub, Nat.reduceAdd, Int.reduceToNat, reduceCtorEq, Nat.reduceLeDiff, Nat.reduceLT, Nat.reduceMul, Nat.reduceDiv, Int.reduceLT, Int.reduceLE, Int.reduceEq, Int.reduceNe, Int.reduceAdd, Int.reduceSub, Int.reduceNeg, Int.reduceGT, Int.reduceGE, Int.reduceBEq, Int.reduceBNe, Int.reduceMul, *])
    exact if_pos rfl
end Go.Proofs.Ytopiaiibpacmlaa.Av
