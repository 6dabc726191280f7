/- The law TrimTrims on the evaluator. -/
import Derived.Test.YtopiaiibpacmlaaX10
import Derived.Test.YtopiaiibpacmlaaX4
namespace Go.Proofs.Ytopiaiibpacmlaa.Av
open Go.RowKit
set_option linter.unusedSimpArgs false
set_option linter.unusedVariables false
set_option maxHeartbeats 10000000
theorem Own.vwR {lo : Nat} {M : MS} {x : AV} {s : List Rks} (h : Own lo M x 1 (s.map Rks.av)) : Vw M x (s.map Rks.av) s.length := by
  refine ⟨by have := h.lenOf; simpa using this, fun G => ?_, h.cell⟩
  have := (show Own lo (M ++ G) x 1 (s.map Rks.av) from by
    obtain ⟨a, b, c, e | ⟨f, id, g1, g2, g3, g4⟩⟩ := h
    · exact ⟨a, b, c, .inl e⟩
    · exact ⟨a, b, c, .inr ⟨f, id, g1, by simp; omega, g3, by rw [List.getElem?_append_left g2]; exact g4⟩⟩)
  exact this.view
theorem law4 (n : Int) (l : List Rks) (nl cd : Bool) (hl : l.length ≤ 9223372036854775807) (M : MS) :
    ev pr 4 [.agg [.flat (.int .i64 n), .list 1 (l.map Rks.av) nl cd]] M = some (.q (.flat (.bool true))) := by
  have h28 := lives24
  have h27 := fun M => t27 n l nl cd M hl
  by_cases hS : SmallX l
  · simp only [hS, decide_true] at h27
    have h31 := fun M => t31 n l nl cd M hl
    obtain ⟨out29, h29, w, G0, rfl, hO⟩ := t29 n l nl cd (M ++ [some [.flat (.int .i64 n), .list 1 (l.map Rks.av) nl cd]]) (by have := hS.1; omega) fun r hr => ⟨by have := (hS.2 r hr).1; omega, fun q hq => by have := (hS.2 r hr).2 q hq; omega⟩
    have hwv := hO.vwR
    have hwc := hO.cell
    simp only [List.append_assoc, List.cons_append, List.nil_append] at h29 hwv
    obtain ⟨x30, h30, hno, hyes⟩ := t30 n l nl cd (M ++ (some [.flat (.int .i64 n), .list 1 (l.map Rks.av) nl cd] :: (G0 ++ [some [.flat (.int .i64 n), w]]))) hS
    by_cases hX : MayX n l
    · simp only [hX, decide_true] at h31
      obtain ⟨k, l', rfl, hl', hX', hS', hR, hNF⟩ := hyes hX
      obtain rfl : n = l.length := hX.2.2.1.symm
      have hlc : (l.map cpR).length = l.length := by simp
      have hpc := plX_cp l
      have hrk := rkv_cp l
      have hXc := may_cp hX
      have hSc := small_cp hS
      obtain ⟨lc, hlcd⟩ : ∃ lc, lc = l.map cpR := ⟨_, rfl⟩
      rw [← hlcd] at hwv hlc hpc hrk hXc hSc
      have hXl := hX
      obtain ⟨N, hN⟩ : ∃ N, N = l.length := ⟨_, rfl⟩
      rw [← hN] at hlc hXc hl' hX' h29 h30 hwv h27 h31 hX ⊢
      obtain ⟨out32, h32, k2, l2, rc, G2, rfl, hrc, hl2, hX2, hS2, hR2, hNF2⟩ := t32 (hwv.ext [some [.flat (.int .i64 N), w], some [.flat (.int .i64 N), .list 1 (l'.map Rks.av) false false]]) (by rw [hlc]; exact hXc) hSc
      rw [hlc] at h32 hl2 hX2
      rw [hpc] at hR2
      obtain ⟨hkk, hpp⟩ := red_uniq hR (ok_plX hXl) hNF hR2 hNF2
      obtain ⟨X, hXd⟩ : ∃ X, X = G0 ++ [some [.flat (.int .i64 N), w], some [.flat (.int .i64 N), .list 1 (l'.map Rks.av) false false]] ++ G2 := ⟨_, rfl⟩
      have hX3 : ∀ Y, (M ++ (some [.flat (.int .i64 N), .list 1 (l.map Rks.av) nl cd] :: (X ++ Y)))[M.length + (G0.length + 1)]? = some (some [.flat (.int .i64 N), w]) := fun Y => by
        rw [List.getElem?_append_right (by omega), Nat.add_sub_cancel_left, List.getElem?_cons_succ, hXd, List.append_assoc, List.append_assoc, List.getElem?_append_right (by omega)]; simp
      have hX4 : ∀ Y, (M ++ (some [.flat (.int .i64 N), .list 1 (l.map Rks.av) nl cd] :: (X ++ Y)))[M.length + (G0.length + 2)]? = some (some [.flat (.int .i64 N), .list 1 (l'.map Rks.av) false false]) := fun Y => by
        rw [List.getElem?_append_right (by omega), Nat.add_sub_cancel_left, List.getElem?_cons_succ, hXd, List.append_assoc, List.append_assoc, List.getElem?_append_right (by omega), show G0.length + 1 - G0.length = 1 by omega]; simp
      rw [show M ++ some [AV.flat (.int .i64 N), AV.list 1 (l.map Rks.av) nl cd] :: G0 ++ [some [AV.flat (.int .i64 N), w], some [AV.flat (.int .i64 N), AV.list 1 (l'.map Rks.av) false false]] ++ G2 = M ++ (some [.flat (.int .i64 N), .list 1 (l.map Rks.av) nl cd] :: X) by rw [hXd]; simp] at h32
      rw [show M ++ some [AV.flat (.int .i64 N), AV.list 1 (l.map Rks.av) nl cd] :: G0 ++ [some [AV.flat (.int .i64 N), w], some [AV.flat (.int .i64 N), AV.list 1 (l'.map Rks.av) false false]] = M ++ (some [.flat (.int .i64 N), .list 1 (l.map Rks.av) nl cd] :: (G0 ++ [some [AV.flat (.int .i64 N), w], some [AV.flat (.int .i64 N), AV.list 1 (l'.map Rks.av) false false]])) by simp] at h32
      obtain ⟨x30', h30', _, hyes'⟩ := t30 N l' false false (M ++ (some [.flat (.int .i64 N), .list 1 (l.map Rks.av) nl cd] :: (X ++ [some [.flat (.int .i64 N), rc]]))) hS'
      obtain ⟨k3, l3, rfl, hl3, hX3', hS3, hR3, hNF3⟩ := hyes' hX'
      obtain ⟨hk3, hp3⟩ := red_uniq hR3 (red_ok hR (ok_plX hXl)) hNF3 (.refl _) hNF
      have big : ∀ {l : List Rks}, SmallX l → l.length ≤ 1000 ∧ ∀ r ∈ l, r.l.length ≤ 1000 ∧ ∀ q ∈ r.l, q.p.l.length ≤ 1000 := fun hS => ⟨by have := hS.1; omega, fun r hr => ⟨by have := (hS.2 r hr).1; omega, fun q hq => by have := (hS.2 r hr).2 q hq; omega⟩⟩
      have hcrc := hrc.cell
      have vrc : ∀ Y, Vw (M ++ (some [.flat (.int .i64 N), .list 1 (l.map Rks.av) nl cd] :: (X ++ Y))) rc (l2.map Rks.av) l2.length := fun Y => by
        have := hrc.ext (G2 ++ Y)
        rw [hXd]
        simpa using this
      have vw : ∀ Y, Vw (M ++ (some [.flat (.int .i64 N), .list 1 (l.map Rks.av) nl cd] :: (X ++ Y))) w (lc.map Rks.av) lc.length := fun Y => by
        have := hwv.ext ([some [.flat (.int .i64 N), w], some [.flat (.int .i64 N), .list 1 (l'.map Rks.av) false false]] ++ G2 ++ Y)
        rw [hXd]
        simpa using this
      have r1 : rkv l' = rkv l2 := rkv_pl hX' hX2 hpp
      have r2 : rkv l3 = rkv l' := rkv_pl hX3' hX' hp3
      have a1 := fun Y => t33 (n := N) (m := N) (Vw.list (M ++ (some [.flat (.int .i64 N), .list 1 (l.map Rks.av) nl cd] :: (X ++ Y))) Rks.av l' false false) (vrc Y) (big hS').1 (big hS').2
      have a2 := fun Y => t33 (n := N) (m := N) (Vw.list (M ++ (some [.flat (.int .i64 N), .list 1 (l.map Rks.av) nl cd] :: (X ++ Y))) Rks.av l nl cd) (vw Y) (big hS).1 (big hS).2
      have a3 := fun Y => t33 (n := N) (m := N) (Vw.list (M ++ (some [.flat (.int .i64 N), .list 1 (l.map Rks.av) nl cd] :: (X ++ Y))) Rks.av l3 false false) (Vw.list _ Rks.av l' false false) (big hS3).1 (big hS3).2
      simp only [r1, and_self, decide_true] at a1
      simp only [hrk, and_self, decide_true] at a2
      simp only [r2, and_self, decide_true] at a3
      subst hkk hk3
      clear hO hno hyes hyes' hrc hwv vrc vw r1 r2 hXd hN hlcd big hR hNF hR2 hNF2 hR3 hNF3 hpp hp3 hrk hpc hX3' hS3 hl3 hX2 hS2 hl2 hX' hS' hl' hXl hX hSc hXc hlc hS
      refine ev_fn' A4 ?_
      repeat' (first | ((with_reducible first | apply S_0 | apply S_q1 | apply S_g | apply S_c); exact sgc) | (with_reducible first | apply SO_q | apply SG_t | apply SG_f0 | apply SG_f1 | apply S_nil | apply T_n | apply W_seq | apply W_region | apply SO_x | apply SC_t | apply SC_f | apply W_block | apply W_ret | apply W_skip | apply W_exit | apply T_r | apply T_e | apply B_n | apply B_e) | (with_reducible apply B_ne; focus decide) | (with_reducible first | apply B_r | apply R_e | apply R_r | apply H_e | apply H_r | apply G_e | apply G_r) | (with_reducible apply SC_n) | ((with_reducible first | apply SC_d | apply SG_d | apply SG_n | apply SC_b | apply SG_b) <;> intro hc <;> try simp only [decide_eq_true_eq, decide_eq_false_iff_not, Classical.not_not, Bool.not_eq_true', Bool.not_eq_false'] at hc))
      (first | exact fincR | exact fincN)
    · have := hno hX
      subst this
      simp only [hX, decide_false] at h31
      clear hO hwv hno hyes
      refine ev_fn' A4 ?_
      repeat' (first | ((with_reducible first | apply S_0 | apply S_q1 | apply S_g | apply S_c); exact sgc) | (with_reducible first | apply SO_q | apply SG_t | apply SG_f0 | apply SG_f1 | apply S_nil | apply T_n | apply W_seq | apply W_region | apply SO_x | apply SC_t | apply SC_f | apply W_block | apply W_ret | apply W_skip | apply W_exit | apply T_r | apply T_e | apply B_n | apply B_e) | (with_reducible apply B_ne; focus decide) | (with_reducible first | apply B_r | apply R_e | apply R_r | apply H_e | apply H_r | apply G_e | apply G_r) | (with_reducible apply SC_n) | ((with_reducible first | apply SC_d | apply SG_d | apply SG_n | apply SC_b | apply SG_b) <;> intro hc <;> try simp only [decide_eq_true_eq, decide_eq_false_iff_not, Classical.not_not, Bool.not_eq_true', Bool.not_eq_false'] at hc))
      (first | exact fincR | exact fincN)
  · simp only [hS, decide_false] at h27
    refine ev_fn' A4 ?_
    repeat' (first | ((with_reducible first | apply S_0 | apply S_q1 | apply S_g | apply S_c); exact sgc) | (with_reducible first | apply SO_q | apply SG_t | apply SG_f0 | apply SG_f1 | apply S_nil | apply T_n | apply W_seq | apply W_region | apply SO_x | apply SC_t | apply SC_f | apply W_block | apply W_ret | apply W_skip | apply W_exit | apply T_r | apply T_e | apply B_n | apply B_e) | (with_reducible apply B_ne; focus decide) | (with_reducible first | apply B_r | apply R_e | apply R_r | apply H_e | apply H_r | apply G_e | apply G_r) | (with_reducible apply SC_n) | ((with_reducible first | apply SC_d | apply SG_d | apply SG_n | apply SC_b | apply SG_b) <;> intro hc <;> try simp only [decide_eq_true_eq, decide_eq_false_iff_not, Classical.not_not, Bool.not_eq_true', Bool.not_eq_false'] at hc))
    (first | exact fincR | exact fincN)
theorem law_trimTrims (x0 : AV) (h0 : dtInst.Arg x0) : ev pr 4 [x0] [] = some (.q (.flat (.bool true))) := by
  obtain ⟨n, l, nl, cd, rfl, hl⟩ := inst_arg h0
  exact law4 n l nl cd hl []
end Go.Proofs.Ytopiaiibpacmlaa.Av
