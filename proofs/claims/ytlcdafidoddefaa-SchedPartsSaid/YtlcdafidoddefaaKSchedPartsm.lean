/- The law SchedParts on the evaluator. -/
import Derived.Test.YtlcdafidoddefaaX11
import Derived.Test.YtlcdafidoddefaaX6
namespace Go.Proofs.Ytlcdafidoddefaa.Av
open Go.RowKit
set_option linter.unusedSimpArgs false
set_option linter.unusedVariables false
set_option maxHeartbeats 10000000
set_option maxRecDepth 100000 in
theorem lives28_0 : ev pr 27 [] [] = some (.q (.flat (.bool true))) := ev_some.2 ⟨80, by kernel_rfl⟩
theorem lives28 (M : MS) : ev pr 27 [] M = some (.q (.flat (.bool true))) := any rfl rfl lives28_0 M
theorem law6 (n : Int) (l : List Rks) (nl cd : Bool) (aa : List Int) (na ca : Bool) (bs : List Int) (nb cb : Bool) (hl : l.length ≤ 9223372036854775807) (ha : aa.length ≤ 9223372036854775807) (hb : bs.length ≤ 9223372036854775807) : ev pr 6 [.agg [.flat (.int .i64 n), .list 1 (l.map Rks.av) nl cd], .list 1 (intsA aa) na ca, .list 1 (intsA bs) nb cb] [] = some (.q (.flat (.bool true))) := by
  have h27 := lives28
  have h17 := fun M => t17 n l nl cd M hl
  have h19 := fun M => t19 n l nl cd M hl
  by_cases hS : SmallX l
  case neg =>
    rw [decide_eq_false hS] at h17
    clear hS h19
    refine ev_fn' A6 ?_
    repeat' (first | ((with_reducible first | apply S_0 | apply S_q1 | apply S_g | apply S_c); exact sgc) | refine Stp.h ?_ | (with_reducible apply B_ne; focus decide) | ((with_reducible first | apply SC_d | apply SG_d | apply SG_n | apply SC_b | apply SG_b) <;> intro hc <;> try simp only [dq1, dq2, dq3, dq4, dq5] at hc))
    (first | exact fincR | exact fincN)
  rw [decide_eq_true hS] at h17
  by_cases ha8 : aa.length ≤ 80
  case neg =>
    have ha8' : (80 : Int) < aa.length := by omega
    clear hS h19 ha8
    refine ev_fn' A6 ?_
    repeat' (first | ((with_reducible first | apply S_0 | apply S_q1 | apply S_g | apply S_c); exact sgc) | refine Stp.h ?_ | (with_reducible apply B_ne; focus decide) | ((with_reducible first | apply SC_d | apply SG_d | apply SG_n | apply SC_b | apply SG_b) <;> intro hc <;> try simp only [dq1, dq2, dq3, dq4, dq5] at hc))
    (first | exact fincR | exact fincN)
  have ha8' : ¬ (80 : Int) < aa.length := by omega
  by_cases hb8 : bs.length ≤ 80
  case neg =>
    have hb8' : (80 : Int) < bs.length := by omega
    clear hS h19 hb8
    refine ev_fn' A6 ?_
    repeat' (first | ((with_reducible first | apply S_0 | apply S_q1 | apply S_g | apply S_c); exact sgc) | refine Stp.h ?_ | (with_reducible apply B_ne; focus decide) | ((with_reducible first | apply SC_d | apply SG_d | apply SG_n | apply SC_b | apply SG_b) <;> intro hc <;> try simp only [dq1, dq2, dq3, dq4, dq5] at hc))
    (first | exact fincR | exact fincN)
  have hb8' : ¬ (80 : Int) < bs.length := by omega
  by_cases hX : MayX n l
  case neg =>
    rw [decide_eq_false hX] at h19
    clear hS hX
    refine ev_fn' A6 ?_
    repeat' (first | ((with_reducible first | apply S_0 | apply S_q1 | apply S_g | apply S_c); exact sgc) | refine Stp.h ?_ | (with_reducible apply B_ne; focus decide) | ((with_reducible first | apply SC_d | apply SG_d | apply SG_n | apply SC_b | apply SG_b) <;> intro hc <;> try simp only [dq1, dq2, dq3, dq4, dq5] at hc))
    (first | exact fincR | exact fincN)
  rw [decide_eq_true hX] at h19
  obtain ⟨out, h18, m0, G, rfl, hm0, hnw⟩ := t18 n l nl cd [some [.flat (.int .i64 n), .list 1 (l.map Rks.av) nl cd]] hS hX
  obtain ⟨N0, hN0⟩ : ∃ N0, N0 = [some [AV.flat (.int .i64 n), .list 1 (l.map Rks.av) nl cd]] ++ G := ⟨_, rfl⟩
  rw [← hN0] at h18 hm0
  have hb0 := hm0.b
  have hbl := get_lt hb0
  have hH0 : Hid (Mach N0 m0) := hm0
  have hO0 : Own N0.length (N0 ++ []) (.list 1 [] true true) 1 [] := Own.nil _ _ (by decide)
  clear hS hX hm0 hnw ha hb hN0
  refine ev_fn' A6 ?_
  repeat' (first | ((with_reducible first | apply S_0 | apply S_q1 | apply S_g | apply S_c); exact sgc) | refine Stp.h ?_ | (with_reducible apply B_ne; focus decide) | ((with_reducible first | apply SC_d | apply SG_d | apply SG_n | apply SC_b | apply SG_b) <;> intro hc <;> try simp only [dq1, dq2, dq3, dq4, dq5] at hc))
  rw [show N0 = N0 ++ [] from (List.append_nil N0).symm]
  (refine S_ownG (cs := []) N0 [] (by assumption) (by first | rfl | simp only [List.append_assoc, List.cons_append, List.nil_append]) (by exact sgc) (by exact sgc) (by exact sgc) (by exact sgc) (by exact sgc) (by (first | assumption | omega | (simp only [ints_len, Nat.div_one, Nat.one_mul, Nat.mul_one, List.length_map, rks_len, half, List.length_cons, List.length_nil, List.length_append, List.length_replicate]; omega))) (by (first | assumption | omega | (simp only [ints_len, Nat.div_one, Nat.one_mul, Nat.mul_one, List.length_map, rks_len, half, List.length_cons, List.length_nil, List.length_append, List.length_replicate]; omega))) (by first | omega | (simp; done) | (simp; omega)) ?_)
  intro v1 G1 hO1
  rw [List.nil_append] at hO1
  have hv1 := hO1.view
  have hb1 := get_grow hb0 G1
  clear hO0 hb0
  repeat' (first | ((with_reducible first | apply S_0 | apply S_q1 | apply S_g | apply S_c); exact sgc) | refine Stp.h ?_ | (with_reducible apply B_ne; focus decide) | ((with_reducible first | apply SC_d | apply SG_d | apply SG_n | apply SC_b | apply SG_b) <;> intro hc <;> try simp only [dq1, dq2, dq3, dq4, dq5] at hc))
  (refine S_ownG (cs := intsA aa) N0 G1 (by assumption) (by first | rfl | simp only [List.append_assoc, List.cons_append, List.nil_append]) (by exact sgc) (by exact sgc) (by exact sgc) (by exact sgc) (by exact sgc) (by (first | assumption | omega | (simp only [ints_len, Nat.div_one, Nat.one_mul, Nat.mul_one, List.length_map, rks_len, half, List.length_cons, List.length_nil, List.length_append, List.length_replicate]; omega))) (by (first | assumption | omega | (simp only [ints_len, Nat.div_one, Nat.one_mul, Nat.mul_one, List.length_map, rks_len, half, List.length_cons, List.length_nil, List.length_append, List.length_replicate]; omega))) (by first | omega | (simp; done) | (simp; omega)) ?_)
  intro v G2 hO
  have hab : intsA aa ++ intsA bs = intsA (aa ++ bs) := by simp [intsA]
  rw [hab] at hO
  have hm1 : Mach (N0 ++ G2) m0 := (show Mach N0 m0 from hH0).grow G2
  have hvl : lenOf v = some (aa ++ bs).length := by rw [hO.lenOf, ints_len, Nat.div_one]
  have hvv : ∀ mm : MS, (∀ j, j < (N0 ++ G2).length → mm[j]? = (N0 ++ G2)[j]?) → view mm v = some (intsA (aa ++ bs)) := by
    intro mm hmm
    rcases hO.own with ⟨e1, e2⟩ | ⟨id, e1, e2, e3, e4⟩
    · rw [e1, e2]; rfl
    · have := hmm id e2
      rw [e4] at this
      rw [e3, Nat.div_one]
      simp only [view, this, Nat.zero_add, List.drop_zero, Nat.mul_one]
      rw [if_pos (Nat.le_refl _), List.take_length]
  obtain ⟨out, k28, N1, one, rfl, hp1, hq1⟩ := t28 m0 (aa ++ bs) v (N0 ++ G2) hm1 (by simp; omega) hvl hvv
  obtain ⟨T1, hT1⟩ : ∃ T1, T1 = (ply0 (plX m0.l) m0.L m0.pm (aa ++ bs)).2.2 := ⟨_, rfl⟩
  rw [← hT1] at k28
  have hm2 : Mach (N1 ++ [some T1.cs]) m0 := (hm1.keep hp1.fr).grow _
  obtain ⟨out, k28a, N2, half, rfl, hp2, hq2⟩ := t28 m0 aa (.list 1 (intsA aa) na ca) (N1 ++ [some T1.cs]) hm2 (by omega) (by simp [lenOf, intsA]) (fun _ _ => rfl)
  obtain ⟨T2, hT2⟩ : ∃ T2, T2 = (ply0 (plX m0.l) m0.L m0.pm aa).2.2 := ⟨_, rfl⟩
  rw [← hT2] at k28a
  obtain ⟨out, k28b, N3, two, rfl, hp3, hq3⟩ := t28 half bs (.list 1 (intsA bs) nb cb) (N2 ++ [some T2.cs]) (hp2.mach.grow _) (by omega) (by simp [lenOf, intsA]) (fun _ _ => rfl)
  have hhL : half.L = m0.L := by rw [hp2.mach.Leq, hp2.l, (show Mach N0 m0 from hH0).Leq]
  rw [hp2.l, hhL, hq2] at k28b hq3
  obtain ⟨T3, hT3⟩ : ∃ T3, T3 = (ply0 (plX m0.l) m0.L (dlvs (plX m0.l) m0.L m0.pm aa) bs).2.2 := ⟨_, rfl⟩
  rw [← hT3] at k28b
  have hl1 := hp1.len
  have hl2 := hp2.len
  have hl3 := hp3.len
  simp only [List.length_append, List.length_cons, List.length_nil] at hl1 hl2 hl3
  have hN2 : ∀ j, j < N1.length → N2[j]? = N1[j]? := fun j hj => by rw [hp2.fr j (by simp; omega), List.getElem?_append_left hj]
  have hN3 : ∀ j, j < N2.length → N3[j]? = N2[j]? := fun j hj => by rw [hp3.fr j (by simp; omega), List.getElem?_append_left hj]
  have hone : Mach (N3 ++ [some T3.cs]) one := (hp1.mach.keep fun j hj => (hN3 j (by omega)).trans (hN2 j hj)).grow _
  have htwo : Mach (N3 ++ [some T3.cs]) two := hp3.mach.grow _
  have h29 := t29 hone htwo (by rw [hp1.l, hp3.l, hp2.l]) (by rw [hq1, hq3, dlvs_app])
  have w1 : (N3 ++ [some T3.cs])[N1.length]? = some (some T1.cs) := by
    rw [List.getElem?_append_left (by omega), hN3 _ (by omega), hp2.fr _ (by simp)]; simp
  have w2 : (N3 ++ [some T3.cs])[N2.length]? = some (some T2.cs) := by
    rw [List.getElem?_append_left (by omega), hp3.fr _ (by simp)]; simp
  have w3 : (N3 ++ [some T3.cs])[N3.length]? = some (some T3.cs) := by simp
  have w4 := hvv (N3 ++ [some T3.cs]) fun j hj => by
    rw [List.getElem?_append_left (by simp at hj; omega), hN3 _ (by simp at hj; omega), hN2 _ (by simp at hj; omega)]
    exact hp1.fr j hj
  obtain ⟨g1, g2, g3⟩ := ply_cnt (X := plX m0.l) (L := m0.L) (ps := aa ++ bs) (x := (m0.pm, wtS m0.pm, ⟨0, 0, 0, 0, 0⟩))
  obtain ⟨g4, g5, g6⟩ := ply_cnt (X := plX m0.l) (L := m0.L) (ps := aa) (x := (m0.pm, wtS m0.pm, ⟨0, 0, 0, 0, 0⟩))
  obtain ⟨g7, g8, g9⟩ := ply_cnt (X := plX m0.l) (L := m0.L) (ps := bs) (x := (dlvs (plX m0.l) m0.L m0.pm aa, wtS (dlvs (plX m0.l) m0.L m0.pm aa), ⟨0, 0, 0, 0, 0⟩))
  have hca := cnt_app (X := plX m0.l) (L := m0.L) (a := aa) (b := bs) (s := m0.pm)
  obtain ⟨c1, c2, c3, c4⟩ := cnt_sum (X := plX m0.l) (L := m0.L) (ps := aa) (s := m0.pm)
  obtain ⟨c5, c6, c7, c8⟩ := cnt_sum (X := plX m0.l) (L := m0.L) (ps := bs) (s := dlvs (plX m0.l) m0.L m0.pm aa)
  have go := ply_o (X := plX m0.l) (L := m0.L) (ps := bs) (x := ply (plX m0.l) m0.L (m0.pm, wtS m0.pm, ⟨0, 0, 0, 0, 0⟩) aa)
  have go1 := ply_o (X := plX m0.l) (L := m0.L) (ps := aa) (x := (m0.pm, wtS m0.pm, ⟨0, 0, 0, 0, 0⟩))
  have gl := ply_l (X := plX m0.l) (L := m0.L) (ps := aa ++ bs) (x := (m0.pm, wtS m0.pm, ⟨0, 0, 0, 0, 0⟩)) (Int.le_refl _)
  rw [← ply_app] at go
  rw [hca] at g1 g2 g3
  change T1 = (ply (plX m0.l) m0.L (m0.pm, wtS m0.pm, ⟨0, 0, 0, 0, 0⟩) (aa ++ bs)).2.2 at hT1
  change T2 = (ply (plX m0.l) m0.L (m0.pm, wtS m0.pm, ⟨0, 0, 0, 0, 0⟩) aa).2.2 at hT2
  change T3 = (ply (plX m0.l) m0.L (dlvs (plX m0.l) m0.L m0.pm aa, wtS (dlvs (plX m0.l) m0.L m0.pm aa), ⟨0, 0, 0, 0, 0⟩) bs).2.2 at hT3
  rw [← hT1] at g1 g2 g3 go gl
  rw [← hT2] at g4 g5 g6 go go1
  rw [← hT3] at g7 g8 g9
  simp only [List.length_append] at g1 g2 g3 g4 g5 g6 g7 g8 g9 gl go go1 hvl
  have d1 : (T1.d = T2.d + T3.d) = True := eq_true (by omega)
  have d2 : (T1.i = T2.i + T3.i) = True := eq_true (by omega)
  have d3 : (T1.r = T2.r + T3.r) = True := eq_true (by omega)
  have d4 : (T1.d + T1.i + T1.r = (aa.length : Int) + bs.length) = True := eq_true (by omega)
  have d5 : T2.o ≤ T1.o := by omega
  have d6 : T1.l ≤ (aa.length : Int) + bs.length := by omega
  have u1 : 0 ≤ T1.d ∧ T1.d ≤ 1000 ∧ 0 ≤ T1.i ∧ T1.i ≤ 1000 ∧ 0 ≤ T1.r ∧ T1.r ≤ 1000 := by omega
  have u2 : 0 ≤ T2.d ∧ T2.d ≤ 1000 ∧ 0 ≤ T2.i ∧ T2.i ≤ 1000 ∧ 0 ≤ T2.r ∧ T2.r ≤ 1000 := by omega
  have u3 : 0 ≤ T3.d ∧ T3.d ≤ 1000 ∧ 0 ≤ T3.i ∧ T3.i ≤ 1000 ∧ 0 ≤ T3.r ∧ T3.r ≤ 1000 := by omega
  have hbm := get_grow (show Mach N0 m0 from hH0).b G2
  simp only [TR.cs] at k28 k28a k28b w1 w2 w3 h29 w4
  clear hT1 hT2 hT3 g1 g2 g3 g4 g5 g6 g7 g8 g9 hca c1 c2 c3 c4 c5 c6 c7 c8 go go1 gl hp1 hp2 hp3 hq1 hq2 hq3 hone htwo hm1 hm2 hN2 hN3 hvv hhL hO hab hv1 hO1
  repeat' (first | ((with_reducible first | apply S_0 | apply S_q1 | apply S_g | apply S_c); exact sgc) | refine Stp.h ?_ | (with_reducible apply B_ne; focus decide) | ((with_reducible first | apply SC_d | apply SG_d | apply SG_n | apply SC_b | apply SG_b) <;> intro hc <;> try simp only [dq1, dq2, dq3, dq4, dq5] at hc))
  (first | exact fincR | exact fincN)
theorem law_schedParts (x0 x1 x2 : AV) (h0 : dtInst.Arg x0) (h1 : (DT.sl 1 (.int .i64)).Arg x1) (h2 : (DT.sl 1 (.int .i64)).Arg x2) : ev pr 6 [x0, x1, x2] [] = some (.q (.flat (.bool true))) := by
  obtain ⟨n, l, nl, cd, rfl, hl⟩ := inst_arg h0
  obtain ⟨p, ⟨np, cp, rfl, hnp⟩, _, hp⟩ := ints_arg h1
  obtain ⟨q, ⟨nq, cq, rfl, hnq⟩, _, hq⟩ := ints_arg h2
  exact law6 n l nl cd p np cp q nq cq hl (by rw [maxLen_eq] at hp; omega) (by rw [maxLen_eq] at hq; omega)
end Go.Proofs.Ytlcdafidoddefaa.Av
