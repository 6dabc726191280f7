/- The law SpvpTells on the evaluator. -/
import Derived.Test.YtlcdafidoddefaaX8
import Derived.Test.YtlcdafidoddefaaX6
namespace Go.Proofs.Ytlcdafidoddefaa.Av
open Go.RowKit
set_option linter.unusedSimpArgs false
set_option linter.unusedVariables false
set_option maxHeartbeats 10000000
theorem law3 (n : Int) (l : List Rks) (nl cd : Bool) (ps : List Int) (np cp : Bool) (hl : l.length ≤ 9223372036854775807) (hp : ps.length ≤ 9223372036854775807) : ev pr 3 [.agg [.flat (.int .i64 n), .list 1 (l.map Rks.av) nl cd], .list 1 (intsA ps) np cp] [] = some (.q (.flat (.bool true))) := by
  have h11 := lives27
  by_cases hX : SmallX l ∧ MayX n l
  · obtain ⟨hS, hX⟩ := hX
    obtain ⟨out, h10, N, m, rfl, hg, hml, hmp⟩ := t10 n l nl cd ps np cp [some [.flat (.int .i64 n), .list 1 (l.map Rks.av) nl cd]] hS hX hp
    have hn := hX.2.2.1
    have hM := hg.mach
    have hK : Keeps (plX m.l) m.L m.pm := keeps_of (by rw [hn]; exact hX) hM hml hmp
    obtain ⟨nl2, cd2, h12⟩ := t12 m N hM
    have h13 := t13 m N hM
    obtain ⟨C', hC'⟩ : ∃ C', C' = m.C.map cln := ⟨_, rfl⟩
    rw [← hC'] at h13
    have hCl : C'.length = m.C.length := by rw [hC']; simp
    have hC0 : m.C.length ≤ 12 := by rw [hM.clen]; exact hM.small.1
    have hZL := hM.len
    have hLl := hM.lle
    have hid := get_lt hM.blk
    have hpb := hM.b
    clear hS hX hml hmp hn
    simp only [lst] at h13
    refine ev_fn' A3 ?_
    repeat' (first | ((with_reducible first | apply S_0 | apply S_q1 | apply S_g | apply S_c); exact sgc) | (with_reducible first | apply SO_q | apply SG_t | apply SG_f0 | apply SG_f1 | apply S_nil | apply T_n | apply W_seq | apply W_region | apply SO_x | apply SC_t | apply SC_f | apply W_block | apply W_ret | apply W_skip | apply W_exit | apply T_r | apply T_e | apply B_n | apply B_e) | (with_reducible apply B_ne; focus decide) | (with_reducible first | apply B_r | apply R_e | apply R_r | apply H_e | apply H_r | apply G_e | apply G_r) | (with_reducible apply SC_n) | ((with_reducible first | apply SC_d | apply SG_d | apply SG_n | apply SC_b | apply SG_b) <;> intro hc <;> try simp only [decide_eq_true_eq, decide_eq_false_iff_not, Classical.not_not, Bool.not_eq_true', Bool.not_eq_false'] at hc))
    refine W_rng 8 0 m.L.length (fun i e => True) (by simp only [asg, asgO, List.append_nil, List.nil_append, List.cons_append]; rfl) (by exact svc) (by omega) trivial ?_
    rintro i e _ hi hk e8 _
    have k5 : e 5 = .mptr m.id 0 := by rw [hk 5 rfl]; exact svc
    have k6 : e 6 = .list 2 (cells2 m.L) nl2 cd2 := by rw [hk 6 rfl]; exact svc
    have k7 : e 7 = .list 1 (C'.map Pth.av) (C'.map Pth.av).isEmpty (C'.map Pth.av).isEmpty := by rw [hk 7 rfl]; exact svc
    clear hk h10 h12 h13
    rcases Nat.lt_or_ge i m.L.length with hlt | hlt
    · have hlt' : (i : Int) < m.L.length := by omega
      have hiZ : i < m.Z.length := by omega
      have hlim := hM.lim _ (List.getElem_mem hlt)
      obtain ⟨u, hu⟩ : ∃ u : Nat, m.L[i].1 = u := ⟨m.L[i].1.toNat, by omega⟩
      have huC : u < m.C.length := by rw [hM.clen]; omega
      have huC' : u < C'.length := by omega
      have hCu : C'[u].l = m.C[u].l := by simp only [hC', List.getElem_map, cln]
      have hCs : C'[u].l.length ≤ 1000 := by rw [hCu]; exact hM.csm _ (List.getElem_mem huC)
      have hc0 := cells2_g0 hlt
      rw [hu] at hc0
      have h14 := t14 m i N hM hiZ
      have h15 := t15 m i N hM hiZ
      obtain ⟨ht1, ht2⟩ := told_of hM hK hlt hiZ hu huC
      rw [← hCu] at ht1 ht2
      have hr64 := hM.rle _ (List.getElem_mem hiZ)
      have hsm := hM.rsm _ (List.getElem_mem hiZ)
      obtain ⟨R, hR⟩ : ∃ R, R = m.Z[i].row.map cln := ⟨_, rfl⟩
      have hRl : R.length = m.Z[i].row.length := by rw [hR]; simp
      obtain ⟨H, hH⟩ : ∃ H, H = cln m.Z[i].heard := ⟨_, rfl⟩
      have hHl : H.l = m.Z[i].heard.l := by rw [hH]; rfl
      rw [← hR, lst] at h14
      rw [← hH, Pth.av_eq] at h15
      have hR64 : R.length ≤ 64 := by omega
      rcases Nat.eq_zero_or_pos R.length with h0 | h0
      · have h0' : ¬ (0 : Int) < R.length := by omega
        obtain ⟨hta, htb⟩ := ht2 (by omega)
        have h16 := fun M => t16 H.l C'[u].l H.nl H.cd C'[u].nl C'[u].cd M (by rw [hHl]; omega)
        cases ha : m.Z[i].any with
        | true =>
          rw [ha] at h15
          have he : H.l = C'[u].l := by rw [hHl]; exact hta ha
          rw [decide_eq_true he] at h16
          clear hM hg hK hR hC' hlim hta htb ht1 ht2 he hu hHl hRl hCu hpb ha hH
          repeat' (first | ((with_reducible first | apply S_0 | apply S_q1 | apply S_g | apply S_c); exact sgc) | (with_reducible first | apply SO_q | apply SG_t | apply SG_f0 | apply SG_f1 | apply S_nil | apply T_n | apply W_seq | apply W_region | apply SO_x | apply SC_t | apply SC_f | apply W_block | apply W_ret | apply W_skip | apply W_exit | apply T_r | apply T_e | apply B_n | apply B_e) | (with_reducible apply B_ne; focus decide) | (with_reducible first | apply B_r | apply R_e | apply R_r | apply H_e | apply H_r | apply G_e | apply G_r) | (with_reducible apply SC_n) | ((with_reducible first | apply SC_d | apply SG_d | apply SG_n | apply SC_b | apply SG_b) <;> intro hc <;> try simp only [decide_eq_true_eq, decide_eq_false_iff_not, Classical.not_not, Bool.not_eq_true', Bool.not_eq_false'] at hc))
          exact H_n (by exact svc) hlt trivial
        | false =>
          rw [ha] at h15
          have he := htb ha
          have he' : ¬ (0 : Int) < C'[u].l.length := by omega
          clear hM hg hK hR hC' hlim hta htb ht1 ht2 he hu hHl hRl hCu hpb ha hH
          repeat' (first | ((with_reducible first | apply S_0 | apply S_q1 | apply S_g | apply S_c); exact sgc) | (with_reducible first | apply SO_q | apply SG_t | apply SG_f0 | apply SG_f1 | apply S_nil | apply T_n | apply W_seq | apply W_region | apply SO_x | apply SC_t | apply SC_f | apply W_block | apply W_ret | apply W_skip | apply W_exit | apply T_r | apply T_e | apply B_n | apply B_e) | (with_reducible apply B_ne; focus decide) | (with_reducible first | apply B_r | apply R_e | apply R_r | apply H_e | apply H_r | apply G_e | apply G_r) | (with_reducible apply SC_n) | ((with_reducible first | apply SC_d | apply SG_d | apply SG_n | apply SC_b | apply SG_b) <;> intro hc <;> try simp only [decide_eq_true_eq, decide_eq_false_iff_not, Classical.not_not, Bool.not_eq_true', Bool.not_eq_false'] at hc))
          exact H_n (by exact svc) hlt trivial
      · have h0' : (0 : Int) < R.length := by omega
        obtain ⟨q, hqe⟩ : ∃ q, q = R.length - 1 := ⟨_, rfl⟩
        have hqR : q < R.length := by omega
        have he : R[q].l = C'[u].l := by
          rw [← ht1 (by omega)]
          subst hqe
          simp only [hR, List.getElem_map, List.length_map, cln]
        have h1' : (R.length : Int) - 1 = (q : Int) := by omega
        have hsl : R[q].l.length ≤ 1000 := by rw [he]; exact hCs
        have h16 := fun M => t16 R[q].l C'[u].l R[q].nl R[q].cd C'[u].nl C'[u].cd M (by omega)
        rw [decide_eq_true he] at h16
        clear hM hg hK hR hC' hlim ht1 ht2 he hu hHl hRl hCu hpb hqe hsl hH
        repeat' (first | ((with_reducible first | apply S_0 | apply S_q1 | apply S_g | apply S_c); exact sgc) | (with_reducible first | apply SO_q | apply SG_t | apply SG_f0 | apply SG_f1 | apply S_nil | apply T_n | apply W_seq | apply W_region | apply SO_x | apply SC_t | apply SC_f | apply W_block | apply W_ret | apply W_skip | apply W_exit | apply T_r | apply T_e | apply B_n | apply B_e) | (with_reducible apply B_ne; focus decide) | (with_reducible first | apply B_r | apply R_e | apply R_r | apply H_e | apply H_r | apply G_e | apply G_r) | (with_reducible apply SC_n) | ((with_reducible first | apply SC_d | apply SG_d | apply SG_n | apply SC_b | apply SG_b) <;> intro hc <;> try simp only [decide_eq_true_eq, decide_eq_false_iff_not, Classical.not_not, Bool.not_eq_true', Bool.not_eq_false'] at hc))
        exact H_n (by exact svc) hlt trivial
    · have hlt' : ¬ (i : Int) < m.L.length := by omega
      clear hM hg hK hpb
      repeat' (first | ((with_reducible first | apply S_0 | apply S_q1 | apply S_g | apply S_c); exact sgc) | (with_reducible first | apply SO_q | apply SG_t | apply SG_f0 | apply SG_f1 | apply S_nil | apply T_n | apply W_seq | apply W_region | apply SO_x | apply SC_t | apply SC_f | apply W_block | apply W_ret | apply W_skip | apply W_exit | apply T_r | apply T_e | apply B_n | apply B_e) | (with_reducible apply B_ne; focus decide) | (with_reducible first | apply B_r | apply R_e | apply R_r | apply H_e | apply H_r | apply G_e | apply G_r) | (with_reducible apply SC_n) | ((with_reducible first | apply SC_d | apply SG_d | apply SG_n | apply SC_b | apply SG_b) <;> intro hc <;> try simp only [decide_eq_true_eq, decide_eq_false_iff_not, Classical.not_not, Bool.not_eq_true', Bool.not_eq_false'] at hc))
      (first | exact fincR | exact fincN)
  · obtain ⟨out, h10, G, rfl⟩ := t10n n l nl cd ps np cp [some [.flat (.int .i64 n), .list 1 (l.map Rks.av) nl cd]] hl hX
    clear hX
    refine ev_fn' A3 ?_
    repeat' (first | ((with_reducible first | apply S_0 | apply S_q1 | apply S_g | apply S_c); exact sgc) | (with_reducible first | apply SO_q | apply SG_t | apply SG_f0 | apply SG_f1 | apply S_nil | apply T_n | apply W_seq | apply W_region | apply SO_x | apply SC_t | apply SC_f | apply W_block | apply W_ret | apply W_skip | apply W_exit | apply T_r | apply T_e | apply B_n | apply B_e) | (with_reducible apply B_ne; focus decide) | (with_reducible first | apply B_r | apply R_e | apply R_r | apply H_e | apply H_r | apply G_e | apply G_r) | (with_reducible apply SC_n) | ((with_reducible first | apply SC_d | apply SG_d | apply SG_n | apply SC_b | apply SG_b) <;> intro hc <;> try simp only [decide_eq_true_eq, decide_eq_false_iff_not, Classical.not_not, Bool.not_eq_true', Bool.not_eq_false'] at hc))
    (first | exact fincR | exact fincN)
theorem law_spvpTells (x0 x1 : AV) (h0 : dtInst.Arg x0) (h1 : (DT.sl 1 (.int .i64)).Arg x1) : ev pr 3 [x0, x1] [] = some (.q (.flat (.bool true))) := by
  obtain ⟨n, l, nl, cd, rfl, hl⟩ := inst_arg h0
  obtain ⟨p, ⟨np, cp, rfl, hnp⟩, _, hp⟩ := ints_arg h1
  exact law3 n l nl cd p np cp hl (by rw [maxLen_eq] at hp; omega)
end Go.Proofs.Ytlcdafidoddefaa.Av
