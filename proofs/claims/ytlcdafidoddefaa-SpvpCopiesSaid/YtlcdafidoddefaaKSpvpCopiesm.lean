/- The law SpvpCopies on the evaluator. -/
import Derived.Test.YtlcdafidoddefaaX11
import Derived.Test.YtlcdafidoddefaaX6
namespace Go.Proofs.Ytlcdafidoddefaa.Av
open Go.RowKit
set_option linter.unusedSimpArgs false
set_option linter.unusedVariables false
set_option maxHeartbeats 10000000
theorem law8 (n : Int) (l : List Rks) (nl cd : Bool) (ps : List Int) (np cp : Bool) (qs : List Int) (nq cq : Bool) (hl : l.length ≤ 9223372036854775807) (hp : ps.length ≤ 9223372036854775807) (hq : qs.length ≤ 9223372036854775807) : ev pr 8 [.agg [.flat (.int .i64 n), .list 1 (l.map Rks.av) nl cd], .list 1 (intsA ps) np cp, .list 1 (intsA qs) nq cq] [] = some (.q (.flat (.bool true))) := by
  have h11 := lives27
  have z21 := fun M => t21n 0 M
  have z15 := fun M => t15n 0 M
  have z14 := fun M => t14n 0 M
  have z24 := t24n
  have z34 := t34n
  have z12 := t12n
  have z13 := t13n
  have z35 := t35n
  have z36 := t36n
  have z29 := t29n
  by_cases hX : SmallX l ∧ MayX n l
  case neg =>
    obtain ⟨out, h10, G, rfl⟩ := t10n n l nl cd ps np cp [some [.flat (.int .i64 n), .list 1 (l.map Rks.av) nl cd]] hl hX
    clear hX
    refine ev_fn' A8 ?_
    repeat' (first | ((with_reducible first | apply S_0 | apply S_q1 | apply S_g | apply S_c); exact sgc) | refine Stp.h ?_ | (with_reducible apply B_ne; focus decide) | ((with_reducible first | apply SC_d | apply SG_d | apply SG_n | apply SC_b | apply SG_b) <;> intro hc <;> try simp only [dq1, dq2, dq3, dq4, dq5] at hc))
    (first | exact fincR | exact fincN)
  obtain ⟨hS, hX⟩ := hX
  obtain ⟨out, h10, N1, m, rfl, hg1, hml, hmp⟩ := t10 n l nl cd ps np cp [some [.flat (.int .i64 n), .list 1 (l.map Rks.av) nl cd]] hS hX hp
  obtain ⟨out, h36, N2, c, rfl, hc⟩ := t36 m N1 hg1.mach
  obtain ⟨out, h10b, N3, a, rfl, hg3, hal, hap⟩ := t10 n l nl cd ps np cp N2 hS hX hp
  clear hX hS
  have hL : ∀ {M : MS} {o : Mc}, Mach M o → o.l = l.map cpR → o.L = prs (prL l) := fun ho hol => by rw [ho.Leq, hol, prL_cp]
  have hM2 : Mach N2 m := hg1.mach.keep hc.fr
  have hM3 : Mach N3 m := hM2.keep hg3.fr
  have hC3 : Mach N3 c := hc.mach.keep hg3.fr
  have hA3 := hg3.mach
  have hcl : c.l = l.map cpR := hc.l.trans hml
  have hcp := hc.pm
  have hco : ∀ j, c.own j → N1.length ≤ j ∧ j < N2.length := fun j hj => ⟨hc.own j hj, hc.mach.ownlt hj⟩
  have hmo : ∀ j, m.own j → j < N1.length := fun j hj => hg1.mach.ownlt hj
  have hao : ∀ j, a.own j → N2.length ≤ j := hg3.own
  have hmm : m.mid < N1.length := get_lt hg1.mach.map
  have ham : N2.length ≤ a.mid := hg3.mid
  have b0 : N1[0]? = some (some [.flat (.int .i64 n), .list 1 (l.map Rks.av) nl cd]) := by rw [hg1.fr 0 (by simp)]; rfl
  have b2 : N2[0]? = some (some [.flat (.int .i64 n), .list 1 (l.map Rks.av) nl cd]) := by rw [hc.fr 0 (get_lt b0)]; exact b0
  have hlen2 := hc.len
  have hcmid := hc.mid
  have hbm := hg1.mach.b
  have hmid1 := get_lt hg1.mach.blk
  have e1 := t29 hC3 hM3 (hcl.trans hml.symm) hcp
  have e2 := t29 hM3 hC3 (hml.trans hcl.symm) hcp.symm
  have e3 := t29 hA3 hM3 (hal.trans hml.symm) (hap.trans hmp.symm)
  have e4 := t29a hM3
  have e5 := t29b hM3
  have h13 := t13 m N3 hM3
  have hH1 : Hid (Mach N3 m) := hM3
  have hH2 : Hid (Mach N3 c) := hC3
  have hH3 : Hid (Mach N3 a) := hA3
  have hHl1 : Hid (m.l = l.map cpR) := hml
  have hHl2 : Hid (c.l = l.map cpR) := hcl
  have hHl3 : Hid (a.l = l.map cpR) := hal
  have hHp1 : Hid (c.pm = m.pm) := hcp
  have hHp2 : Hid (a.pm = m.pm) := hap.trans hmp.symm
  have hHc : Hid (∀ j, c.own j → N1.length ≤ j ∧ j < N2.length) := hco
  have hHm : Hid (∀ j, m.own j → j < N1.length) := hmo
  have hHa : Hid (∀ j, a.own j → N2.length ≤ j) := hao
  have hHx : Hid (m.mid < N1.length) := hmm
  have hHy : Hid (N2.length ≤ a.mid) := ham
  have hHz : Hid (c.mid = m.mid) := hcmid
  have hHL : Hid (∀ {M : MS} {o : Mc}, Mach M o → o.l = l.map cpR → o.L = prs (prL l)) := fun ho hol => hL ho hol
  have hHn : Hid (N1.length ≤ N2.length) := hlen2
  obtain ⟨S, hS⟩ : ∃ S, S = m.C.map cln := ⟨_, rfl⟩
  rw [← hS] at h13
  have hHS : Hid (S = m.C.map cln) := hS
  have hS12 : S.length ≤ 12 := by rw [hS, List.length_map, hM3.clen]; exact hM3.small.1
  simp only [lst] at h13
  clear hg1 hml hmp hc hg3 hal hap hM2 hM3 hC3 hA3 hcl hcp hco hmo hao hmm ham hcmid hL hlen2 hS
  refine ev_fn' A8 ?_
  repeat' (first | ((with_reducible first | apply S_0 | apply S_q1 | apply S_g | apply S_c); exact sgc) | refine Stp.h ?_ | (with_reducible apply B_ne; focus decide) | ((with_reducible first | apply SC_d | apply SG_d | apply SG_n | apply SC_b | apply SG_b) <;> intro hc <;> try simp only [dq1, dq2, dq3, dq4, dq5] at hc))
  refine W_regionF0 N2.length ?_ ?_
  · (try simp only [List.take_succ_cons, List.take_zero, List.drop_succ_cons, List.drop_zero]; repeat (first | (with_reducible apply WH_nil) | ((with_reducible apply WH_q); (focus rfl); (focus rfl); focus (exact whc)) | ((with_reducible apply WH_cq); (focus rfl); focus (exact whc)) | ((with_reducible apply WH_cx); (focus rfl); focus (exact whc)) | ((with_reducible apply WH_f); (focus rfl); focus (exact whc)) | ((with_reducible apply WH_k); (focus rfl); focus (exact whc))))
    exact ⟨rfl, rfl⟩
  (try simp only [List.take_succ_cons, List.take_zero, List.drop_succ_cons, List.drop_zero]; repeat (first | (with_reducible apply WH_nil) | ((with_reducible apply WH_q); (focus rfl); (focus rfl); focus (exact whc)) | ((with_reducible apply WH_cq); (focus rfl); focus (exact whc)) | ((with_reducible apply WH_cx); (focus rfl); focus (exact whc)) | ((with_reducible apply WH_f); (focus rfl); focus (exact whc)) | ((with_reducible apply WH_k); (focus rfl); focus (exact whc))))
  refine ⟨rfl, rfl, ?_⟩
  rw [List.append_nil]
  repeat' (first | ((with_reducible first | apply S_0 | apply S_q1 | apply S_g | apply S_c); exact sgc) | refine Stp.h ?_ | (with_reducible apply B_ne; focus decide) | ((with_reducible first | apply SC_d | apply SG_d | apply SG_n | apply SC_b | apply SG_b) <;> intro hc <;> try simp only [dq1, dq2, dq3, dq4, dq5] at hc))
  refine W_rngM 16 0 (min qs.length 40) (fun i e mm => ∃ c', Dn N3 mm c c' ∧ c'.pm = dlvs (plX l) c.L c.pm (qs.take i)) (by simp only [asg, asgO, List.append_nil, List.nil_append, List.cons_append]; rfl) (by exact svc) (by omega) ⟨c, Dn.refl hH2, rfl⟩ ?_
  rintro i e mm _ hi hk e16 ⟨c', hd, hcp'⟩
  have k2 : e 2 = .list 1 (intsA qs) nq cq := by rw [hk 2 rfl]; exact svc
  have k7 : e 7 = .mptr m.id 0 := by rw [hk 7 rfl]; exact svc
  have k8 : e 8 = .flat (.pointer none) := by rw [hk 8 rfl]; exact svc
  have k13 : e 13 = .mptr c.id 0 := by rw [hk 13 rfl]; exact svc
  have k14 : e 14 = .mptr a.id 0 := by rw [hk 14 rfl]; exact svc
  have k15 : e 15 = .list 1 (S.map Pth.av) (S.map Pth.av).isEmpty (S.map Pth.av).isEmpty := by rw [hk 15 rfl]; exact svc
  clear hk h10 h36 h10b e1 e2 e3 e4 e5 h13 z21 z15 z14 z24 z34 z12 z13 z35 z36 z29 b0 b2 hbm hmid1
  obtain ⟨s1, s2, s3, s4⟩ := hd.sid
  have hXl : plX c.l = plX l := by rw [show c.l = l.map cpR from hHl2, plX_cp]
  by_cases hlt : i < min qs.length 40
  · have h1 : (i : Int) < qs.length := by omega
    have h2 : (i : Int) < 40 := by omega
    have hHd : Hid (Dn N3 mm c c') := hd
    have hHcp : Hid (c'.pm = dlvs (plX l) c.L c.pm (qs.take i)) := hcp'
    have hHs : Hid (c'.id = c.id) := s1
    have hHX : Hid (plX c.l = plX l) := hXl
    clear hd hcp' s1 s2 s3 s4 hXl
    repeat' (first | ((with_reducible first | apply S_0 | apply S_q1 | apply S_g | apply S_c); exact sgc) | refine Stp.h ?_ | (with_reducible apply B_ne; focus decide) | ((with_reducible first | apply SC_d | apply SG_d | apply SG_n | apply SC_b | apply SG_b) <;> intro hc <;> try simp only [dq1, dq2, dq3, dq4, dq5] at hc))
    refine S_dlv (i := qs[i]) (Dn.mach hHd) (by rw [show c'.id = c.id from hHs]; exact svc) (by exact svc) (fun _ _ => Nat.zero_le _) ?_
    intro M' m' D' hDr hpm
    repeat' (first | ((with_reducible first | apply S_0 | apply S_q1 | apply S_g | apply S_c); exact sgc) | refine Stp.h ?_ | (with_reducible apply B_ne; focus decide) | ((with_reducible first | apply SC_d | apply SG_d | apply SG_n | apply SC_b | apply SG_b) <;> intro hc <;> try simp only [dq1, dq2, dq3, dq4, dq5] at hc))
    exact G_n (by exact svc) hlt ⟨m', Dn.step hHd hDr, Dn.run hHX hHd hHcp (by omega) hDr hpm⟩
  have hie : i = min qs.length 40 := by omega
  have hA4 : Mach mm a := hd.other hH3 (fun j hj hcj => by have := (show ∀ j, a.own j → N2.length ≤ j from hHa) j hj; have := ((show ∀ j, c.own j → N1.length ≤ j ∧ j < N2.length from hHc) j hcj).2; omega) (fun hcj => by have := ((show ∀ j, c.own j → N1.length ≤ j ∧ j < N2.length from hHc) _ hcj).2; have : N2.length ≤ a.mid := hHy; omega)
  have hM4 : Mach mm m := hd.other hH1 (fun j hj hcj => by have := (show ∀ j, m.own j → j < N1.length from hHm) j hj; have := ((show ∀ j, c.own j → N1.length ≤ j ∧ j < N2.length from hHc) j hcj).1; omega) (fun hcj => by have := ((show ∀ j, c.own j → N1.length ≤ j ∧ j < N2.length from hHc) _ hcj).1; have : m.mid < N1.length := hHx; omega)
  have hC4 : Mach mm c' := hd.mach
  have f1 := t29 hA4 hM4 ((show a.l = l.map cpR from hHl3).trans (show m.l = l.map cpR from hHl1).symm) hHp2
  have h13 := t13 m mm hM4
  rw [← show S = m.C.map cln from hHS, lst] at h13
  have h37 := fun M => t37 S S (S.map Pth.av).isEmpty (S.map Pth.av).isEmpty (S.map Pth.av).isEmpty (S.map Pth.av).isEmpty M (by omega)
  simp only [decide_true] at h37
  have hco' : ∀ j, c'.own j → N1.length ≤ j := fun j hj => by
    rcases hd.own j hj with h1 | h1
    · exact ((show ∀ j, c.own j → N1.length ≤ j ∧ j < N2.length from hHc) j h1).1
    · have := hd.len
      have h2 : m.mid < N1.length := hHx
      have h3 := (show Mach N3 c from hH2).ownlt (j := c.id) (.inl rfl)
      have h4 := ((show ∀ j, c.own j → N1.length ≤ j ∧ j < N2.length from hHc) c.id (.inl rfl)).1
      omega
  have hHc4 : Hid (Mach mm c') := hC4
  have hHm4 : Hid (Mach mm m) := hM4
  have hHd : Hid (Dn N3 mm c c') := hd
  have hHcp : Hid (c'.pm = dlvs (plX l) c.L c.pm (qs.take i)) := hcp'
  have hHs : Hid (c'.id = c.id) := s1
  have hHs2 : Hid (c'.mid = c.mid) := s2
  have hHs3 : Hid (c'.l = c.l) := s3
  have hHie : Hid (i = min qs.length 40) := hie
  have hHco : Hid (∀ j, c'.own j → N1.length ≤ j) := hco'
  clear hd hcp' s1 s2 s3 s4 hXl hA4 hM4 hC4 hco'
  by_cases hc1 : (i : Int) < qs.length
  · have h2 : ¬ (i : Int) < 40 := by omega
    clear hie
    repeat' (first | ((with_reducible first | apply S_0 | apply S_q1 | apply S_g | apply S_c); exact sgc) | refine Stp.h ?_ | (with_reducible apply B_ne; focus decide) | ((with_reducible first | apply SC_d | apply SG_d | apply SG_n | apply SC_b | apply SG_b) <;> intro hc <;> try simp only [dq1, dq2, dq3, dq4, dq5] at hc))
    refine W_rngM 17 0 (min qs.length 40) (fun q e2 m2 => ∃ m', Dn mm m2 m m' ∧ m'.pm = dlvs (plX l) m.L m.pm (qs.take q)) (by simp only [asg, asgO, List.append_nil, List.nil_append, List.cons_append]; rfl) (by exact svc) (by omega) ⟨m, Dn.refl hHm4, rfl⟩ ?_
    rintro q e2 m2 _ hq2 hk2 e17 ⟨m', hd2, hmp'⟩
    have i2 : e2 2 = .list 1 (intsA qs) nq cq := by rw [hk2 2 rfl]; exact svc
    have i7 : e2 7 = .mptr m.id 0 := by rw [hk2 7 rfl]; exact svc
    have i13 : e2 13 = .mptr c.id 0 := by rw [hk2 13 rfl]; exact svc
    clear hk2 k2 k7 k8 k13 k14 k15 h13 h37 f1 hc1 h2
    obtain ⟨s1, s2, s3, s4⟩ := hd2.sid
    have hXl : plX m.l = plX l := by rw [show m.l = l.map cpR from hHl1, plX_cp]
    by_cases hlt2 : q < min qs.length 40
    · have g1 : (q : Int) < qs.length := by omega
      have g2 : (q : Int) < 40 := by omega
      have hHd2 : Hid (Dn mm m2 m m') := hd2
      have hHmp : Hid (m'.pm = dlvs (plX l) m.L m.pm (qs.take q)) := hmp'
      have hHs1 : Hid (m'.id = m.id) := s1
      have hHX : Hid (plX m.l = plX l) := hXl
      clear hd2 hmp' s1 s2 s3 s4 hXl
      repeat' (first | ((with_reducible first | apply S_0 | apply S_q1 | apply S_g | apply S_c); exact sgc) | refine Stp.h ?_ | (with_reducible apply B_ne; focus decide) | ((with_reducible first | apply SC_d | apply SG_d | apply SG_n | apply SC_b | apply SG_b) <;> intro hc <;> try simp only [dq1, dq2, dq3, dq4, dq5] at hc))
      refine S_dlv (i := qs[q]) (Dn.mach hHd2) (by rw [show m'.id = m.id from hHs1]; exact svc) (by exact svc) (fun _ _ => Nat.zero_le _) ?_
      intro M' m'' D' hDr hpm
      repeat' (first | ((with_reducible first | apply S_0 | apply S_q1 | apply S_g | apply S_c); exact sgc) | refine Stp.h ?_ | (with_reducible apply B_ne; focus decide) | ((with_reducible first | apply SC_d | apply SG_d | apply SG_n | apply SC_b | apply SG_b) <;> intro hc <;> try simp only [dq1, dq2, dq3, dq4, dq5] at hc))
      exact G_n (by exact svc) hlt2 ⟨m'', Dn.step hHd2 hDr, Dn.run hHX hHd2 hHmp (by omega) hDr hpm⟩
    have hC5 : Mach m2 c' := hd2.other hHc4 (fun j hj hmj => by have := (show ∀ j, c'.own j → N1.length ≤ j from hHco) j hj; have := (show ∀ j, m.own j → j < N1.length from hHm) j hmj; omega) (by
      rw [show c'.mid = c.mid from hHs2, show c.mid = m.mid from hHz]; exact (show Mach mm m from hHm4).nomid)
    have f2 := t29 hd2.mach hC5 (by rw [s3, show m.l = l.map cpR from hHl1, show c'.l = c.l from hHs3, show c.l = l.map cpR from hHl2]) (by
      rw [hmp', show c'.pm = _ from hHcp, show i = min qs.length 40 from hHie, show q = min qs.length 40 by omega, show c.pm = m.pm from hHp1,
        (show ∀ {M : MS} {o : Mc}, Mach M o → o.l = l.map cpR → o.L = prs (prL l) from hHL) (show Mach N3 m from hH1) hHl1, (show ∀ {M : MS} {o : Mc}, Mach M o → o.l = l.map cpR → o.L = prs (prL l) from hHL) (show Mach N3 c from hH2) hHl2])
    rw [s1, show c'.id = c.id from hHs] at f2
    clear hd2 hmp' s1 s2 s3 s4 hXl hC5
    by_cases hc2 : (q : Int) < qs.length
    · have g2 : ¬ (q : Int) < 40 := by omega
      repeat' (first | ((with_reducible first | apply S_0 | apply S_q1 | apply S_g | apply S_c); exact sgc) | refine Stp.h ?_ | (with_reducible apply B_ne; focus decide) | ((with_reducible first | apply SC_d | apply SG_d | apply SG_n | apply SC_b | apply SG_b) <;> intro hc <;> try simp only [dq1, dq2, dq3, dq4, dq5] at hc))
      (first | exact fincR | exact fincN)
    · repeat' (first | ((with_reducible first | apply S_0 | apply S_q1 | apply S_g | apply S_c); exact sgc) | refine Stp.h ?_ | (with_reducible apply B_ne; focus decide) | ((with_reducible first | apply SC_d | apply SG_d | apply SG_n | apply SC_b | apply SG_b) <;> intro hc <;> try simp only [dq1, dq2, dq3, dq4, dq5] at hc))
      (first | exact fincR | exact fincN)
  · clear hie
    repeat' (first | ((with_reducible first | apply S_0 | apply S_q1 | apply S_g | apply S_c); exact sgc) | refine Stp.h ?_ | (with_reducible apply B_ne; focus decide) | ((with_reducible first | apply SC_d | apply SG_d | apply SG_n | apply SC_b | apply SG_b) <;> intro hc <;> try simp only [dq1, dq2, dq3, dq4, dq5] at hc))
    refine W_rngM 17 0 (min qs.length 40) (fun q e2 m2 => ∃ m', Dn mm m2 m m' ∧ m'.pm = dlvs (plX l) m.L m.pm (qs.take q)) (by simp only [asg, asgO, List.append_nil, List.nil_append, List.cons_append]; rfl) (by exact svc) (by omega) ⟨m, Dn.refl hHm4, rfl⟩ ?_
    rintro q e2 m2 _ hq2 hk2 e17 ⟨m', hd2, hmp'⟩
    have i2 : e2 2 = .list 1 (intsA qs) nq cq := by rw [hk2 2 rfl]; exact svc
    have i7 : e2 7 = .mptr m.id 0 := by rw [hk2 7 rfl]; exact svc
    have i13 : e2 13 = .mptr c.id 0 := by rw [hk2 13 rfl]; exact svc
    clear hk2 k2 k7 k8 k13 k14 k15 h13 h37 f1 hc1
    obtain ⟨s1, s2, s3, s4⟩ := hd2.sid
    have hXl : plX m.l = plX l := by rw [show m.l = l.map cpR from hHl1, plX_cp]
    by_cases hlt2 : q < min qs.length 40
    · have g1 : (q : Int) < qs.length := by omega
      have g2 : (q : Int) < 40 := by omega
      have hHd2 : Hid (Dn mm m2 m m') := hd2
      have hHmp : Hid (m'.pm = dlvs (plX l) m.L m.pm (qs.take q)) := hmp'
      have hHs1 : Hid (m'.id = m.id) := s1
      have hHX : Hid (plX m.l = plX l) := hXl
      clear hd2 hmp' s1 s2 s3 s4 hXl
      repeat' (first | ((with_reducible first | apply S_0 | apply S_q1 | apply S_g | apply S_c); exact sgc) | refine Stp.h ?_ | (with_reducible apply B_ne; focus decide) | ((with_reducible first | apply SC_d | apply SG_d | apply SG_n | apply SC_b | apply SG_b) <;> intro hc <;> try simp only [dq1, dq2, dq3, dq4, dq5] at hc))
      refine S_dlv (i := qs[q]) (Dn.mach hHd2) (by rw [show m'.id = m.id from hHs1]; exact svc) (by exact svc) (fun _ _ => Nat.zero_le _) ?_
      intro M' m'' D' hDr hpm
      repeat' (first | ((with_reducible first | apply S_0 | apply S_q1 | apply S_g | apply S_c); exact sgc) | refine Stp.h ?_ | (with_reducible apply B_ne; focus decide) | ((with_reducible first | apply SC_d | apply SG_d | apply SG_n | apply SC_b | apply SG_b) <;> intro hc <;> try simp only [dq1, dq2, dq3, dq4, dq5] at hc))
      exact G_n (by exact svc) hlt2 ⟨m'', Dn.step hHd2 hDr, Dn.run hHX hHd2 hHmp (by omega) hDr hpm⟩
    have hC5 : Mach m2 c' := hd2.other hHc4 (fun j hj hmj => by have := (show ∀ j, c'.own j → N1.length ≤ j from hHco) j hj; have := (show ∀ j, m.own j → j < N1.length from hHm) j hmj; omega) (by
      rw [show c'.mid = c.mid from hHs2, show c.mid = m.mid from hHz]; exact (show Mach mm m from hHm4).nomid)
    have f2 := t29 hd2.mach hC5 (by rw [s3, show m.l = l.map cpR from hHl1, show c'.l = c.l from hHs3, show c.l = l.map cpR from hHl2]) (by
      rw [hmp', show c'.pm = _ from hHcp, show i = min qs.length 40 from hHie, show q = min qs.length 40 by omega, show c.pm = m.pm from hHp1,
        (show ∀ {M : MS} {o : Mc}, Mach M o → o.l = l.map cpR → o.L = prs (prL l) from hHL) (show Mach N3 m from hH1) hHl1, (show ∀ {M : MS} {o : Mc}, Mach M o → o.l = l.map cpR → o.L = prs (prL l) from hHL) (show Mach N3 c from hH2) hHl2])
    rw [s1, show c'.id = c.id from hHs] at f2
    clear hd2 hmp' s1 s2 s3 s4 hXl hC5
    by_cases hc2 : (q : Int) < qs.length
    · have g2 : ¬ (q : Int) < 40 := by omega
      repeat' (first | ((with_reducible first | apply S_0 | apply S_q1 | apply S_g | apply S_c); exact sgc) | refine Stp.h ?_ | (with_reducible apply B_ne; focus decide) | ((with_reducible first | apply SC_d | apply SG_d | apply SG_n | apply SC_b | apply SG_b) <;> intro hc <;> try simp only [dq1, dq2, dq3, dq4, dq5] at hc))
      (first | exact fincR | exact fincN)
    · repeat' (first | ((with_reducible first | apply S_0 | apply S_q1 | apply S_g | apply S_c); exact sgc) | refine Stp.h ?_ | (with_reducible apply B_ne; focus decide) | ((with_reducible first | apply SC_d | apply SG_d | apply SG_n | apply SC_b | apply SG_b) <;> intro hc <;> try simp only [dq1, dq2, dq3, dq4, dq5] at hc))
      (first | exact fincR | exact fincN)
theorem law_spvpCopies (x0 x1 x2 : AV) (h0 : dtInst.Arg x0) (h1 : (DT.sl 1 (.int .i64)).Arg x1) (h2 : (DT.sl 1 (.int .i64)).Arg x2) : ev pr 8 [x0, x1, x2] [] = some (.q (.flat (.bool true))) := by
  obtain ⟨n, l, nl, cd, rfl, hl⟩ := inst_arg h0
  obtain ⟨p, ⟨np, cp, rfl, hnp⟩, _, hp⟩ := ints_arg h1
  obtain ⟨q, ⟨nq, cq, rfl, hnq⟩, _, hq⟩ := ints_arg h2
  exact law8 n l nl cd p np cp q nq cq hl (by rw [maxLen_eq] at hp; omega) (by rw [maxLen_eq] at hq; omega)
end Go.Proofs.Ytlcdafidoddefaa.Av
