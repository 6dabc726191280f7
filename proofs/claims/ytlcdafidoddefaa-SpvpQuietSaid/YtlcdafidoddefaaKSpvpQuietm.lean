/- The law SpvpQuiet on the evaluator. -/
import Derived.Test.YtlcdafidoddefaaX8
import Derived.Test.YtlcdafidoddefaaX6
import Derived.Test.YtlcdafidoddefaaX7
namespace Go.Proofs.Ytlcdafidoddefaa.Av
open Go.RowKit
set_option linter.unusedSimpArgs false
set_option linter.unusedVariables false
set_option maxHeartbeats 10000000
theorem wtL_nil {Z : List Lin} : ∀ {k}, wtL Z k = [] → ∀ i (h : i < Z.length), i < k → Z[i].row = []
  | k + 1, h, i, hi, hk => by
    rw [wtL, List.append_eq_nil_iff] at h
    rcases Nat.lt_succ_iff_lt_or_eq.1 hk with h1 | rfl
    · exact wtL_nil h.1 i hi h1
    · have h2 := h.2
      rw [List.getElem?_eq_getElem hi] at h2
      simp only at h2
      split at h2
      · cases h2
      · exact List.eq_nil_of_length_eq_zero (by omega)
theorem pl_cln (C : List Pth) : pl (C.map cln) = pl C := by simp [pl, cln, Function.comp_def]
/-- What is chosen when nothing waits. -/
theorem quiet_stab {l : List Rks} {M : MS} {m : Mc} (hX : MayX l.length l) (hM : Mach M m) (hml : m.l = l.map cpR) (hK : Keeps (plX m.l) m.L m.pm) (hw : wtL m.Z m.Z.length = []) : MayS l.length l (m.C.map cln) ∧ StabP (plX l) (pl (m.C.map cln)) := by
  have hlen : m.C.length = l.length := by rw [hM.clen, hml]; simp
  have hc0 := hK.c0
  have hc := hK.cho
  rw [hml, plX_cp] at hc
  refine ⟨⟨hX, by simp [hlen], fun h => ?_, fun v hv hv' hv1 => ?_⟩, ?_⟩
  · have h' : 0 < m.C.length := by simpa using h
    have h2 : m.pm.C.getD 0 [] = m.C[0].l := pl_getD h'
    rw [h2] at hc0
    simpa [cln] using hc0
  · have hv2 : v < m.C.length := by simpa using hv
    have h3 : m.pm.C.getD v [] = m.C[v].l := pl_getD hv2
    have h4 := hc v hv1 (by rw [plX_len]; exact hv')
    rw [h3, plX_get hv'] at h4
    have h5 : ((m.C.map cln)[v]).l = m.C[v].l := by simp [cln]
    rw [h5, h4]
    exact choQ_mem
  · rw [pl_cln]
    have := Keeps.quiet hM.fit hK fun z hz => by
      obtain ⟨z', hz', rfl⟩ := List.mem_map.1 (show z ∈ m.Z.map Lin.pln from hz)
      obtain ⟨i, hi, rfl⟩ := List.getElem_of_mem hz'
      show m.Z[i].row.map Pth.l = []
      rw [wtL_nil hw i hi hi]; rfl
    rw [hml, plX_cp] at this
    exact this
theorem law5 (n : Int) (l : List Rks) (nl cd : Bool) (ps : List Int) (np cp : Bool) (hl : l.length ≤ 9223372036854775807) (hp : ps.length ≤ 9223372036854775807) : ev pr 5 [.agg [.flat (.int .i64 n), .list 1 (l.map Rks.av) nl cd], .list 1 (intsA ps) np cp] [] = some (.q (.flat (.bool true))) := by
  have h11 := lives27
  have h17 := fun M => t17 n l nl cd M hl
  have h19 := fun M => t19 n l nl cd M hl
  by_cases hS : SmallX l
  case neg =>
    rw [decide_eq_false hS] at h17
    clear hS h19
    refine ev_fn' A5 ?_
    repeat' (first | ((with_reducible first | apply S_0 | apply S_q1 | apply S_g | apply S_c); exact sgc) | refine Stp.h ?_ | (with_reducible apply B_ne; focus decide) | ((with_reducible first | apply SC_d | apply SG_d | apply SG_n | apply SC_b | apply SG_b) <;> intro hc <;> try simp only [dq1, dq2, dq3, dq4, dq5] at hc))
    (first | exact fincR | exact fincN)
  rw [decide_eq_true hS] at h17
  by_cases hX : MayX n l
  case neg =>
    rw [decide_eq_false hX] at h19
    clear hX hS
    refine ev_fn' A5 ?_
    repeat' (first | ((with_reducible first | apply S_0 | apply S_q1 | apply S_g | apply S_c); exact sgc) | refine Stp.h ?_ | (with_reducible apply B_ne; focus decide) | ((with_reducible first | apply SC_d | apply SG_d | apply SG_n | apply SC_b | apply SG_b) <;> intro hc <;> try simp only [dq1, dq2, dq3, dq4, dq5] at hc))
    (first | exact fincR | exact fincN)
  rw [decide_eq_true hX] at h19
  obtain ⟨out, h18, m0, G, rfl, hm0, hnw⟩ := t18 n l nl cd [some [.flat (.int .i64 n), .list 1 (l.map Rks.av) nl cd]] hS hX
  have hn : n = l.length := hX.2.2.1.symm
  subst hn
  have hg0 : Gen [some [.flat (.int .i64 l.length), .list 1 (l.map Rks.av) nl cd]] ([some [.flat (.int .i64 l.length), .list 1 (l.map Rks.av) nl cd]] ++ G) m0 := by
    have := NewM.gen (M := [some [.flat (.int .i64 l.length), .list 1 (l.map Rks.av) nl cd]]) (B := []) (G := G) (by simpa using hnw) (by simpa using hm0)
    simpa using this
  have hK0 := hnw.keeps hm0
  have hl0 := hnw.hl
  have hSH : Hid (SmallX l) := hS
  have hXH : Hid (MayX l.length l) := hX
  have hH : Hid (m0.l = l.map cpR) := hl0
  have hb0 : (some [AV.flat (.int .i64 l.length), .list 1 (l.map Rks.av) nl cd] :: G)[m0.id]? = some (some m0.cells) := hm0.blk
  have hbl : m0.id < (some [AV.flat (.int .i64 l.length), .list 1 (l.map Rks.av) nl cd] :: G).length := get_lt hb0
  clear hm0 hnw hl0 hX hS
  refine ev_fn' A5 ?_
  repeat' (first | ((with_reducible first | apply S_0 | apply S_q1 | apply S_g | apply S_c); exact sgc) | refine Stp.h ?_ | (with_reducible apply B_ne; focus decide) | ((with_reducible first | apply SC_d | apply SG_d | apply SG_n | apply SC_b | apply SG_b) <;> intro hc <;> try simp only [dq1, dq2, dq3, dq4, dq5] at hc))
  refine W_rngM 7 0 (min (ps.length + 1) 151) (fun i e mm => ∃ m, Gen [some [.flat (.int .i64 l.length), .list 1 (l.map Rks.av) nl cd]] mm m ∧ m.id = m0.id ∧ m.l = l.map cpR ∧ Keeps (plX m.l) m.L m.pm) (by simp only [asg, asgO, List.append_nil, List.nil_append, List.cons_append]; rfl) (by exact svc) (by omega) ⟨m0, hg0, rfl, hH, hK0⟩ ?_
  rintro i e mm _ hi hk e7 ⟨m, hg, hid, hml, hmk⟩
  have k1 : e 1 = .list 1 (intsA ps) np cp := by rw [hk 1 rfl]; exact svc
  have k2 : e 2 = .mptr 0 0 := by rw [hk 2 rfl]; exact svc
  have k5 : e 5 = .mptr m0.id 0 := by rw [hk 5 rfl]; exact svc
  clear hk h17 h19 h18 hg0 hK0 hb0 hbl
  have h0m : mm[0]? = some (some [.flat (.int .i64 l.length), .list 1 (l.map Rks.av) nl cd]) := by rw [hg.fr 0 (by simp)]; rfl
  have hlm : 0 < mm.length := get_lt h0m
  have h13 := t13 m mm hg.mach
  have h24 := t24 m mm hg.mach
  have hq := fun hw => quiet_stab hXH hg.mach hml hmk hw
  have h25 := fun h => t25 (l := l) (nl := nl) (cd := cd) (s := m.C.map cln) (Vw.list mm Pth.av (m.C.map cln) ((m.C.map cln).map Pth.av).isEmpty ((m.C.map cln).map Pth.av).isEmpty) hXH hSH (by rw [List.length_map, hg.mach.clen, hml]; simp) h
  have h26 := t26 l.length l nl cd (m.C.map cln) ((m.C.map cln).map Pth.av).isEmpty ((m.C.map cln).map Pth.av).isEmpty mm hSH (by rw [List.length_map, hg.mach.clen, hml, List.length_map]; have := (show SmallX l from hSH).1; omega)
  obtain ⟨C', hC'⟩ : ∃ C', C' = m.C.map cln := ⟨_, rfl⟩
  rw [← hC'] at h13 h25 h26 hq
  rw [hid] at h13 h24
  simp only [lst] at h13
  have hH2 : Hid (m.l = l.map cpR) := hml
  have hH4 : Hid (m.id = m0.id) := hid
  have hH6 : Hid (Keeps (plX m.l) m.L m.pm) := hmk
  clear hml hid hmk hC'
  have hrest : ∀ e : Env, e 1 = .list 1 (intsA ps) np cp → e 5 = .mptr m0.id 0 → True := fun _ _ _ => trivial
  by_cases hlt : i < min (ps.length + 1) 151
  · have h1 : (i : Int) ≤ ps.length := by omega
    have h2 : (i : Int) ≤ 150 := by omega
    by_cases hw : wtL m.Z m.Z.length = []
    · obtain ⟨hS1, hS2⟩ := hq hw
      have h25 := h25 (fun h => hS1.2.2.1 h)
      rw [decide_eq_true hS2] at h25
      rw [decide_eq_true ⟨hS1, hS2⟩] at h26
      rw [decide_eq_true hw] at h24
      clear hS1 hS2 hw hq hrest
      by_cases h3 : (i : Int) < ps.length
      · repeat' (first | ((with_reducible first | apply S_0 | apply S_q1 | apply S_g | apply S_c); exact sgc) | refine Stp.h ?_ | (with_reducible apply B_ne; focus decide) | ((with_reducible first | apply SC_d | apply SG_d | apply SG_n | apply SC_b | apply SG_b) <;> intro hc <;> try simp only [dq1, dq2, dq3, dq4, dq5] at hc))
        refine S_dlv (i := ps[i]) hg.mach (by rw [show m.id = m0.id from hH4]; exact svc) (by exact svc) (fun _ _ => Nat.zero_le _) ?_
        intro M' m' D' hDr hpm
        repeat' (first | ((with_reducible first | apply S_0 | apply S_q1 | apply S_g | apply S_c); exact sgc) | refine Stp.h ?_ | (with_reducible apply B_ne; focus decide) | ((with_reducible first | apply SC_d | apply SG_d | apply SG_n | apply SC_b | apply SG_b) <;> intro hc <;> try simp only [dq1, dq2, dq3, dq4, dq5] at hc))
        obtain ⟨s1, s2, s3, s4, s5, s6, s7, s8⟩ := hDr.sid
        refine G_n (by exact svc) hlt ⟨m', hg.step hDr, by rw [s1]; exact hH4, by rw [s5]; exact hH2, ?_⟩
        rw [s5, s6, hpm]
        exact Keeps.dlv hg.mach.fit hH6 _
      · repeat' (first | ((with_reducible first | apply S_0 | apply S_q1 | apply S_g | apply S_c); exact sgc) | refine Stp.h ?_ | (with_reducible apply B_ne; focus decide) | ((with_reducible first | apply SC_d | apply SG_d | apply SG_n | apply SC_b | apply SG_b) <;> intro hc <;> try simp only [dq1, dq2, dq3, dq4, dq5] at hc))
        exact G_n (by exact svc) hlt ⟨m, hg, hH4, hH2, hH6⟩
    · rw [decide_eq_false hw] at h24
      clear hw hq hrest
      by_cases h3 : (i : Int) < ps.length
      · repeat' (first | ((with_reducible first | apply S_0 | apply S_q1 | apply S_g | apply S_c); exact sgc) | refine Stp.h ?_ | (with_reducible apply B_ne; focus decide) | ((with_reducible first | apply SC_d | apply SG_d | apply SG_n | apply SC_b | apply SG_b) <;> intro hc <;> try simp only [dq1, dq2, dq3, dq4, dq5] at hc))
        refine S_dlv (i := ps[i]) hg.mach (by rw [show m.id = m0.id from hH4]; exact svc) (by exact svc) (fun _ _ => Nat.zero_le _) ?_
        intro M' m' D' hDr hpm
        repeat' (first | ((with_reducible first | apply S_0 | apply S_q1 | apply S_g | apply S_c); exact sgc) | refine Stp.h ?_ | (with_reducible apply B_ne; focus decide) | ((with_reducible first | apply SC_d | apply SG_d | apply SG_n | apply SC_b | apply SG_b) <;> intro hc <;> try simp only [dq1, dq2, dq3, dq4, dq5] at hc))
        obtain ⟨s1, s2, s3, s4, s5, s6, s7, s8⟩ := hDr.sid
        refine G_n (by exact svc) hlt ⟨m', hg.step hDr, by rw [s1]; exact hH4, by rw [s5]; exact hH2, ?_⟩
        rw [s5, s6, hpm]
        exact Keeps.dlv hg.mach.fit hH6 _
      · repeat' (first | ((with_reducible first | apply S_0 | apply S_q1 | apply S_g | apply S_c); exact sgc) | refine Stp.h ?_ | (with_reducible apply B_ne; focus decide) | ((with_reducible first | apply SC_d | apply SG_d | apply SG_n | apply SC_b | apply SG_b) <;> intro hc <;> try simp only [dq1, dq2, dq3, dq4, dq5] at hc))
        exact G_n (by exact svc) hlt ⟨m, hg, hH4, hH2, hH6⟩
  · clear hq hrest h25 h26 h24 h13 hg
    by_cases hc1 : (i : Int) ≤ ps.length
    · have h2 : ¬ (i : Int) ≤ 150 := by omega
      repeat' (first | ((with_reducible first | apply S_0 | apply S_q1 | apply S_g | apply S_c); exact sgc) | refine Stp.h ?_ | (with_reducible apply B_ne; focus decide) | ((with_reducible first | apply SC_d | apply SG_d | apply SG_n | apply SC_b | apply SG_b) <;> intro hc <;> try simp only [dq1, dq2, dq3, dq4, dq5] at hc))
      (first | exact fincR | exact fincN)
    · repeat' (first | ((with_reducible first | apply S_0 | apply S_q1 | apply S_g | apply S_c); exact sgc) | refine Stp.h ?_ | (with_reducible apply B_ne; focus decide) | ((with_reducible first | apply SC_d | apply SG_d | apply SG_n | apply SC_b | apply SG_b) <;> intro hc <;> try simp only [dq1, dq2, dq3, dq4, dq5] at hc))
      (first | exact fincR | exact fincN)
theorem law_spvpQuiet (x0 x1 : AV) (h0 : dtInst.Arg x0) (h1 : (DT.sl 1 (.int .i64)).Arg x1) : ev pr 5 [x0, x1] [] = some (.q (.flat (.bool true))) := by
  obtain ⟨n, l, nl, cd, rfl, hl⟩ := inst_arg h0
  obtain ⟨p, ⟨np, cp, rfl, hnp⟩, _, hp⟩ := ints_arg h1
  exact law5 n l nl cd p np cp hl (by rw [maxLen_eq] at hp; omega)
end Go.Proofs.Ytlcdafidoddefaa.Av
