/- The law SpvpPlays on the evaluator. -/
import Derived.Test.YtlcdafidoddefaaX10
import Derived.Test.YtlcdafidoddefaaX6
namespace Go.Proofs.Ytlcdafidoddefaa.Av
open Go.RowKit
set_option linter.unusedSimpArgs false
set_option linter.unusedVariables false
set_option maxHeartbeats 10000000
theorem dlv_out (X : List (List (List Int))) (L : List I2) (s : PM) {i : Int} : (0 ≤ i ∧ i < s.Z.length → (dlv X L s i).2 = (true, 0) ∨ (dlv X L s i).2 = (false, 11) ∨ (dlv X L s i).2 = (false, 0)) ∧ (¬ (0 ≤ i ∧ i < s.Z.length) → dlv X L s i = (s, false, 7)) := by
  constructor
  · intro h
    rw [dlv, if_pos h]
    have hk : i.toNat < s.Z.length := by omega
    rw [List.getElem?_eq_getElem hk]
    simp only
    split
    · exact .inr (.inr rfl)
    · split
      · exact .inl rfl
      · split
        · exact .inr (.inl rfl)
        · exact .inl rfl
  · intro h
    rw [dlv, if_neg h]
/-- A machine beside the document's. -/
structure Bsd (T : Nat) (n : Int) (l : List Rks) (nl cd : Bool) (id : Nat) (mm : MS) (m : Mc) (L : List RLn) (lv : AV) (C : List Pth) (cn cc : Bool) : Prop where
  mach : Mach mm m
  id : m.id = id
  ml : m.l = l.map cpR
  blk : mm[T]? = some (some [.flat (.int .i64 n), .list 1 (l.map Rks.av) nl cd, lv, .list 1 (C.map Pth.av) cn cc])
  own : ¬ m.own T
  mid : T ≠ m.mid
  lvs : ∃ s a b, lv = .list s (rlnsA L) a b ∧ (s = 5 ∨ L = [])
  par : L.map RLn.pair = m.L
  pm : rpm L C = m.pm
  sm : RSm L C
theorem Bsd.t23 {T : Nat} {n : Int} {l : List Rks} {nl cd : Bool} {id : Nat} {mm : MS} {m : Mc} {L : List RLn} {lv : AV} {C : List Pth} {cn cc : Bool} (h : Bsd T n l nl cd id mm m L lv C cn cc) : ev pr 23 [.mptr id 0, .agg [.flat (.int .i64 n), .list 1 (l.map Rks.av) nl cd, lv, .list 1 (C.map Pth.av) cn cc]] mm = some (.q (.flat (.bool true))) := by
  obtain ⟨s, a, b, rfl, hs⟩ := h.lvs
  have := Av.t23 m n l nl cd L _ C cn cc mm h.mach (Vw.rlns mm L s a b hs) h.par h.pm
  rw [h.id] at this
  exact this
theorem Dr.own' {M M' : MS} {m m' : Mc} {D : List Nat} (h : Dr M M' m m' D) {T : Nat} (hT : T < M.length) (ho : ¬ m.own T) : M'[T]? = M[T]? ∧ ¬ m'.own T :=
  ⟨h.fr T hT ho, fun h1 => by rcases h.own T h1 with h2 | h2; exact ho h2; omega⟩
theorem law4 (n : Int) (l : List Rks) (nl cd : Bool) (ps : List Int) (np cp : Bool) (hl : l.length ≤ 9223372036854775807) (hp : ps.length ≤ 9223372036854775807) : ev pr 4 [.agg [.flat (.int .i64 n), .list 1 (l.map Rks.av) nl cd], .list 1 (intsA ps) np cp] [] = some (.q (.flat (.bool true))) := by
  have h11 := lives27
  have h17 := fun M => t17 n l nl cd M hl
  have h19 := fun M => t19 n l nl cd M hl
  by_cases hS : SmallX l
  case neg =>
    rw [decide_eq_false hS] at h17
    clear hS h19
    refine ev_fn' A4 ?_
    repeat' (first | ((with_reducible first | apply S_0 | apply S_q1 | apply S_g | apply S_c); exact sgc) | refine Stp.h ?_ | (with_reducible apply B_ne; focus decide) | ((with_reducible first | apply SC_d | apply SG_d | apply SG_n | apply SC_b | apply SG_b) <;> intro hc <;> try simp only [dq1, dq2, dq3, dq4, dq5] at hc))
    (first | exact fincR | exact fincN)
  rw [decide_eq_true hS] at h17
  by_cases hX : MayX n l
  case neg =>
    rw [decide_eq_false hX] at h19
    have h18 := t18x n l nl cd [some [.flat (.int .i64 n), .list 1 (l.map Rks.av) nl cd]] hS hX
    clear hX hS
    refine ev_fn' A4 ?_
    repeat' (first | ((with_reducible first | apply S_0 | apply S_q1 | apply S_g | apply S_c); exact sgc) | refine Stp.h ?_ | (with_reducible apply B_ne; focus decide) | ((with_reducible first | apply SC_d | apply SG_d | apply SG_n | apply SC_b | apply SG_b) <;> intro hc <;> try simp only [dq1, dq2, dq3, dq4, dq5] at hc))
    (first | exact fincR | exact fincN)
  rw [decide_eq_true hX] at h19
  obtain ⟨out, h18, m0, G, rfl, hm0, hnw⟩ := t18 n l nl cd [some [.flat (.int .i64 n), .list 1 (l.map Rks.av) nl cd]] hS hX
  have hn : n = l.length := hX.2.2.1.symm
  subst hn
  obtain ⟨out2, h20, s1, n1, c1, s2, n2, c2, rfl, hs1, rfl, hn1⟩ := t20 l nl cd (some [.flat (.int .i64 l.length), .list 1 (l.map Rks.av) nl cd] :: G) hS hX
  have hg0 : Gen [some [.flat (.int .i64 l.length), .list 1 (l.map Rks.av) nl cd]] ([some [.flat (.int .i64 l.length), .list 1 (l.map Rks.av) nl cd]] ++ G) m0 := by
    have := NewM.gen (M := [some [.flat (.int .i64 l.length), .list 1 (l.map Rks.av) nl cd]]) (B := []) (G := G) (by simpa using hnw) (by simpa using hm0)
    simpa using this
  have hL0 : m0.L = prs (prL l) := by rw [hm0.Leq, hnw.hl, prL_cp]
  have hpm0 := hnw.pm
  have hl0 := hnw.hl
  have hb0 : (some [AV.flat (.int .i64 l.length), .list 1 (l.map Rks.av) nl cd] :: G)[m0.id]? = some (some m0.cells) := hm0.blk
  have hbl : m0.id < (some [AV.flat (.int .i64 l.length), .list 1 (l.map Rks.av) nl cd] :: G).length := get_lt hb0
  obtain ⟨T, hT⟩ : ∃ T, T = G.length + 1 := ⟨_, rfl⟩
  obtain ⟨lv, hlv⟩ : ∃ lv, lv = AV.list s1 (rlnsA ((prs (prL l)).map newR)) n1 c1 := ⟨_, rfl⟩
  rw [← hlv] at h20
  have hini : Bsd T l.length l nl cd m0.id (some [AV.flat (.int .i64 l.length), .list 1 (l.map Rks.av) nl cd] :: (G ++ [some [.flat (.int .i64 l.length), .list 1 (l.map Rks.av) nl cd, lv, .list 1 ((newC l.length).map Pth.av) n2 c2]])) m0 ((prs (prL l)).map newR) lv (newC l.length) n2 c2 := by
    have hpairs : ((prs (prL l)).map newR).map RLn.pair = prs (prL l) := by
      rw [List.map_map]
      conv => rhs; rw [← List.map_id (prs (prL l))]
      congr 1; funext p
      simp only [Function.comp_def, newR, RLn.pair]
      split <;> rfl
    have hLl : (prs (prL l)).length ≤ 1000 := by
      have := hm0.lle
      rw [hL0] at this; exact this
    refine ⟨by have := hm0.grow [some [.flat (.int .i64 l.length), .list 1 (l.map Rks.av) nl cd, lv, .list 1 ((newC l.length).map Pth.av) n2 c2]]; simpa using this, rfl, hl0, by rw [hT]; simp, ?_, ?_, ⟨s1, n1, c1, hlv, hs1.imp_right fun h => by rw [h]; rfl⟩, by rw [hpairs, hL0], ?_, ?_⟩
    · intro ho
      rcases ho with h1 | ⟨hz, h1⟩ | h1 | ⟨z, hz, h1⟩
      · have := get_lt hm0.blk; simp at this; omega
      · have := hm0.lidlt hz; simp at this; omega
      · have := get_lt hm0.cho; simp at this; omega
      · have := (hm0.row z hz).rid_lt h1; simp at this; omega
    · have := get_lt hm0.map; simp at this; omega
    · rw [hpm0, rpm, newQ, hL0]
      have e1 : ((prs (prL l)).map newR).map RLn.pln = (prs (prL l)).map newPL := by
        rw [List.map_map]; congr 1; funext p
        simp only [Function.comp_def, newR, newPL]
        split <;> rfl
      have e2 : pl (newC l.length) = [0] :: List.replicate (l.length - 1) [] := by
        rw [newC, pl, List.map_cons, List.map_replicate]; rfl
      rw [e1, e2]
    · refine ⟨by simpa using hLl, fun r hr => ?_, fun p hp => ?_⟩
      · obtain ⟨p, _, rfl⟩ := List.mem_map.1 hr
        simp only [newR]
        split <;> simp [nilPth, zeroPth]
      · rcases List.mem_cons.1 hp with rfl | hp
        · simp [zeroPth]
        · rw [(List.mem_replicate.1 hp).2]; simp [nilPth]
  have hSH : Hid (SmallX l) := hS
  have hXH : Hid (MayX l.length l) := hX
  have hTG : T = G.length + 1 := hT
  have hl12 := hS.1
  clear hm0 hnw hl0 hX hS hg0 hL0 hpm0 hlv hs1 hn1
  refine ev_fn' A4 ?_
  repeat' (first | ((with_reducible first | apply S_0 | apply S_q1 | apply S_g | apply S_c); exact sgc) | refine Stp.h ?_ | (with_reducible apply B_ne; focus decide) | ((with_reducible first | apply SC_d | apply SG_d | apply SG_n | apply SC_b | apply SG_b) <;> intro hc <;> try simp only [dq1, dq2, dq3, dq4, dq5] at hc))
  rw [← hT]
  refine W_rngM 8 0 (min ps.length 80) (fun i e mm => e 7 = .mptr T 0 ∧ ∃ m L lv C cn cc, Bsd T l.length l nl cd m0.id mm m L lv C cn cc) (by simp only [asg, asgO, List.append_nil, List.nil_append, List.cons_append]; rfl) (by exact svc) (by omega) ⟨by exact svc, m0, _, lv, _, n2, c2, hini⟩ ?_
  rintro i e mm _ hi hk e8 ⟨e7, m, L, lv, C, cn, cc, hB⟩
  have k1 : e 1 = .list 1 (intsA ps) np cp := by rw [hk 1 rfl]; exact svc
  have k5 : e 5 = .mptr m0.id 0 := by rw [hk 5 rfl]; exact svc
  clear hk h17 h18 h19 h20 hini hb0 hbl hT hTG
  by_cases hlt : i < min ps.length 80
  · have h1 : (i : Int) < ps.length := by omega
    have h2 : (i : Int) < 80 := by omega
    have hmid := hB.id
    have hm := hB.mach
    have hHB : Hid (Bsd T l.length l nl cd m0.id mm m L lv C cn cc) := hB
    clear hB hmid hm
    repeat' (first | ((with_reducible first | apply S_0 | apply S_q1 | apply S_g | apply S_c); exact sgc) | refine Stp.h ?_ | (with_reducible apply B_ne; focus decide) | ((with_reducible first | apply SC_d | apply SG_d | apply SG_n | apply SC_b | apply SG_b) <;> intro hc <;> try simp only [dq1, dq2, dq3, dq4, dq5] at hc))
    refine S_dlv (i := ps[i]) (Bsd.mach hHB) (by rw [Bsd.id hHB]; exact svc) (by exact svc) (fun _ _ => Nat.zero_le _) ?_
    intro M' m' D' hDr hpm
    have hB := hHB
    have hZl : m.pm.Z.length = m.L.length := by show (m.Z.map Lin.pln).length = _; rw [List.length_map]; exact hB.mach.len
    have hLl : L.length = m.L.length := by rw [← hB.par]; simp
    obtain ⟨o1, o2⟩ := dlv_out (plX m.l) m.L m.pm (i := ps[i])
    rw [hZl, ← hLl] at o1 o2
    obtain ⟨q1, q2⟩ := hDr.own' (get_lt hB.blk) hB.own
    obtain ⟨s1, s2, s3, s4, s5, s6, s7, s8⟩ := hDr.sid
    have hblk := q1.trans hB.blk
    have hTl := get_lt hblk
    obtain ⟨sz, a, b, hlv, hsz⟩ := hB.lvs
    have hlen : lenOf lv = some L.length := by rw [hlv]; exact (Vw.rlns M' L sz a b hsz).len
    have hvw : ∀ G, view (M' ++ G) lv = some (rlnsA L) := by rw [hlv]; exact (Vw.rlns M' L sz a b hsz).vw
    have hvc : cellsOf lv = some [lv] := by rw [hlv]; rfl
    have hvw0 : view M' lv = some (rlnsA L) := by rw [hlv]; rfl
    have hL1000 := hB.sm.len
    have hlv' := hlv
    have hlt2 := True.intro
    by_cases hv : 0 ≤ ps[i] ∧ ps[i] < L.length
    · obtain ⟨k, hk⟩ : ∃ k : Nat, ps[i] = k := ⟨ps[i].toNat, by omega⟩
      have hkL : k < L.length := by omega
      have hkL' : ¬ (L.length : Int) ≤ k := by omega
      have hk0 : ¬ (k : Int) < 0 := by omega
      rw [hk] at hpm o1
      have hoo := o1 (by omega)
      rw [show dlv (plX m.l) m.L m.pm ps[i] = dlv (plX m.l) m.L m.pm k by rw [hk]]
      obtain rfl : sz = 5 := by
        rcases hsz with h | h
        · exact h
        · rw [h] at hkL; simp at hkL
      have hXl : plX m.l = plX l := by rw [hB.ml, plX_cp]
      have hF : Fit (plX l) (L.map RLn.pair) := by rw [hB.par, ← hXl]; exact hB.mach.fit
      have hCl : C.length = l.length := by
        have e1 : pl C = pl m.C := congrArg PM.C hB.pm
        have e2 := congrArg List.length e1
        simp only [pl, List.length_map] at e2
        rw [e2, hB.mach.clen, hB.ml, List.length_map]
      obtain ⟨out22, h22, L', ln', lc', C', cn', cc', rfl, hpr', hpm', hsm'⟩ := t22 l.length l nl cd L a b C cn cc k M' hF hSH hXH hkL hB.sm hCl
      rw [hB.par, hB.pm, ← hXl] at h22 hpm'
      rw [hB.par] at hpr'
      simp only [rmA] at h22
      rw [← hlv'] at h22
      obtain ⟨MX, hMX⟩ : ∃ MX, MX = List.set (M' ++ [some [.flat (.int .i64 l.length), .list 1 (l.map Rks.av) nl cd, .list 5 (rlnsA L') ln' lc', .list 1 (C'.map Pth.av) cn' cc']]) T (some [.flat (.int .i64 l.length), .list 1 (l.map Rks.av) nl cd, .list 5 (rlnsA L') ln' lc', .list 1 (C'.map Pth.av) cn' cc']) := ⟨_, rfl⟩
      have hBX : Bsd T l.length l nl cd m0.id MX m' L' (.list 5 (rlnsA L') ln' lc') C' cn' cc' := by
        refine ⟨(hDr.mach.grow [some [.flat (.int .i64 l.length), .list 1 (l.map Rks.av) nl cd, .list 5 (rlnsA L') ln' lc', .list 1 (C'.map Pth.av) cn' cc']]).ext ?_ fun j hj => ?_, by rw [s1]; exact hB.id, by rw [s5]; exact hB.ml, ?_, q2, by rw [s2]; exact hB.mid, ⟨5, ln', lc', rfl, .inl rfl⟩, by rw [s6]; exact hpr', by rw [hpm]; exact hpm', hsm'⟩
        · rw [hMX, List.getElem?_set_ne (by rw [s2]; exact hB.mid)]
        · rw [hMX, List.getElem?_set_ne fun e => by subst e; exact q2 hj]
        · rw [hMX, List.getElem?_set_self (by simp; omega)]
      have h23 := hBX.t23
      rw [hMX] at h23
      have hblk' := get_grow hblk [some [.flat (.int .i64 l.length), .list 1 (l.map Rks.av) nl cd, .list 5 (rlnsA L') ln' lc', .list 1 (C'.map Pth.av) cn' cc']]
      have hHX : Hid (Bsd T l.length l nl cd m0.id MX m' L' (.list 5 (rlnsA L') ln' lc') C' cn' cc') := hBX
      have hHM : Hid _ := hMX
      have hTl' : T < (M' ++ [some [AV.flat (.int .i64 l.length), .list 1 (l.map Rks.av) nl cd, .list 5 (rlnsA L') ln' lc', .list 1 (C'.map Pth.av) cn' cc']]).length := by simp; omega
      simp only [tupBC, rmA] at h22 ⊢
      generalize hRd : dlv (plX m.l) m.L m.pm k = Rd at hoo h22 hpm' hpm ⊢
      clear hB hBX hMX hDr hpm hZl hLl o1 o2 q1 q2 s1 s2 s3 s4 s5 s6 s7 s8 hlv hlv' hsz hXl hF hCl hpr' hpm' hsm' hRd hv hlt2
      have hwq : (Rd.2 = (true, 0) ∧ howQ Rd = 1) ∨ (Rd.2 = (false, 11) ∧ howQ Rd = 2) ∨ (Rd.2 = (false, 0) ∧ howQ Rd = 0) := by
        rcases hoo with h | h | h
        · exact .inl ⟨h, by simp [howQ, h]⟩
        · exact .inr (.inl ⟨h, by simp [howQ, h]⟩)
        · exact .inr (.inr ⟨h, by simp [howQ, h]⟩)
      clear hoo
      rcases hwq with ⟨hoo, hw⟩ | ⟨hoo, hw⟩ | ⟨hoo, hw⟩
      all_goals
        rw [hoo]
        rw [hw] at h22
        clear hoo hw
        repeat' (first | ((with_reducible first | apply S_0 | apply S_q1 | apply S_g | apply S_c); exact sgc) | refine Stp.h ?_ | (with_reducible apply B_ne; focus decide) | ((with_reducible first | apply SC_d | apply SG_d | apply SG_n | apply SC_b | apply SG_b) <;> intro hc <;> try simp only [dq1, dq2, dq3, dq4, dq5] at hc))
        refine W_regionF2 ?_
        (try simp only [List.take_succ_cons, List.take_zero, List.drop_succ_cons, List.drop_zero]; repeat (first | (with_reducible apply WH_nil) | ((with_reducible apply WH_q); (focus rfl); (focus rfl); focus (exact whc)) | ((with_reducible apply WH_cq); (focus rfl); focus (exact whc)) | ((with_reducible apply WH_cx); (focus rfl); focus (exact whc)) | ((with_reducible apply WH_f); (focus rfl); focus (exact whc)) | ((with_reducible apply WH_k); (focus rfl); focus (exact whc))))
        refine ⟨rfl, rfl, ?_⟩
        rw [List.nil_append]
        repeat' (first | ((with_reducible first | apply S_0 | apply S_q1 | apply S_g | apply S_c); exact sgc) | refine Stp.h ?_ | (with_reducible apply B_ne; focus decide) | ((with_reducible first | apply SC_d | apply SG_d | apply SG_n | apply SC_b | apply SG_b) <;> intro hc <;> try simp only [dq1, dq2, dq3, dq4, dq5] at hc))
        exact G_n (by exact svc) hlt ⟨by exact svc, m', L', .list 5 (rlnsA L') ln' lc', C', cn', cc', by rw [← show MX = _ from hHM]; exact hHX⟩
    · have hR := o2 hv
      rw [hR] at hpm ⊢
      have hB' : Bsd T l.length l nl cd m0.id M' m' L lv C cn cc := ⟨hDr.mach, by rw [s1]; exact hB.id, by rw [s5]; exact hB.ml, hblk, q2, by rw [s2]; exact hB.mid, hB.lvs, by rw [s6]; exact hB.par, by rw [hpm]; exact hB.pm, hB.sm⟩
      have hHB' : Hid (Bsd T l.length l nl cd m0.id M' m' L lv C cn cc) := hB'
      simp only [tupBC]
      clear hB hB' hDr hpm hZl hLl o1 o2 q1 q2 s1 s2 s3 s4 s5 s6 s7 s8 hlv hlv' hsz hR
      by_cases hneg : ps[i] < 0
      · clear hv
        repeat' (first | ((with_reducible first | apply S_0 | apply S_q1 | apply S_g | apply S_c); exact sgc) | refine Stp.h ?_ | (with_reducible apply B_ne; focus decide) | ((with_reducible first | apply SC_d | apply SG_d | apply SG_n | apply SC_b | apply SG_b) <;> intro hc <;> try simp only [dq1, dq2, dq3, dq4, dq5] at hc))
        exact G_n (by exact svc) hlt ⟨by exact svc, m', L, lv, C, cn, cc, hHB'⟩
      · have hge : (L.length : Int) ≤ ps[i] := by omega
        clear hv
        repeat' (first | ((with_reducible first | apply S_0 | apply S_q1 | apply S_g | apply S_c); exact sgc) | refine Stp.h ?_ | (with_reducible apply B_ne; focus decide) | ((with_reducible first | apply SC_d | apply SG_d | apply SG_n | apply SC_b | apply SG_b) <;> intro hc <;> try simp only [dq1, dq2, dq3, dq4, dq5] at hc))
        exact G_n (by exact svc) hlt ⟨by exact svc, m', L, lv, C, cn, cc, hHB'⟩
  · have h23 := hB.t23
    have hblk := hB.blk
    clear hB
    by_cases hc1 : (i : Int) < ps.length
    · have h2 : ¬ (i : Int) < 80 := by omega
      repeat' (first | ((with_reducible first | apply S_0 | apply S_q1 | apply S_g | apply S_c); exact sgc) | refine Stp.h ?_ | (with_reducible apply B_ne; focus decide) | ((with_reducible first | apply SC_d | apply SG_d | apply SG_n | apply SC_b | apply SG_b) <;> intro hc <;> try simp only [dq1, dq2, dq3, dq4, dq5] at hc))
      (first | exact fincR | exact fincN)
    · repeat' (first | ((with_reducible first | apply S_0 | apply S_q1 | apply S_g | apply S_c); exact sgc) | refine Stp.h ?_ | (with_reducible apply B_ne; focus decide) | ((with_reducible first | apply SC_d | apply SG_d | apply SG_n | apply SC_b | apply SG_b) <;> intro hc <;> try simp only [dq1, dq2, dq3, dq4, dq5] at hc))
      (first | exact fincR | exact fincN)
theorem law_spvpPlays (x0 x1 : AV) (h0 : dtInst.Arg x0) (h1 : (DT.sl 1 (.int .i64)).Arg x1) : ev pr 4 [x0, x1] [] = some (.q (.flat (.bool true))) := by
  obtain ⟨n, l, nl, cd, rfl, hl⟩ := inst_arg h0
  obtain ⟨p, ⟨np, cp, rfl, hnp⟩, _, hp⟩ := ints_arg h1
  exact law4 n l nl cd p np cp hl (by rw [maxLen_eq] at hp; omega)
end Go.Proofs.Ytlcdafidoddefaa.Av
