/- Machines beside one another: what is the same is told so. -/
import Derived.Test.YtlcdafidoddefaaX8
namespace Go.Proofs.Ytlcdafidoddefaa.Av
open Go.RowKit
set_option linter.unusedSimpArgs false
set_option linter.unusedVariables false
set_option maxHeartbeats 10000000
theorem rks_ag (l : List Rnk) (k : Nat) (h : k < l.length) : ((rksA l).drop (k * 2)).take 2 = [.list 1 (intsA l[k].p.l) l[k].p.nl l[k].p.cd, .flat (.int .i64 l[k].r)] := by rw [rks_at l k h]; rfl
theorem t84 (q : Rnk) (M : MS) : ev pr 84 [.agg [.list 1 (intsA q.p.l) q.p.nl q.p.cd, .flat (.int .i64 q.r)], .agg [.list 1 (intsA q.p.l) q.p.nl q.p.cd, .flat (.int .i64 q.r)]] M = some (.q (.flat (.bool true))) := by
  have h49 := fun M => t49 q.p.l q.p.l q.p.nl q.p.cd q.p.nl q.p.cd M q.p.le
  simp only [decide_true] at h49
  refine ev_fn' A84 ?_
  repeat' (first | ((with_reducible first | apply S_0 | apply S_q1 | apply S_g | apply S_c); exact sgc) | refine Stp.h ?_ | (with_reducible apply B_ne; focus decide) | ((with_reducible first | apply SC_d | apply SG_d | apply SG_n | apply SC_b | apply SG_b) <;> intro hc <;> try simp only [dq1, dq2, dq3, dq4, dq5] at hc))
  (first | exact fincR | exact fincN)
theorem t83 (r : List Rnk) (n1 c1 n2 c2 : Bool) (M : MS) (hr : r.length ≤ 9223372036854775807) : ev pr 83 [.list 2 (rksA r) n1 c1, .list 2 (rksA r) n2 c2, .clo 84 []] M = some (.q (.flat (.bool true))) := by
  refine ev_fn' A83 ?_
  repeat' (first | ((with_reducible first | apply S_0 | apply S_q1 | apply S_g | apply S_c); exact sgc) | refine Stp.h ?_ | (with_reducible apply B_ne; focus decide) | ((with_reducible first | apply SC_d | apply SG_d | apply SG_n | apply SC_b | apply SG_b) <;> intro hc <;> try simp only [dq1, dq2, dq3, dq4, dq5] at hc))
  refine W_rngM 17 0 r.length (fun i e mm => ∃ G, mm = M ++ G) (by simp only [asg, asgO, List.append_nil, List.nil_append, List.cons_append]; rfl) (by exact svc) (by omega) ⟨[], by simp⟩ ?_
  rintro i e _ _ hi hk e17 ⟨G, rfl⟩
  have k1 : e 1 = .list 2 (rksA r) n2 c2 := by rw [hk 1 rfl]; exact svc
  have k2 : e 2 = .clo 84 [] := by rw [hk 2 rfl]; exact svc
  have k15 : e 15 = .list 2 (rksA r) n1 c1 := by rw [hk 15 rfl]; exact svc
  have k16 : e 16 = .flat (.int .i64 r.length) := by rw [hk 16 rfl]; exact svc
  clear hk
  rcases Nat.lt_or_ge i r.length with hlt | hlt
  · have hlt' : (i : Int) < r.length := by omega
    have h84 := fun M => t84 r[i] M
    have hag := rks_ag r i hlt
    repeat' (first | ((with_reducible first | apply S_0 | apply S_q1 | apply S_g | apply S_c); exact sgc) | refine Stp.h ?_ | (with_reducible apply B_ne; focus decide) | ((with_reducible first | apply SC_d | apply SG_d | apply SG_n | apply SC_b | apply SG_b) <;> intro hc <;> try simp only [dq1, dq2, dq3, dq4, dq5] at hc))
    exact G_n (by exact svc) hlt ⟨_, by first | rfl | (simp only [List.append_assoc]; rfl)⟩
  · have hlt' : ¬ (i : Int) < r.length := by omega
    repeat' (first | ((with_reducible first | apply S_0 | apply S_q1 | apply S_g | apply S_c); exact sgc) | refine Stp.h ?_ | (with_reducible apply B_ne; focus decide) | ((with_reducible first | apply SC_d | apply SG_d | apply SG_n | apply SC_b | apply SG_b) <;> intro hc <;> try simp only [dq1, dq2, dq3, dq4, dq5] at hc))
    (first | exact fincR | exact fincN)
theorem t82 (r : Rks) (M : MS) : ev pr 82 [.list 2 (rksA r.l) r.nl r.cd, .list 2 (rksA r.l) r.nl r.cd] M = some (.q (.flat (.bool true))) := by
  have h83 := fun M => t83 r.l r.nl r.cd r.nl r.cd M r.le
  refine ev_fn' A82 ?_
  repeat' (first | ((with_reducible first | apply S_0 | apply S_q1 | apply S_g | apply S_c); exact sgc) | refine Stp.h ?_ | (with_reducible apply B_ne; focus decide) | ((with_reducible first | apply SC_d | apply SG_d | apply SG_n | apply SC_b | apply SG_b) <;> intro hc <;> try simp only [dq1, dq2, dq3, dq4, dq5] at hc))
  (first | exact fincR | exact fincN)
theorem t81 (l : List Rks) (n1 c1 n2 c2 : Bool) (M : MS) (hl : l.length ≤ 9223372036854775807) : ev pr 81 [.list 1 (l.map Rks.av) n1 c1, .list 1 (l.map Rks.av) n2 c2, .clo 82 []] M = some (.q (.flat (.bool true))) := by
  refine ev_fn' A81 ?_
  repeat' (first | ((with_reducible first | apply S_0 | apply S_q1 | apply S_g | apply S_c); exact sgc) | refine Stp.h ?_ | (with_reducible apply B_ne; focus decide) | ((with_reducible first | apply SC_d | apply SG_d | apply SG_n | apply SC_b | apply SG_b) <;> intro hc <;> try simp only [dq1, dq2, dq3, dq4, dq5] at hc))
  refine W_rng 17 0 l.length (fun i e => True) (by simp only [asg, asgO, List.append_nil, List.nil_append, List.cons_append]; rfl) (by exact svc) (by omega) trivial ?_
  rintro i e _ hi hk e17 _
  have k1 : e 1 = .list 1 (l.map Rks.av) n2 c2 := by rw [hk 1 rfl]; exact svc
  have k2 : e 2 = .clo 82 [] := by rw [hk 2 rfl]; exact svc
  have k15 : e 15 = .list 1 (l.map Rks.av) n1 c1 := by rw [hk 15 rfl]; exact svc
  have k16 : e 16 = .flat (.int .i64 l.length) := by rw [hk 16 rfl]; exact svc
  clear hk
  rcases Nat.lt_or_ge i l.length with hlt | hlt
  · have hlt' : (i : Int) < l.length := by omega
    have h82 := fun M => t82 l[i] M
    repeat' (first | ((with_reducible first | apply S_0 | apply S_q1 | apply S_g | apply S_c); exact sgc) | refine Stp.h ?_ | (with_reducible apply B_ne; focus decide) | ((with_reducible first | apply SC_d | apply SG_d | apply SG_n | apply SC_b | apply SG_b) <;> intro hc <;> try simp only [dq1, dq2, dq3, dq4, dq5] at hc))
    exact H_n (by exact svc) hlt trivial
  · have hlt' : ¬ (i : Int) < l.length := by omega
    repeat' (first | ((with_reducible first | apply S_0 | apply S_q1 | apply S_g | apply S_c); exact sgc) | refine Stp.h ?_ | (with_reducible apply B_ne; focus decide) | ((with_reducible first | apply SC_d | apply SG_d | apply SG_n | apply SC_b | apply SG_b) <;> intro hc <;> try simp only [dq1, dq2, dq3, dq4, dq5] at hc))
    (first | exact fincR | exact fincN)
theorem t60 (n : Int) (l : List Rks) (n1 c1 n2 c2 : Bool) (M : MS) (hl : l.length ≤ 9223372036854775807) : ev pr 60 [.agg [.flat (.int .i64 n), .list 1 (l.map Rks.av) n1 c1], .agg [.flat (.int .i64 n), .list 1 (l.map Rks.av) n2 c2]] M = some (.q (.flat (.bool true))) := by
  have h81 := fun M => t81 l n1 c1 n2 c2 M hl
  refine ev_fn' A60 ?_
  repeat' (first | ((with_reducible first | apply S_0 | apply S_q1 | apply S_g | apply S_c); exact sgc) | refine Stp.h ?_ | (with_reducible apply B_ne; focus decide) | ((with_reducible first | apply SC_d | apply SG_d | apply SG_n | apply SC_b | apply SG_b) <;> intro hc <;> try simp only [dq1, dq2, dq3, dq4, dq5] at hc))
  (first | exact fincR | exact fincN)
theorem t86 (x y : Pth) (M : MS) (h : x.l = y.l) : ev pr 86 [.list 1 (intsA x.l) x.nl x.cd, .list 1 (intsA y.l) y.nl y.cd] M = some (.q (.flat (.bool true))) := by
  have h49 := fun M => t49 x.l y.l x.nl x.cd y.nl y.cd M x.le
  simp only [decide_eq_true h] at h49
  clear h
  refine ev_fn' A86 ?_
  repeat' (first | ((with_reducible first | apply S_0 | apply S_q1 | apply S_g | apply S_c); exact sgc) | refine Stp.h ?_ | (with_reducible apply B_ne; focus decide) | ((with_reducible first | apply SC_d | apply SG_d | apply SG_n | apply SC_b | apply SG_b) <;> intro hc <;> try simp only [dq1, dq2, dq3, dq4, dq5] at hc))
  (first | exact fincR | exact fincN)
theorem t85 {xv yv : AV} {x y : List Pth} {M : MS} (hx : Vw M xv (x.map Pth.av) x.length) (hy : Vw M yv (y.map Pth.av) y.length) (h : pl x = pl y) (hl : x.length ≤ 1000) : ev pr 85 [xv, yv, .clo 86 []] M = some (.q (.flat (.bool true))) := by
  have a0 := hx.v0
  have a1 := hx.len
  have b0 := hy.v0
  have b1 := hy.len
  have hlen : x.length = y.length := by have := congrArg List.length h; simpa [pl] using this
  rw [← hlen] at b1
  have hHl : Hid _ := hlen
  have hH : Hid (pl x = pl y) := h
  clear hx hy h hlen
  refine ev_fn' A85 ?_
  repeat' (first | ((with_reducible first | apply S_0 | apply S_q1 | apply S_g | apply S_c); exact sgc) | refine Stp.h ?_ | (with_reducible apply B_ne; focus decide) | ((with_reducible first | apply SC_d | apply SG_d | apply SG_n | apply SC_b | apply SG_b) <;> intro hc <;> try simp only [dq1, dq2, dq3, dq4, dq5] at hc))
  refine W_rng 17 0 x.length (fun i e => True) (by simp only [asg, asgO, List.append_nil, List.nil_append, List.cons_append]; rfl) (by exact svc) (by omega) trivial ?_
  rintro i e _ hi hk e17 _
  have k1 : e 1 = yv := by rw [hk 1 rfl]; exact svc
  have k2 : e 2 = .clo 86 [] := by rw [hk 2 rfl]; exact svc
  have k15 : e 15 = xv := by rw [hk 15 rfl]; exact svc
  have k16 : e 16 = .flat (.int .i64 x.length) := by rw [hk 16 rfl]; exact svc
  clear hk
  rcases Nat.lt_or_ge i x.length with hlt | hlt
  · have hlt' : (i : Int) < x.length := by omega
    have hlt2 : i < y.length := by rw [← show x.length = y.length from hHl]; exact hlt
    have he : x[i].l = y[i].l := by
      have := congrArg (·[i]?) (show pl x = pl y from hH)
      simpa [pl, hlt, hlt2] using this
    have h86 := fun M => t86 x[i] y[i] M he
    clear he
    repeat' (first | ((with_reducible first | apply S_0 | apply S_q1 | apply S_g | apply S_c); exact sgc) | refine Stp.h ?_ | (with_reducible apply B_ne; focus decide) | ((with_reducible first | apply SC_d | apply SG_d | apply SG_n | apply SC_b | apply SG_b) <;> intro hc <;> try simp only [dq1, dq2, dq3, dq4, dq5] at hc))
    exact H_n (by exact svc) hlt trivial
  · have hlt' : ¬ (i : Int) < x.length := by omega
    repeat' (first | ((with_reducible first | apply S_0 | apply S_q1 | apply S_g | apply S_c); exact sgc) | refine Stp.h ?_ | (with_reducible apply B_ne; focus decide) | ((with_reducible first | apply SC_d | apply SG_d | apply SG_n | apply SC_b | apply SG_b) <;> intro hc <;> try simp only [dq1, dq2, dq3, dq4, dq5] at hc))
    (first | exact fincR | exact fincN)
theorem t62 {xv yv : AV} {x y : List Pth} {h1 h2 : Pth} {a : Bool} {M : MS} (hx : Vw M xv (x.map Pth.av) x.length) (hy : Vw M yv (y.map Pth.av) y.length) (h : pl x = pl y) (hl : x.length ≤ 1000) (hh : h1.l = h2.l) : ev pr 62 [.agg [xv, .list 1 (intsA h1.l) h1.nl h1.cd, .flat (.bool a)], .agg [yv, .list 1 (intsA h2.l) h2.nl h2.cd, .flat (.bool a)]] M = some (.q (.flat (.bool true))) := by
  have h49 := fun M => t49 h1.l h2.l h1.nl h1.cd h2.nl h2.cd M h1.le
  simp only [decide_eq_true hh] at h49
  have h85 := t85 (M := M ++ [some [xv, .list 1 (intsA h1.l) h1.nl h1.cd, .flat (.bool a)], some [yv, .list 1 (intsA h2.l) h2.nl h2.cd, .flat (.bool a)]]) (hx.ext _) (hy.ext _) h hl
  have a2 := hx.cell
  have b2 := hy.cell
  clear hh h hx hy
  cases a
  all_goals
    refine ev_fn' A62 ?_
    repeat' (first | ((with_reducible first | apply S_0 | apply S_q1 | apply S_g | apply S_c); exact sgc) | refine Stp.h ?_ | (with_reducible apply B_ne; focus decide) | ((with_reducible first | apply SC_d | apply SG_d | apply SG_n | apply SC_b | apply SG_b) <;> intro hc <;> try simp only [dq1, dq2, dq3, dq4, dq5] at hc))
    (first | exact fincR | exact fincN)
theorem t64 (x y : Pth) (M : MS) (h : x.l = y.l) : ev pr 64 [.list 1 (intsA x.l) x.nl x.cd, .list 1 (intsA y.l) y.nl y.cd] M = some (.q (.flat (.bool true))) := by
  have h49 := fun M => t49 x.l y.l x.nl x.cd y.nl y.cd M x.le
  simp only [decide_eq_true h] at h49
  clear h
  refine ev_fn' A64 ?_
  repeat' (first | ((with_reducible first | apply S_0 | apply S_q1 | apply S_g | apply S_c); exact sgc) | refine Stp.h ?_ | (with_reducible apply B_ne; focus decide) | ((with_reducible first | apply SC_d | apply SG_d | apply SG_n | apply SC_b | apply SG_b) <;> intro hc <;> try simp only [dq1, dq2, dq3, dq4, dq5] at hc))
  (first | exact fincR | exact fincN)
theorem t63 {xv yv : AV} {x y : List Pth} {M : MS} (hx : Vw M xv (x.map Pth.av) x.length) (hy : Vw M yv (y.map Pth.av) y.length) (h : pl x = pl y) (hl : x.length ≤ 1000) : ev pr 63 [xv, yv, .clo 64 []] M = some (.q (.flat (.bool true))) := by
  have a0 := hx.v0
  have a1 := hx.len
  have b0 := hy.v0
  have b1 := hy.len
  have hlen : x.length = y.length := by have := congrArg List.length h; simpa [pl] using this
  rw [← hlen] at b1
  have hHl : Hid _ := hlen
  have hH : Hid (pl x = pl y) := h
  clear hx hy h hlen
  refine ev_fn' A63 ?_
  repeat' (first | ((with_reducible first | apply S_0 | apply S_q1 | apply S_g | apply S_c); exact sgc) | refine Stp.h ?_ | (with_reducible apply B_ne; focus decide) | ((with_reducible first | apply SC_d | apply SG_d | apply SG_n | apply SC_b | apply SG_b) <;> intro hc <;> try simp only [dq1, dq2, dq3, dq4, dq5] at hc))
  refine W_rng 17 0 x.length (fun i e => True) (by simp only [asg, asgO, List.append_nil, List.nil_append, List.cons_append]; rfl) (by exact svc) (by omega) trivial ?_
  rintro i e _ hi hk e17 _
  have k1 : e 1 = yv := by rw [hk 1 rfl]; exact svc
  have k2 : e 2 = .clo 64 [] := by rw [hk 2 rfl]; exact svc
  have k15 : e 15 = xv := by rw [hk 15 rfl]; exact svc
  have k16 : e 16 = .flat (.int .i64 x.length) := by rw [hk 16 rfl]; exact svc
  clear hk
  rcases Nat.lt_or_ge i x.length with hlt | hlt
  · have hlt' : (i : Int) < x.length := by omega
    have hlt2 : i < y.length := by rw [← show x.length = y.length from hHl]; exact hlt
    have he : x[i].l = y[i].l := by
      have := congrArg (·[i]?) (show pl x = pl y from hH)
      simpa [pl, hlt, hlt2] using this
    have h64 := fun M => t64 x[i] y[i] M he
    clear he
    repeat' (first | ((with_reducible first | apply S_0 | apply S_q1 | apply S_g | apply S_c); exact sgc) | refine Stp.h ?_ | (with_reducible apply B_ne; focus decide) | ((with_reducible first | apply SC_d | apply SG_d | apply SG_n | apply SC_b | apply SG_b) <;> intro hc <;> try simp only [dq1, dq2, dq3, dq4, dq5] at hc))
    exact H_n (by exact svc) hlt trivial
  · have hlt' : ¬ (i : Int) < x.length := by omega
    repeat' (first | ((with_reducible first | apply S_0 | apply S_q1 | apply S_g | apply S_c); exact sgc) | refine Stp.h ?_ | (with_reducible apply B_ne; focus decide) | ((with_reducible first | apply SC_d | apply SG_d | apply SG_n | apply SC_b | apply SG_b) <;> intro hc <;> try simp only [dq1, dq2, dq3, dq4, dq5] at hc))
    (first | exact fincR | exact fincN)
/-- A machine's lines, seen. -/
theorem Mach.lvw {M : MS} {m : Mc} (h : Mach M m) (G : MS) : view (M ++ G) m.lv = some (linsA m.Z) ∧ cellsOf m.lv = some [m.lv] := by
  rcases h.lin with ⟨h1, sz, nl, cd, h2⟩ | ⟨h1, cd, h2, h3⟩
  · rw [h1, h2]; exact ⟨rfl, rfl⟩
  · rw [h2]
    refine ⟨?_, rfl⟩
    simp only [view, get_grow h3 G, Nat.zero_add, List.drop_zero]
    rw [if_pos (by rw [lins_len]; exact Nat.le_refl _), List.take_of_length_le (by rw [lins_len]; exact Nat.le_refl _)]
theorem t61 {m o : Mc} {M : MS} (hm : Mach M m) (ho : Mach M o) (h : m.Z.map Lin.pln = o.Z.map Lin.pln) : ev pr 61 [m.lv, o.lv, .clo 62 []] M = some (.q (.flat (.bool true))) := by
  have a0 := fun G => (hm.lvw G).1
  have a0' := (hm.lvw []).1
  have a1 := hm.lvl
  have b0 := fun G => (ho.lvw G).1
  have b0' := (ho.lvw []).1
  have b1 := ho.lvl
  rw [List.append_nil] at a0' b0'
  have hlen : m.Z.length = o.Z.length := by have := congrArg List.length h; simpa using this
  have hle : m.Z.length ≤ 1000 := by rw [hm.len]; exact hm.lle
  rw [← hlen] at b1
  have hHl : Hid _ := hlen
  have hH : Hid (m.Z.map Lin.pln = o.Z.map Lin.pln) := h
  have hHm : Hid (Mach M m) := hm
  have hHo : Hid (Mach M o) := ho
  clear hm ho h hlen
  refine ev_fn' A61 ?_
  repeat' (first | ((with_reducible first | apply S_0 | apply S_q1 | apply S_g | apply S_c); exact sgc) | refine Stp.h ?_ | (with_reducible apply B_ne; focus decide) | ((with_reducible first | apply SC_d | apply SG_d | apply SG_n | apply SC_b | apply SG_b) <;> intro hc <;> try simp only [dq1, dq2, dq3, dq4, dq5] at hc))
  refine W_rngM 17 0 m.Z.length (fun i e mm => ∃ G, mm = M ++ G) (by simp only [asg, asgO, List.append_nil, List.nil_append, List.cons_append]; rfl) (by exact svc) (by omega) ⟨[], by simp⟩ ?_
  rintro i e _ _ hi hk e17 ⟨G, rfl⟩
  have k1 : e 1 = o.lv := by rw [hk 1 rfl]; exact svc
  have k2 : e 2 = .clo 62 [] := by rw [hk 2 rfl]; exact svc
  have k15 : e 15 = m.lv := by rw [hk 15 rfl]; exact svc
  have k16 : e 16 = .flat (.int .i64 m.Z.length) := by rw [hk 16 rfl]; exact svc
  clear hk
  rcases Nat.lt_or_ge i m.Z.length with hlt | hlt
  · have hlt' : (i : Int) < m.Z.length := by omega
    have hlt2 : i < o.Z.length := by rw [← show m.Z.length = o.Z.length from hHl]; exact hlt
    have he : m.Z[i].pln = o.Z[i].pln := by
      have := congrArg (·[i]?) (show m.Z.map Lin.pln = o.Z.map Lin.pln from hH)
      simpa [hlt, hlt2] using this
    have hv1 := fun G => ((show Mach M m from hHm).row _ (List.getElem_mem hlt)).vw.ext G
    have hv2 := fun G => ((show Mach M o from hHo).row _ (List.getElem_mem hlt2)).vw.ext G
    have hr64 := (show Mach M m from hHm).rle _ (List.getElem_mem hlt)
    have h62 := fun G => t62 (a := m.Z[i].any) (hv1 G) (hv2 G) (congrArg PL.row he) (by omega) (congrArg PL.heard he)
    have han : m.Z[i].any = o.Z[i].any := congrArg PL.any he
    have hg1 := lins_at m.Z i hlt
    have hg2 := lins_at o.Z i hlt2
    have c1 : cellsOf m.Z[i].x = some [m.Z[i].x] := (hv1 []).cell
    have c2 : cellsOf o.Z[i].x = some [o.Z[i].x] := (hv2 []).cell
    rw [han] at hg1 h62
    clear he han hv1 hv2
    repeat' (first | ((with_reducible first | apply S_0 | apply S_q1 | apply S_g | apply S_c); exact sgc) | refine Stp.h ?_ | (with_reducible apply B_ne; focus decide) | ((with_reducible first | apply SC_d | apply SG_d | apply SG_n | apply SC_b | apply SG_b) <;> intro hc <;> try simp only [dq1, dq2, dq3, dq4, dq5] at hc))
    exact G_n (by exact svc) hlt ⟨_, by first | rfl | (simp only [List.append_assoc]; rfl)⟩
  · have hlt' : ¬ (i : Int) < m.Z.length := by omega
    repeat' (first | ((with_reducible first | apply S_0 | apply S_q1 | apply S_g | apply S_c); exact sgc) | refine Stp.h ?_ | (with_reducible apply B_ne; focus decide) | ((with_reducible first | apply SC_d | apply SG_d | apply SG_n | apply SC_b | apply SG_b) <;> intro hc <;> try simp only [dq1, dq2, dq3, dq4, dq5] at hc))
    (first | exact fincR | exact fincN)
theorem Vw.ms1 {m : MS} {id : Nat} {C : List Pth} {cd : Bool} (h : m[id]? = some (some (C.map Pth.av))) : Vw m (.ms id 0 C.length 1 cd) (C.map Pth.av) C.length := by
  refine ⟨rfl, fun G => ?_, rfl⟩
  simp only [view, get_grow h G, Nat.zero_add, List.drop_zero, Nat.mul_one]
  rw [if_pos (by simp), List.take_of_length_le (by simp)]
theorem t29 {m o : Mc} {M : MS} (hm : Mach M m) (ho : Mach M o) (hl : m.l = o.l) (hp : m.pm = o.pm) : ev pr 29 [.mptr m.id 0, .mptr o.id 0] M = some (.q (.flat (.bool true))) := by
  have hn : m.n = o.n := by have h1 := hm.may.2.2.1; have h2 := ho.may.2.2.1; rw [hl] at h1; omega
  have h60 := t60 m.n m.l m.nl m.cd o.nl o.cd M (by have := hm.small.1; omega)
  have h61 := t61 hm ho (congrArg PM.Z hp)
  have h63 := t63 (Vw.ms1 (cd := m.ccd) hm.cho) (Vw.ms1 (cd := o.ccd) ho.cho) (congrArg PM.C hp) (by rw [hm.clen]; have := hm.small.1; omega)
  have hb := hm.b
  have hc := ho.b
  have hi := get_lt hm.blk
  have hj := get_lt ho.blk
  rw [← hl, ← hn] at hc
  have cm := (hm.lvw []).2
  have co := (ho.lvw []).2
  clear hl hp hn hm ho
  refine ev_fn' A29 ?_
  repeat' (first | ((with_reducible first | apply S_0 | apply S_q1 | apply S_g | apply S_c); exact sgc) | refine Stp.h ?_ | (with_reducible apply B_ne; focus decide) | ((with_reducible first | apply SC_d | apply SG_d | apply SG_n | apply SC_b | apply SG_b) <;> intro hc <;> try simp only [dq1, dq2, dq3, dq4, dq5] at hc))
  (first | exact fincR | exact fincN)
end Go.Proofs.Ytlcdafidoddefaa.Av
namespace Go.Proofs.Ytlcdafidoddefaa.Av
open Go.RowKit
set_option linter.unusedSimpArgs false
set_option linter.unusedVariables false
set_option maxHeartbeats 10000000
theorem app_e3 {base : Nat} {M : MS} {D : List Nat} {L : List Lin} (hm : 0 < L.length) (h1 : L.length ≤ 1099511627776) (h2 : L.length * 56 ≤ 140737488355328) :
    appA base M D 3 56 (.list 3 [] false true) L.length (linsA L) = some (.x (.ms M.length 0 L.length 3 false) (M ++ [some (linsA L)]) D) := by
  simp only [appA]
  rw [if_neg (by omega), if_pos ⟨.inr trivial, trivial, (lins_len L).symm, by simpa [LIM] using h1, by simpa using h2⟩]
  simp
attribute [go_sem] app_e3 Nat.zero_div Nat.zero_add List.length_nil
theorem t68 {z : Lin} {M : MS} (h : RowOk M z) (hl : z.row.length ≤ 1000) : (z.row = [] ∧ ∃ nl, ev pr 68 [z.x] M = some (.x (.list 1 [] nl true) M [])) ∨ (z.row ≠ [] ∧ ev pr 68 [z.x] M = some (.x (.ms M.length 0 z.row.length 1 false) (M ++ [some (z.row.map Pth.av)]) [])) := by
  by_cases hr : z.row = []
  · left
    refine ⟨hr, ?_⟩
    rcases h with ⟨nl, h1, h2⟩ | ⟨h1, _⟩
    · rw [h1, hr]
      cases nl with
      | true =>
        refine ⟨true, ev_fn' A68 ?_⟩
        clear h1 h2 hr
        repeat' (first | ((with_reducible first | apply S_0 | apply S_q1 | apply S_g | apply S_c); exact sgc) | refine Stp.h ?_ | (with_reducible apply B_ne; focus decide) | ((with_reducible first | apply SC_d | apply SG_d | apply SG_n | apply SC_b | apply SG_b) <;> intro hc <;> try simp only [dq1, dq2, dq3, dq4, dq5] at hc))
        (first | exact fincR | exact fincN)
      | false =>
        refine ⟨false, ev_fn' A68 ?_⟩
        clear h1 h2 hr
        repeat' (first | ((with_reducible first | apply S_0 | apply S_q1 | apply S_g | apply S_c); exact sgc) | refine Stp.h ?_ | (with_reducible apply B_ne; focus decide) | ((with_reducible first | apply SC_d | apply SG_d | apply SG_n | apply SC_b | apply SG_b) <;> intro hc <;> try simp only [dq1, dq2, dq3, dq4, dq5] at hc))
        (first | exact fincR | exact fincN)
    · exact absurd hr h1
  · right
    refine ⟨hr, ?_⟩
    have h0 : 0 < z.row.length := by
      rcases Nat.eq_zero_or_pos z.row.length with h | h
      · exact absurd (List.eq_nil_of_length_eq_zero h) hr
      · exact h
    have hv := h.vw
    have a0 := hv.v0
    have a1 := hv.len
    rcases h with ⟨nl, h1, h2⟩ | ⟨_, a, off, cd, cs, h1, h3, h4, h5, h6⟩
    · have hnl : nl = false := by
        cases nl with
        | false => rfl
        | true => exact absurd (h2 rfl) hr
      subst hnl
      rw [h1]
      clear a0 a1 hv h1 h2 hr
      refine ev_fn' A68 ?_
      repeat' (first | ((with_reducible first | apply S_0 | apply S_q1 | apply S_g | apply S_c); exact sgc) | refine Stp.h ?_ | (with_reducible apply B_ne; focus decide) | ((with_reducible first | apply SC_d | apply SG_d | apply SG_n | apply SC_b | apply SG_b) <;> intro hc <;> try simp only [dq1, dq2, dq3, dq4, dq5] at hc))
      (first | exact fincR | exact fincN)
    · rw [h1] at a0 a1 ⊢
      clear hv h1 h3 h4 h5 h6 hr
      refine ev_fn' A68 ?_
      repeat' (first | ((with_reducible first | apply S_0 | apply S_q1 | apply S_g | apply S_c); exact sgc) | refine Stp.h ?_ | (with_reducible apply B_ne; focus decide) | ((with_reducible first | apply SC_d | apply SG_d | apply SG_n | apply SC_b | apply SG_b) <;> intro hc <;> try simp only [dq1, dq2, dq3, dq4, dq5] at hc))
      (first | exact fincR | exact fincN)
theorem t67 {id : Nat} {C : List Pth} {cd : Bool} {M : MS} (h : M[id]? = some (some (C.map Pth.av))) (h0 : 0 < C.length) (hl : C.length ≤ 1000) : ev pr 67 [.ms id 0 C.length 1 cd] M = some (.x (.ms M.length 0 C.length 1 false) (M ++ [some (C.map Pth.av)]) []) := by
  have hv := Vw.ms1 (cd := cd) h
  have a0 := hv.v0
  have a1 := hv.len
  have hi := get_lt h
  clear hv
  refine ev_fn' A67 ?_
  repeat' (first | ((with_reducible first | apply S_0 | apply S_q1 | apply S_g | apply S_c); exact sgc) | refine Stp.h ?_ | (with_reducible apply B_ne; focus decide) | ((with_reducible first | apply SC_d | apply SG_d | apply SG_n | apply SC_b | apply SG_b) <;> intro hc <;> try simp only [dq1, dq2, dq3, dq4, dq5] at hc))
  (first | exact fincR | exact fincN)
theorem t66 {m : Mc} {M : MS} (h : Mach M m) : (m.Z = [] ∧ ∃ sz nl, ev pr 66 [m.lv] M = some (.x (.list sz [] nl true) M [])) ∨ (m.Z ≠ [] ∧ ev pr 66 [m.lv] M = some (.x (.ms M.length 0 m.Z.length 3 false) (M ++ [some (linsA m.Z)]) [])) := by
  have hle : m.Z.length ≤ 1000 := by rw [h.len]; exact h.lle
  have a0 := (h.lvw []).1
  rw [List.append_nil] at a0
  rcases h.lin with ⟨h1, sz, nl, cd, h2⟩ | ⟨h1, cd, h2, h3⟩
  · left
    refine ⟨h1, ?_⟩
    rw [h2]
    clear h h1 h2 a0
    cases nl with
    | true =>
      refine ⟨3, true, ev_fn' A66 ?_⟩
      repeat' (first | ((with_reducible first | apply S_0 | apply S_q1 | apply S_g | apply S_c); exact sgc) | refine Stp.h ?_ | (with_reducible apply B_ne; focus decide) | ((with_reducible first | apply SC_d | apply SG_d | apply SG_n | apply SC_b | apply SG_b) <;> intro hc <;> try simp only [dq1, dq2, dq3, dq4, dq5] at hc))
      (first | exact fincR | exact fincN)
    | false =>
      refine ⟨3, false, ev_fn' A66 ?_⟩
      repeat' (first | ((with_reducible first | apply S_0 | apply S_q1 | apply S_g | apply S_c); exact sgc) | refine Stp.h ?_ | (with_reducible apply B_ne; focus decide) | ((with_reducible first | apply SC_d | apply SG_d | apply SG_n | apply SC_b | apply SG_b) <;> intro hc <;> try simp only [dq1, dq2, dq3, dq4, dq5] at hc))
      (first | exact fincR | exact fincN)
  · right
    refine ⟨h1, ?_⟩
    have h0 : 0 < m.Z.length := by
      rcases Nat.eq_zero_or_pos m.Z.length with h | h
      · exact absurd (List.eq_nil_of_length_eq_zero h) h1
      · exact h
    rw [h2] at a0 ⊢
    have hi := get_lt h3
    clear h h1 h2 h3
    refine ev_fn' A66 ?_
    repeat' (first | ((with_reducible first | apply S_0 | apply S_q1 | apply S_g | apply S_c); exact sgc) | refine Stp.h ?_ | (with_reducible apply B_ne; focus decide) | ((with_reducible first | apply SC_d | apply SG_d | apply SG_n | apply SC_b | apply SG_b) <;> intro hc <;> try simp only [dq1, dq2, dq3, dq4, dq5] at hc))
    (first | exact fincR | exact fincN)
end Go.Proofs.Ytlcdafidoddefaa.Av
namespace Go.Proofs.Ytlcdafidoddefaa.Av
open Go.RowKit
set_option linter.unusedSimpArgs false
set_option linter.unusedVariables false
set_option maxHeartbeats 10000000
/-- A machine that begins as another one, in cells of its own. -/
def Mc.cpy (m : Mc) (c l k : Nat) (lv : AV) : Mc := ⟨c, m.mid, l, k, m.n, m.l, m.nl, m.cd, m.L, m.ne, m.ce, m.Z, lv, m.C, false⟩
theorem Mach.cpy {M N : MS} {m : Mc} (h : Mach M m) {c l k : Nat} {lv : AV} (hf : ∀ j, j < M.length → N[j]? = M[j]?) (hc : M.length ≤ c) (hl : M.length ≤ l) (hk : M.length ≤ k) (hcl : c ≠ l) (hck : c ≠ k) (hlk : l ≠ k)
    (b : N[c]? = some (some (m.cpy c l k lv).cells)) (bk : N[k]? = some (some (m.C.map Pth.av))) (bl : (m.Z = [] ∧ ∃ sz nl cd, lv = .list sz [] nl cd) ∨ (m.Z ≠ [] ∧ ∃ cd, lv = .ms l 0 m.Z.length 3 cd ∧ N[l]? = some (some (linsA m.Z)))) : Mach N (m.cpy c l k lv) := by
  have hm := get_lt h.map
  have hrid : ∀ z ∈ m.Z, ∀ a, rid z.x = some a → a < M.length := fun z hz a ha => (h.row z hz).rid_lt ha
  refine ⟨b, ?_, bk, bl, fun z hz => (h.row z hz).ext fun a ha => hf a (hrid z hz a ha), ?_, hcl, hck, ?_, ?_, hlk, fun z hz a ha => ?_, h.sep, h.len, h.clen, h.nd, h.lim, h.lle, h.nel, h.may, h.small, h.Leq, h.rle, h.csm, h.rsm⟩
  · show N[m.mid]? = _; rw [hf _ hm]; exact h.map
  · show c ≠ m.mid; omega
  · show m.mid ≠ l; omega
  · show m.mid ≠ k; omega
  · have := hrid z hz a ha
    have := (h.rds z hz a ha).2.1
    exact ⟨by show a ≠ c; omega, this, by show a ≠ l; omega, by show a ≠ k; omega⟩
/-- What a copy is. -/
structure Cpd (M N : MS) (m m' : Mc) : Prop where
  mach : Mach N m'
  len : M.length ≤ N.length
  fr : ∀ j, j < M.length → N[j]? = M[j]?
  own : ∀ j, m'.own j → M.length ≤ j
  mid : m'.mid = m.mid
  l : m'.l = m.l
  pm : m'.pm = m.pm
theorem t36 (m : Mc) (M : MS) (h : Mach M m) : ∃ out, ev pr 36 [.mptr m.id 0] M = some out ∧ ∃ N m', out = .x (.mptr m'.id 0) N [] ∧ Cpd M N m m' := by
  have hb := h.b
  have hid := get_lt h.blk
  have h66 := t66 h
  have hC0 : 0 < m.C.length := by rw [h.clen]; have := h.may.1; have := h.may.2.2.1; omega
  have hC1 : m.C.length ≤ 1000 := by rw [h.clen]; have := h.small.1; omega
  have hll := (h.lvw []).2
  have hlvl := h.lvl
  have hH : Hid (Mach M m) := h
  rcases h66 with ⟨hz, sz, nl, h66⟩ | ⟨hz, h66⟩
  · have h67 := t67 (M := M) (cd := m.ccd) h.cho hC0 hC1
    have hz0 : m.Z.length = 0 := by rw [hz]; rfl
    rw [hz0] at hlvl
    have hHz : Hid (m.Z = []) := hz
    clear h hz hz0
    refine ev_fnE A36 ?_
    repeat' (first | ((with_reducible first | apply S_0 | apply S_q1 | apply S_g | apply S_c); exact sgc) | refine Stp.h ?_ | (with_reducible apply B_ne; focus decide) | ((with_reducible first | apply SC_d | apply SG_d | apply SG_n | apply SC_b | apply SG_b) <;> intro hc <;> try simp only [dq1, dq2, dq3, dq4, dq5] at hc))
    refine W_regionF0 (M.length + 1) ?_ ?_
    · (try simp only [List.take_succ_cons, List.take_zero, List.drop_succ_cons, List.drop_zero]; repeat (first | (with_reducible apply WH_nil) | ((with_reducible apply WH_q); (focus rfl); (focus rfl); focus (exact whc)) | ((with_reducible apply WH_cq); (focus rfl); focus (exact whc)) | ((with_reducible apply WH_cx); (focus rfl); focus (exact whc)) | ((with_reducible apply WH_f); (focus rfl); focus (exact whc)) | ((with_reducible apply WH_k); (focus rfl); focus (exact whc))))
      exact ⟨rfl, by simp⟩
    · (try simp only [List.take_succ_cons, List.take_zero, List.drop_succ_cons, List.drop_zero]; repeat (first | (with_reducible apply WH_nil) | ((with_reducible apply WH_q); (focus rfl); (focus rfl); focus (exact whc)) | ((with_reducible apply WH_cq); (focus rfl); focus (exact whc)) | ((with_reducible apply WH_cx); (focus rfl); focus (exact whc)) | ((with_reducible apply WH_f); (focus rfl); focus (exact whc)) | ((with_reducible apply WH_k); (focus rfl); focus (exact whc))))
      refine ⟨rfl, by simp, ?_⟩
      rw [List.append_nil]
      clear h66 h67
      repeat' (first | ((with_reducible first | apply S_0 | apply S_q1 | apply S_g | apply S_c); exact sgc) | refine Stp.h ?_ | (with_reducible apply B_ne; focus decide) | ((with_reducible first | apply SC_d | apply SG_d | apply SG_n | apply SC_b | apply SG_b) <;> intro hc <;> try simp only [dq1, dq2, dq3, dq4, dq5] at hc))
      refine W_rng 36 0 0 (fun i e => True) (by simp only [asg, asgO, List.append_nil, List.nil_append, List.cons_append]; rfl) (by exact svc) (by omega) trivial ?_
      rintro i e _ hi hk e36 _
      obtain rfl : i = 0 := by omega
      have k35 : e 35 = .flat (.int .i64 0) := by rw [hk 35 rfl]; exact svc
      have k3 : e 3 = .mptr (M.length + 1) 0 := by rw [hk 3 rfl]; exact svc
      clear hk hb hll hlvl
      repeat' (first | ((with_reducible first | apply S_0 | apply S_q1 | apply S_g | apply S_c); exact sgc) | refine Stp.h ?_ | (with_reducible apply B_ne; focus decide) | ((with_reducible first | apply SC_d | apply SG_d | apply SG_n | apply SC_b | apply SG_b) <;> intro hc <;> try simp only [dq1, dq2, dq3, dq4, dq5] at hc))
      (refine ⟨by first | exact .inr rfl | exact .inl rfl, ?_⟩; simp (disch := first | assumption | decide | omega | exact Pth.le _ | exact Rks.le _ | exact List.getElem_mem _ | exact allI_ints _ | exact allI_rks _ | exact allI_pths _ | exact Pth.nil _ | exact Rks.nil _ | (intro hh; simp only [Pth.nil _ hh, List.take_nil, List.drop_nil]; done) | (intro hh; simp only [Rks.nil _ hh, List.take_nil, List.drop_nil]; done) | (simp only [List.length_take, List.length_drop, List.length_append, List.length_cons, List.length_nil, List.length_replicate, List.length_map, ints_len]; omega)) only [resA, rvA, tupA, Option.bind_some, go_sem, if_pos, if_neg, Nat.reduceBEq, Nat.reduceEqDiff, ↓reduceIte, Nat.reduceSub, Nat.reduceAdd, Int.reduceToNat, reduceCtorEq, Nat.reduceLeDiff, Nat.reduceLT, Nat.reduceMul, Nat.reduceDiv, Int.reduceLT, Int.reduceLE, Int.reduceEq, Int.reduceNe, Int.reduceAdd, Int.reduceSub, Int.reduceNeg, Int.reduceGT, Int.reduceGE, Int.reduceBEq, Int.reduceBNe, Int.reduceMul, *])
      have h : Mach M m := hH
      have hz : m.Z = [] := hHz
      refine ⟨_, rfl, _, m.cpy (M.length + 1) (M.length + 2) M.length (.list sz [] nl true), rfl, ?_, by simp, fun j hj => by rw [List.getElem?_append_left hj], ?_, rfl, rfl, rfl⟩
      · refine h.cpy (fun j hj => by rw [List.getElem?_append_left hj]) (by omega) (by omega) (by omega) (by omega) (by omega) (by omega) (by simp [Mc.cells, Mc.cpy]) (by simp) (.inl ⟨hz, sz, nl, true, rfl⟩)
      · intro j hj
        rcases hj with h1 | ⟨h1, _⟩ | h1 | ⟨z, h1, _⟩
        · simp only [Mc.cpy] at h1; omega
        · exact absurd hz h1
        · simp only [Mc.cpy] at h1; omega
        · have h1' : z ∈ m.Z := h1
          rw [hz] at h1'; simp at h1'
  · have h67 := t67 (M := M ++ [some (linsA m.Z)]) (cd := m.ccd) (get_grow h.cho _) hC0 hC1
    have hb2 := get_grow h.b [some (linsA m.Z)]
    have hHz : Hid (m.Z ≠ []) := hz
    have hZ1000 : m.Z.length ≤ 1000 := by rw [h.len]; exact h.lle
    clear h hz
    refine ev_fnE A36 ?_
    repeat' (first | ((with_reducible first | apply S_0 | apply S_q1 | apply S_g | apply S_c); exact sgc) | refine Stp.h ?_ | (with_reducible apply B_ne; focus decide) | ((with_reducible first | apply SC_d | apply SG_d | apply SG_n | apply SC_b | apply SG_b) <;> intro hc <;> try simp only [dq1, dq2, dq3, dq4, dq5] at hc))
    refine W_regionF0 (M.length + 2) ?_ ?_
    · (try simp only [List.take_succ_cons, List.take_zero, List.drop_succ_cons, List.drop_zero]; repeat (first | (with_reducible apply WH_nil) | ((with_reducible apply WH_q); (focus rfl); (focus rfl); focus (exact whc)) | ((with_reducible apply WH_cq); (focus rfl); focus (exact whc)) | ((with_reducible apply WH_cx); (focus rfl); focus (exact whc)) | ((with_reducible apply WH_f); (focus rfl); focus (exact whc)) | ((with_reducible apply WH_k); (focus rfl); focus (exact whc))))
      exact ⟨rfl, by simp⟩
    · (try simp only [List.take_succ_cons, List.take_zero, List.drop_succ_cons, List.drop_zero]; repeat (first | (with_reducible apply WH_nil) | ((with_reducible apply WH_q); (focus rfl); (focus rfl); focus (exact whc)) | ((with_reducible apply WH_cq); (focus rfl); focus (exact whc)) | ((with_reducible apply WH_cx); (focus rfl); focus (exact whc)) | ((with_reducible apply WH_f); (focus rfl); focus (exact whc)) | ((with_reducible apply WH_k); (focus rfl); focus (exact whc))))
      refine ⟨rfl, by simp, ?_⟩
      rw [List.append_nil]
      clear h66 h67 hb2
      repeat' (first | ((with_reducible first | apply S_0 | apply S_q1 | apply S_g | apply S_c); exact sgc) | refine Stp.h ?_ | (with_reducible apply B_ne; focus decide) | ((with_reducible first | apply SC_d | apply SG_d | apply SG_n | apply SC_b | apply SG_b) <;> intro hc <;> try simp only [dq1, dq2, dq3, dq4, dq5] at hc))
      obtain ⟨mi, hmi⟩ : ∃ mi, mi = m.cpy (M.length + 2) M.length (M.length + 1) (.ms M.length 0 m.Z.length 3 false) := ⟨_, rfl⟩
      have hni : Mach (M ++ [some (linsA m.Z), some (m.C.map Pth.av), some [.flat (.int .i64 m.n), .list 1 (m.l.map Rks.av) m.nl m.cd, .list 2 (cells2 m.L) m.ne m.ce, .mp m.mid, .ms M.length 0 m.Z.length 3 false, .ms (M.length + 1) 0 m.C.length 1 false]]) mi := by
        rw [hmi]
        exact (show Mach M m from hH).cpy (fun j hj => by rw [List.getElem?_append_left hj]) (by omega) (by omega) (by omega) (by omega) (by omega) (by omega) (by simp [Mc.cells, Mc.cpy]) (by simp) (.inr ⟨hHz, false, rfl, by simp⟩)
      have hmid : mi.mid = m.mid := by rw [hmi]; rfl
      have hmZ : mi.Z = m.Z := by rw [hmi]; rfl
      have hmI : mi.id = M.length + 2 := by rw [hmi]; rfl
      have hmL : mi.lid = M.length := by rw [hmi]; rfl
      have hmC : mi.cid = M.length + 1 := by rw [hmi]; rfl
      have hmv : mi.lv = .ms M.length 0 m.Z.length 3 false := by rw [hmi]; rfl
      have hml : mi.l = m.l := by rw [hmi]; rfl
      have hmc : mi.C = m.C := by rw [hmi]; rfl
      clear hmi
      refine W_rngM 36 0 m.Z.length (fun i e mm => ∃ mk : Mc, Mach mm mk ∧ mk = {mi with Z := mk.Z} ∧ mk.Z.map Lin.pln = m.Z.map Lin.pln ∧ (∀ j, j < M.length → mm[j]? = M[j]?) ∧ M.length + 3 ≤ mm.length ∧ (∀ (j : Nat) (hj : j < mk.Z.length), j < i → ∀ a, rid mk.Z[j].x = some a → M.length ≤ a)) (by simp only [asg, asgO, List.append_nil, List.nil_append, List.cons_append]; rfl) (by exact svc) (by omega)
        ⟨mi, hni, rfl, by rw [hmZ], fun j hj => by rw [List.getElem?_append_left hj], by simp, fun j _ hj => by omega⟩ ?_
      clear hni
      rintro i e mm _ hi hk e36 ⟨mk, hmk, hme, hmp, hfr, hln, hown⟩
      have k3 : e 3 = .mptr (M.length + 2) 0 := by rw [hk 3 rfl]; exact svc
      have k35 : e 35 = .flat (.int .i64 m.Z.length) := by rw [hk 35 rfl]; exact svc
      clear hk hb
      have hme2 : ∀ Z', ({mk with Z := Z'} : Mc) = {mi with Z := Z'} := fun Z' => by rw [hme]
      have s1 : mk.id = M.length + 2 := by rw [hme]; exact hmI
      have s2 : mk.lid = M.length := by rw [hme]; exact hmL
      have s3 : mk.cid = M.length + 1 := by rw [hme]; exact hmC
      have s4 : mk.lv = .ms M.length 0 m.Z.length 3 false := by rw [hme]; exact hmv
      have s5 : mk.mid = m.mid := by rw [hme]; exact hmid
      have hZl : mk.Z.length = m.Z.length := by have := congrArg List.length hmp; simpa using this
      rcases Nat.lt_or_ge i m.Z.length with hlt | hlt
      · have hlt' : (i : Int) < m.Z.length := by omega
        have hkz : i < mk.Z.length := by omega
        have hbk := hmk.b
        obtain ⟨_, _, hlk⟩ := hmk.ln hkz
        rw [s1, s4] at hbk
        rw [s2] at hlk
        have hrow := hmk.row _ (List.getElem_mem hkz)
        have hr64 := hmk.rle _ (List.getElem_mem hkz)
        have hsm := hmk.rsm _ (List.getElem_mem hkz)
        have h68 := t68 hrow (by omega)
        have htz : List.take m.Z.length mk.Z = mk.Z := List.take_of_length_le (by omega)
        have hxc := hrow.vw.cell
        have hstep : ∀ (m1 : MS) (x' : AV), m1[M.length]? = some (some (splice (linsA mk.Z) (i * 3) [x'])) → (∀ j, j < mm.length → j ≠ M.length → m1[j]? = mm[j]?) → mm.length ≤ m1.length → RowOk m1 ⟨x', mk.Z[i].row, mk.Z[i].heard, mk.Z[i].any⟩ → (∀ a, rid x' = some a → mm.length ≤ a) →
            ∃ mk : Mc, Mach m1 mk ∧ mk = {mi with Z := mk.Z} ∧ mk.Z.map Lin.pln = m.Z.map Lin.pln ∧ (∀ j, j < M.length → m1[j]? = M[j]?) ∧ M.length + 3 ≤ m1.length ∧ (∀ (j : Nat) (hj : j < mk.Z.length), j < i + 1 → ∀ a, rid mk.Z[j].x = some a → M.length ≤ a) := by
          intro m1 x' g1 f1 l1 r1 n1
          rw [splice_lins1 hkz x' mk.Z[i].row] at g1
          have hM1 := hmk.setZ (M' := m1) hkz (z' := ⟨x', mk.Z[i].row, mk.Z[i].heard, mk.Z[i].any⟩) (by rw [s2]; exact g1) (fun j h1 h2 _ => f1 j h1 (by rw [← s2]; exact h2)) r1 hr64 hsm (fun a ha => .inr (n1 a ha))
          refine ⟨_, hM1, ?_, ?_, fun j hj => ?_, by omega, fun j hj hji a ha => ?_⟩
          · exact hme2 _
          · show (mk.Z.set i _).map Lin.pln = _
            rw [← hmp, set_pln]
            refine List.ext_getElem? fun j => ?_
            by_cases hj : i = j
            · subst hj
              rw [List.getElem?_set_self (by simpa using hkz)]
              simp [hkz, Lin.pln]
            · rw [List.getElem?_set_ne hj]
          · rw [f1 j (by omega) (by omega)]; exact hfr j hj
          · have hj' : j < mk.Z.length := by
              have : j < (mk.Z.set i ⟨x', mk.Z[i].row, mk.Z[i].heard, mk.Z[i].any⟩).length := hj
              simpa using this
            have ha' : rid ((mk.Z.set i ⟨x', mk.Z[i].row, mk.Z[i].heard, mk.Z[i].any⟩)[j]'hj).x = some a := ha
            rw [List.getElem_set] at ha'
            split at ha'
            · have := n1 a ha'; omega
            · rename_i hne
              exact hown j hj' (by omega) a ha'
        have hHs : Hid _ := hstep
        have hHrow : Hid (RowOk mm mk.Z[i]) := hrow
        clear hmk hme hme2 hmp hfr hown hrow hsm hstep s1 s2 s3 s4 s5
        rcases h68 with ⟨hr, nl, h68⟩ | ⟨hr, h68⟩
        · have hHr : Hid (mk.Z[i].row = []) := hr
          clear hr
          repeat' (first | ((with_reducible first | apply S_0 | apply S_q1 | apply S_g | apply S_c); exact sgc) | refine Stp.h ?_ | (with_reducible apply B_ne; focus decide) | ((with_reducible first | apply SC_d | apply SG_d | apply SG_n | apply SC_b | apply SG_b) <;> intro hc <;> try simp only [dq1, dq2, dq3, dq4, dq5] at hc))
          refine W_regionF0 mm.length ?_ ?_
          · (try simp only [List.take_succ_cons, List.take_zero, List.drop_succ_cons, List.drop_zero]; repeat (first | (with_reducible apply WH_nil) | ((with_reducible apply WH_q); (focus rfl); (focus rfl); focus (exact whc)) | ((with_reducible apply WH_cq); (focus rfl); focus (exact whc)) | ((with_reducible apply WH_cx); (focus rfl); focus (exact whc)) | ((with_reducible apply WH_f); (focus rfl); focus (exact whc)) | ((with_reducible apply WH_k); (focus rfl); focus (exact whc))))
            exact ⟨rfl, rfl⟩
          · (try simp only [List.take_succ_cons, List.take_zero, List.drop_succ_cons, List.drop_zero]; repeat (first | (with_reducible apply WH_nil) | ((with_reducible apply WH_q); (focus rfl); (focus rfl); focus (exact whc)) | ((with_reducible apply WH_cq); (focus rfl); focus (exact whc)) | ((with_reducible apply WH_cx); (focus rfl); focus (exact whc)) | ((with_reducible apply WH_f); (focus rfl); focus (exact whc)) | ((with_reducible apply WH_k); (focus rfl); focus (exact whc))))
            refine ⟨rfl, rfl, ?_⟩
            rw [List.append_nil]
            repeat' (first | ((with_reducible first | apply S_0 | apply S_q1 | apply S_g | apply S_c); exact sgc) | refine Stp.h ?_ | (with_reducible apply B_ne; focus decide) | ((with_reducible first | apply SC_d | apply SG_d | apply SG_n | apply SC_b | apply SG_b) <;> intro hc <;> try simp only [dq1, dq2, dq3, dq4, dq5] at hc))
            refine S_KE (id := M.length) (off := 0) (len := m.Z.length) (sz := 3) (k := i * 3) (cd := false) (cs := [.list 1 [] nl true]) (old := linsA mk.Z) (by exact svc) (by exact svc) rfl hlk (by omega) (by rw [lins_len]; omega) ?_
            intro m1 l1 g1 f1
            rw [Nat.zero_add] at g1
            have hdd : dirt M.length M.length [] = [] := by unfold dirt; rw [if_neg (by omega)]
            rw [hdd]
            have hfin := (show ∀ (m1 : MS) (x' : AV), _ from hHs) m1 _ g1 (fun j h1 h2 => f1 j h2) (by omega) (.inl ⟨nl, by rw [show mk.Z[i].row = [] from hHr]; rfl, fun _ => hHr⟩) (fun a ha => by cases ha)
            have hHfin : Hid _ := hfin
            clear hfin g1 f1 hHs
            repeat' (first | ((with_reducible first | apply S_0 | apply S_q1 | apply S_g | apply S_c); exact sgc) | refine Stp.h ?_ | (with_reducible apply B_ne; focus decide) | ((with_reducible first | apply SC_d | apply SG_d | apply SG_n | apply SC_b | apply SG_b) <;> intro hc <;> try simp only [dq1, dq2, dq3, dq4, dq5] at hc))
            exact G_n (by exact svc) hlt hHfin
        · have hHr : Hid (mk.Z[i].row ≠ []) := hr
          clear hr
          repeat' (first | ((with_reducible first | apply S_0 | apply S_q1 | apply S_g | apply S_c); exact sgc) | refine Stp.h ?_ | (with_reducible apply B_ne; focus decide) | ((with_reducible first | apply SC_d | apply SG_d | apply SG_n | apply SC_b | apply SG_b) <;> intro hc <;> try simp only [dq1, dq2, dq3, dq4, dq5] at hc))
          refine W_regionF0 (mm.length + 1) ?_ ?_
          · (try simp only [List.take_succ_cons, List.take_zero, List.drop_succ_cons, List.drop_zero]; repeat (first | (with_reducible apply WH_nil) | ((with_reducible apply WH_q); (focus rfl); (focus rfl); focus (exact whc)) | ((with_reducible apply WH_cq); (focus rfl); focus (exact whc)) | ((with_reducible apply WH_cx); (focus rfl); focus (exact whc)) | ((with_reducible apply WH_f); (focus rfl); focus (exact whc)) | ((with_reducible apply WH_k); (focus rfl); focus (exact whc))))
            exact ⟨rfl, by simp⟩
          · (try simp only [List.take_succ_cons, List.take_zero, List.drop_succ_cons, List.drop_zero]; repeat (first | (with_reducible apply WH_nil) | ((with_reducible apply WH_q); (focus rfl); (focus rfl); focus (exact whc)) | ((with_reducible apply WH_cq); (focus rfl); focus (exact whc)) | ((with_reducible apply WH_cx); (focus rfl); focus (exact whc)) | ((with_reducible apply WH_f); (focus rfl); focus (exact whc)) | ((with_reducible apply WH_k); (focus rfl); focus (exact whc))))
            refine ⟨rfl, by simp, ?_⟩
            rw [List.append_nil]
            have hlk2 := get_grow hlk [some (mk.Z[i].row.map Pth.av)]
            have hbk2 := get_grow hbk [some (mk.Z[i].row.map Pth.av)]
            repeat' (first | ((with_reducible first | apply S_0 | apply S_q1 | apply S_g | apply S_c); exact sgc) | refine Stp.h ?_ | (with_reducible apply B_ne; focus decide) | ((with_reducible first | apply SC_d | apply SG_d | apply SG_n | apply SC_b | apply SG_b) <;> intro hc <;> try simp only [dq1, dq2, dq3, dq4, dq5] at hc))
            refine S_KE (id := M.length) (off := 0) (len := m.Z.length) (sz := 3) (k := i * 3) (cd := false) (cs := [.ms mm.length 0 mk.Z[i].row.length 1 false]) (old := linsA mk.Z) (by exact svc) (by exact svc) rfl hlk2 (by omega) (by rw [lins_len]; omega) ?_
            intro m1 l1 g1 f1
            rw [Nat.zero_add] at g1
            have hdd : dirt M.length M.length [] = [] := by unfold dirt; rw [if_neg (by omega)]
            rw [hdd]
            have hnew : m1[mm.length]? = some (some (mk.Z[i].row.map Pth.av)) := by rw [f1 _ (by omega)]; simp
            have hfin := (show ∀ (m1 : MS) (x' : AV), _ from hHs) m1 _ g1 (fun j h1 h2 => by rw [f1 j h2, List.getElem?_append_left h1]) (by rw [l1]; simp) (.inr ⟨hHr, mm.length, 0, false, mk.Z[i].row.map Pth.av, rfl, hnew, by simp, by rw [List.drop_zero, List.take_of_length_le (by simp)], .inr rfl⟩) (fun a ha => by have : mm.length = a := Option.some.inj ha; omega)
            have hHfin : Hid _ := hfin
            clear hfin g1 f1 hHs hlk2 hbk2 hnew
            repeat' (first | ((with_reducible first | apply S_0 | apply S_q1 | apply S_g | apply S_c); exact sgc) | refine Stp.h ?_ | (with_reducible apply B_ne; focus decide) | ((with_reducible first | apply SC_d | apply SG_d | apply SG_n | apply SC_b | apply SG_b) <;> intro hc <;> try simp only [dq1, dq2, dq3, dq4, dq5] at hc))
            exact G_n (by exact svc) hlt hHfin
      · have hlt' : ¬ (i : Int) < m.Z.length := by omega
        have hend : ∃ out, (some (Out.x (.mptr (M.length + 2) 0) mm []) : Option Out) = some out ∧ ∃ N m', out = .x (.mptr m'.id 0) N [] ∧ Cpd M N m m' := by
          refine ⟨_, rfl, mm, mk, by rw [s1], hmk, by omega, hfr, ?_, s5, by rw [hme]; exact hml, ?_⟩
          · intro j hj
            rcases hj with h1 | ⟨h1, h2⟩ | h1 | ⟨z, h1, h2⟩
            · omega
            · omega
            · omega
            · obtain ⟨q, hq, rfl⟩ := List.getElem_of_mem h1
              exact hown q hq (by omega) j h2
          · show (⟨mk.Z.map Lin.pln, pl mk.C⟩ : PM) = ⟨m.Z.map Lin.pln, pl m.C⟩
            rw [hmp, show mk.C = m.C by rw [hme]; exact hmc]
        have hHend : Hid _ := hend
        clear hmk hme hme2 hmp hfr hown hend s1 s2 s3 s4 s5
        repeat' (first | ((with_reducible first | apply S_0 | apply S_q1 | apply S_g | apply S_c); exact sgc) | refine Stp.h ?_ | (with_reducible apply B_ne; focus decide) | ((with_reducible first | apply SC_d | apply SG_d | apply SG_n | apply SC_b | apply SG_b) <;> intro hc <;> try simp only [dq1, dq2, dq3, dq4, dq5] at hc))
        (refine ⟨by first | exact .inr rfl | exact .inl rfl, ?_⟩; simp (disch := first | assumption | decide | omega | exact Pth.le _ | exact Rks.le _ | exact List.getElem_mem _ | exact allI_ints _ | exact allI_rks _ | exact allI_pths _ | exact Pth.nil _ | exact Rks.nil _ | (intro hh; simp only [Pth.nil _ hh, List.take_nil, List.drop_nil]; done) | (intro hh; simp only [Rks.nil _ hh, List.take_nil, List.drop_nil]; done) | (simp only [List.length_take, List.length_drop, List.length_append, List.length_cons, List.length_nil, List.length_replicate, List.length_map, ints_len]; omega)) only [resA, rvA, tupA, Option.bind_some, go_sem, if_pos, if_neg, Nat.reduceBEq, Nat.reduceEqDiff, ↓reduceIte, Nat.reduceSub, Nat.reduceAdd, Int.reduceToNat, reduceCtorEq, Nat.reduceLeDiff, Nat.reduceLT, Nat.reduceMul, Nat.reduceDiv, Int.reduceLT, Int.reduceLE, Int.reduceEq, Int.reduceNe, Int.reduceAdd, Int.reduceSub, Int.reduceNeg, Int.reduceGT, Int.reduceGE, Int.reduceBEq, Int.reduceBNe, Int.reduceMul, *])
        exact hHend
end Go.Proofs.Ytlcdafidoddefaa.Av
namespace Go.Proofs.Ytlcdafidoddefaa.Av
open Go.RowKit
set_option linter.unusedSimpArgs false
set_option linter.unusedVariables false
/-- What some deliveries do. -/
structure Dn (M M' : MS) (m m' : Mc) : Prop where
  mach : Mach M' m'
  same : m' = {m with Z := m'.Z, C := m'.C}
  len : M.length ≤ M'.length
  fr : ∀ j, j < M.length → ¬ m.own j → M'[j]? = M[j]?
  own : ∀ j, m'.own j → m.own j ∨ M.length ≤ j
theorem Dn.refl {M : MS} {m : Mc} (h : Mach M m) : Dn M M m m := ⟨h, rfl, Nat.le_refl _, fun _ _ _ => rfl, fun _ h => .inl h⟩
theorem Dn.sid {M M' : MS} {m m' : Mc} (h : Dn M M' m m') : m'.id = m.id ∧ m'.mid = m.mid ∧ m'.l = m.l ∧ m'.L = m.L := by
  rw [h.same]; exact ⟨rfl, rfl, rfl, rfl⟩
theorem Dn.step {M M' M'' : MS} {m m' m'' : Mc} {D : List Nat} (h : Dn M M' m m') (hd : Dr M' M'' m' m'' D) : Dn M M'' m m'' := by
  have h1 := h.len
  have h2 := hd.len
  refine ⟨hd.mach, ?_, by omega, fun j hj ho => ?_, fun j hj => ?_⟩
  · have h3 := hd.same
    rw [h3]
    have h4 := h.same
    show ({m' with Z := m''.Z, C := m''.C} : Mc) = {m with Z := m''.Z, C := m''.C}
    rw [h4]
  · rw [hd.fr j (by omega) fun h5 => by rcases h.own j h5 with h6 | h6; exact ho h6; omega]
    exact h.fr j hj ho
  · rcases hd.own j hj with h5 | h5
    · exact h.own j h5
    · right; omega
theorem Mach.ownlt {M : MS} {m : Mc} (h : Mach M m) {j : Nat} (hj : m.own j) : j < M.length := by
  rcases hj with rfl | ⟨hz, rfl⟩ | rfl | ⟨z, hz, ha⟩
  · exact get_lt h.blk
  · exact h.lidlt hz
  · exact get_lt h.cho
  · exact (h.row z hz).rid_lt ha
theorem Mach.keep {M N : MS} {m : Mc} (h : Mach M m) (hf : ∀ j, j < M.length → N[j]? = M[j]?) : Mach N m := h.ext (hf _ (get_lt h.map)) fun j hj => hf j (h.ownlt hj)
/-- Another machine stays. -/
theorem Dn.other {M M' : MS} {m m' o : Mc} (h : Dn M M' m m') (ho : Mach M o) (hd : ∀ j, o.own j → ¬ m.own j) (hm : ¬ m.own o.mid) : Mach M' o :=
  ho.ext (h.fr _ (get_lt ho.map) hm) fun j hj => h.fr j (ho.ownlt hj) (hd j hj)
theorem Dn.run {M M' M'' : MS} {m m' m'' : Mc} {D : List Nat} {X : List (List (List Int))} {ps : List Int} {i : Nat} (hX : plX m.l = X) (h : Dn M M' m m') (hp : m'.pm = dlvs X m.L m.pm (ps.take i)) (hi : i < ps.length) (hd : Dr M' M'' m' m'' D) (hpm : m''.pm = (dlv (plX m'.l) m'.L m'.pm ps[i]).1) : m''.pm = dlvs X m.L m.pm (ps.take (i + 1)) := by
  obtain ⟨_, _, s3, s4⟩ := h.sid
  rw [hpm, s3, s4, hX, hp, List.take_succ_eq_append_getElem hi, dlvs_snoc]
end Go.Proofs.Ytlcdafidoddefaa.Av
namespace Go.Proofs.Ytlcdafidoddefaa.Av
open Go.RowKit
set_option linter.unusedSimpArgs false
set_option linter.unusedVariables false
/-- What came of a script. -/
structure TR where
  d : Int
  i : Int
  r : Int
  o : Int
  l : Int
def TR.cs (t : TR) : List AV := [.flat (.int .i64 t.d), .flat (.int .i64 t.i), .flat (.int .i64 t.r), .flat (.int .i64 t.o), .flat (.int .i64 t.l)]
/-- The numbers of the lines on which something waits. -/
def wtP (Z : List PL) : Nat → List Int
  | 0 => []
  | k + 1 => wtP Z k ++ (match Z[k]? with
    | some z => if 0 < z.row.length then [(k : Int)] else []
    | none => [])
theorem wtL_P (Z : List Lin) : ∀ k, wtL Z k = wtP (Z.map Lin.pln) k
  | 0 => rfl
  | k + 1 => by
    rw [wtL, wtP, wtL_P Z k, List.getElem?_map]
    cases Z[k]? with
    | none => rfl
    | some z => simp [Lin.pln]
def wtS (s : PM) : List Int := wtP s.Z s.Z.length
theorem wtS_m (m : Mc) : wtL m.Z m.Z.length = wtS m.pm := by
  rw [wtL_P, wtS]
  show _ = wtP (m.Z.map Lin.pln) (m.Z.map Lin.pln).length
  rw [List.length_map]
theorem wtP_mem {Z : List PL} {a : Int} : ∀ {k : Nat}, a ∈ wtP Z k → ∃ j : Nat, j < k ∧ a = j
  | 0, h => by simp [wtP] at h
  | k + 1, h => by
    rw [wtP, List.mem_append] at h
    rcases h with h | h
    · obtain ⟨j, h1, h2⟩ := wtP_mem h
      exact ⟨j, by omega, h2⟩
    · split at h
      · split at h
        · rw [List.mem_singleton] at h; exact ⟨k, by omega, h⟩
        · simp at h
      · simp at h
theorem wtP_nd (Z : List PL) : ∀ k, (wtP Z k).Nodup
  | 0 => by simp [wtP]
  | k + 1 => by
    rw [wtP, List.nodup_append]
    refine ⟨wtP_nd Z k, by split <;> (try split) <;> simp, fun a ha b hb hab => ?_⟩
    obtain ⟨j, h1, h2⟩ := wtP_mem ha
    split at hb
    · split at hb
      · rw [List.mem_singleton] at hb; omega
      · simp at hb
    · simp at hb
/-- One pick. -/
def plyS (X : List (List (List Int))) (L : List I2) (x : PM × List Int × TR) (i : Int) : PM × List Int × TR :=
  let R := dlv X L x.1 i
  if R.2.1 = true then
    (if x.2.1.filter (fun a => decide (a ≠ i)) = [] then (R.1, wtS R.1, ⟨x.2.2.d + 1, x.2.2.i, x.2.2.r, x.2.2.o + 1, 0⟩)
      else (R.1, x.2.1.filter (fun a => decide (a ≠ i)), ⟨x.2.2.d + 1, x.2.2.i, x.2.2.r, x.2.2.o, x.2.2.l + 1⟩))
  else if R.2.2 = 11 then (R.1, x.2.1, ⟨x.2.2.d, x.2.2.i, x.2.2.r + 1, x.2.2.o, x.2.2.l + 1⟩)
  else (R.1, x.2.1, ⟨x.2.2.d, x.2.2.i + 1, x.2.2.r, x.2.2.o, x.2.2.l + 1⟩)
def ply (X : List (List (List Int))) (L : List I2) : PM × List Int × TR → List Int → PM × List Int × TR
  | x, [] => x
  | x, i :: r => ply X L (plyS X L x i) r
def ply0 (X : List (List (List Int))) (L : List I2) (s : PM) (ps : List Int) : PM × List Int × TR := ply X L (s, wtS s, ⟨0, 0, 0, 0, 0⟩) ps
theorem ply_app {X : List (List (List Int))} {L : List I2} : ∀ {a b : List Int} {x : PM × List Int × TR}, ply X L x (a ++ b) = ply X L (ply X L x a) b
  | [], _, _ => rfl
  | i :: a, b, x => by simp only [List.cons_append, ply]; exact ply_app
theorem plyS_1 {X : List (List (List Int))} {L : List I2} {x : PM × List Int × TR} {i : Int} : (plyS X L x i).1 = (dlv X L x.1 i).1 := by
  simp only [plyS]
  split
  · split <;> rfl
  · split <;> rfl
theorem ply_1 {X : List (List (List Int))} {L : List I2} : ∀ {ps : List Int} {x : PM × List Int × TR}, (ply X L x ps).1 = dlvs X L x.1 ps
  | [], _ => rfl
  | i :: r, x => by simp only [ply, dlvs]; rw [ply_1, plyS_1]
theorem dlvs_app {X : List (List (List Int))} {L : List I2} : ∀ {a b : List Int} {s : PM}, dlvs X L s (a ++ b) = dlvs X L (dlvs X L s a) b
  | [], _, _ => rfl
  | i :: a, b, s => by simp only [List.cons_append, dlvs]; exact dlvs_app
/-- What is counted, of the deliveries alone. -/
def cntS (X : List (List (List Int))) (L : List I2) (s : PM) (i : Int) : Int × Int × Int :=
  if (dlv X L s i).2.1 = true then (1, 0, 0) else if (dlv X L s i).2.2 = 11 then (0, 0, 1) else (0, 1, 0)
def cnt (X : List (List (List Int))) (L : List I2) : PM → List Int → Int × Int × Int
  | _, [] => (0, 0, 0)
  | s, i :: r => ((cntS X L s i).1 + (cnt X L (dlv X L s i).1 r).1, (cntS X L s i).2.1 + (cnt X L (dlv X L s i).1 r).2.1, (cntS X L s i).2.2 + (cnt X L (dlv X L s i).1 r).2.2)
theorem cnt_app {X : List (List (List Int))} {L : List I2} : ∀ {a b : List Int} {s : PM}, cnt X L s (a ++ b) = ((cnt X L s a).1 + (cnt X L (dlvs X L s a) b).1, (cnt X L s a).2.1 + (cnt X L (dlvs X L s a) b).2.1, (cnt X L s a).2.2 + (cnt X L (dlvs X L s a) b).2.2)
  | [], b, s => by simp [cnt, dlvs]
  | i :: a, b, s => by
    simp only [List.cons_append, cnt, dlvs]
    rw [cnt_app]
    simp only [Int.add_assoc]
theorem cntS_sum (X : List (List (List Int))) (L : List I2) (s : PM) (i : Int) : (cntS X L s i).1 + (cntS X L s i).2.1 + (cntS X L s i).2.2 = 1 ∧ 0 ≤ (cntS X L s i).1 ∧ 0 ≤ (cntS X L s i).2.1 ∧ 0 ≤ (cntS X L s i).2.2 := by
  unfold cntS
  split
  · simp
  · split <;> simp
theorem cnt_sum {X : List (List (List Int))} {L : List I2} : ∀ {ps : List Int} {s : PM}, (cnt X L s ps).1 + (cnt X L s ps).2.1 + (cnt X L s ps).2.2 = ps.length ∧ 0 ≤ (cnt X L s ps).1 ∧ 0 ≤ (cnt X L s ps).2.1 ∧ 0 ≤ (cnt X L s ps).2.2
  | [], _ => by simp [cnt]
  | i :: r, s => by
    obtain ⟨h1, h2, h3, h4⟩ := cntS_sum X L s i
    obtain ⟨k1, k2, k3, k4⟩ := cnt_sum (X := X) (L := L) (ps := r) (s := (dlv X L s i).1)
    simp only [cnt, List.length_cons]
    omega
theorem ply_cnt {X : List (List (List Int))} {L : List I2} : ∀ {ps : List Int} {x : PM × List Int × TR}, (ply X L x ps).2.2.d = x.2.2.d + (cnt X L x.1 ps).1 ∧ (ply X L x ps).2.2.i = x.2.2.i + (cnt X L x.1 ps).2.1 ∧ (ply X L x ps).2.2.r = x.2.2.r + (cnt X L x.1 ps).2.2
  | [], x => by simp [ply, cnt]
  | i :: r, x => by
    obtain ⟨h1, h2, h3⟩ := ply_cnt (X := X) (L := L) (ps := r) (x := plyS X L x i)
    have hs : (plyS X L x i).2.2.d = x.2.2.d + (cntS X L x.1 i).1 ∧ (plyS X L x i).2.2.i = x.2.2.i + (cntS X L x.1 i).2.1 ∧ (plyS X L x i).2.2.r = x.2.2.r + (cntS X L x.1 i).2.2 := by
      simp only [plyS, cntS]
      split
      · split <;> simp
      · split <;> simp
    rw [plyS_1] at h1 h2 h3
    simp only [ply, cnt]
    omega
theorem ply_o {X : List (List (List Int))} {L : List I2} : ∀ {ps : List Int} {x : PM × List Int × TR}, x.2.2.o ≤ (ply X L x ps).2.2.o ∧ (ply X L x ps).2.2.o ≤ x.2.2.o + ps.length
  | [], x => by simp [ply]
  | i :: r, x => by
    obtain ⟨h1, h2⟩ := ply_o (X := X) (L := L) (ps := r) (x := plyS X L x i)
    have hs : x.2.2.o ≤ (plyS X L x i).2.2.o ∧ (plyS X L x i).2.2.o ≤ x.2.2.o + 1 := by
      simp only [plyS]
      split
      · split <;> simp <;> omega
      · split <;> simp <;> omega
    simp only [ply, List.length_cons]
    omega
theorem ply_l {X : List (List (List Int))} {L : List I2} : ∀ {ps : List Int} {x : PM × List Int × TR}, 0 ≤ x.2.2.l → 0 ≤ (ply X L x ps).2.2.l ∧ (ply X L x ps).2.2.l ≤ x.2.2.l + ps.length
  | [], x, h => by simp [ply]; exact h
  | i :: r, x, h => by
    have hs : 0 ≤ (plyS X L x i).2.2.l ∧ (plyS X L x i).2.2.l ≤ x.2.2.l + 1 := by
      simp only [plyS]
      split
      · split <;> simp <;> omega
      · split <;> simp <;> omega
    obtain ⟨h1, h2⟩ := ply_l (X := X) (L := L) (ps := r) (x := plyS X L x i) hs.1
    simp only [ply, List.length_cons]
    omega
theorem ply_snoc {X : List (List (List Int))} {L : List I2} {x : PM × List Int × TR} {ps : List Int} {i : Int} : ply X L x (ps ++ [i]) = plyS X L (ply X L x ps) i := by rw [ply_app]; rfl
theorem ply_w {X : List (List (List Int))} {L : List I2} : ∀ {ps : List Int} {x : PM × List Int × TR}, x.2.1.Nodup → (ply X L x ps).2.1.Nodup
  | [], x, h => h
  | i :: r, x, h => by
    simp only [ply]
    refine ply_w ?_
    simp only [plyS]
    split
    · split
      · exact wtP_nd _ _
      · exact h.filter _
    · split <;> exact h
end Go.Proofs.Ytlcdafidoddefaa.Av
namespace Go.Proofs.Ytlcdafidoddefaa.Av
open Go.RowKit
set_option linter.unusedSimpArgs false
set_option linter.unusedVariables false
set_option maxHeartbeats 10000000
/-- A set of numbers, as a map. -/
def setA (w : List Int) : List AV := w.map fun a => .tup [.flat (.int .i64 a), .flat (.bool true)]
theorem setA_len (w : List Int) : (setA w).length = w.length := by simp [setA]
theorem find_set (a : Int) : ∀ (w : List Int) (j : Nat), findA (.int .i64) (.flat (.int .i64 a)) (setA w) j = some (if a ∈ w then some (j + w.idxOf a, .flat (.bool true)) else none)
  | [], j => by simp [setA, findA]
  | b :: w, j => by
    have ih := find_set a w (j + 1)
    simp only [setA, List.map_cons, findA, keyEqA, and_self, if_true] at ih ⊢
    by_cases h : a = b
    · subst h; simp
    · rw [show (a == b) = false by simpa using h]
      simp only
      rw [ih]
      by_cases hm : a ∈ w
      · rw [if_pos hm, if_pos (by simp [hm]), List.idxOf_cons, show (b == a) = false by simpa using fun h2 => h h2.symm]
        simp only [cond_false, Option.some.injEq, Prod.mk.injEq, and_true]
        omega
      · rw [if_neg hm, if_neg (by simp [h, hm])]
theorem setA_app (w : List Int) (a : Int) : setA w ++ [.tup [.flat (.int .i64 a), .flat (.bool true)]] = setA (w ++ [a]) := by simp [setA]
theorem erase_set {a : Int} : ∀ {w : List Int}, w.Nodup → a ∈ w → w.eraseIdx (w.idxOf a) = w.filter fun b => decide (b ≠ a)
  | b :: w, hn, hm => by
    obtain ⟨h1, h2⟩ := List.nodup_cons.1 hn
    by_cases h : b = a
    · subst h
      rw [List.idxOf_cons_self, List.eraseIdx_zero, List.tail_cons, List.filter_cons_of_neg (by simp)]
      refine (List.filter_eq_self.2 fun c hc => ?_).symm
      simp only [decide_eq_true_eq]
      rintro rfl; exact h1 hc
    · have hm' : a ∈ w := by
        rcases List.mem_cons.1 hm with h3 | h3
        · exact absurd h3.symm h
        · exact h3
      rw [List.idxOf_cons, show (b == a) = false by simpa using h]
      simp only [cond_false]
      rw [List.eraseIdx_cons_succ, erase_set h2 hm', List.filter_cons_of_pos (by simpa using h)]
theorem map_erI {α β : Type} (f : α → β) : ∀ (l : List α) (k : Nat), (l.map f).eraseIdx k = (l.eraseIdx k).map f
  | [], k => by simp
  | a :: l, 0 => by simp
  | a :: l, k + 1 => by simp [map_erI f l k]
theorem del_set {a : Int} {w : List Int} (hn : w.Nodup) : delE (.int .i64) (.flat (.int .i64 a)) (setA w) = some (setA (w.filter fun b => decide (b ≠ a))) := by
  simp only [delE, find_set]
  by_cases h : a ∈ w
  · rw [if_pos h]
    simp only [Nat.zero_add, setA, map_erI, Option.some.injEq]
    rw [erase_set hn h]
  · rw [if_neg h]
    simp only [Option.some.injEq]
    rw [List.filter_eq_self.2 fun c hc => ?_]
    simp only [decide_eq_true_eq]
    rintro rfl; exact h hc
theorem isKey64 (a : Int) : isKeyA (.int .i64) (.flat (.int .i64 a)) = true := rfl
attribute [go_sem] isKey64 find_set setA_len
theorem t32 (m : Mc) (M : MS) (h : Mach M m) : ev pr 32 [.mptr m.id 0] M = some (.q (lst 1 (intsA (wtS m.pm)))) := by
  have h35 := t35 m M h
  rw [wtS_m] at h35
  simp only [lst] at h35 ⊢
  clear h
  refine ev_fn' A32 ?_
  repeat' (first | ((with_reducible first | apply S_0 | apply S_q1 | apply S_g | apply S_c); exact sgc) | refine Stp.h ?_ | (with_reducible apply B_ne; focus decide) | ((with_reducible first | apply SC_d | apply SG_d | apply SG_n | apply SC_b | apply SG_b) <;> intro hc <;> try simp only [dq1, dq2, dq3, dq4, dq5] at hc))
  (first | exact fincR | exact fincN)
theorem wtS_len (m : Mc) : (wtS m.pm).length ≤ m.Z.length := by rw [← wtS_m]; exact wtL_len _ _
theorem t59 (m : Mc) (M : MS) (h : Mach M m) : ev pr 59 [.mptr m.id 0] M = some (.x (.mp M.length) (M ++ [some (setA (wtS m.pm))]) []) := by
  have h32 := t32 m _ (h.grow [some []])
  have hle : (wtS m.pm).length ≤ 1000 := by have := wtS_len m; have := h.len; have := h.lle; omega
  have hnd : (wtS m.pm).Nodup := wtP_nd _ _
  obtain ⟨w, hw⟩ : ∃ w, w = wtS m.pm := ⟨_, rfl⟩
  rw [← hw] at h32 hle hnd ⊢
  simp only [lst] at h32
  clear h hw
  refine ev_fn' A59 ?_
  repeat' (first | ((with_reducible first | apply S_0 | apply S_q1 | apply S_g | apply S_c); exact sgc) | refine Stp.h ?_ | (with_reducible apply B_ne; focus decide) | ((with_reducible first | apply SC_d | apply SG_d | apply SG_n | apply SC_b | apply SG_b) <;> intro hc <;> try simp only [dq1, dq2, dq3, dq4, dq5] at hc))
  refine W_rngM 10 0 w.length (fun i e mm => mm = M ++ [some (setA (w.take i))]) (by simp only [asg, asgO, List.append_nil, List.nil_append, List.cons_append]; rfl) (by exact svc) (by omega) (by simp [setA]) ?_
  rintro i e _ _ hi hk e10 rfl
  have k3 : e 3 = .mp M.length := by rw [hk 3 rfl]; exact svc
  have k8 : e 8 = .list 1 (intsA w) (intsA w).isEmpty (intsA w).isEmpty := by rw [hk 8 rfl]; exact svc
  have k9 : e 9 = .flat (.int .i64 w.length) := by rw [hk 9 rfl]; exact svc
  clear hk h32
  rcases Nat.lt_or_ge i w.length with hlt | hlt
  · have hlt' : (i : Int) < w.length := by omega
    have hnm : w[i] ∉ w.take i := by
      intro hm
      obtain ⟨j, hj, he⟩ := List.mem_take_iff_getElem.1 hm
      exact List.pairwise_iff_getElem.1 hnd j i (by omega) hlt (by omega) he
    have hput : setA (w.take i) ++ [.tup [.flat (.int .i64 w[i]), .flat (.bool true)]] = setA (w.take (i + 1)) := by rw [setA_app, List.take_succ_eq_append_getElem hlt]
    have hml : (M ++ [some (setA (w.take i))])[M.length]? = some (some (setA (w.take i))) := by simp
    clear hnd
    repeat' (first | ((with_reducible first | apply S_0 | apply S_q1 | apply S_g | apply S_c); exact sgc) | refine Stp.h ?_ | (with_reducible apply B_ne; focus decide) | ((with_reducible first | apply SC_d | apply SG_d | apply SG_n | apply SC_b | apply SG_b) <;> intro hc <;> try simp only [dq1, dq2, dq3, dq4, dq5] at hc))
    exact G_n (by exact svc) hlt (by simp)
  · have hlt' : ¬ (i : Int) < w.length := by omega
    rw [List.take_of_length_le hlt]
    repeat' (first | ((with_reducible first | apply S_0 | apply S_q1 | apply S_g | apply S_c); exact sgc) | refine Stp.h ?_ | (with_reducible apply B_ne; focus decide) | ((with_reducible first | apply SC_d | apply SG_d | apply SG_n | apply SC_b | apply SG_b) <;> intro hc <;> try simp only [dq1, dq2, dq3, dq4, dq5] at hc))
    (first | exact fincR | exact fincN)
end Go.Proofs.Ytlcdafidoddefaa.Av
namespace Go.Proofs.Ytlcdafidoddefaa.Av
open Go.RowKit
set_option linter.unusedSimpArgs false
set_option linter.unusedVariables false
set_option maxHeartbeats 10000000
theorem stK {base id off : Nat} {M : MS} {D : List Nat} {cs : List AV} : storeKA base M D cs (.mptr id off) = match M[id]? with
    | some (some old) => if off + cs.length ≤ old.length then some (.x (.flat undef) (M.set id (some (splice old off cs))) (dirt base id D)) else none
    | _ => none := rfl
attribute [go_sem] stK
/-- What a script leaves. -/
structure Plyd (M N : MS) (m c : Mc) : Prop where
  mach : Mach N c
  len : M.length ≤ N.length
  fr : ∀ j, j < M.length → N[j]? = M[j]?
  own : ∀ j, c.own j → M.length ≤ j
  mid : c.mid = m.mid
  l : c.l = m.l
theorem Dr.keep' {M M' : MS} {m m' : Mc} {D : List Nat} (h : Dr M M' m m' D) {T : Nat} (hT : T < M.length) (ho : ¬ m.own T) : M'[T]? = M[T]? ∧ ¬ m'.own T :=
  ⟨h.fr T hT ho, fun h1 => by rcases h.own T h1 with h2 | h2; exact ho h2; omega⟩
/-- The machine, the set, the trace while a script is played. -/
structure Pst (M mm : MS) (m c c' : Mc) (q : Nat) (P : PM × List Int × TR) : Prop where
  mach : Mach mm c'
  id : c'.id = c.id
  mid : c'.mid = m.mid
  l : c'.l = m.l
  own : ∀ j, c'.own j → M.length + 2 ≤ j
  fr : ∀ j, j < M.length → mm[j]? = M[j]?
  len : M.length + 2 ≤ mm.length
  b5 : mm[M.length]? = some (some [.flat (.int .i64 0), .flat (.int .i64 0), .flat (.int .i64 0), .flat (.int .i64 0), .flat (.int .i64 0)])
  b6 : mm[M.length + 1]? = some (some P.2.2.cs)
  q2 : M.length + 2 ≤ q
  bq : mm[q]? = some (some (setA P.2.1))
  nq : ¬ c'.own q
  pm : c'.pm = P.1
/-- The trace and the set are written. -/
theorem Pst.put {M mm : MS} {m c c' : Mc} {q : Nat} {P P' : PM × List Int × TR} (h : Pst M mm m c c' q P) (hm : m.mid < M.length) (h1 : P'.1 = P.1) (F : MS) (hF : F.length = mm.length) (hf : ∀ j, j ≠ M.length + 1 → j ≠ q → F[j]? = mm[j]?) (h6 : F[M.length + 1]? = some (some P'.2.2.cs)) (hq : F[q]? = some (some (setA P'.2.1))) : Pst M F m c c' q P' := by
  have h2 := h.q2
  have h3 := h.mid
  refine ⟨h.mach.ext (hf _ (by omega) (by omega)) fun j hj => hf j ?_ ?_, h.id, h.mid, h.l, h.own, fun j hj => ?_, by rw [hF]; exact h.len, ?_, h6, h.q2, hq, h.nq, by rw [h1]; exact h.pm⟩
  · have := h.own j hj; omega
  · rintro rfl; exact h.nq hj
  · rw [hf j (by omega) (by omega)]; exact h.fr j hj
  · rw [hf _ (by omega) (by omega)]; exact h.b5
/-- A set is laid anew. -/
theorem Pst.anew {M mm : MS} {m c c' : Mc} {q : Nat} {P P' : PM × List Int × TR} (h : Pst M mm m c c' q P) (h1 : P'.1 = P.1) (h2 : P'.2.2 = P.2.2) : Pst M (mm ++ [some (setA P'.2.1)]) m c c' mm.length P' := by
  have hl := h.len
  refine ⟨h.mach.grow _, h.id, h.mid, h.l, h.own, fun j hj => ?_, by simp; omega, get_grow h.b5 _, by rw [h2]; exact get_grow h.b6 _, hl, by simp, fun ho => ?_, by rw [h1]; exact h.pm⟩
  · rw [List.getElem?_append_left (by omega)]; exact h.fr j hj
  · have := h.mach.ownlt ho; omega
theorem Pst.dlv {M mm M' : MS} {m c c' c'' : Mc} {q : Nat} {P : PM × List Int × TR} {D : List Nat} (h : Pst M mm m c c' q P) (hd : Dr mm M' c' c'' D) (s : PM) (hp : c''.pm = s) : Pst M M' m c c'' q (s, P.2) := by
  obtain ⟨s1, s2, s3, s4, s5, s6, s7, s8⟩ := hd.sid
  have hl := h.len
  have ho := h.own
  have hn : ∀ j, j < M.length + 2 → ¬ c'.own j := fun j hj hc => by have := ho j hc; omega
  obtain ⟨k1, k2⟩ := hd.keep' (get_lt h.bq) h.nq
  refine ⟨hd.mach, by rw [s1]; exact h.id, by rw [s2]; exact h.mid, by rw [s5]; exact h.l, fun j hj => ?_, fun j hj => ?_, by have := hd.len; omega, ?_, ?_, h.q2, k1.trans h.bq, k2, hp⟩
  · rcases hd.own j hj with h1 | h1
    · exact ho j h1
    · omega
  · rw [hd.fr j (by omega) (hn j (by omega))]; exact h.fr j hj
  · rw [hd.fr _ (by omega) (hn _ (by omega))]; exact h.b5
  · rw [hd.fr _ (by omega) (hn _ (by omega))]; exact h.b6
theorem t28 (m : Mc) (ps : List Int) (xv : AV) (M : MS) (h : Mach M m) (hp : ps.length ≤ 1000) (hx : lenOf xv = some ps.length) (hv : ∀ mm : MS, (∀ j, j < M.length → mm[j]? = M[j]?) → view mm xv = some (intsA ps)) : ∃ out, ev pr 28 [.mptr m.id 0, xv] M = some out ∧ ∃ N c, out = .x (.tup [.mptr c.id 0, .agg (ply0 (plX m.l) m.L m.pm ps).2.2.cs]) N [] ∧ Plyd M N m c ∧ c.pm = dlvs (plX m.l) m.L m.pm ps := by
  have hid := get_lt h.blk
  have hmid := get_lt h.map
  have hb := get_grow h.b [some [.flat (.int .i64 0), .flat (.int .i64 0), .flat (.int .i64 0), .flat (.int .i64 0), .flat (.int .i64 0)], some [.flat (.int .i64 0), .flat (.int .i64 0), .flat (.int .i64 0), .flat (.int .i64 0), .flat (.int .i64 0)]]
  obtain ⟨out, h36, N1, c, rfl, hc⟩ := t36 m _ (h.grow [some [.flat (.int .i64 0), .flat (.int .i64 0), .flat (.int .i64 0), .flat (.int .i64 0), .flat (.int .i64 0)], some [.flat (.int .i64 0), .flat (.int .i64 0), .flat (.int .i64 0), .flat (.int .i64 0), .flat (.int .i64 0)]])
  have h59 := t59 c N1 hc.mach
  have hLm : m.L = prs (prL m.l) := h.Leq
  have hcp := hc.pm
  rw [hcp] at h59
  have hini : Pst M (N1 ++ [some (setA (wtS m.pm))]) m c c N1.length (m.pm, wtS m.pm, ⟨0, 0, 0, 0, 0⟩) := by
    have hl := hc.len
    have ho := hc.own
    simp only [List.length_append, List.length_cons, List.length_nil] at hl ho
    refine ⟨hc.mach.grow _, rfl, hc.mid, hc.l, fun j hj => ?_, fun j hj => ?_, by simp; omega, get_grow ?_ _, get_grow ?_ _, by omega, by simp, fun hj => ?_, hcp⟩
    · have := ho j hj; omega
    · rw [List.getElem?_append_left (by omega), hc.fr j (by simp; omega), List.getElem?_append_left hj]
    · rw [hc.fr _ (by simp)]; simp
    · rw [hc.fr _ (by simp)]; simp [TR.cs]
    · have := hc.mach.ownlt hj; omega
  have hv0 := hv _ hini.fr
  have hHv : Hid (∀ mm : MS, (∀ j, j < M.length → mm[j]? = M[j]?) → view mm xv = some (intsA ps)) := hv
  have hHc : Hid (Mach M m) := h
  have hHL : Hid (m.L = prs (prL m.l)) := hLm
  have hHi : Hid _ := hini
  clear h hc hLm hcp hini hv
  refine ev_fnE A28 ?_
  repeat' (first | ((with_reducible first | apply S_0 | apply S_q1 | apply S_g | apply S_c); exact sgc) | refine Stp.h ?_ | (with_reducible apply B_ne; focus decide) | ((with_reducible first | apply SC_d | apply SG_d | apply SG_n | apply SC_b | apply SG_b) <;> intro hc <;> try simp only [dq1, dq2, dq3, dq4, dq5] at hc))
  refine W_rngM 23 0 ps.length (fun i e mm => ∃ c' q, e 8 = .mp q ∧ Pst M mm m c c' q (ply (plX m.l) m.L (m.pm, wtS m.pm, ⟨0, 0, 0, 0, 0⟩) (ps.take i))) (by simp only [asg, asgO, List.append_nil, List.nil_append, List.cons_append]; rfl) (by exact svc) (by omega) ⟨c, N1.length, by exact svc, hHi⟩ ?_
  rintro i e mm _ hi hk e23 ⟨c', q, e8, hP⟩
  have k6 : e 6 = .mptr (M.length + 1) 0 := by rw [hk 6 rfl]; exact svc
  have k5 : e 5 = .mptr M.length 0 := by rw [hk 5 rfl]; exact svc
  have k7 : e 7 = .mptr c.id 0 := by rw [hk 7 rfl]; exact svc
  have k21 : e 21 = xv := by rw [hk 21 rfl]; exact svc
  have k22 : e 22 = .flat (.int .i64 ps.length) := by rw [hk 22 rfl]; exact svc
  have hvm := hHv mm hP.fr
  clear hk hb h36 h59 hHi hv0 hHv
  obtain ⟨P, hPe⟩ : ∃ P, P = ply (plX m.l) m.L (m.pm, wtS m.pm, ⟨0, 0, 0, 0, 0⟩) (ps.take i) := ⟨_, rfl⟩
  rw [← hPe] at hP
  have hHP : Hid (P = ply (plX m.l) m.L (m.pm, wtS m.pm, ⟨0, 0, 0, 0, 0⟩) (ps.take i)) := hPe
  rcases Nat.lt_or_ge i ps.length with hlt | hlt
  · have hlt' : (i : Int) < ps.length := by omega
    obtain ⟨g1, g2, g3⟩ := ply_cnt (X := plX m.l) (L := m.L) (ps := ps.take i) (x := (m.pm, wtS m.pm, ⟨0, 0, 0, 0, 0⟩))
    obtain ⟨g4, g5, g6, g7⟩ := cnt_sum (X := plX m.l) (L := m.L) (ps := ps.take i) (s := m.pm)
    obtain ⟨g8, g9⟩ := ply_o (X := plX m.l) (L := m.L) (ps := ps.take i) (x := (m.pm, wtS m.pm, ⟨0, 0, 0, 0, 0⟩))
    obtain ⟨g10, g11⟩ := ply_l (X := plX m.l) (L := m.L) (ps := ps.take i) (x := (m.pm, wtS m.pm, ⟨0, 0, 0, 0, 0⟩)) (Int.le_refl _)
    have gw := ply_w (X := plX m.l) (L := m.L) (ps := ps.take i) (x := (m.pm, wtS m.pm, ⟨0, 0, 0, 0, 0⟩)) (wtP_nd _ _)
    rw [← hPe] at g1 g2 g3 g8 g9 g10 g11 gw
    simp only [List.length_take] at g4 g9 g11
    have hPn : ply (plX m.l) m.L (m.pm, wtS m.pm, ⟨0, 0, 0, 0, 0⟩) (ps.take (i + 1)) = plyS (plX m.l) m.L P ps[i] := by
      rw [List.take_succ_eq_append_getElem hlt, ply_snoc, ← hPe]
    obtain ⟨s, w, t⟩ := P
    simp only at g1 g2 g3 g8 g9 g10 g11 gw
    have t1 : 0 ≤ t.d ∧ t.d ≤ 1000 := by omega
    have t2 : 0 ≤ t.i ∧ t.i ≤ 1000 := by omega
    have t3 : 0 ≤ t.r ∧ t.r ≤ 1000 := by omega
    have t4 : 0 ≤ t.o ∧ t.o ≤ 1000 := by omega
    have t5 : 0 ≤ t.l ∧ t.l ≤ 1000 := by omega
    have hHPn : Hid _ := hPn
    have hHP2 : Hid (Pst M mm m c c' q (s, w, t)) := hP
    clear g1 g2 g3 g4 g5 g6 g7 g8 g9 g10 g11 hPn hPe hP
    repeat' (first | ((with_reducible first | apply S_0 | apply S_q1 | apply S_g | apply S_c); exact sgc) | refine Stp.h ?_ | (with_reducible apply B_ne; focus decide) | ((with_reducible first | apply SC_d | apply SG_d | apply SG_n | apply SC_b | apply SG_b) <;> intro hc <;> try simp only [dq1, dq2, dq3, dq4, dq5] at hc))
    refine S_dlv (i := ps[i]) (Pst.mach hHP2) (by rw [Pst.id hHP2]; exact svc) (by exact svc) (fun j hj => by have := Pst.own hHP2 j hj; omega) ?_
    intro M' c'' D' hDr hpm
    have e1 : plX c'.l = plX m.l := by rw [Pst.l hHP2]
    have e2 : c'.L = m.L := by rw [(Pst.mach hHP2).Leq, Pst.l hHP2, show m.L = _ from hHL]
    have e3 : c'.pm = s := Pst.pm hHP2
    rw [e1, e2, e3] at hpm ⊢
    obtain ⟨Rd, hRd⟩ : ∃ Rd, Rd = dlv (plX m.l) m.L s ps[i] := ⟨_, rfl⟩
    have hQ := Pst.dlv hHP2 hDr Rd.1 (by rw [hRd]; exact hpm)
    have hst : plyS (plX m.l) m.L (s, w, t) ps[i] = if Rd.2.1 = true then
        (if w.filter (fun a => decide (a ≠ ps[i])) = [] then (Rd.1, wtS Rd.1, ⟨t.d + 1, t.i, t.r, t.o + 1, 0⟩)
          else (Rd.1, w.filter (fun a => decide (a ≠ ps[i])), ⟨t.d + 1, t.i, t.r, t.o, t.l + 1⟩))
        else if Rd.2.2 = 11 then (Rd.1, w, ⟨t.d, t.i, t.r + 1, t.o, t.l + 1⟩) else (Rd.1, w, ⟨t.d, t.i + 1, t.r, t.o, t.l + 1⟩) := by rw [hRd]; rfl
    rw [← hRd]
    have hHst : Hid _ := hst
    have z6 := hQ.b6
    have zq := hQ.bq
    have zl6 := get_lt z6
    have zlq := get_lt zq
    have zne : M.length + 1 ≠ q := by have := hQ.q2; omega
    have zqb : M.length ≤ q := by have := hQ.q2; omega
    simp only [TR.cs, tupBC] at z6 ⊢
    have r1 : ∀ X, (List.set M' (M.length + 1) X)[M.length + 1]? = some X := fun X => List.getElem?_set_self zl6
    have r2 : ∀ X Y, List.set (List.set M' (M.length + 1) X) (M.length + 1) Y = List.set M' (M.length + 1) Y := fun X Y => List.set_set ..
    have r3 : ∀ X, (List.set M' (M.length + 1) X)[q]? = some (some (setA w)) := fun X => by rw [List.getElem?_set_ne zne]; exact zq
    have r4 : ∀ X Y, (List.set (List.set M' (M.length + 1) X) q Y)[q]? = some Y := fun X Y => List.getElem?_set_self (by rw [List.length_set]; exact zlq)
    have r5 : ∀ X Y, (List.set (List.set M' (M.length + 1) X) q Y)[M.length + 1]? = some X := fun X Y => by rw [List.getElem?_set_ne (Ne.symm zne)]; exact r1 X
    have r6 : ∀ X Y Z, (List.set (List.set (List.set M' (M.length + 1) X) q Y) (M.length + 1) Z)[M.length + 1]? = some Z := fun X Y Z => List.getElem?_set_self (by simpa using zl6)
    have r7 : ∀ X Y Z V, List.set (List.set (List.set (List.set M' (M.length + 1) X) q Y) (M.length + 1) Z) (M.length + 1) V = List.set (List.set (List.set M' (M.length + 1) X) q Y) (M.length + 1) V := fun X Y Z V => List.set_set ..
    have hdel := del_set (a := ps[i]) (w := w) gw
    obtain ⟨w2, hw2⟩ : ∃ w2, w2 = w.filter fun b => decide (b ≠ ps[i]) := ⟨_, rfl⟩
    rw [← hw2] at hdel
    have hHw2 : Hid (w2 = w.filter fun b => decide (b ≠ ps[i])) := hw2
    have hHQ : Hid _ := hQ
    have hHR : Hid _ := hRd
    clear hDr hpm e1 e2 e3 hst hQ hw2 hRd
    cases hok : Rd.2.1 with
    | false =>
      by_cases hc : Rd.2.2 = 11
      · have hfin : Pst M (List.set M' (M.length + 1) (some [.flat (.int .i64 t.d), .flat (.int .i64 t.i), .flat (.int .i64 (t.r + 1)), .flat (.int .i64 t.o), .flat (.int .i64 (t.l + 1))])) m c c'' q (plyS (plX m.l) m.L (s, w, t) ps[i]) := by
          rw [show plyS (plX m.l) m.L (s, w, t) ps[i] = _ from hHst, if_neg (by rw [hok]; simp), if_pos hc]
          exact Pst.put (P' := (Rd.1, w, ⟨t.d, t.i, t.r + 1, t.o, t.l + 1⟩)) hHQ hmid rfl _ (by simp) (fun j h1 _ => by rw [List.getElem?_set_ne (Ne.symm h1)]) (r1 _) (r3 _)
        have hHf : Hid _ := hfin
        clear hfin
        repeat' (first | ((with_reducible first | apply S_0 | apply S_q1 | apply S_g | apply S_c); exact sgc) | refine Stp.h ?_ | (with_reducible apply B_ne; focus decide) | ((with_reducible first | apply SC_d | apply SG_d | apply SG_n | apply SC_b | apply SG_b) <;> intro hc <;> try simp only [dq1, dq2, dq3, dq4, dq5] at hc))
        exact G_n (by exact svc) hlt ⟨c'', q, by exact svc, by rw [show ply _ _ _ _ = _ from hHPn]; exact hHf⟩
      · have hfin : Pst M (List.set M' (M.length + 1) (some [.flat (.int .i64 t.d), .flat (.int .i64 (t.i + 1)), .flat (.int .i64 t.r), .flat (.int .i64 t.o), .flat (.int .i64 (t.l + 1))])) m c c'' q (plyS (plX m.l) m.L (s, w, t) ps[i]) := by
          rw [show plyS (plX m.l) m.L (s, w, t) ps[i] = _ from hHst, if_neg (by rw [hok]; simp), if_neg hc]
          exact Pst.put (P' := (Rd.1, w, ⟨t.d, t.i + 1, t.r, t.o, t.l + 1⟩)) hHQ hmid rfl _ (by simp) (fun j h1 _ => by rw [List.getElem?_set_ne (Ne.symm h1)]) (r1 _) (r3 _)
        have hHf : Hid _ := hfin
        clear hfin
        repeat' (first | ((with_reducible first | apply S_0 | apply S_q1 | apply S_g | apply S_c); exact sgc) | refine Stp.h ?_ | (with_reducible apply B_ne; focus decide) | ((with_reducible first | apply SC_d | apply SG_d | apply SG_n | apply SC_b | apply SG_b) <;> intro hc <;> try simp only [dq1, dq2, dq3, dq4, dq5] at hc))
        exact G_n (by exact svc) hlt ⟨c'', q, by exact svc, by rw [show ply _ _ _ _ = _ from hHPn]; exact hHf⟩
    | true =>
      have hw2e : w2 = w.filter fun b => decide (b ≠ ps[i]) := hHw2
      by_cases hw0 : w2 = []
      · have h59 : ∀ X Y Z, ev pr 59 [.mptr c.id 0] (List.set (List.set (List.set M' (M.length + 1) X) q Y) (M.length + 1) Z) = some (.x (.mp M'.length) (List.set (List.set (List.set M' (M.length + 1) X) q Y) (M.length + 1) Z ++ [some (setA (wtS Rd.1))]) []) := by
          intro X Y Z
          have hq : Pst M M' m c c'' q (Rd.1, w, t) := hHQ
          have hm3 : Mach (List.set (List.set (List.set M' (M.length + 1) X) q Y) (M.length + 1) Z) c'' := by
            refine hq.mach.ext ?_ fun j hj => ?_
            · have h1 := hq.mid
              have h2 := hq.q2
              rw [h1, List.getElem?_set_ne (by omega), List.getElem?_set_ne (by omega), List.getElem?_set_ne (by omega)]
            · have h1 := hq.own j hj
              have h2 : q ≠ j := fun e => hq.nq (by rw [e]; exact hj)
              rw [List.getElem?_set_ne (by omega), List.getElem?_set_ne h2, List.getElem?_set_ne (by omega)]
          have h2 := t59 c'' _ hm3
          rw [hq.id, hq.pm] at h2
          simpa using h2
        have hfin : Pst M (List.set (List.set (List.set M' (M.length + 1) (some [.flat (.int .i64 (t.d + 1)), .flat (.int .i64 t.i), .flat (.int .i64 t.r), .flat (.int .i64 t.o), .flat (.int .i64 (t.l + 1))])) q (some (setA w2))) (M.length + 1) (some [.flat (.int .i64 (t.d + 1)), .flat (.int .i64 t.i), .flat (.int .i64 t.r), .flat (.int .i64 (t.o + 1)), .flat (.int .i64 0)]) ++ [some (setA (wtS Rd.1))]) m c c'' M'.length (plyS (plX m.l) m.L (s, w, t) ps[i]) := by
          rw [show plyS (plX m.l) m.L (s, w, t) ps[i] = _ from hHst, if_pos hok, if_pos (by rw [← hw2e]; exact hw0)]
          have h1 := Pst.put (P' := (Rd.1, w2, ⟨t.d + 1, t.i, t.r, t.o + 1, 0⟩)) hHQ hmid rfl (List.set (List.set (List.set M' (M.length + 1) (some [.flat (.int .i64 (t.d + 1)), .flat (.int .i64 t.i), .flat (.int .i64 t.r), .flat (.int .i64 t.o), .flat (.int .i64 (t.l + 1))])) q (some (setA w2))) (M.length + 1) (some [.flat (.int .i64 (t.d + 1)), .flat (.int .i64 t.i), .flat (.int .i64 t.r), .flat (.int .i64 (t.o + 1)), .flat (.int .i64 0)])) (by simp)
            (fun j h1 h2 => by rw [List.getElem?_set_ne (Ne.symm h1), List.getElem?_set_ne (Ne.symm h2), List.getElem?_set_ne (Ne.symm h1)]) (r6 _ _ _) (by rw [List.getElem?_set_ne zne]; exact r4 _ _)
          have h2 := Pst.anew (P' := (Rd.1, wtS Rd.1, ⟨t.d + 1, t.i, t.r, t.o + 1, 0⟩)) h1 rfl rfl
          simpa using h2
        have hHf : Hid _ := hfin
        have hl0 : (w2.length : Int) = 0 := by rw [hw0]; rfl
        clear hfin hw0 hw2e
        repeat' (first | ((with_reducible first | apply S_0 | apply S_q1 | apply S_g | apply S_c); exact sgc) | refine Stp.h ?_ | (with_reducible apply B_ne; focus decide) | ((with_reducible first | apply SC_d | apply SG_d | apply SG_n | apply SC_b | apply SG_b) <;> intro hc <;> try simp only [dq1, dq2, dq3, dq4, dq5] at hc))
        exact G_n (by exact svc) hlt ⟨c'', M'.length, by exact svc, by rw [show ply _ _ _ _ = _ from hHPn]; exact hHf⟩
      · have hfin : Pst M (List.set (List.set M' (M.length + 1) (some [.flat (.int .i64 (t.d + 1)), .flat (.int .i64 t.i), .flat (.int .i64 t.r), .flat (.int .i64 t.o), .flat (.int .i64 (t.l + 1))])) q (some (setA w2))) m c c'' q (plyS (plX m.l) m.L (s, w, t) ps[i]) := by
          rw [show plyS (plX m.l) m.L (s, w, t) ps[i] = _ from hHst, if_pos hok, if_neg (by rw [← hw2e]; exact hw0), ← hw2e]
          exact Pst.put (P' := (Rd.1, w2, ⟨t.d + 1, t.i, t.r, t.o, t.l + 1⟩)) hHQ hmid rfl _ (by simp) (fun j h1 h2 => by rw [List.getElem?_set_ne (Ne.symm h2), List.getElem?_set_ne (Ne.symm h1)]) (r5 _ _) (r4 _ _)
        have hHf : Hid _ := hfin
        have hl0 : ¬ (w2.length : Int) = 0 := fun h => hw0 (List.eq_nil_of_length_eq_zero (by omega))
        clear hfin hw0 hw2e
        repeat' (first | ((with_reducible first | apply S_0 | apply S_q1 | apply S_g | apply S_c); exact sgc) | refine Stp.h ?_ | (with_reducible apply B_ne; focus decide) | ((with_reducible first | apply SC_d | apply SG_d | apply SG_n | apply SC_b | apply SG_b) <;> intro hc <;> try simp only [dq1, dq2, dq3, dq4, dq5] at hc))
        exact G_n (by exact svc) hlt ⟨c'', q, by exact svc, by rw [show ply _ _ _ _ = _ from hHPn]; exact hHf⟩
  · have hlt' : ¬ (i : Int) < ps.length := by omega
    have b5 := hP.b5
    have b6 := hP.b6
    have hl5 := get_lt b5
    simp only [TR.cs] at b6
    have r1 : ∀ X, (List.set mm M.length X)[M.length]? = some X := fun X => List.getElem?_set_self hl5
    have hHP2 : Hid (Pst M mm m c c' q P) := hP
    have hHlt : Hid (ps.length ≤ i) := hlt
    clear hP hPe
    repeat' (first | ((with_reducible first | apply S_0 | apply S_q1 | apply S_g | apply S_c); exact sgc) | refine Stp.h ?_ | (with_reducible apply B_ne; focus decide) | ((with_reducible first | apply SC_d | apply SG_d | apply SG_n | apply SC_b | apply SG_b) <;> intro hc <;> try simp only [dq1, dq2, dq3, dq4, dq5] at hc))
    (refine ⟨by first | exact .inr rfl | exact .inl rfl, ?_⟩; simp (disch := first | assumption | decide | omega | exact Pth.le _ | exact Rks.le _ | exact List.getElem_mem _ | exact allI_ints _ | exact allI_rks _ | exact allI_pths _ | exact Pth.nil _ | exact Rks.nil _ | (intro hh; simp only [Pth.nil _ hh, List.take_nil, List.drop_nil]; done) | (intro hh; simp only [Rks.nil _ hh, List.take_nil, List.drop_nil]; done) | (simp only [List.length_take, List.length_drop, List.length_append, List.length_cons, List.length_nil, List.length_replicate, List.length_map, ints_len]; omega)) only [resA, rvA, tupA, Option.bind_some, go_sem, if_pos, if_neg, Nat.reduceBEq, Nat.reduceEqDiff, ↓reduceIte, Nat.reduceSub, Nat.reduceAdd, Int.reduceToNat, reduceCtorEq, Nat.reduceLeDiff, Nat.reduceLT, Nat.reduceMul, Nat.reduceDiv, Int.reduceLT, Int.reduceLE, Int.reduceEq, Int.reduceNe, Int.reduceAdd, Int.reduceSub, Int.reduceNeg, Int.reduceGT, Int.reduceGE, Int.reduceBEq, Int.reduceBNe, Int.reduceMul, *])
    have hP : Pst M mm m c c' q P := hHP2
    have hte : ps.take i = ps := List.take_of_length_le hHlt
    have hPe : P = ply0 (plX m.l) m.L m.pm ps := by rw [show P = _ from hHP, hte]; rfl
    refine ⟨_, rfl, _, c', by rw [hP.id, ← hPe]; rfl, ⟨?_, by rw [List.length_set]; have := hP.len; omega, fun j hj => ?_, fun j hj => by have := hP.own j hj; omega, hP.mid, hP.l⟩, ?_⟩
    · refine hP.mach.ext ?_ fun j hj => ?_
      · rw [hP.mid, List.getElem?_set_ne (by omega)]
      · have := hP.own j hj
        rw [List.getElem?_set_ne (by omega)]
    · rw [List.getElem?_set_ne (by omega)]; exact hP.fr j hj
    · rw [hP.pm, hPe, ply0, ply_1]
end Go.Proofs.Ytlcdafidoddefaa.Av
