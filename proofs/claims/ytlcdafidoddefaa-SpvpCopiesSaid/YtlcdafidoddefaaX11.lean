/- Machines beside one another: what is the same is told so. -/
import Derived.Test.YtlcdafidoddefaaX8
namespace Go.Proofs.Ytlcdafidoddefaa.Av
open Go.RowKit
set_option linter.unusedSimpArgs false
set_option linter.unusedVariables false
set_option maxHeartbeats 10000000
theorem rks_ag (l : List Rnk) (k : Nat) (h : k < l.length) : ((rksA l).drop (k * 2)).take 2 = [.list 1 (intsA l[k].p.l) l[k].p.nl l[k].p.cd, .flat (.int .i64 l[k].r)] := by rw [rks_at l k h]; rfl
theorem t84 (q : Rnk) (M : MS) : ev pr 84 [.agg [.list 1 (intsA q.p.l) q.p.nl q.p.cd, .flat (.int .i64 q.r)], .agg [.list 1 (intsA q.p.l) q.p.nl q.p.cd, .flat (.int .i64 q.r)]] M = some (.q (.flat (.bool true))) := by
  have h49 := fun M => t49 q.p.l q.p.l q.p.nl q.p.cd q.p.nl q.p.cd M q.p.le
  simp only [decide_true] at h49
  refine ev_fn' A84 ?_
  repeat' (first | ((with_reducible first | apply S_0 | apply S_q1 | apply S_g | apply S_c); exact sgc) | refine Stp.h ?_ | (with_reducible apply B_ne; focus decide) | ((with_reducible first | apply SC_d | apply SG_d | apply SG_n | apply SC_b | apply SG_b) <;> intro hc <;> try simp only [dq1, dq2, dq3, dq4, dq5] at hc))
  (first | exact fincR | exact fincN)
theorem t83 (r : List Rnk) (n1 c1 n2 c2 : Bool) (M : MS) (hr : r.length ≤ 9223372036854775807) : ev pr 83 [.list 2 (rksA r) n1 c1, .list 2 (rksA r) n2 c2, .clo 84 []] M = some (.q (.flat (.bool true))) := by
  refine ev_fn' A83 ?_
  repeat' (first | ((with_reducible first | apply S_0 | apply S_q1 | apply S_g | apply S_c); exact sgc) | refine Stp.h ?_ | (with_reducible apply B_ne; focus decide) | ((with_reducible first | apply SC_d | apply SG_d | apply SG_n | apply SC_b | apply SG_b) <;> intro hc <;> try simp only [dq1, dq2, dq3, dq4, dq5] at hc))
  refine W_rngM 17 0 r.length (fun i e mm => ∃ G, mm = M ++ G) (by simp only [asg, asgO, List.append_nil, List.nil_append, List.cons_append]; rfl) (by exact svc) (by omega) ⟨[], by simp⟩ ?_
  rintro i e _ _ hi hk e17 ⟨G, rfl⟩
  have k1 : e 1 = .list 2 (rksA r) n2 c2 := by rw [hk 1 rfl]; exact svc
  have k2 : e 2 = .clo 84 [] := by rw [hk 2 rfl]; exact svc
  have k15 : e 15 = .list 2 (rksA r) n1 c1 := by rw [hk 15 rfl]; exact svc
  have k16 : e 16 = .flat (.int .i64 r.length) := by rw [hk 16 rfl]; exact svc
  clear hk
  rcases Nat.lt_or_ge i r.length with hlt | hlt
  · have hlt' : (i : Int) < r.length := by omega
    have h84 := fun M => t84 r[i] M
    have hag := rks_ag r i hlt
    repeat' (first | ((with_reducible first | apply S_0 | apply S_q1 | apply S_g | apply S_c); exact sgc) | refine Stp.h ?_ | (with_reducible apply B_ne; focus decide) | ((with_reducible first | apply SC_d | apply SG_d | apply SG_n | apply SC_b | apply SG_b) <;> intro hc <;> try simp only [dq1, dq2, dq3, dq4, dq5] at hc))
    exact G_n (by exact svc) hlt ⟨_, by first | rfl | (simp only [List.append_assoc]; rfl)⟩
  · have hlt' : ¬ (i : Int) < r.length := by omega
    repeat' (first | ((with_reducible first | apply S_0 | apply S_q1 | apply S_g | apply S_c); exact sgc) | refine Stp.h ?_ | (with_reducible apply B_ne; focus decide) | ((with_reducible first | apply SC_d | apply SG_d | apply SG_n | apply SC_b | apply SG_b) <;> intro hc <;> try simp only [dq1, dq2, dq3, dq4, dq5] at hc))
    (first | exact fincR | exact fincN)
theorem t82 (r : Rks) (M : MS) : ev pr 82 [.list 2 (rksA r.l) r.nl r.cd, .list 2 (rksA r.l) r.nl r.cd] M = some (.q (.flat (.bool true))) := by
  have h83 := fun M => t83 r.l r.nl r.cd r.nl r.cd M r.le
  refine ev_fn' A82 ?_
  repeat' (first | ((with_reducible first | apply S_0 | apply S_q1 | apply S_g | apply S_c); exact sgc) | refine Stp.h ?_ | (with_reducible apply B_ne; focus decide) | ((with_reducible first | apply SC_d | apply SG_d | apply SG_n | apply SC_b | apply SG_b) <;> intro hc <;> try simp only [dq1, dq2, dq3, dq4, dq5] at hc))
  (first | exact fincR | exact fincN)
theorem t81 (l : List Rks) (n1 c1 n2 c2 : Bool) (M : MS) (hl : l.length ≤ 9223372036854775807) : ev pr 81 [.list 1 (l.map Rks.av) n1 c1, .list 1 (l.map Rks.av) n2 c2, .clo 82 []] M = some (.q (.flat (.bool true))) := by
  refine ev_fn' A81 ?_
  repeat' (first | ((with_reducible first | apply S_0 | apply S_q1 | apply S_g | apply S_c); exact sgc) | refine Stp.h ?_ | (with_reducible apply B_ne; focus decide) | ((with_reducible first | apply SC_d | apply SG_d | apply SG_n | apply SC_b | apply SG_b) <;> intro hc <;> try simp only [dq1, dq2, dq3, dq4, dq5] at hc))
  refine W_rng 17 0 l.length (fun i e => True) (by simp only [asg, asgO, List.append_nil, List.nil_append, List.cons_append]; rfl) (by exact svc) (by omega) trivial ?_
  rintro i e _ hi hk e17 _
  have k1 : e 1 = .list 1 (l.map Rks.av) n2 c2 := by rw [hk 1 rfl]; exact svc
  have k2 : e 2 = .clo 82 [] := by rw [hk 2 rfl]; exact svc
  have k15 : e 15 = .list 1 (l.map Rks.av) n1 c1 := by rw [hk 15 rfl]; exact svc
  have k16 : e 16 = .flat (.int .i64 l.length) := by rw [hk 16 rfl]; exact svc
  clear hk
  rcases Nat.lt_or_ge i l.length with hlt | hlt
  · have hlt' : (i : Int) < l.length := by omega
    have h82 := fun M => t82 l[i] M
    repeat' (first | ((with_reducible first | apply S_0 | apply S_q1 | apply S_g | apply S_c); exact sgc) | refine Stp.h ?_ | (with_reducible apply B_ne; focus decide) | ((with_reducible first | apply SC_d | apply SG_d | apply SG_n | apply SC_b | apply SG_b) <;> intro hc <;> try simp only [dq1, dq2, dq3, dq4, dq5] at hc))
    exact H_n (by exact svc) hlt trivial
  · have hlt' : ¬ (i : Int) < l.length := by omega
    repeat' (first | ((with_reducible first | apply S_0 | apply S_q1 | apply S_g | apply S_c); exact sgc) | refine Stp.h ?_ | (with_reducible apply B_ne; focus decide) | ((with_reducible first | apply SC_d | apply SG_d | apply SG_n | apply SC_b | apply SG_b) <;> intro hc <;> try simp only [dq1, dq2, dq3, dq4, dq5] at hc))
    (first | exact fincR | exact fincN)
theorem t60 (n : Int) (l : List Rks) (n1 c1 n2 c2 : Bool) (M : MS) (hl : l.length ≤ 9223372036854775807) : ev pr 60 [.agg [.flat (.int .i64 n), .list 1 (l.map Rks.av) n1 c1], .agg [.flat (.int .i64 n), .list 1 (l.map Rks.av) n2 c2]] M = some (.q (.flat (.bool true))) := by
  have h81 := fun M => t81 l n1 c1 n2 c2 M hl
  refine ev_fn' A60 ?_
  repeat' (first | ((with_reducible first | apply S_0 | apply S_q1 | apply S_g | apply S_c); exact sgc) | refine Stp.h ?_ | (with_reducible apply B_ne; focus decide) | ((with_reducible first | apply SC_d | apply SG_d | apply SG_n | apply SC_b | apply SG_b) <;> intro hc <;> try simp only [dq1, dq2, dq3, dq4, dq5] at hc))
  (first | exact fincR | exact fincN)
theorem t86 (x y : Pth) (M : MS) (h : x.l = y.l) : ev pr 86 [.list 1 (intsA x.l) x.nl x.cd, .list 1 (intsA y.l) y.nl y.cd] M = some (.q (.flat (.bool true))) := by
  have h49 := fun M => t49 x.l y.l x.nl x.cd y.nl y.cd M x.le
  simp only [decide_eq_true h] at h49
  clear h
  refine ev_fn' A86 ?_
  repeat' (first | ((with_reducible first | apply S_0 | apply S_q1 | apply S_g | apply S_c); exact sgc) | refine Stp.h ?_ | (with_reducible apply B_ne; focus decide) | ((with_reducible first | apply SC_d | apply SG_d | apply SG_n | apply SC_b | apply SG_b) <;> intro hc <;> try simp only [dq1, dq2, dq3, dq4, dq5] at hc))
  (first | exact fincR | exact fincN)
theorem t85 {xv yv : AV} {x y : List Pth} {M : MS} (hx : Vw M xv (x.map Pth.av) x.length) (hy : Vw M yv (y.map Pth.av) y.length) (h : pl x = pl y) (hl : x.length ≤ 1000) : ev pr 85 [xv, yv, .clo 86 []] M = some (.q (.flat (.bool true))) := by
  have a0 := hx.v0
  have a1 := hx.len
  have b0 := hy.v0
  have b1 := hy.len
  have hlen : x.length = y.length := by have := congrArg List.length h; simpa [pl] using this
  rw [← hlen] at b1
  have hHl : Hid _ := hlen
  have hH : Hid (pl x = pl y) := h
  clear hx hy h hlen
  refine ev_fn' A85 ?_
  repeat' (first | ((with_reducible first | apply S_0 | apply S_q1 | apply S_g | apply S_c); exact sgc) | refine Stp.h ?_ | (with_reducible apply B_ne; focus decide) | ((with_reducible first | apply SC_d | apply SG_d | apply SG_n | apply SC_b | apply SG_b) <;> intro hc <;> try simp only [dq1, dq2, dq3, dq4, dq5] at hc))
  refine W_rng 17 0 x.length (fun i e => True) (by simp only [asg, asgO, List.append_nil, List.nil_append, List.cons_append]; rfl) (by exact svc) (by omega) trivial ?_
  rintro i e _ hi hk e17 _
  have k1 : e 1 = yv := by rw [hk 1 rfl]; exact svc
  have k2 : e 2 = .clo 86 [] := by rw [hk 2 rfl]; exact svc
  have k15 : e 15 = xv := by rw [hk 15 rfl]; exact svc
  have k16 : e 16 = .flat (.int .i64 x.length) := by rw [hk 16 rfl]; exact svc
  clear hk
  rcases Nat.lt_or_ge i x.length with hlt | hlt
  · have hlt' : (i : Int) < x.length := by omega
    have hlt2 : i < y.length := by rw [← show x.length = y.length from hHl]; exact hlt
    have he : x[i].l = y[i].l := by
      have := congrArg (·[i]?) (show pl x = pl y from hH)
      simpa [pl, hlt, hlt2] using this
    have h86 := fun M => t86 x[i] y[i] M he
    clear he
    repeat' (first | ((with_reducible first | apply S_0 | apply S_q1 | apply S_g | apply S_c); exact sgc) | refine Stp.h ?_ | (with_reducible apply B_ne; focus decide) | ((with_reducible first | apply SC_d | apply SG_d | apply SG_n | apply SC_b | apply SG_b) <;> intro hc <;> try simp only [dq1, dq2, dq3, dq4, dq5] at hc))
    exact H_n (by exact svc) hlt trivial
  · have hlt' : ¬ (i : Int) < x.length := by omega
    repeat' (first | ((with_reducible first | apply S_0 | apply S_q1 | apply S_g | apply S_c); exact sgc) | refine Stp.h ?_ | (with_reducible apply B_ne; focus decide) | ((with_reducible first | apply SC_d | apply SG_d | apply SG_n | apply SC_b | apply SG_b) <;> intro hc <;> try simp only [dq1, dq2, dq3, dq4, dq5] at hc))
    (first | exact fincR | exact fincN)
theorem t62 {xv yv : AV} {x y : List Pth} {h1 h2 : Pth} {a : Bool} {M : MS} (hx : Vw M xv (x.map Pth.av) x.length) (hy : Vw M yv (y.map Pth.av) y.length) (h : pl x = pl y) (hl : x.length ≤ 1000) (hh : h1.l = h2.l) : ev pr 62 [.agg [xv, .list 1 (intsA h1.l) h1.nl h1.cd, .flat (.bool a)], .agg [yv, .list 1 (intsA h2.l) h2.nl h2.cd, .flat (.bool a)]] M = some (.q (.flat (.bool true))) := by
  have h49 := fun M => t49 h1.l h2.l h1.nl h1.cd h2.nl h2.cd M h1.le
  simp only [decide_eq_true hh] at h49
  have h85 := t85 (M := M ++ [some [xv, .list 1 (intsA h1.l) h1.nl h1.cd, .flat (.bool a)], some [yv, .list 1 (intsA h2.l) h2.nl h2.cd, .flat (.bool a)]]) (hx.ext _) (hy.ext _) h hl
  have a2 := hx.cell
  have b2 := hy.cell
  clear hh h hx hy
  cases a
  all_goals
    refine ev_fn' A62 ?_
    repeat' (first | ((with_reducible first | apply S_0 | apply S_q1 | apply S_g | apply S_c); exact sgc) | refine Stp.h ?_ | (with_reducible apply B_ne; focus decide) | ((with_reducible first | apply SC_d | apply SG_d | apply SG_n | apply SC_b | apply SG_b) <;> intro hc <;> try simp only [dq1, dq2, dq3, dq4, dq5] at hc))
    (first | exact fincR | exact fincN)
theorem t64 (x y : Pth) (M : MS) (h : x.l = y.l) : ev pr 64 [.list 1 (intsA x.l) x.nl x.cd, .list 1 (intsA y.l) y.nl y.cd] M = some (.q (.flat (.bool true))) := by
  have h49 := fun M => t49 x.l y.l x.nl x.cd y.nl y.cd M x.le
  simp only [decide_eq_true h] at h49
  clear h
  refine ev_fn' A64 ?_
  repeat' (first | ((with_reducible first | apply S_0 | apply S_q1 | apply S_g | apply S_c); exact sgc) | refine Stp.h ?_ | (with_reducible apply B_ne; focus decide) | ((with_reducible first | apply SC_d | apply SG_d | apply SG_n | apply SC_b | apply SG_b) <;> intro hc <;> try simp only [dq1, dq2, dq3, dq4, dq5] at hc))
  (first | exact fincR | exact fincN)
theorem t63 {xv yv : AV} {x y : List Pth} {M : MS} (hx : Vw M xv (x.map Pth.av) x.length) (hy : Vw M yv (y.map Pth.av) y.length) (h : pl x = pl y) (hl : x.length ≤ 1000) : ev pr 63 [xv, yv, .clo 64 []] M = some (.q (.flat (.bool true))) := by
  have a0 := hx.v0
  have a1 := hx.len
  have b0 := hy.v0
  have b1 := hy.len
  have hlen : x.length = y.length := by have := congrArg List.length h; simpa [pl] using this
  rw [← hlen] at b1
  have hHl : Hid _ := hlen
  have hH : Hid (pl x = pl y) := h
  clear hx hy h hlen
  refine ev_fn' A63 ?_
  repeat' (first | ((with_reducible first | apply S_0 | apply S_q1 | apply S_g | apply S_c); exact sgc) | refine Stp.h ?_ | (with_reducible apply B_ne; focus decide) | ((with_reducible first | apply SC_d | apply SG_d | apply SG_n | apply SC_b | apply SG_b) <;> intro hc <;> try simp only [dq1, dq2, dq3, dq4, dq5] at hc))
  refine W_rng 17 0 x.length (fun i e => True) (by simp only [asg, asgO, List.append_nil, List.nil_append, List.cons_append]; rfl) (by exact svc) (by omega) trivial ?_
  rintro i e _ hi hk e17 _
  have k1 : e 1 = yv := by rw [hk 1 rfl]; exact svc
  have k2 : e 2 = .clo 64 [] := by rw [hk 2 rfl]; exact svc
  have k15 : e 15 = xv := by rw [hk 15 rfl]; exact svc
  have k16 : e 16 = .flat (.int .i64 x.length) := by rw [hk 16 rfl]; exact svc
  clear hk
  rcases Nat.lt_or_ge i x.length with hlt | hlt
  · have hlt' : (i : Int) < x.length := by omega
    have hlt2 : i < y.length := by rw [← show x.length = y.length from hHl]; exact hlt
    have he : x[i].l = y[i].l := by
      have := congrArg (·[i]?) (show pl x = pl y from hH)
      simpa [pl, hlt, hlt2] using this
    have h64 := fun M => t64 x[i] y[i] M he
    clear he
    repeat' (first | ((with_reducible first | apply S_0 | apply S_q1 | apply S_g | apply S_c); exact sgc) | refine Stp.h ?_ | (with_reducible apply B_ne; focus decide) | ((with_reducible first | apply SC_d | apply SG_d | apply SG_n | apply SC_b | apply SG_b) <;> intro hc <;> try simp only [dq1, dq2, dq3, dq4, dq5] at hc))
    exact H_n (by exact svc) hlt trivial
  · have hlt' : ¬ (i : Int) < x.length := by omega
    repeat' (first | ((with_reducible first | apply S_0 | apply S_q1 | apply S_g | apply S_c); exact sgc) | refine Stp.h ?_ | (with_reducible apply B_ne; focus decide) | ((with_reducible first | apply SC_d | apply SG_d | apply SG_n | apply SC_b | apply SG_b) <;> intro hc <;> try simp only [dq1, dq2, dq3, dq4, dq5] at hc))
    (first | exact fincR | exact fincN)
/-- A machine's lines, seen. -/
theorem Mach.lvw {M : MS} {m : Mc} (h : Mach M m) (G : MS) : view (M ++ G) m.lv = some (linsA m.Z) ∧ cellsOf m.lv = some [m.lv] := by
  rcases h.lin with ⟨h1, sz, nl, cd, h2⟩ | ⟨h1, cd, h2, h3⟩
  · rw [h1, h2]; exact ⟨rfl, rfl⟩
  · rw [h2]
    refine ⟨?_, rfl⟩
    simp only [view, get_grow h3 G, Nat.zero_add, List.drop_zero]
    rw [if_pos (by rw [lins_len]; exact Nat.le_refl _), List.take_of_length_le (by rw [lins_len]; exact Nat.le_refl _)]
theorem t61 {m o : Mc} {M : MS} (hm : Mach M m) (ho : Mach M o) (h : m.Z.map Lin.pln = o.Z.map Lin.pln) : ev pr 61 [m.lv, o.lv, .clo 62 []] M = some (.q (.flat (.bool true))) := by
  have a0 := fun G => (hm.lvw G).1
  have a0' := (hm.lvw []).1
  have a1 := hm.lvl
  have b0 := fun G => (ho.lvw G).1
  have b0' := (ho.lvw []).1
  have b1 := ho.lvl
  rw [List.append_nil] at a0' b0'
  have hlen : m.Z.length = o.Z.length := by have := congrArg List.length h; simpa using this
  have hle : m.Z.length ≤ 1000 := by rw [hm.len]; exact hm.lle
  rw [← hlen] at b1
  have hHl : Hid _ := hlen
  have hH : Hid (m.Z.map Lin.pln = o.Z.map Lin.pln) := h
  have hHm : Hid (Mach M m) := hm
  have hHo : Hid (Mach M o) := ho
  clear hm ho h hlen
  refine ev_fn' A61 ?_
  repeat' (first | ((with_reducible first | apply S_0 | apply S_q1 | apply S_g | apply S_c); exact sgc) | refine Stp.h ?_ | (with_reducible apply B_ne; focus decide) | ((with_reducible first | apply SC_d | apply SG_d | apply SG_n | apply SC_b | apply SG_b) <;> intro hc <;> try simp only [dq1, dq2, dq3, dq4, dq5] at hc))
  refine W_rngM 17 0 m.Z.length (fun i e mm => ∃ G, mm = M ++ G) (by simp only [asg, asgO, List.append_nil, List.nil_append, List.cons_append]; rfl) (by exact svc) (by omega) ⟨[], by simp⟩ ?_
  rintro i e _ _ hi hk e17 ⟨G, rfl⟩
  have k1 : e 1 = o.lv := by rw [hk 1 rfl]; exact svc
  have k2 : e 2 = .clo 62 [] := by rw [hk 2 rfl]; exact svc
  have k15 : e 15 = m.lv := by rw [hk 15 rfl]; exact svc
  have k16 : e 16 = .flat (.int .i64 m.Z.length) := by rw [hk 16 rfl]; exact svc
  clear hk
  rcases Nat.lt_or_ge i m.Z.length with hlt | hlt
  · have hlt' : (i : Int) < m.Z.length := by omega
    have hlt2 : i < o.Z.length := by rw [← show m.Z.length = o.Z.length from hHl]; exact hlt
    have he : m.Z[i].pln = o.Z[i].pln := by
      have := congrArg (·[i]?) (show m.Z.map Lin.pln = o.Z.map Lin.pln from hH)
      simpa [hlt, hlt2] using this
    have hv1 := fun G => ((show Mach M m from hHm).row _ (List.getElem_mem hlt)).vw.ext G
    have hv2 := fun G => ((show Mach M o from hHo).row _ (List.getElem_mem hlt2)).vw.ext G
    have hr64 := (show Mach M m from hHm).rle _ (List.getElem_mem hlt)
    have h62 := fun G => t62 (a := m.Z[i].any) (hv1 G) (hv2 G) (congrArg PL.row he) (by omega) (congrArg PL.heard he)
    have han : m.Z[i].any = o.Z[i].any := congrArg PL.any he
    have hg1 := lins_at m.Z i hlt
    have hg2 := lins_at o.Z i hlt2
    have c1 : cellsOf m.Z[i].x = some [m.Z[i].x] := (hv1 []).cell
    have c2 : cellsOf o.Z[i].x = some [o.Z[i].x] := (hv2 []).cell
    rw [han] at hg1 h62
    clear he han hv1 hv2
    repeat' (first | ((with_reducible first | apply S_0 | apply S_q1 | apply S_g | apply S_c); exact sgc) | refine Stp.h ?_ | (with_reducible apply B_ne; focus decide) | ((with_reducible first | apply SC_d | apply SG_d | apply SG_n | apply SC_b | apply SG_b) <;> intro hc <;> try simp only [dq1, dq2, dq3, dq4, dq5] at hc))
    exact G_n (by exact svc) hlt ⟨_, by first | rfl | (simp only [List.append_assoc]; rfl)⟩
  · have hlt' : ¬ (i : Int) < m.Z.length := by omega
    repeat' (first | ((with_reducible first | apply S_0 | apply S_q1 | apply S_g | apply S_c); exact sgc) | refine Stp.h ?_ | (with_reducible apply B_ne; focus decide) | ((with_reducible first | apply SC_d | apply SG_d | apply SG_n | apply SC_b | apply SG_b) <;> intro hc <;> try simp only [dq1, dq2, dq3, dq4, dq5] at hc))
    (first | exact fincR | exact fincN)
theorem Vw.ms1 {m : MS} {id : Nat} {C : List Pth} {cd : Bool} (h : m[id]? = some (some (C.map Pth.av))) : Vw m (.ms id 0 C.length 1 cd) (C.map Pth.av) C.length := by
  refine ⟨rfl, fun G => ?_, rfl⟩
  simp only [view, get_grow h G, Nat.zero_add, List.drop_zero, Nat.mul_one]
  rw [if_pos (by simp), List.take_of_length_le (by simp)]
theorem t29 {m o : Mc} {M : MS} (hm : Mach M m) (ho : Mach M o) (hl : m.l = o.l) (hp : m.pm = o.pm) : ev pr 29 [.mptr m.id 0, .mptr o.id 0] M = some (.q (.flat (.bool true))) := by
  have hn : m.n = o.n := by have h1 := hm.may.2.2.1; have h2 := ho.may.2.2.1; rw [hl] at h1; omega
  have h60 := t60 m.n m.l m.nl m.cd o.nl o.cd M (by have := hm.small.1; omega)
  have h61 := t61 hm ho (congrArg PM.Z hp)
  have h63 := t63 (Vw.ms1 (cd := m.ccd) hm.cho) (Vw.ms1 (cd := o.ccd) ho.cho) (congrArg PM.C hp) (by rw [hm.clen]; have := hm.small.1; omega)
  have hb := hm.b
  have hc := ho.b
  have hi := get_lt hm.blk
  have hj := get_lt ho.blk
  rw [← hl, ← hn] at hc
  have cm := (hm.lvw []).2
  have co := (ho.lvw []).2
  clear hl hp hn hm ho
  refine ev_fn' A29 ?_
  repeat' (first | ((with_reducible first | apply S_0 | apply S_q1 | apply S_g | apply S_c); exact sgc) | refine Stp.h ?_ | (with_reducible apply B_ne; focus decide) | ((with_reducible first | apply SC_d | apply SG_d | apply SG_n | apply SC_b | apply SG_b) <;> intro hc <;> try simp only [dq1, dq2, dq3, dq4, dq5] at hc))
  (first | exact fincR | exact fincN)
theorem t29a {m : Mc} {M : MS} (hm : Mach M m) : ev pr 29 [.mptr m.id 0, .flat (.pointer none)] M = some (.q (.flat (.bool false))) := by
  have hb := hm.b
  have hi := get_lt hm.blk
  clear hm
  refine ev_fn' A29 ?_
  repeat' (first | ((with_reducible first | apply S_0 | apply S_q1 | apply S_g | apply S_c); exact sgc) | refine Stp.h ?_ | (with_reducible apply B_ne; focus decide) | ((with_reducible first | apply SC_d | apply SG_d | apply SG_n | apply SC_b | apply SG_b) <;> intro hc <;> try simp only [dq1, dq2, dq3, dq4, dq5] at hc))
  (first | exact fincR | exact fincN)
theorem t29b {m : Mc} {M : MS} (hm : Mach M m) : ev pr 29 [.flat (.pointer none), .mptr m.id 0] M = some (.q (.flat (.bool false))) := by
  have hb := hm.b
  have hi := get_lt hm.blk
  clear hm
  refine ev_fn' A29 ?_
  repeat' (first | ((with_reducible first | apply S_0 | apply S_q1 | apply S_g | apply S_c); exact sgc) | refine Stp.h ?_ | (with_reducible apply B_ne; focus decide) | ((with_reducible first | apply SC_d | apply SG_d | apply SG_n | apply SC_b | apply SG_b) <;> intro hc <;> try simp only [dq1, dq2, dq3, dq4, dq5] at hc))
  (first | exact fincR | exact fincN)
theorem t29n (M : MS) : ev pr 29 [.flat (.pointer none), .flat (.pointer none)] M = some (.q (.flat (.bool true))) := by
  refine ev_fn' A29 ?_
  repeat' (first | ((with_reducible first | apply S_0 | apply S_q1 | apply S_g | apply S_c); exact sgc) | refine Stp.h ?_ | (with_reducible apply B_ne; focus decide) | ((with_reducible first | apply SC_d | apply SG_d | apply SG_n | apply SC_b | apply SG_b) <;> intro hc <;> try simp only [dq1, dq2, dq3, dq4, dq5] at hc))
  (first | exact fincR | exact fincN)
theorem t36n (M : MS) : ev pr 36 [.flat (.pointer none)] M = some (.x (.flat (.pointer none)) M []) := by
  refine ev_fn' A36 ?_
  repeat' (first | ((with_reducible first | apply S_0 | apply S_q1 | apply S_g | apply S_c); exact sgc) | refine Stp.h ?_ | (with_reducible apply B_ne; focus decide) | ((with_reducible first | apply SC_d | apply SG_d | apply SG_n | apply SC_b | apply SG_b) <;> intro hc <;> try simp only [dq1, dq2, dq3, dq4, dq5] at hc))
  (first | exact fincR | exact fincN)
theorem t21n (i : Int) (M : MS) : ev pr 21 [.flat (.pointer none), .flat (.int .i64 i)] M = some (.q (.tup [.flat (.bool false), .flat (.int .i64 1)])) := by
  refine ev_fn' A21 ?_
  repeat' (first | ((with_reducible first | apply S_0 | apply S_q1 | apply S_g | apply S_c); exact sgc) | refine Stp.h ?_ | (with_reducible apply B_ne; focus decide) | ((with_reducible first | apply SC_d | apply SG_d | apply SG_n | apply SC_b | apply SG_b) <;> intro hc <;> try simp only [dq1, dq2, dq3, dq4, dq5] at hc))
  (first | exact fincR | exact fincN)
end Go.Proofs.Ytlcdafidoddefaa.Av
namespace Go.Proofs.Ytlcdafidoddefaa.Av
open Go.RowKit
set_option linter.unusedSimpArgs false
set_option linter.unusedVariables false
set_option maxHeartbeats 10000000
theorem app_e3 {base : Nat} {M : MS} {D : List Nat} {L : List Lin} (hm : 0 < L.length) (h1 : L.length ≤ 1099511627776) (h2 : L.length * 56 ≤ 140737488355328) :
    appA base M D 3 56 (.list 3 [] false true) L.length (linsA L) = some (.x (.ms M.length 0 L.length 3 false) (M ++ [some (linsA L)]) D) := by
  simp only [appA]
  rw [if_neg (by omega), if_pos ⟨.inr trivial, trivial, (lins_len L).symm, by simpa [LIM] using h1, by simpa using h2⟩]
  simp
attribute [go_sem] app_e3 Nat.zero_div Nat.zero_add List.length_nil
theorem t68 {z : Lin} {M : MS} (h : RowOk M z) (hl : z.row.length ≤ 1000) : (z.row = [] ∧ ∃ nl, ev pr 68 [z.x] M = some (.x (.list 1 [] nl true) M [])) ∨ (z.row ≠ [] ∧ ev pr 68 [z.x] M = some (.x (.ms M.length 0 z.row.length 1 false) (M ++ [some (z.row.map Pth.av)]) [])) := by
  by_cases hr : z.row = []
  · left
    refine ⟨hr, ?_⟩
    rcases h with ⟨nl, h1, h2⟩ | ⟨h1, _⟩
    · rw [h1, hr]
      cases nl with
      | true =>
        refine ⟨true, ev_fn' A68 ?_⟩
        clear h1 h2 hr
        repeat' (first | ((with_reducible first | apply S_0 | apply S_q1 | apply S_g | apply S_c); exact sgc) | refine Stp.h ?_ | (with_reducible apply B_ne; focus decide) | ((with_reducible first | apply SC_d | apply SG_d | apply SG_n | apply SC_b | apply SG_b) <;> intro hc <;> try simp only [dq1, dq2, dq3, dq4, dq5] at hc))
        (first | exact fincR | exact fincN)
      | false =>
        refine ⟨false, ev_fn' A68 ?_⟩
        clear h1 h2 hr
        repeat' (first | ((with_reducible first | apply S_0 | apply S_q1 | apply S_g | apply S_c); exact sgc) | refine Stp.h ?_ | (with_reducible apply B_ne; focus decide) | ((with_reducible first | apply SC_d | apply SG_d | apply SG_n | apply SC_b | apply SG_b) <;> intro hc <;> try simp only [dq1, dq2, dq3, dq4, dq5] at hc))
        (first | exact fincR | exact fincN)
    · exact absurd hr h1
  · right
    refine ⟨hr, ?_⟩
    have h0 : 0 < z.row.length := by
      rcases Nat.eq_zero_or_pos z.row.length with h | h
      · exact absurd (List.eq_nil_of_length_eq_zero h) hr
      · exact h
    have hv := h.vw
    have a0 := hv.v0
    have a1 := hv.len
    rcases h with ⟨nl, h1, h2⟩ | ⟨_, a, off, cd, cs, h1, h3, h4, h5, h6⟩
    · have hnl : nl = false := by
        cases nl with
        | false => rfl
        | true => exact absurd (h2 rfl) hr
      subst hnl
      rw [h1]
      clear a0 a1 hv h1 h2 hr
      refine ev_fn' A68 ?_
      repeat' (first | ((with_reducible first | apply S_0 | apply S_q1 | apply S_g | apply S_c); exact sgc) | refine Stp.h ?_ | (with_reducible apply B_ne; focus decide) | ((with_reducible first | apply SC_d | apply SG_d | apply SG_n | apply SC_b | apply SG_b) <;> intro hc <;> try simp only [dq1, dq2, dq3, dq4, dq5] at hc))
      (first | exact fincR | exact fincN)
    · rw [h1] at a0 a1 ⊢
      clear hv h1 h3 h4 h5 h6 hr
      refine ev_fn' A68 ?_
      repeat' (first | ((with_reducible first | apply S_0 | apply S_q1 | apply S_g | apply S_c); exact sgc) | refine Stp.h ?_ | (with_reducible apply B_ne; focus decide) | ((with_reducible first | apply SC_d | apply SG_d | apply SG_n | apply SC_b | apply SG_b) <;> intro hc <;> try simp only [dq1, dq2, dq3, dq4, dq5] at hc))
      (first | exact fincR | exact fincN)
theorem t67 {id : Nat} {C : List Pth} {cd : Bool} {M : MS} (h : M[id]? = some (some (C.map Pth.av))) (h0 : 0 < C.length) (hl : C.length ≤ 1000) : ev pr 67 [.ms id 0 C.length 1 cd] M = some (.x (.ms M.length 0 C.length 1 false) (M ++ [some (C.map Pth.av)]) []) := by
  have hv := Vw.ms1 (cd := cd) h
  have a0 := hv.v0
  have a1 := hv.len
  have hi := get_lt h
  clear hv
  refine ev_fn' A67 ?_
  repeat' (first | ((with_reducible first | apply S_0 | apply S_q1 | apply S_g | apply S_c); exact sgc) | refine Stp.h ?_ | (with_reducible apply B_ne; focus decide) | ((with_reducible first | apply SC_d | apply SG_d | apply SG_n | apply SC_b | apply SG_b) <;> intro hc <;> try simp only [dq1, dq2, dq3, dq4, dq5] at hc))
  (first | exact fincR | exact fincN)
theorem t66 {m : Mc} {M : MS} (h : Mach M m) : (m.Z = [] ∧ ∃ sz nl, ev pr 66 [m.lv] M = some (.x (.list sz [] nl true) M [])) ∨ (m.Z ≠ [] ∧ ev pr 66 [m.lv] M = some (.x (.ms M.length 0 m.Z.length 3 false) (M ++ [some (linsA m.Z)]) [])) := by
  have hle : m.Z.length ≤ 1000 := by rw [h.len]; exact h.lle
  have a0 := (h.lvw []).1
  rw [List.append_nil] at a0
  rcases h.lin with ⟨h1, sz, nl, cd, h2⟩ | ⟨h1, cd, h2, h3⟩
  · left
    refine ⟨h1, ?_⟩
    rw [h2]
    clear h h1 h2 a0
    cases nl with
    | true =>
      refine ⟨3, true, ev_fn' A66 ?_⟩
      repeat' (first | ((with_reducible first | apply S_0 | apply S_q1 | apply S_g | apply S_c); exact sgc) | refine Stp.h ?_ | (with_reducible apply B_ne; focus decide) | ((with_reducible first | apply SC_d | apply SG_d | apply SG_n | apply SC_b | apply SG_b) <;> intro hc <;> try simp only [dq1, dq2, dq3, dq4, dq5] at hc))
      (first | exact fincR | exact fincN)
    | false =>
      refine ⟨3, false, ev_fn' A66 ?_⟩
      repeat' (first | ((with_reducible first | apply S_0 | apply S_q1 | apply S_g | apply S_c); exact sgc) | refine Stp.h ?_ | (with_reducible apply B_ne; focus decide) | ((with_reducible first | apply SC_d | apply SG_d | apply SG_n | apply SC_b | apply SG_b) <;> intro hc <;> try simp only [dq1, dq2, dq3, dq4, dq5] at hc))
      (first | exact fincR | exact fincN)
  · right
    refine ⟨h1, ?_⟩
    have h0 : 0 < m.Z.length := by
      rcases Nat.eq_zero_or_pos m.Z.length with h | h
      · exact absurd (List.eq_nil_of_length_eq_zero h) h1
      · exact h
    rw [h2] at a0 ⊢
    have hi := get_lt h3
    clear h h1 h2 h3
    refine ev_fn' A66 ?_
    repeat' (first | ((with_reducible first | apply S_0 | apply S_q1 | apply S_g | apply S_c); exact sgc) | refine Stp.h ?_ | (with_reducible apply B_ne; focus decide) | ((with_reducible first | apply SC_d | apply SG_d | apply SG_n | apply SC_b | apply SG_b) <;> intro hc <;> try simp only [dq1, dq2, dq3, dq4, dq5] at hc))
    (first | exact fincR | exact fincN)
end Go.Proofs.Ytlcdafidoddefaa.Av
namespace Go.Proofs.Ytlcdafidoddefaa.Av
open Go.RowKit
set_option linter.unusedSimpArgs false
set_option linter.unusedVariables false
set_option maxHeartbeats 10000000
/-- A machine that begins as another one, in cells of its own. -/
def Mc.cpy (m : Mc) (c l k : Nat) (lv : AV) : Mc := ⟨c, m.mid, l, k, m.n, m.l, m.nl, m.cd, m.L, m.ne, m.ce, m.Z, lv, m.C, false⟩
theorem Mach.cpy {M N : MS} {m : Mc} (h : Mach M m) {c l k : Nat} {lv : AV} (hf : ∀ j, j < M.length → N[j]? = M[j]?) (hc : M.length ≤ c) (hl : M.length ≤ l) (hk : M.length ≤ k) (hcl : c ≠ l) (hck : c ≠ k) (hlk : l ≠ k)
    (b : N[c]? = some (some (m.cpy c l k lv).cells)) (bk : N[k]? = some (some (m.C.map Pth.av))) (bl : (m.Z = [] ∧ ∃ sz nl cd, lv = .list sz [] nl cd) ∨ (m.Z ≠ [] ∧ ∃ cd, lv = .ms l 0 m.Z.length 3 cd ∧ N[l]? = some (some (linsA m.Z)))) : Mach N (m.cpy c l k lv) := by
  have hm := get_lt h.map
  have hrid : ∀ z ∈ m.Z, ∀ a, rid z.x = some a → a < M.length := fun z hz a ha => (h.row z hz).rid_lt ha
  refine ⟨b, ?_, bk, bl, fun z hz => (h.row z hz).ext fun a ha => hf a (hrid z hz a ha), ?_, hcl, hck, ?_, ?_, hlk, fun z hz a ha => ?_, h.sep, h.len, h.clen, h.nd, h.lim, h.lle, h.nel, h.may, h.small, h.Leq, h.rle, h.csm, h.rsm⟩
  · show N[m.mid]? = _; rw [hf _ hm]; exact h.map
  · show c ≠ m.mid; omega
  · show m.mid ≠ l; omega
  · show m.mid ≠ k; omega
  · have := hrid z hz a ha
    have := (h.rds z hz a ha).2.1
    exact ⟨by show a ≠ c; omega, this, by show a ≠ l; omega, by show a ≠ k; omega⟩
/-- What a copy is. -/
structure Cpd (M N : MS) (m m' : Mc) : Prop where
  mach : Mach N m'
  len : M.length ≤ N.length
  fr : ∀ j, j < M.length → N[j]? = M[j]?
  own : ∀ j, m'.own j → M.length ≤ j
  mid : m'.mid = m.mid
  l : m'.l = m.l
  pm : m'.pm = m.pm
theorem t36 (m : Mc) (M : MS) (h : Mach M m) : ∃ out, ev pr 36 [.mptr m.id 0] M = some out ∧ ∃ N m', out = .x (.mptr m'.id 0) N [] ∧ Cpd M N m m' := by
  have hb := h.b
  have hid := get_lt h.blk
  have h66 := t66 h
  have hC0 : 0 < m.C.length := by rw [h.clen]; have := h.may.1; have := h.may.2.2.1; omega
  have hC1 : m.C.length ≤ 1000 := by rw [h.clen]; have := h.small.1; omega
  have hll := (h.lvw []).2
  have hlvl := h.lvl
  have hH : Hid (Mach M m) := h
  rcases h66 with ⟨hz, sz, nl, h66⟩ | ⟨hz, h66⟩
  · have h67 := t67 (M := M) (cd := m.ccd) h.cho hC0 hC1
    have hz0 : m.Z.length = 0 := by rw [hz]; rfl
    rw [hz0] at hlvl
    have hHz : Hid (m.Z = []) := hz
    clear h hz hz0
    refine ev_fnE A36 ?_
    repeat' (first | ((with_reducible first | apply S_0 | apply S_q1 | apply S_g | apply S_c); exact sgc) | refine Stp.h ?_ | (with_reducible apply B_ne; focus decide) | ((with_reducible first | apply SC_d | apply SG_d | apply SG_n | apply SC_b | apply SG_b) <;> intro hc <;> try simp only [dq1, dq2, dq3, dq4, dq5] at hc))
    refine W_regionF0 (M.length + 1) ?_ ?_
    · (try simp only [List.take_succ_cons, List.take_zero, List.drop_succ_cons, List.drop_zero]; repeat (first | (with_reducible apply WH_nil) | ((with_reducible apply WH_q); (focus rfl); (focus rfl); focus (exact whc)) | ((with_reducible apply WH_cq); (focus rfl); focus (exact whc)) | ((with_reducible apply WH_cx); (focus rfl); focus (exact whc)) | ((with_reducible apply WH_f); (focus rfl); focus (exact whc)) | ((with_reducible apply WH_k); (focus rfl); focus (exact whc))))
      exact ⟨rfl, by simp⟩
    · (try simp only [List.take_succ_cons, List.take_zero, List.drop_succ_cons, List.drop_zero]; repeat (first | (with_reducible apply WH_nil) | ((with_reducible apply WH_q); (focus rfl); (focus rfl); focus (exact whc)) | ((with_reducible apply WH_cq); (focus rfl); focus (exact whc)) | ((with_reducible apply WH_cx); (focus rfl); focus (exact whc)) | ((with_reducible apply WH_f); (focus rfl); focus (exact whc)) | ((with_reducible apply WH_k); (focus rfl); focus (exact whc))))
      refine ⟨rfl, by simp, ?_⟩
      rw [List.append_nil]
      clear h66 h67
      repeat' (first | ((with_reducible first | apply S_0 | apply S_q1 | apply S_g | apply S_c); exact sgc) | refine Stp.h ?_ | (with_reducible apply B_ne; focus decide) | ((with_reducible first | apply SC_d | apply SG_d | apply SG_n | apply SC_b | apply SG_b) <;> intro hc <;> try simp only [dq1, dq2, dq3, dq4, dq5] at hc))
      refine W_rng 36 0 0 (fun i e => True) (by simp only [asg, asgO, List.append_nil, List.nil_append, List.cons_append]; rfl) (by exact svc) (by omega) trivial ?_
      rintro i e _ hi hk e36 _
      obtain rfl : i = 0 := by omega
      have k35 : e 35 = .flat (.int .i64 0) := by rw [hk 35 rfl]; exact svc
      have k3 : e 3 = .mptr (M.length + 1) 0 := by rw [hk 3 rfl]; exact svc
      clear hk hb hll hlvl
      repeat' (first | ((with_reducible first | apply S_0 | apply S_q1 | apply S_g | apply S_c); exact sgc) | refine Stp.h ?_ | (with_reducible apply B_ne; focus decide) | ((with_reducible first | apply SC_d | apply SG_d | apply SG_n | apply SC_b | apply SG_b) <;> intro hc <;> try simp only [dq1, dq2, dq3, dq4, dq5] at hc))
      (refine ⟨by first | exact .inr rfl | exact .inl rfl, ?_⟩; simp (disch := first | assumption | decide | omega | exact Pth.le _ | exact Rks.le _ | exact List.getElem_mem _ | exact allI_ints _ | exact allI_rks _ | exact allI_pths _ | exact Pth.nil _ | exact Rks.nil _ | (intro hh; simp only [Pth.nil _ hh, List.take_nil, List.drop_nil]; done) | (intro hh; simp only [Rks.nil _ hh, List.take_nil, List.drop_nil]; done) | (simp only [List.length_take, List.length_drop, List.length_append, List.length_cons, List.length_nil, List.length_replicate, List.length_map, ints_len]; omega)) only [resA, rvA, tupA, Option.bind_some, go_sem, if_pos, if_neg, Nat.reduceBEq, Nat.reduceEqDiff, ↓reduceIte, Nat.reduceSub, Nat.reduceAdd, Int.reduceToNat, reduceCtorEq, Nat.reduceLeDiff, Nat.reduceLT, Nat.reduceMul, Nat.reduceDiv, Int.reduceLT, Int.reduceLE, Int.reduceEq, Int.reduceNe, Int.reduceAdd, Int.reduceSub, Int.reduceNeg, Int.reduceGT, Int.reduceGE, Int.reduceBEq, Int.reduceBNe, Int.reduceMul, *])
      have h : Mach M m := hH
      have hz : m.Z = [] := hHz
      refine ⟨_, rfl, _, m.cpy (M.length + 1) (M.length + 2) M.length (.list sz [] nl true), rfl, ?_, by simp, fun j hj => by rw [List.getElem?_append_left hj], ?_, rfl, rfl, rfl⟩
      · refine h.cpy (fun j hj => by rw [List.getElem?_append_left hj]) (by omega) (by omega) (by omega) (by omega) (by omega) (by omega) (by simp [Mc.cells, Mc.cpy]) (by simp) (.inl ⟨hz, sz, nl, true, rfl⟩)
      · intro j hj
        rcases hj with h1 | ⟨h1, _⟩ | h1 | ⟨z, h1, _⟩
        · simp only [Mc.cpy] at h1; omega
        · exact absurd hz h1
        · simp only [Mc.cpy] at h1; omega
        · have h1' : z ∈ m.Z := h1
          rw [hz] at h1'; simp at h1'
  · have h67 := t67 (M := M ++ [some (linsA m.Z)]) (cd := m.ccd) (get_grow h.cho _) hC0 hC1
    have hb2 := get_grow h.b [some (linsA m.Z)]
    have hHz : Hid (m.Z ≠ []) := hz
    have hZ1000 : m.Z.length ≤ 1000 := by rw [h.len]; exact h.lle
    clear h hz
    refine ev_fnE A36 ?_
    repeat' (first | ((with_reducible first | apply S_0 | apply S_q1 | apply S_g | apply S_c); exact sgc) | refine Stp.h ?_ | (with_reducible apply B_ne; focus decide) | ((with_reducible first | apply SC_d | apply SG_d | apply SG_n | apply SC_b | apply SG_b) <;> intro hc <;> try simp only [dq1, dq2, dq3, dq4, dq5] at hc))
    refine W_regionF0 (M.length + 2) ?_ ?_
    · (try simp only [List.take_succ_cons, List.take_zero, List.drop_succ_cons, List.drop_zero]; repeat (first | (with_reducible apply WH_nil) | ((with_reducible apply WH_q); (focus rfl); (focus rfl); focus (exact whc)) | ((with_reducible apply WH_cq); (focus rfl); focus (exact whc)) | ((with_reducible apply WH_cx); (focus rfl); focus (exact whc)) | ((with_reducible apply WH_f); (focus rfl); focus (exact whc)) | ((with_reducible apply WH_k); (focus rfl); focus (exact whc))))
      exact ⟨rfl, by simp⟩
    · (try simp only [List.take_succ_cons, List.take_zero, List.drop_succ_cons, List.drop_zero]; repeat (first | (with_reducible apply WH_nil) | ((with_reducible apply WH_q); (focus rfl); (focus rfl); focus (exact whc)) | ((with_reducible apply WH_cq); (focus rfl); focus (exact whc)) | ((with_reducible apply WH_cx); (focus rfl); focus (exact whc)) | ((with_reducible apply WH_f); (focus rfl); focus (exact whc)) | ((with_reducible apply WH_k); (focus rfl); focus (exact whc))))
      refine ⟨rfl, by simp, ?_⟩
      rw [List.append_nil]
      clear h66 h67 hb2
      repeat' (first | ((with_reducible first | apply S_0 | apply S_q1 | apply S_g | apply S_c); exact sgc) | refine Stp.h ?_ | (with_reducible apply B_ne; focus decide) | ((with_reducible first | apply SC_d | apply SG_d | apply SG_n | apply SC_b | apply SG_b) <;> intro hc <;> try simp only [dq1, dq2, dq3, dq4, dq5] at hc))
      obtain ⟨mi, hmi⟩ : ∃ mi, mi = m.cpy (M.length + 2) M.length (M.length + 1) (.ms M.length 0 m.Z.length 3 false) := ⟨_, rfl⟩
      have hni : Mach (M ++ [some (linsA m.Z), some (m.C.map Pth.av), some [.flat (.int .i64 m.n), .list 1 (m.l.map Rks.av) m.nl m.cd, .list 2 (cells2 m.L) m.ne m.ce, .mp m.mid, .ms M.length 0 m.Z.length 3 false, .ms (M.length + 1) 0 m.C.length 1 false]]) mi := by
        rw [hmi]
        exact (show Mach M m from hH).cpy (fun j hj => by rw [List.getElem?_append_left hj]) (by omega) (by omega) (by omega) (by omega) (by omega) (by omega) (by simp [Mc.cells, Mc.cpy]) (by simp) (.inr ⟨hHz, false, rfl, by simp⟩)
      have hmid : mi.mid = m.mid := by rw [hmi]; rfl
      have hmZ : mi.Z = m.Z := by rw [hmi]; rfl
      have hmI : mi.id = M.length + 2 := by rw [hmi]; rfl
      have hmL : mi.lid = M.length := by rw [hmi]; rfl
      have hmC : mi.cid = M.length + 1 := by rw [hmi]; rfl
      have hmv : mi.lv = .ms M.length 0 m.Z.length 3 false := by rw [hmi]; rfl
      have hml : mi.l = m.l := by rw [hmi]; rfl
      have hmc : mi.C = m.C := by rw [hmi]; rfl
      clear hmi
      refine W_rngM 36 0 m.Z.length (fun i e mm => ∃ mk : Mc, Mach mm mk ∧ mk = {mi with Z := mk.Z} ∧ mk.Z.map Lin.pln = m.Z.map Lin.pln ∧ (∀ j, j < M.length → mm[j]? = M[j]?) ∧ M.length + 3 ≤ mm.length ∧ (∀ (j : Nat) (hj : j < mk.Z.length), j < i → ∀ a, rid mk.Z[j].x = some a → M.length ≤ a)) (by simp only [asg, asgO, List.append_nil, List.nil_append, List.cons_append]; rfl) (by exact svc) (by omega)
        ⟨mi, hni, rfl, by rw [hmZ], fun j hj => by rw [List.getElem?_append_left hj], by simp, fun j _ hj => by omega⟩ ?_
      clear hni
      rintro i e mm _ hi hk e36 ⟨mk, hmk, hme, hmp, hfr, hln, hown⟩
      have k3 : e 3 = .mptr (M.length + 2) 0 := by rw [hk 3 rfl]; exact svc
      have k35 : e 35 = .flat (.int .i64 m.Z.length) := by rw [hk 35 rfl]; exact svc
      clear hk hb
      have hme2 : ∀ Z', ({mk with Z := Z'} : Mc) = {mi with Z := Z'} := fun Z' => by rw [hme]
      have s1 : mk.id = M.length + 2 := by rw [hme]; exact hmI
      have s2 : mk.lid = M.length := by rw [hme]; exact hmL
      have s3 : mk.cid = M.length + 1 := by rw [hme]; exact hmC
      have s4 : mk.lv = .ms M.length 0 m.Z.length 3 false := by rw [hme]; exact hmv
      have s5 : mk.mid = m.mid := by rw [hme]; exact hmid
      have hZl : mk.Z.length = m.Z.length := by have := congrArg List.length hmp; simpa using this
      rcases Nat.lt_or_ge i m.Z.length with hlt | hlt
      · have hlt' : (i : Int) < m.Z.length := by omega
        have hkz : i < mk.Z.length := by omega
        have hbk := hmk.b
        obtain ⟨_, _, hlk⟩ := hmk.ln hkz
        rw [s1, s4] at hbk
        rw [s2] at hlk
        have hrow := hmk.row _ (List.getElem_mem hkz)
        have hr64 := hmk.rle _ (List.getElem_mem hkz)
        have hsm := hmk.rsm _ (List.getElem_mem hkz)
        have h68 := t68 hrow (by omega)
        have htz : List.take m.Z.length mk.Z = mk.Z := List.take_of_length_le (by omega)
        have hxc := hrow.vw.cell
        have hstep : ∀ (m1 : MS) (x' : AV), m1[M.length]? = some (some (splice (linsA mk.Z) (i * 3) [x'])) → (∀ j, j < mm.length → j ≠ M.length → m1[j]? = mm[j]?) → mm.length ≤ m1.length → RowOk m1 ⟨x', mk.Z[i].row, mk.Z[i].heard, mk.Z[i].any⟩ → (∀ a, rid x' = some a → mm.length ≤ a) →
            ∃ mk : Mc, Mach m1 mk ∧ mk = {mi with Z := mk.Z} ∧ mk.Z.map Lin.pln = m.Z.map Lin.pln ∧ (∀ j, j < M.length → m1[j]? = M[j]?) ∧ M.length + 3 ≤ m1.length ∧ (∀ (j : Nat) (hj : j < mk.Z.length), j < i + 1 → ∀ a, rid mk.Z[j].x = some a → M.length ≤ a) := by
          intro m1 x' g1 f1 l1 r1 n1
          rw [splice_lins1 hkz x' mk.Z[i].row] at g1
          have hM1 := hmk.setZ (M' := m1) hkz (z' := ⟨x', mk.Z[i].row, mk.Z[i].heard, mk.Z[i].any⟩) (by rw [s2]; exact g1) (fun j h1 h2 _ => f1 j h1 (by rw [← s2]; exact h2)) r1 hr64 hsm (fun a ha => .inr (n1 a ha))
          refine ⟨_, hM1, ?_, ?_, fun j hj => ?_, by omega, fun j hj hji a ha => ?_⟩
          · exact hme2 _
          · show (mk.Z.set i _).map Lin.pln = _
            rw [← hmp, set_pln]
            refine List.ext_getElem? fun j => ?_
            by_cases hj : i = j
            · subst hj
              rw [List.getElem?_set_self (by simpa using hkz)]
              simp [hkz, Lin.pln]
            · rw [List.getElem?_set_ne hj]
          · rw [f1 j (by omega) (by omega)]; exact hfr j hj
          · have hj' : j < mk.Z.length := by
              have : j < (mk.Z.set i ⟨x', mk.Z[i].row, mk.Z[i].heard, mk.Z[i].any⟩).length := hj
              simpa using this
            have ha' : rid ((mk.Z.set i ⟨x', mk.Z[i].row, mk.Z[i].heard, mk.Z[i].any⟩)[j]'hj).x = some a := ha
            rw [List.getElem_set] at ha'
            split at ha'
            · have := n1 a ha'; omega
            · rename_i hne
              exact hown j hj' (by omega) a ha'
        have hHs : Hid _ := hstep
        have hHrow : Hid (RowOk mm mk.Z[i]) := hrow
        clear hmk hme hme2 hmp hfr hown hrow hsm hstep s1 s2 s3 s4 s5
        rcases h68 with ⟨hr, nl, h68⟩ | ⟨hr, h68⟩
        · have hHr : Hid (mk.Z[i].row = []) := hr
          clear hr
          repeat' (first | ((with_reducible first | apply S_0 | apply S_q1 | apply S_g | apply S_c); exact sgc) | refine Stp.h ?_ | (with_reducible apply B_ne; focus decide) | ((with_reducible first | apply SC_d | apply SG_d | apply SG_n | apply SC_b | apply SG_b) <;> intro hc <;> try simp only [dq1, dq2, dq3, dq4, dq5] at hc))
          refine W_regionF0 mm.length ?_ ?_
          · (try simp only [List.take_succ_cons, List.take_zero, List.drop_succ_cons, List.drop_zero]; repeat (first | (with_reducible apply WH_nil) | ((with_reducible apply WH_q); (focus rfl); (focus rfl); focus (exact whc)) | ((with_reducible apply WH_cq); (focus rfl); focus (exact whc)) | ((with_reducible apply WH_cx); (focus rfl); focus (exact whc)) | ((with_reducible apply WH_f); (focus rfl); focus (exact whc)) | ((with_reducible apply WH_k); (focus rfl); focus (exact whc))))
            exact ⟨rfl, rfl⟩
          · (try simp only [List.take_succ_cons, List.take_zero, List.drop_succ_cons, List.drop_zero]; repeat (first | (with_reducible apply WH_nil) | ((with_reducible apply WH_q); (focus rfl); (focus rfl); focus (exact whc)) | ((with_reducible apply WH_cq); (focus rfl); focus (exact whc)) | ((with_reducible apply WH_cx); (focus rfl); focus (exact whc)) | ((with_reducible apply WH_f); (focus rfl); focus (exact whc)) | ((with_reducible apply WH_k); (focus rfl); focus (exact whc))))
            refine ⟨rfl, rfl, ?_⟩
            rw [List.append_nil]
            repeat' (first | ((with_reducible first | apply S_0 | apply S_q1 | apply S_g | apply S_c); exact sgc) | refine Stp.h ?_ | (with_reducible apply B_ne; focus decide) | ((with_reducible first | apply SC_d | apply SG_d | apply SG_n | apply SC_b | apply SG_b) <;> intro hc <;> try simp only [dq1, dq2, dq3, dq4, dq5] at hc))
            refine S_KE (id := M.length) (off := 0) (len := m.Z.length) (sz := 3) (k := i * 3) (cd := false) (cs := [.list 1 [] nl true]) (old := linsA mk.Z) (by exact svc) (by exact svc) rfl hlk (by omega) (by rw [lins_len]; omega) ?_
            intro m1 l1 g1 f1
            rw [Nat.zero_add] at g1
            have hdd : dirt M.length M.length [] = [] := by unfold dirt; rw [if_neg (by omega)]
            rw [hdd]
            have hfin := (show ∀ (m1 : MS) (x' : AV), _ from hHs) m1 _ g1 (fun j h1 h2 => f1 j h2) (by omega) (.inl ⟨nl, by rw [show mk.Z[i].row = [] from hHr]; rfl, fun _ => hHr⟩) (fun a ha => by cases ha)
            have hHfin : Hid _ := hfin
            clear hfin g1 f1 hHs
            repeat' (first | ((with_reducible first | apply S_0 | apply S_q1 | apply S_g | apply S_c); exact sgc) | refine Stp.h ?_ | (with_reducible apply B_ne; focus decide) | ((with_reducible first | apply SC_d | apply SG_d | apply SG_n | apply SC_b | apply SG_b) <;> intro hc <;> try simp only [dq1, dq2, dq3, dq4, dq5] at hc))
            exact G_n (by exact svc) hlt hHfin
        · have hHr : Hid (mk.Z[i].row ≠ []) := hr
          clear hr
          repeat' (first | ((with_reducible first | apply S_0 | apply S_q1 | apply S_g | apply S_c); exact sgc) | refine Stp.h ?_ | (with_reducible apply B_ne; focus decide) | ((with_reducible first | apply SC_d | apply SG_d | apply SG_n | apply SC_b | apply SG_b) <;> intro hc <;> try simp only [dq1, dq2, dq3, dq4, dq5] at hc))
          refine W_regionF0 (mm.length + 1) ?_ ?_
          · (try simp only [List.take_succ_cons, List.take_zero, List.drop_succ_cons, List.drop_zero]; repeat (first | (with_reducible apply WH_nil) | ((with_reducible apply WH_q); (focus rfl); (focus rfl); focus (exact whc)) | ((with_reducible apply WH_cq); (focus rfl); focus (exact whc)) | ((with_reducible apply WH_cx); (focus rfl); focus (exact whc)) | ((with_reducible apply WH_f); (focus rfl); focus (exact whc)) | ((with_reducible apply WH_k); (focus rfl); focus (exact whc))))
            exact ⟨rfl, by simp⟩
          · (try simp only [List.take_succ_cons, List.take_zero, List.drop_succ_cons, List.drop_zero]; repeat (first | (with_reducible apply WH_nil) | ((with_reducible apply WH_q); (focus rfl); (focus rfl); focus (exact whc)) | ((with_reducible apply WH_cq); (focus rfl); focus (exact whc)) | ((with_reducible apply WH_cx); (focus rfl); focus (exact whc)) | ((with_reducible apply WH_f); (focus rfl); focus (exact whc)) | ((with_reducible apply WH_k); (focus rfl); focus (exact whc))))
            refine ⟨rfl, by simp, ?_⟩
            rw [List.append_nil]
            have hlk2 := get_grow hlk [some (mk.Z[i].row.map Pth.av)]
            have hbk2 := get_grow hbk [some (mk.Z[i].row.map Pth.av)]
            repeat' (first | ((with_reducible first | apply S_0 | apply S_q1 | apply S_g | apply S_c); exact sgc) | refine Stp.h ?_ | (with_reducible apply B_ne; focus decide) | ((with_reducible first | apply SC_d | apply SG_d | apply SG_n | apply SC_b | apply SG_b) <;> intro hc <;> try simp only [dq1, dq2, dq3, dq4, dq5] at hc))
            refine S_KE (id := M.length) (off := 0) (len := m.Z.length) (sz := 3) (k := i * 3) (cd := false) (cs := [.ms mm.length 0 mk.Z[i].row.length 1 false]) (old := linsA mk.Z) (by exact svc) (by exact svc) rfl hlk2 (by omega) (by rw [lins_len]; omega) ?_
            intro m1 l1 g1 f1
            rw [Nat.zero_add] at g1
            have hdd : dirt M.length M.length [] = [] := by unfold dirt; rw [if_neg (by omega)]
            rw [hdd]
            have hnew : m1[mm.length]? = some (some (mk.Z[i].row.map Pth.av)) := by rw [f1 _ (by omega)]; simp
            have hfin := (show ∀ (m1 : MS) (x' : AV), _ from hHs) m1 _ g1 (fun j h1 h2 => by rw [f1 j h2, List.getElem?_append_left h1]) (by rw [l1]; simp) (.inr ⟨hHr, mm.length, 0, false, mk.Z[i].row.map Pth.av, rfl, hnew, by simp, by rw [List.drop_zero, List.take_of_length_le (by simp)], .inr rfl⟩) (fun a ha => by have : mm.length = a := Option.some.inj ha; omega)
            have hHfin : Hid _ := hfin
            clear hfin g1 f1 hHs hlk2 hbk2 hnew
            repeat' (first | ((with_reducible first | apply S_0 | apply S_q1 | apply S_g | apply S_c); exact sgc) | refine Stp.h ?_ | (with_reducible apply B_ne; focus decide) | ((with_reducible first | apply SC_d | apply SG_d | apply SG_n | apply SC_b | apply SG_b) <;> intro hc <;> try simp only [dq1, dq2, dq3, dq4, dq5] at hc))
            exact G_n (by exact svc) hlt hHfin
      · have hlt' : ¬ (i : Int) < m.Z.length := by omega
        have hend : ∃ out, (some (Out.x (.mptr (M.length + 2) 0) mm []) : Option Out) = some out ∧ ∃ N m', out = .x (.mptr m'.id 0) N [] ∧ Cpd M N m m' := by
          refine ⟨_, rfl, mm, mk, by rw [s1], hmk, by omega, hfr, ?_, s5, by rw [hme]; exact hml, ?_⟩
          · intro j hj
            rcases hj with h1 | ⟨h1, h2⟩ | h1 | ⟨z, h1, h2⟩
            · omega
            · omega
            · omega
            · obtain ⟨q, hq, rfl⟩ := List.getElem_of_mem h1
              exact hown q hq (by omega) j h2
          · show (⟨mk.Z.map Lin.pln, pl mk.C⟩ : PM) = ⟨m.Z.map Lin.pln, pl m.C⟩
            rw [hmp, show mk.C = m.C by rw [hme]; exact hmc]
        have hHend : Hid _ := hend
        clear hmk hme hme2 hmp hfr hown hend s1 s2 s3 s4 s5
        repeat' (first | ((with_reducible first | apply S_0 | apply S_q1 | apply S_g | apply S_c); exact sgc) | refine Stp.h ?_ | (with_reducible apply B_ne; focus decide) | ((with_reducible first | apply SC_d | apply SG_d | apply SG_n | apply SC_b | apply SG_b) <;> intro hc <;> try simp only [dq1, dq2, dq3, dq4, dq5] at hc))
        (refine ⟨by first | exact .inr rfl | exact .inl rfl, ?_⟩; simp (disch := first | assumption | decide | omega | exact Pth.le _ | exact Rks.le _ | exact List.getElem_mem _ | exact allI_ints _ | exact allI_rks _ | exact allI_pths _ | exact Pth.nil _ | exact Rks.nil _ | (intro hh; simp only [Pth.nil _ hh, List.take_nil, List.drop_nil]; done) | (intro hh; simp only [Rks.nil _ hh, List.take_nil, List.drop_nil]; done) | (simp only [List.length_take, List.length_drop, List.length_append, List.length_cons, List.length_nil, List.length_replicate, List.length_map, ints_len]; omega)) only [resA, rvA, tupA, Option.bind_some, go_sem, if_pos, if_neg, Nat.reduceBEq, Nat.reduceEqDiff, ↓reduceIte, Nat.reduceSub, Nat.reduceAdd, Int.reduceToNat, reduceCtorEq, Nat.reduceLeDiff, Nat.reduceLT, Nat.reduceMul, Nat.reduceDiv, Int.reduceLT, Int.reduceLE, Int.reduceEq, Int.reduceNe, Int.reduceAdd, Int.reduceSub, Int.reduceNeg, Int.reduceGT, Int.reduceGE, Int.reduceBEq, Int.reduceBNe, Int.reduceMul, *])
        exact hHend
end Go.Proofs.Ytlcdafidoddefaa.Av
namespace Go.Proofs.Ytlcdafidoddefaa.Av
open Go.RowKit
set_option linter.unusedSimpArgs false
set_option linter.unusedVariables false
/-- What some deliveries do. -/
structure Dn (M M' : MS) (m m' : Mc) : Prop where
  mach : Mach M' m'
  same : m' = {m with Z := m'.Z, C := m'.C}
  len : M.length ≤ M'.length
  fr : ∀ j, j < M.length → ¬ m.own j → M'[j]? = M[j]?
  own : ∀ j, m'.own j → m.own j ∨ M.length ≤ j
theorem Dn.refl {M : MS} {m : Mc} (h : Mach M m) : Dn M M m m := ⟨h, rfl, Nat.le_refl _, fun _ _ _ => rfl, fun _ h => .inl h⟩
theorem Dn.sid {M M' : MS} {m m' : Mc} (h : Dn M M' m m') : m'.id = m.id ∧ m'.mid = m.mid ∧ m'.l = m.l ∧ m'.L = m.L := by
  rw [h.same]; exact ⟨rfl, rfl, rfl, rfl⟩
theorem Dn.step {M M' M'' : MS} {m m' m'' : Mc} {D : List Nat} (h : Dn M M' m m') (hd : Dr M' M'' m' m'' D) : Dn M M'' m m'' := by
  have h1 := h.len
  have h2 := hd.len
  refine ⟨hd.mach, ?_, by omega, fun j hj ho => ?_, fun j hj => ?_⟩
  · have h3 := hd.same
    rw [h3]
    have h4 := h.same
    show ({m' with Z := m''.Z, C := m''.C} : Mc) = {m with Z := m''.Z, C := m''.C}
    rw [h4]
  · rw [hd.fr j (by omega) fun h5 => by rcases h.own j h5 with h6 | h6; exact ho h6; omega]
    exact h.fr j hj ho
  · rcases hd.own j hj with h5 | h5
    · exact h.own j h5
    · right; omega
theorem Mach.ownlt {M : MS} {m : Mc} (h : Mach M m) {j : Nat} (hj : m.own j) : j < M.length := by
  rcases hj with rfl | ⟨hz, rfl⟩ | rfl | ⟨z, hz, ha⟩
  · exact get_lt h.blk
  · exact h.lidlt hz
  · exact get_lt h.cho
  · exact (h.row z hz).rid_lt ha
theorem Mach.keep {M N : MS} {m : Mc} (h : Mach M m) (hf : ∀ j, j < M.length → N[j]? = M[j]?) : Mach N m := h.ext (hf _ (get_lt h.map)) fun j hj => hf j (h.ownlt hj)
theorem Mach.nomid {M : MS} {m : Mc} (h : Mach M m) : ¬ m.own m.mid := by
  rintro (h1 | ⟨_, h1⟩ | h1 | ⟨z, hz, ha⟩)
  · exact h.i1 h1.symm
  · exact h.i4 h1
  · exact h.i5 h1
  · exact (h.rds z hz _ ha).2.1 rfl
/-- Another machine stays. -/
theorem Dn.other {M M' : MS} {m m' o : Mc} (h : Dn M M' m m') (ho : Mach M o) (hd : ∀ j, o.own j → ¬ m.own j) (hm : ¬ m.own o.mid) : Mach M' o :=
  ho.ext (h.fr _ (get_lt ho.map) hm) fun j hj => h.fr j (ho.ownlt hj) (hd j hj)
theorem Dn.run {M M' M'' : MS} {m m' m'' : Mc} {D : List Nat} {X : List (List (List Int))} {ps : List Int} {i : Nat} (hX : plX m.l = X) (h : Dn M M' m m') (hp : m'.pm = dlvs X m.L m.pm (ps.take i)) (hi : i < ps.length) (hd : Dr M' M'' m' m'' D) (hpm : m''.pm = (dlv (plX m'.l) m'.L m'.pm ps[i]).1) : m''.pm = dlvs X m.L m.pm (ps.take (i + 1)) := by
  obtain ⟨_, _, s3, s4⟩ := h.sid
  rw [hpm, s3, s4, hX, hp, List.take_succ_eq_append_getElem hi, dlvs_snoc]
end Go.Proofs.Ytlcdafidoddefaa.Av
