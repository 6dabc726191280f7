/- All stable states. -/
import Derived.Test.YtopiaiibpacmlaaX10
import Derived.Test.YtopiaiibpacmlaaX11
namespace Go.Proofs.Ytopiaiibpacmlaa.Av
open Go.RowKit
set_option linter.unusedSimpArgs false
set_option linter.unusedVariables false
set_option maxHeartbeats 10000000
theorem evX_len (L : In) (s ps : List Pa) (R : List (List Pa)) : (evX L s ps R).length ≤ ps.length * (prodL R).length := by
  refine Nat.le_trans (List.length_filter_le _ _) ?_
  rw [List.length_map]
  induction ps with
  | nil => simp
  | cons p ps ih => rw [List.flatMap_cons, List.length_append, List.length_map, List.length_cons, Nat.add_mul, Nat.one_mul]; omega
theorem pl_snoc (s : List Pth) (p : Pth) : pl (s ++ [p]) = pl s ++ [p.l] := by simp [pl]
def nlP : Pth := ⟨[], true, true, fun _ => ⟨rfl, rfl⟩, by simp⟩
theorem own_sv {lo : Nat} {m : MS} {x : AV} {s : List Pth} (h : Own lo m x 1 (s.map Pth.av)) (hs : 1 ≤ s.length) : SV m x s ∧ ∃ id, idOf x = some id ∧ lo ≤ id := by
  obtain ⟨_, _, _, ⟨h1, _⟩ | ⟨_, id, h2, h3, rfl, h5⟩⟩ := h
  · rw [List.map_eq_nil_iff] at h1; subst h1; simp at hs
  · exact ⟨.inr ⟨id, h3, by simp, h5⟩, id, rfl, h2⟩
theorem t81 {l : List Rks} {nl cd : Bool} (hX : MayX l.length l) (hS : SmallX l) : ∀ (r : Nat) {M : MS} {sv fv : AV} {s : List Pth} {fs : List Sta}, s.length + r = l.length → 1 ≤ s.length → (∀ h : 0 < s.length, s[0].l = [0]) → SV M sv s → SRow M fv (fs.map Sta.av) → (∀ i, idOf sv = some i → idOf fv ≠ some i) →
    fs.length + (prodL ((plX l).drop s.length)).length ≤ 3000 →
    ∃ out, ev pr 81 [.agg [.flat (.int .i64 l.length), .list 1 (l.map Rks.av) nl cd], sv, fv] M = some out ∧ ∃ (w : AV) (M' : MS) (D : List Nat) (fs' : List Sta), out = .x w M' D ∧ SRow M' w (fs'.map Sta.av) ∧
      fs'.map Sta.l = fs.map Sta.l ++ ((prodL ((plX l).drop s.length)).map (pl s ++ ·)).filter (fun t => decide (StabP (plX l) t)) ∧ M.length ≤ M'.length ∧ (∀ i, i < M.length → some i ≠ idOf sv → some i ≠ idOf fv → M'[i]? = M[i]?) ∧
      (∀ i ∈ D, i < M.length → some i = idOf sv ∨ some i = idOf fv) ∧ (∀ id, idOf w = some id → idOf fv = some id ∨ M.length ≤ id)
  | 0, M, sv, fv, s, fs, hr, hs1, hs0, hsv, hfv, hne, hb => by
    have hsl : s.length = l.length := by omega
    have h45 := t45 (nl := nl) (cd := cd) (hsv.vw.ext [some [.flat (.int .i64 l.length), .list 1 (l.map Rks.av) nl cd]]) hX hS hsl hs0
    have hlen := hsv.len
    have hcell := hsv.cell
    have h12 := hS.1
    have hvw := hsv.vw.vw
    have hdrop : (plX l).drop s.length = [] := List.drop_of_length_le (by rw [plX_len]; omega)
    rw [hdrop] at hb ⊢
    have hslZ : (s.length : Int) = l.length := by omega
    have hfl : (fs.map Sta.av).length ≤ 3000 := by simp; omega
    have hext : ∀ id, id < M.length → (M ++ [some [AV.flat (.int .i64 l.length), .list 1 (l.map Rks.av) nl cd]])[id]? = M[id]? := fun id h => List.getElem?_append_left h
    have hsv' := hsv.keep (M' := M ++ [some [AV.flat (.int .i64 l.length), .list 1 (l.map Rks.av) nl cd]]) (by simp) fun id hid _ => hext id hid
    have hfv' := hfv.keep (M' := M ++ [some [AV.flat (.int .i64 l.length), .list 1 (l.map Rks.av) nl cd]]) (by simp) fun id hid _ => hext id hid
    refine ev_fnE A81 ?_
    by_cases hst : StabP (plX l) (pl s)
    · simp only [hst, decide_true] at h45
      clear hX hS hs0
      repeat' (first | ((with_reducible first | apply S_0 | apply S_q1 | apply S_g | apply S_c); exact sgc) | (with_reducible first | apply SO_q | apply SG_t | apply SG_f0 | apply SG_f1 | apply S_nil | apply T_n | apply W_seq | apply W_region | apply SO_x | apply SC_t | apply SC_f | apply W_block | apply W_ret | apply W_skip | apply W_exit | apply T_r | apply T_e | apply B_n | apply B_e) | (with_reducible apply B_ne; focus decide) | (with_reducible first | apply B_r | apply R_e | apply R_r | apply H_e | apply H_r | apply G_e | apply G_r) | (with_reducible apply SC_n) | ((with_reducible first | apply SC_d | apply SG_d | apply SG_n | apply SC_b | apply SG_b) <;> intro hc <;> try simp only [decide_eq_true_eq, decide_eq_false_iff_not, Classical.not_not, Bool.not_eq_true', Bool.not_eq_false'] at hc))
      refine S_bslS hsv' (by exact svc) rfl ?_
      intro m1 ns cs D1 g1 g2 g3
      have hfv1 := hfv'.keep (M' := m1) (by omega) fun id hid hi => g1 id fun e => hne id e.symm hi
      refine S_appR (y := .list 1 (s.map Pth.av) ns cs) hfv1 (by exact svc) (by exact svc) rfl (allI_stas _) hfl (by decide) ?_
      intro w m2 D2 k1 k2 k3 k4 k5
      repeat' (first | ((with_reducible first | apply S_0 | apply S_q1 | apply S_g | apply S_c); exact sgc) | (with_reducible first | apply SO_q | apply SG_t | apply SG_f0 | apply SG_f1 | apply S_nil | apply T_n | apply W_seq | apply W_region | apply SO_x | apply SC_t | apply SC_f | apply W_block | apply W_ret | apply W_skip | apply W_exit | apply T_r | apply T_e | apply B_n | apply B_e) | (with_reducible apply B_ne; focus decide) | (with_reducible first | apply B_r | apply R_e | apply R_r | apply H_e | apply H_r | apply G_e | apply G_r) | (with_reducible apply SC_n) | ((with_reducible first | apply SC_d | apply SG_d | apply SG_n | apply SC_b | apply SG_b) <;> intro hc <;> try simp only [decide_eq_true_eq, decide_eq_false_iff_not, Classical.not_not, Bool.not_eq_true', Bool.not_eq_false'] at hc))
      refine ⟨.inr rfl, .x w m2 D2, ?_, w, m2, D2, fs ++ [⟨s, ns, cs⟩], rfl, by simpa [Sta.av] using k1, ?_, ?_, ?_, ?_, ?_⟩
      · simp only [fin, if_true, resA, rvA, tupA]
        (simp (disch := first | assumption | decide | omega | exact Pth.le _ | exact Rks.le _ | exact List.getElem_mem _ | exact allI_ints _ | exact allI_rks _ | exact allI_pths _ | exact Pth.nil _ | exact Rks.nil _ | (intro hh; simp only [Pth.nil _ hh, List.take_nil, List.drop_nil]; done) | (intro hh; simp only [Rks.nil _ hh, List.take_nil, List.drop_nil]; done) | (simp only [List.length_take, List.length_drop, List.length_append, List.length_cons, List.length_nil, List.length_replicate, List.length_map, ints_len]; omega)) only [go_sem, if_pos, if_neg, Nat.reduceBEq, Nat.reduceEqDiff, ↓reduceIte, Nat.reduceSub, Nat.reduceAdd, Int.reduceToNat, reduceCtorEq, Nat.reduceLeDiff, Nat.reduceLT, Nat.reduceMul, Nat.reduceDiv, Int.reduceLT, Int.reduceLE, Int.reduceEq, Int.reduceNe, Int.reduceAdd, Int.reduceSub, Int.reduceNeg, Int.reduceGT, Int.reduceGE, Int.reduceBEq, Int.reduceBNe, Int.reduceMul, *])
      · simp [prodL, hst, Sta.l]
      · simp at g2; omega
      · intro i hi h1 h2
        rw [k3 i (by simp at g2; omega) h2, g1 i h1, hext i hi]
      · intro i hi hil
        rcases k4 i hi with h | h
        · rcases g3 i h with h | h
          · simp at h
          · exact .inl h
        · exact .inr h
      · intro id hid
        have := k5 id hid
        simp at g2
        exact .inr (by omega)
    · simp only [hst, decide_false] at h45
      clear hX hS hs0
      repeat' (first | ((with_reducible first | apply S_0 | apply S_q1 | apply S_g | apply S_c); exact sgc) | (with_reducible first | apply SO_q | apply SG_t | apply SG_f0 | apply SG_f1 | apply S_nil | apply T_n | apply W_seq | apply W_region | apply SO_x | apply SC_t | apply SC_f | apply W_block | apply W_ret | apply W_skip | apply W_exit | apply T_r | apply T_e | apply B_n | apply B_e) | (with_reducible apply B_ne; focus decide) | (with_reducible first | apply B_r | apply R_e | apply R_r | apply H_e | apply H_r | apply G_e | apply G_r) | (with_reducible apply SC_n) | ((with_reducible first | apply SC_d | apply SG_d | apply SG_n | apply SC_b | apply SG_b) <;> intro hc <;> try simp only [decide_eq_true_eq, decide_eq_false_iff_not, Classical.not_not, Bool.not_eq_true', Bool.not_eq_false'] at hc))
      refine ⟨.inr rfl, .x fv (M ++ [some [.flat (.int .i64 l.length), .list 1 (l.map Rks.av) nl cd]]) [], ?_, fv, _, [], fs, rfl, hfv', ?_, by simp, fun i hi _ _ => hext i hi, fun i hi => by simp at hi, fun id hid => .inl hid⟩
      · simp only [fin, if_true, resA, rvA, tupA]
        (simp (disch := first | assumption | decide | omega | exact Pth.le _ | exact Rks.le _ | exact List.getElem_mem _ | exact allI_ints _ | exact allI_rks _ | exact allI_pths _ | exact Pth.nil _ | exact Rks.nil _ | (intro hh; simp only [Pth.nil _ hh, List.take_nil, List.drop_nil]; done) | (intro hh; simp only [Rks.nil _ hh, List.take_nil, List.drop_nil]; done) | (simp only [List.length_take, List.length_drop, List.length_append, List.length_cons, List.length_nil, List.length_replicate, List.length_map, ints_len]; omega)) only [go_sem, if_pos, if_neg, Nat.reduceBEq, Nat.reduceEqDiff, ↓reduceIte, Nat.reduceSub, Nat.reduceAdd, Int.reduceToNat, reduceCtorEq, Nat.reduceLeDiff, Nat.reduceLT, Nat.reduceMul, Nat.reduceDiv, Int.reduceLT, Int.reduceLE, Int.reduceEq, Int.reduceNe, Int.reduceAdd, Int.reduceSub, Int.reduceNeg, Int.reduceGT, Int.reduceGE, Int.reduceBEq, Int.reduceBNe, Int.reduceMul, *])
      · simp [prodL, hst]
  | r + 1, M, sv, fv, s, fs, hr, hs1, hs0, hsv, hfv, hne, hb => by
    have hvl : s.length < l.length := by omega
    have h12 := hS.1
    have h70 := (hS.2 _ (List.getElem_mem hvl)).1
    have hdrop := plX_drop hvl
    rw [hdrop] at hb ⊢
    rw [prodL_len, paths_len] at hb
    have IH := fun {M : MS} {sv fv : AV} {s : List Pth} {fs : List Sta} => t81 (nl := nl) (cd := cd) hX hS r (M := M) (sv := sv) (fv := fv) (s := s) (fs := fs)
    have hlen := hsv.len
    have hcell := hsv.cell
    have hslZ : ¬ (s.length : Int) = l.length := by omega
    clear hX hS
    obtain ⟨P, hP⟩ : ∃ P, P = (prodL ((plX l).drop (s.length + 1))).length := ⟨_, rfl⟩
    rw [← hP] at hb
    refine ev_fnE A81 ?_
    repeat' (first | ((with_reducible first | apply S_0 | apply S_q1 | apply S_g | apply S_c); exact sgc) | (with_reducible first | apply SO_q | apply SG_t | apply SG_f0 | apply SG_f1 | apply S_nil | apply T_n | apply W_seq | apply W_region | apply SO_x | apply SC_t | apply SC_f | apply W_block | apply W_ret | apply W_skip | apply W_exit | apply T_r | apply T_e | apply B_n | apply B_e) | (with_reducible apply B_ne; focus decide) | (with_reducible first | apply B_r | apply R_e | apply R_r | apply H_e | apply H_r | apply G_e | apply G_r) | (with_reducible apply SC_n) | ((with_reducible first | apply SC_d | apply SG_d | apply SG_n | apply SC_b | apply SG_b) <;> intro hc <;> try simp only [decide_eq_true_eq, decide_eq_false_iff_not, Classical.not_not, Bool.not_eq_true', Bool.not_eq_false'] at hc))
    refine W_whl (fun q e m d => ∃ (i : Nat) (fs1 : List Sta) (w : AV), q = l[s.length].l.length + 1 - i ∧ i ≤ l[s.length].l.length + 1 ∧ e 8 = .flat (.int .i64 i) ∧ e 2 = w ∧ SRow m w (fs1.map Sta.av) ∧ (∀ G, (m ++ G)[M.length]? = some (some [.flat (.int .i64 l.length), .list 1 (l.map Rks.av) nl cd])) ∧ M.length < m.length ∧
        (∀ i, i < M.length → some i ≠ idOf sv → some i ≠ idOf fv → m[i]? = M[i]?) ∧ SV m sv s ∧ (∀ id, idOf w = some id → idOf fv = some id ∨ M.length < id) ∧ (∀ i ∈ d, i < M.length → some i = idOf sv ∨ some i = idOf fv) ∧
        fs1.map Sta.l = fs.map Sta.l ++ evX (plX l) (pl s) ((paths l[s.length].l ++ [[]]).take i) ((plX l).drop (s.length + 1))) (l[s.length].l.length + 1) (by simp only [asg, asgO, List.append_nil, List.nil_append, List.cons_append]; rfl)
      ⟨0, fs, fv, rfl, by omega, by exact svc, by exact svc, hfv.keep (by simp) fun id hid _ => List.getElem?_append_left hid, fun G => by simp, by simp, fun i hi _ _ => List.getElem?_append_left hi, hsv.keep (by simp) fun id hid _ => List.getElem?_append_left hid, fun id hid => .inl hid, fun i hi => by simp at hi, ?_⟩ ?_
    · simp [evX]
    rintro q e m d hk ⟨i, fs1, w, rfl, hi, e8, e2, hw, hbx, hml, hfr, hsm, hwi, hd, hfs⟩
    have k0 : e 0 = e 0 := rfl
    have k1 : e 1 = sv := by rw [hk 1 rfl]; exact svc
    have k3 : e 3 = .mptr M.length 0 := by rw [hk 3 rfl]; exact svc
    have k7 : e 7 = .flat (.int .i64 s.length) := by rw [hk 7 rfl]; exact svc
    clear hk k0
    have hbx0 : m[M.length]? = some (some [.flat (.int .i64 l.length), .list 1 (l.map Rks.av) nl cd]) := by simpa using hbx []
    have hvm : view m sv = some (s.map Pth.av) := hsm.view
    have hvm' : ∀ G, view (m ++ G) sv = some (s.map Pth.av) := hsm.vw.vw
    have hwc : ∀ id, idOf w = some id → id < m.length := fun id h => hw.lt h
    have hfl : fs1.length ≤ fs.length + i * P := by
      have h1 := congrArg List.length hfs
      have h2 := evX_len (plX l) (pl s) ((paths l[s.length].l ++ [[]]).take i) ((plX l).drop (s.length + 1))
      rw [List.length_append, List.length_map, List.length_map] at h1
      rw [← hP] at h2
      have h3 : ((paths l[s.length].l ++ [[]]).take i).length ≤ i := List.length_take_le _ _
      have h4 := Nat.mul_le_mul_right P h3
      omega
    rcases Nat.lt_or_ge i (l[s.length].l.length + 1) with hlt | hlt
    · have hlt' : (i : Int) ≤ l[s.length].l.length := by omega
      have hPi : (i + 1) * P ≤ (l[s.length].l.length + 1) * P := Nat.mul_le_mul_right P (by omega)
      rw [Nat.add_mul, Nat.one_mul] at hPi
      have tail : ∀ (v' : AV) (G' : MS) (pp : Pth), Own m.length (m ++ G') v' 1 ((s ++ [pp]).map Pth.av) → (paths l[s.length].l ++ [[]])[i]? = some pp.l → ∃ (w' : AV) (M' : MS) (D' : List Nat) (fs' : List Sta), ev pr 81 [.agg [.flat (.int .i64 l.length), .list 1 (l.map Rks.av) nl cd], v', w] (m ++ G') = some (.x w' M' D') ∧
          SRow M' w' (fs'.map Sta.av) ∧ (∀ G, (M' ++ G)[M.length]? = some (some [.flat (.int .i64 l.length), .list 1 (l.map Rks.av) nl cd])) ∧ M.length < M'.length ∧ (∀ i, i < M.length → some i ≠ idOf sv → some i ≠ idOf fv → M'[i]? = M[i]?) ∧ SV M' sv s ∧ (∀ id, idOf w' = some id → idOf fv = some id ∨ M.length < id) ∧
          (∀ i ∈ List.filter (fun x => decide (x < M.length)) D' ++ d, i < M.length → some i = idOf sv ∨ some i = idOf fv) ∧ fs'.map Sta.l = fs.map Sta.l ++ evX (plX l) (pl s) ((paths l[s.length].l ++ [[]]).take (i + 1)) ((plX l).drop (s.length + 1)) := by
        intro v' G' pp hO hpp
        obtain ⟨hSV, idn, hid, hidn⟩ := own_sv hO (by simp)
        have hwm : SRow (m ++ G') w (fs1.map Sta.av) := hw.keep (by simp) fun id h _ => List.getElem?_append_left h
        obtain ⟨out, h1, w', M', D', fs', rfl, g1, g2, g3, g4, g5, g6⟩ := IH (s := s ++ [pp]) (by simp; omega) (by simp) (fun h => by rw [List.getElem_append_left (by omega)]; exact hs0 (by omega)) hSV hwm (fun j hj hw' => by
          rw [hid] at hj; cases hj
          have := hwc idn hw'; omega) (by rw [List.length_append, List.length_singleton, ← hP]; omega)
        have low : ∀ j, j < m.length → some j ≠ idOf w → M'[j]? = m[j]? := fun j hj hjw => by
          rw [g4 j (by simp; omega) (by rw [hid]; intro e; cases e; omega) hjw, List.getElem?_append_left hj]
        have hwM : some M.length ≠ idOf w := fun e => by
          rcases hwi _ e.symm with h | h
          · have := hfv.lt h; omega
          · omega
        have hsw : ∀ j, idOf sv = some j → some j ≠ idOf w := fun j hj e => by
          have hjM := hsv.lt hj
          rcases hwi _ e.symm with h | h
          · exact hne j hj h
          · omega
        simp only [List.length_append] at g3
        refine ⟨w', M', D', fs', h1, g1, fun G => ?_, by omega, fun j hj hjs hjf => ?_, hsm.keep (by omega) fun j hj hjs => low j hj (hsw j hjs), fun id hid' => ?_, fun j hj hjM => ?_, ?_⟩
        · rw [List.getElem?_append_left (by omega), low _ hml hwM]; exact hbx0
        · rw [low j (by omega) (fun e => by
            rcases hwi _ e.symm with h | h
            · exact hjf h.symm
            · omega)]
          exact hfr j hj hjs hjf
        · rcases g6 id hid' with h | h
          · exact hwi id h
          · simp at h; exact .inr (by omega)
        · rcases List.mem_append.1 hj with h | h
          · have hjD := (List.mem_filter.1 h).1
            rcases g5 j hjD (by simp; omega) with h | h
            · rw [hid] at h; cases h; omega
            · rcases hwi j h.symm with h' | h'
              · exact .inr h'.symm
              · omega
          · exact hd j h hjM
        · rw [g2, hfs, List.append_assoc]
          congr 1
          have : (paths l[s.length].l ++ [[]]).take (i + 1) = (paths l[s.length].l ++ [[]]).take i ++ [pp.l] := by
            rw [List.take_add_one, hpp]; rfl
          rw [this, evX_snoc, pl_snoc, List.length_append, List.length_singleton]
      clear IH hfs hfr hd
      have hO1 : Own m.length (m ++ [some (s.map Pth.av)]) (.ms m.length 0 s.length 1 false) 1 (s.map Pth.av) := ⟨by decide, allI_pths s, ⟨s.length, by simp⟩, .inr ⟨by intro h; rw [List.map_eq_nil_iff] at h; subst h; simp at hs1, m.length, Nat.le_refl _, by simp, by simp, by simp⟩⟩
      repeat' (first | ((with_reducible first | apply S_0 | apply S_q1 | apply S_g | apply S_c); exact sgc) | (with_reducible first | apply SO_q | apply SG_t | apply SG_f0 | apply SG_f1 | apply S_nil | apply T_n | apply W_seq | apply W_region | apply SO_x | apply SC_t | apply SC_f | apply W_block | apply W_ret | apply W_skip | apply W_exit | apply T_r | apply T_e | apply B_n | apply B_e) | (with_reducible apply B_ne; focus decide) | (with_reducible first | apply B_r | apply R_e | apply R_r | apply H_e | apply H_r | apply G_e | apply G_r) | (with_reducible apply SC_n) | ((with_reducible first | apply SC_d | apply SG_d | apply SG_n | apply SC_b | apply SG_b) <;> intro hc <;> try simp only [decide_eq_true_eq, decide_eq_false_iff_not, Classical.not_not, Bool.not_eq_true', Bool.not_eq_false'] at hc))
      · have hil : i < l[s.length].l.length := by omega
        (refine S_ownG (cs := s.map Pth.av) m [some (s.map Pth.av)] (by assumption) (by first | rfl | simp only [List.append_assoc, List.cons_append, List.nil_append]) (by exact sgc) (by exact sgc) (by exact sgc) (by exact sgc) (by exact sgc) (by (first | assumption | omega | (simp only [ints_len, Nat.div_one, Nat.one_mul, Nat.mul_one, List.length_map, rks_len, half, List.length_cons, List.length_nil, List.length_append, List.length_replicate]; omega))) (by (first | assumption | omega | (simp only [ints_len, Nat.div_one, Nat.one_mul, Nat.mul_one, List.length_map, rks_len, half, List.length_cons, List.length_nil, List.length_append, List.length_replicate]; omega))) (by first | omega | (simp; done) | (simp; omega)) ?_)
        intro v' G' hO2
        obtain ⟨w', M', D', fs', h81, g1, g2, g3, g4, g5, g6, g7, g8⟩ := tail v' G' l[s.length].l[i].p (by simpa [Pth.av_eq] using hO2) (by
          rw [List.getElem?_append_left (by rw [paths_len]; exact hil), List.getElem?_eq_getElem (by rw [paths_len]; exact hil), paths_get])
        have hvc := hO2.cell
        clear tail
        repeat' (first | ((with_reducible first | apply S_0 | apply S_q1 | apply S_g | apply S_c); exact sgc) | (with_reducible first | apply SO_q | apply SG_t | apply SG_f0 | apply SG_f1 | apply S_nil | apply T_n | apply W_seq | apply W_region | apply SO_x | apply SC_t | apply SC_f | apply W_block | apply W_ret | apply W_skip | apply W_exit | apply T_r | apply T_e | apply B_n | apply B_e) | (with_reducible apply B_ne; focus decide) | (with_reducible first | apply B_r | apply R_e | apply R_r | apply H_e | apply H_r | apply G_e | apply G_r) | (with_reducible apply SC_n) | ((with_reducible first | apply SC_d | apply SG_d | apply SG_n | apply SC_b | apply SG_b) <;> intro hc <;> try simp only [decide_eq_true_eq, decide_eq_false_iff_not, Classical.not_not, Bool.not_eq_true', Bool.not_eq_false'] at hc))
        exact R_n _ (by omega) ⟨i + 1, fs', w', rfl, by omega, by exact svc, by exact svc, g1, g2, g3, g4, g5, g6, g7, g8⟩
      · have hil : i = l[s.length].l.length := by omega
        have hilH : Hid (i = l[s.length].l.length) := hil
        (refine S_ownG (cs := s.map Pth.av) m [some (s.map Pth.av)] (by assumption) (by first | rfl | simp only [List.append_assoc, List.cons_append, List.nil_append]) (by exact sgc) (by exact sgc) (by exact sgc) (by exact sgc) (by exact sgc) (by (first | assumption | omega | (simp only [ints_len, Nat.div_one, Nat.one_mul, Nat.mul_one, List.length_map, rks_len, half, List.length_cons, List.length_nil, List.length_append, List.length_replicate]; omega))) (by (first | assumption | omega | (simp only [ints_len, Nat.div_one, Nat.one_mul, Nat.mul_one, List.length_map, rks_len, half, List.length_cons, List.length_nil, List.length_append, List.length_replicate]; omega))) (by first | omega | (simp; done) | (simp; omega)) ?_)
        intro v' G' hO2
        obtain ⟨w', M', D', fs', h81, g1, g2, g3, g4, g5, g6, g7, g8⟩ := tail v' G' nlP (by simpa [Pth.av_eq, nlP, intsA] using hO2) (by
          rw [List.getElem?_append_right (by rw [paths_len]; omega), paths_len, hil, Nat.sub_self]; rfl)
        have hvc := hO2.cell
        clear tail hil
        repeat' (first | ((with_reducible first | apply S_0 | apply S_q1 | apply S_g | apply S_c); exact sgc) | (with_reducible first | apply SO_q | apply SG_t | apply SG_f0 | apply SG_f1 | apply S_nil | apply T_n | apply W_seq | apply W_region | apply SO_x | apply SC_t | apply SC_f | apply W_block | apply W_ret | apply W_skip | apply W_exit | apply T_r | apply T_e | apply B_n | apply B_e) | (with_reducible apply B_ne; focus decide) | (with_reducible first | apply B_r | apply R_e | apply R_r | apply H_e | apply H_r | apply G_e | apply G_r) | (with_reducible apply SC_n) | ((with_reducible first | apply SC_d | apply SG_d | apply SG_n | apply SC_b | apply SG_b) <;> intro hc <;> try simp only [decide_eq_true_eq, decide_eq_false_iff_not, Classical.not_not, Bool.not_eq_true', Bool.not_eq_false'] at hc))
        exact R_n _ (by omega) ⟨i + 1, fs', w', rfl, by omega, by exact svc, by exact svc, g1, g2, g3, g4, g5, g6, g7, g8⟩
    · have hlt' : ¬ (i : Int) ≤ l[s.length].l.length := by omega
      have hall : evX (plX l) (pl s) ((paths l[s.length].l ++ [[]]).take i) ((plX l).drop (s.length + 1)) = ((prodL (paths l[s.length].l :: (plX l).drop (s.length + 1))).map (pl s ++ ·)).filter (fun t => decide (StabP (plX l) t)) := by
        rw [List.take_of_length_le (by rw [List.length_append, paths_len]; simp; omega)]
        rfl
      clear IH
      repeat' (first | ((with_reducible first | apply S_0 | apply S_q1 | apply S_g | apply S_c); exact sgc) | (with_reducible first | apply SO_q | apply SG_t | apply SG_f0 | apply SG_f1 | apply S_nil | apply T_n | apply W_seq | apply W_region | apply SO_x | apply SC_t | apply SC_f | apply W_block | apply W_ret | apply W_skip | apply W_exit | apply T_r | apply T_e | apply B_n | apply B_e) | (with_reducible apply B_ne; focus decide) | (with_reducible first | apply B_r | apply R_e | apply R_r | apply H_e | apply H_r | apply G_e | apply G_r) | (with_reducible apply SC_n) | ((with_reducible first | apply SC_d | apply SG_d | apply SG_n | apply SC_b | apply SG_b) <;> intro hc <;> try simp only [decide_eq_true_eq, decide_eq_false_iff_not, Classical.not_not, Bool.not_eq_true', Bool.not_eq_false'] at hc))
      refine ⟨.inr rfl, .x w m d, ?_, w, m, d, fs1, rfl, hw, by rw [hfs, hall], by omega, hfr, hd, fun id hid => (hwi id hid).imp (fun h => h) (fun h => by omega)⟩
      simp only [fin, if_true, resA, rvA, tupA]
      (simp (disch := first | assumption | decide | omega | exact Pth.le _ | exact Rks.le _ | exact List.getElem_mem _ | exact allI_ints _ | exact allI_rks _ | exact allI_pths _ | exact Pth.nil _ | exact Rks.nil _ | (intro hh; simp only [Pth.nil _ hh, List.take_nil, List.drop_nil]; done) | (intro hh; simp only [Rks.nil _ hh, List.take_nil, List.drop_nil]; done) | (simp only [List.length_take, List.length_drop, List.length_append, List.length_cons, List.length_nil, List.length_replicate, List.length_map, ints_len]; omega)) only [go_sem, if_pos, if_neg, Nat.reduceBEq, Nat.reduceEqDiff, ↓reduceIte, Nat.reduceSub, Nat.reduceAdd, Int.reduceToNat, reduceCtorEq, Nat.reduceLeDiff, Nat.reduceLT, Nat.reduceMul, Nat.reduceDiv, Int.reduceLT, Int.reduceLE, Int.reduceEq, Int.reduceNe, Int.reduceAdd, Int.reduceSub, Int.reduceNeg, Int.reduceGT, Int.reduceGE, Int.reduceBEq, Int.reduceBNe, Int.reduceMul, *])
end Go.Proofs.Ytopiaiibpacmlaa.Av
namespace Go.Proofs.Ytopiaiibpacmlaa.Av
open Go.RowKit
set_option linter.unusedSimpArgs false
set_option linter.unusedVariables false
set_option maxHeartbeats 10000000
theorem evF_mem {L : In} (hL : L ≠ []) {s : List Pa} (h : s ∈ evF L) : s.length = L.length ∧ s.getD 0 [] = [0] ∧ (∀ v, 1 ≤ v → v < L.length → s.getD v [] = [] ∨ s.getD v [] ∈ L.getD v []) ∧ StabP L s := by
  unfold evF at h
  obtain ⟨h1, h2⟩ := List.mem_filter.1 h
  obtain ⟨a, b, c⟩ := (sts_mem hL).1 h1
  exact ⟨a, b, c, by simpa using h2⟩
/-- The origin's path. -/
def orP : Pth := ⟨[0], false, true, fun h => by simp at h, by simp⟩
theorem orP_av : (AV.list 1 [.flat (.int .i64 0)] false true) = orP.av := rfl
theorem t36 {l : List Rks} {nl cd : Bool} {M : MS} (hX : MayX l.length l) (hS : SmallX l) (hb : (prodL ((plX l).drop 1)).length ≤ 3000) : ∃ out, ev pr 36 [.agg [.flat (.int .i64 l.length), .list 1 (l.map Rks.av) nl cd]] M = some out ∧ ∃ (fs : List Sta) (n' c' : Bool), out = .q (.list 1 (fs.map Sta.av) n' c') ∧ fs.map Sta.l = evF (plX l) := by
  have h1 : 1 ≤ l.length := by have := hX.1; omega
  obtain ⟨out, h81, w, M', D, fs, rfl, g1, g2, g3, g4, g5, g6⟩ := t81 (nl := nl) (cd := cd) hX hS (l.length - 1) (M := M ++ [some [.flat (.int .i64 l.length), .list 1 (l.map Rks.av) nl cd]]) (sv := .list 1 ([orP].map Pth.av) false true) (fv := .list 1 [] true true) (s := [orP]) (fs := []) (by simp; omega) (by simp) (fun _ => rfl) (.inl ⟨_, _, rfl⟩) (.inl ⟨rfl, rfl⟩) (fun i hi => by cases hi) (by simpa using hb)
  have hD : List.filter (fun x => decide (x < M.length)) D = [] := by
    rw [List.filter_eq_nil_iff]
    intro x hx
    simp only [decide_eq_true_eq]
    intro hlt
    rcases g5 x hx (by simp; omega) with h | h <;> cases h
  have hev : fs.map Sta.l = evF (plX l) := by
    rw [g2]; rfl
  simp only [List.map_cons, List.map_nil, ← orP_av] at h81
  have hall := allI_stas fs
  clear hX hS
  refine ev_fnE A36 ?_
  repeat' (first | ((with_reducible first | apply S_0 | apply S_q1 | apply S_g | apply S_c); exact sgc) | (with_reducible first | apply SO_q | apply SG_t | apply SG_f0 | apply SG_f1 | apply S_nil | apply T_n | apply W_seq | apply W_region | apply SO_x | apply SC_t | apply SC_f | apply W_block | apply W_ret | apply W_skip | apply W_exit | apply T_r | apply T_e | apply B_n | apply B_e) | (with_reducible apply B_ne; focus decide) | (with_reducible first | apply B_r | apply R_e | apply R_r | apply H_e | apply H_r | apply G_e | apply G_r) | (with_reducible apply SC_n) | ((with_reducible first | apply SC_d | apply SG_d | apply SG_n | apply SC_b | apply SG_b) <;> intro hc <;> try simp only [decide_eq_true_eq, decide_eq_false_iff_not, Classical.not_not, Bool.not_eq_true', Bool.not_eq_false'] at hc))
  rcases g1 with ⟨rfl, hn⟩ | ⟨id, h2, rfl, h4⟩
  · refine ⟨.inr rfl, .q (.list 1 (fs.map Sta.av) true true), ?_, fs, true, true, rfl, hev⟩
    rw [hn]
    simp only [resA, rvA, tupA, fin, frzV, frzTup, frzA, frz, isI, isI.all, Option.bind_some]
    (simp (disch := first | assumption | decide | omega | exact Pth.le _ | exact Rks.le _ | exact List.getElem_mem _ | exact allI_ints _ | exact allI_rks _ | exact allI_pths _ | exact Pth.nil _ | exact Rks.nil _ | (intro hh; simp only [Pth.nil _ hh, List.take_nil, List.drop_nil]; done) | (intro hh; simp only [Rks.nil _ hh, List.take_nil, List.drop_nil]; done) | (simp only [List.length_take, List.length_drop, List.length_append, List.length_cons, List.length_nil, List.length_replicate, List.length_map, ints_len]; omega)) only [go_sem, if_pos, if_neg, Nat.reduceBEq, Nat.reduceEqDiff, ↓reduceIte, Nat.reduceSub, Nat.reduceAdd, Int.reduceToNat, reduceCtorEq, Nat.reduceLeDiff, Nat.reduceLT, Nat.reduceMul, Nat.reduceDiv, Int.reduceLT, Int.reduceLE, Int.reduceEq, Int.reduceNe, Int.reduceAdd, Int.reduceSub, Int.reduceNeg, Int.reduceGT, Int.reduceGE, Int.reduceBEq, Int.reduceBNe, Int.reduceMul, *])
  · have hid : M.length ≤ id := by
      rcases g6 id rfl with h | h
      · cases h
      · simp at h; omega
    refine ⟨.inr rfl, .q (.list 1 (fs.map Sta.av) false false), ?_, fs, false, false, rfl, hev⟩
    have htk : List.take fs.length (fs.map Sta.av) = fs.map Sta.av := List.take_of_length_le (by simp)
    simp only [resA, rvA, tupA, fin, frzV, frzTup, frzA, frz, isI, isI.all, Option.bind_some]
    (simp (disch := first | assumption | decide | omega | exact Pth.le _ | exact Rks.le _ | exact List.getElem_mem _ | exact allI_ints _ | exact allI_rks _ | exact allI_pths _ | exact Pth.nil _ | exact Rks.nil _ | (intro hh; simp only [Pth.nil _ hh, List.take_nil, List.drop_nil]; done) | (intro hh; simp only [Rks.nil _ hh, List.take_nil, List.drop_nil]; done) | (simp only [List.length_take, List.length_drop, List.length_append, List.length_cons, List.length_nil, List.length_replicate, List.length_map, ints_len]; omega)) only [go_sem, if_pos, if_neg, Nat.reduceBEq, Nat.reduceEqDiff, ↓reduceIte, Nat.reduceSub, Nat.reduceAdd, Int.reduceToNat, reduceCtorEq, Nat.reduceLeDiff, Nat.reduceLT, Nat.reduceMul, Nat.reduceDiv, Int.reduceLT, Int.reduceLE, Int.reduceEq, Int.reduceNe, Int.reduceAdd, Int.reduceSub, Int.reduceNeg, Int.reduceGT, Int.reduceGE, Int.reduceBEq, Int.reduceBNe, Int.reduceMul, *])
theorem Sta.av_eq (x : Sta) : x.av = .list 1 (x.s.map Pth.av) x.ns x.cs := rfl
attribute [go_sem] Sta.av_eq
theorem stl_get (a : List Sta) (i : Nat) (h : i < (a.map Sta.l).length) : (a.map Sta.l)[i] = pl (a[i]'(by simpa using h)).s := by simp [Sta.l]
end Go.Proofs.Ytopiaiibpacmlaa.Av
namespace Go.Proofs.Ytopiaiibpacmlaa.Av
open Go.RowKit
set_option linter.unusedSimpArgs false
set_option linter.unusedVariables false
set_option maxHeartbeats 10000000
/-- A round of which some answer is told. -/
theorem ev_roundE {p : Pr} {y id : Nat} {ay : AY} {caps args : List AV} {M : MS} {P : Out → Prop} (hA : p.A y = none) (hY : p.Y y = some ay) (hl : ay.ps.length = args.length ∧ ay.pl.length = caps.length)
    (h : W p M.length ay.assign (envY ay.ps ay.pl caps args) M [] fun ex e m d => ex = .nrm ∧ ∃ pd, m[id]? = some (some [.flat (.int .i64 0), .flat (.int .i64 pd)]) ∧
      W p M.length ay.body e (m.set id (some [.flat (.int .i64 1), .flat (.int .i64 pd)])) (dirt M.length id d) fun ex _ m2 d2 =>
        P (.x (.flat (.bool (decide (ex = .nrm)))) (m2.set id (some [.flat (.int .i64 (if ex = .nrm then 0 else 2)), .flat (.int .i64 (unpend ex))])) (dirt M.length id d2))) : ∃ out, ev p y (.yld id y caps :: args) M = some out ∧ P out := by
  obtain ⟨ex, e, m, d, h1, rfl, pd, hM, ex2, e2, m2, d2, h2, h3⟩ := h
  exact ⟨_, ev_round hA hY hl ⟨.nrm, e, m, d, h1, rfl, pd, hM, ex2, e2, m2, d2, h2, rfl⟩, h3⟩
theorem SRow.len {M : MS} {x : AV} {cs : List AV} (h : SRow M x cs) : lenOf x = some cs.length := by
  rcases h with ⟨rfl, rfl⟩ | ⟨id, _, rfl, _⟩ <;> rfl
theorem SRow.cell {M : MS} {x : AV} {cs : List AV} (h : SRow M x cs) : cellsOf x = some [x] := by
  rcases h with ⟨rfl, rfl⟩ | ⟨id, _, rfl, _⟩ <;> rfl
/-- What the list's round knows. -/
structure YaX (m : Int) (Lid B1 R0 R1 R2 L : Nat) (M : MS) (e : Bool) (a : List (List Pa)) (fv : AV) (fs : List Sta) : Prop where
  lid : M[Lid]? = some (some [.flat (.int .i64 (if e then 2 else 0)), .flat (.int .i64 (if e then 1 else 0))])
  b1 : M[B1]? = some (some [.flat (.int .i64 m)])
  r0 : M[R0]? = some (some [.list 1 [] true true])
  r1 : M[R1]? = some (some [.flat (.int .i64 0)])
  r2 : M[R2]? = some (some [.flat (.int .i64 (if e then 11 else 0))])
  l : M[L]? = some (some [fv])
  row : SRow M fv (fs.map Sta.av)
  ac : fs.map Sta.l = a
  ne : ∀ i, idOf fv = some i → i ∉ [Lid, B1, R0, R1, R2, L]
def YA (m : Int) (Lid B1 R0 R1 R2 L : Nat) (M : MS) (e : Bool) (a : List (List Pa)) (F : List Nat) : Prop := ∃ fv fs, YaX m Lid B1 R0 R1 R2 L M e a fv fs ∧ F = [Lid, B1, R0, R1, R2, L] ++ (idOf fv).toList
theorem get_lt {M : MS} {i : Nat} {x : Option (List AV)} (h : M[i]? = some x) : i < M.length := (List.getElem?_eq_some_iff.1 h).1
theorem set_get {M : MS} {i j : Nat} {x : Option (List AV)} (h : j ≠ i) : (M.set i x)[j]? = M[j]? := List.getElem?_set_ne (Ne.symm h)
theorem set_get1 {M : MS} {i : Nat} {x : Option (List AV)} (h : i < M.length) : (M.set i x)[i]? = some x := List.getElem?_set_self h
theorem mem_idOf {fv : AV} {i : Nat} : i ∈ (idOf fv).toList ↔ idOf fv = some i := by simp [Option.mem_toList, eq_comm]
theorem yA_lt {m : Int} {Lid B1 R0 R1 R2 L : Nat} {M : MS} {e : Bool} {a : List (List Pa)} {F : List Nat} (h : YA m Lid B1 R0 R1 R2 L M e a F) : ∀ i ∈ F, i < M.length := by
  obtain ⟨fv, fs, hx, rfl⟩ := h
  intro i hi
  rcases List.mem_append.1 hi with h | h
  · simp only [List.mem_cons, List.not_mem_nil, or_false] at h
    rcases h with rfl | rfl | rfl | rfl | rfl | rfl
    · exact get_lt hx.lid
    · exact get_lt hx.b1
    · exact get_lt hx.r0
    · exact get_lt hx.r1
    · exact get_lt hx.r2
    · exact get_lt hx.l
  · exact hx.row.lt (mem_idOf.1 h)
theorem yA_stab {m : Int} {Lid B1 R0 R1 R2 L : Nat} {M M' : MS} {e : Bool} {a : List (List Pa)} {F : List Nat} (h : YA m Lid B1 R0 R1 R2 L M e a F) (hl : M.length ≤ M'.length) (hk : ∀ i ∈ F, M'[i]? = M[i]?) : YA m Lid B1 R0 R1 R2 L M' e a F := by
  obtain ⟨fv, fs, hx, rfl⟩ := h
  refine ⟨fv, fs, ⟨(hk _ (by simp)).trans hx.lid, (hk _ (by simp)).trans hx.b1, (hk _ (by simp)).trans hx.r0, (hk _ (by simp)).trans hx.r1, (hk _ (by simp)).trans hx.r2, (hk _ (by simp)).trans hx.l, hx.row.keep hl fun i _ hi => hk i ?_, hx.ac, hx.ne⟩, rfl⟩
  exact List.mem_append_right _ (mem_idOf.2 hi)
theorem yldA {P : Nat} {l : List Rks} {nl cd : Bool} {most m : Int} {Lid B1 R0 R1 R2 L : Nat} (h1 : B1 < R0) (h2 : R0 < R1) (h3 : R1 < R2) (h4 : R2 < L) (h5 : L < Lid) :
    Yld P l nl cd most 1000049 Lid [.mptr B1 0, .mptr R0 0, .mptr R1 0, .mptr R2 0, .mptr L 0] (yAll m) (YA m Lid B1 R0 R1 R2 L) where
  one := fun a s => by unfold yAll; split <;> simp
  lt := fun h => yA_lt h
  stab := fun h hl hk => yA_stab h hl hk
  call := by
    rintro M a F id s ⟨fv, fs, hx, rfl⟩ _ _ _ ha hid hidF hs hs2 hM
    have hSV : SV M (.ms id 0 s.length 1 false) s := .inr ⟨id, hid, rfl, hM⟩
    have hfl : fs.length = a.length := by rw [← hx.ac]; simp
    have hlen := hx.row.len
    rw [List.length_map, hfl] at hlen
    have hcell := hx.row.cell
    have hidn : id ≠ Lid ∧ id ≠ B1 ∧ id ≠ R0 ∧ id ≠ R1 ∧ id ≠ R2 ∧ id ≠ L ∧ ∀ i, idOf fv = some i → i ≠ id := by
      simp only [List.mem_append, List.mem_cons, List.not_mem_nil, or_false, not_or, mem_idOf] at hidF
      obtain ⟨⟨q1, q2, q3, q4, q5, q6⟩, q7⟩ := hidF
      exact ⟨q1, q2, q3, q4, q5, q6, fun i hi e => q7 (e ▸ hi)⟩
    have hfn : ∀ i, idOf fv = some i → i ≠ Lid ∧ i ≠ B1 ∧ i ≠ R0 ∧ i ≠ R1 ∧ i ≠ R2 ∧ i ≠ L := fun i hi => by
      have := hx.ne i hi
      simpa only [List.mem_cons, List.not_mem_nil, or_false, not_or] using this
    have hLl := get_lt hx.lid
    suffices hgo : ∃ out, ev pr 1000049 [.yld Lid 1000049 [.mptr B1 0, .mptr R0 0, .mptr R1 0, .mptr R2 0, .mptr L 0], .ms id 0 s.length 1 false] M = some out ∧ ∃ M' D' F', out = .x (.flat (.bool (yAll m a (pl s)).1)) M' D' ∧ YA m Lid B1 R0 R1 R2 L M' (!(yAll m a (pl s)).1) (yAll m a (pl s)).2 F' ∧ M.length ≤ M'.length ∧
        (∀ i, i < M.length → i ∉ [Lid, B1, R0, R1, R2, L] ++ (idOf fv).toList → i ≠ id → M'[i]? = M[i]?) ∧ (∀ i ∈ F', i ∈ [Lid, B1, R0, R1, R2, L] ++ (idOf fv).toList ∨ M.length ≤ i) ∧ (∀ i ∈ D', i < M.length → i ∈ [Lid, B1, R0, R1, R2, L] ++ (idOf fv).toList ∨ i = id) by
      obtain ⟨out, g1, M', D', F', rfl, g2⟩ := hgo
      exact ⟨M', D', F', g1, g2⟩
    refine ev_roundE (ay := ay49) rfl rfl ⟨rfl, rfl⟩ ?_
    have e1 : envY ay49.ps ay49.pl [.mptr B1 0, .mptr R0 0, .mptr R1 0, .mptr R2 0, .mptr L 0] [.ms id 0 s.length 1 false] = updO (updO (updO (updO (updO (updO (fun _ => .any) (some 4) (.mptr B1 0)) (some 6) (.mptr R0 0)) (some 7) (.mptr R1 0)) (some 8) (.mptr R2 0)) (some 11) (.mptr L 0)) (some 26) (.ms id 0 s.length 1 false) := rfl
    rw [e1]
    clear e1
    simp only [ay49]
    repeat' (first | ((with_reducible first | apply S_0 | apply S_q1 | apply S_g | apply S_c); exact sgc) | (with_reducible first | apply SO_q | apply SG_t | apply SG_f0 | apply SG_f1 | apply S_nil | apply T_n | apply W_seq | apply W_region | apply SO_x | apply SC_t | apply SC_f | apply W_block | apply W_ret | apply W_skip | apply W_exit | apply T_r | apply T_e | apply B_n | apply B_e) | (with_reducible apply B_ne; focus decide) | (with_reducible first | apply B_r | apply R_e | apply R_r | apply H_e | apply H_r | apply G_e | apply G_r) | (with_reducible apply SC_n) | ((with_reducible first | apply SC_d | apply SG_d | apply SG_n | apply SC_b | apply SG_b) <;> intro hc <;> try simp only [decide_eq_true_eq, decide_eq_false_iff_not, Classical.not_not, Bool.not_eq_true', Bool.not_eq_false'] at hc))
    refine ⟨rfl, 0, by simpa using hx.lid, ?_⟩
    obtain ⟨M1, hM1⟩ : ∃ M1, M1 = M.set Lid (some [.flat (.int .i64 1), .flat (.int .i64 0)]) := ⟨_, rfl⟩
    rw [← hM1]
    have g1 : M1.length = M.length := by rw [hM1]; simp
    have g2 : ∀ i, i ≠ Lid → M1[i]? = M[i]? := fun i hi => by rw [hM1]; exact set_get hi
    clear hM1
    have b4 : M1[B1]? = some (some [.flat (.int .i64 m)]) := (g2 _ (by omega)).trans hx.b1
    have b6 : M1[R0]? = some (some [.list 1 [] true true]) := (g2 _ (by omega)).trans hx.r0
    have b7 : M1[R1]? = some (some [.flat (.int .i64 0)]) := (g2 _ (by omega)).trans hx.r1
    have b8 : M1[R2]? = some (some [.flat (.int .i64 0)]) := (g2 _ (by omega)).trans (by simpa using hx.r2)
    have b11 : M1[L]? = some (some [fv]) := (g2 _ (by omega)).trans hx.l
    have hSV1 : SV M1 (.ms id 0 s.length 1 false) s := hSV.keep (by omega) fun i _ hi => by cases hi; exact g2 _ hidn.1
    have hrow1 : SRow M1 fv (fs.map Sta.av) := hx.row.keep (by omega) fun i _ hi => g2 i (hfn i hi).1
    have g2H : Hid (∀ i, i ≠ Lid → M1[i]? = M[i]?) := g2
    clear g2
    by_cases hm : (a.length : Int) = m
    · have hy : yAll m a (pl s) = (false, a) := by simp [yAll, hm]
      rw [hy]
      have hmH : Hid ((a.length : Int) = m) := hm
      have hmd : decide ((a.length : Int) = m) = true := decide_eq_true hm
      clear hm
      repeat' (first | ((with_reducible first | apply S_0 | apply S_q1 | apply S_g | apply S_c); exact sgc) | (with_reducible first | apply SO_q | apply SG_t | apply SG_f0 | apply SG_f1 | apply S_nil | apply T_n | apply W_seq | apply W_region | apply SO_x | apply SC_t | apply SC_f | apply W_block | apply W_ret | apply W_skip | apply W_exit | apply T_r | apply T_e | apply B_n | apply B_e) | (with_reducible apply B_ne; focus decide) | (with_reducible first | apply B_r | apply R_e | apply R_r | apply H_e | apply H_r | apply G_e | apply G_r) | (with_reducible apply SC_n) | ((with_reducible first | apply SC_d | apply SG_d | apply SG_n | apply SC_b | apply SG_b) <;> intro hc <;> try simp only [decide_eq_true_eq, decide_eq_false_iff_not, Classical.not_not, Bool.not_eq_true', Bool.not_eq_false'] at hc))
      refine S_putX (off := 0) (y := .list 1 [] true true) (by exact svc) (by exact svc) rfl b6 (by simp) ?_
      intro m1 p1 p2 p3
      repeat' (first | ((with_reducible first | apply S_0 | apply S_q1 | apply S_g | apply S_c); exact sgc) | (with_reducible first | apply SO_q | apply SG_t | apply SG_f0 | apply SG_f1 | apply S_nil | apply T_n | apply W_seq | apply W_region | apply SO_x | apply SC_t | apply SC_f | apply W_block | apply W_ret | apply W_skip | apply W_exit | apply T_r | apply T_e | apply B_n | apply B_e) | (with_reducible apply B_ne; focus decide) | (with_reducible first | apply B_r | apply R_e | apply R_r | apply H_e | apply H_r | apply G_e | apply G_r) | (with_reducible apply SC_n) | ((with_reducible first | apply SC_d | apply SG_d | apply SG_n | apply SC_b | apply SG_b) <;> intro hc <;> try simp only [decide_eq_true_eq, decide_eq_false_iff_not, Classical.not_not, Bool.not_eq_true', Bool.not_eq_false'] at hc))
      refine S_putX (off := 0) (y := .flat (.int .i64 0)) (by exact svc) (by exact svc) rfl ((p3 _ (by omega)).trans b7) (by simp) ?_
      intro m2 q1 q2 q3
      repeat' (first | ((with_reducible first | apply S_0 | apply S_q1 | apply S_g | apply S_c); exact sgc) | (with_reducible first | apply SO_q | apply SG_t | apply SG_f0 | apply SG_f1 | apply S_nil | apply T_n | apply W_seq | apply W_region | apply SO_x | apply SC_t | apply SC_f | apply W_block | apply W_ret | apply W_skip | apply W_exit | apply T_r | apply T_e | apply B_n | apply B_e) | (with_reducible apply B_ne; focus decide) | (with_reducible first | apply B_r | apply R_e | apply R_r | apply H_e | apply H_r | apply G_e | apply G_r) | (with_reducible apply SC_n) | ((with_reducible first | apply SC_d | apply SG_d | apply SG_n | apply SC_b | apply SG_b) <;> intro hc <;> try simp only [decide_eq_true_eq, decide_eq_false_iff_not, Classical.not_not, Bool.not_eq_true', Bool.not_eq_false'] at hc))
      refine S_putX (off := 0) (y := .flat (.int .i64 11)) (by exact svc) (by exact svc) rfl ((q3 _ (by omega)).trans ((p3 _ (by omega)).trans b8)) (by simp) ?_
      intro m3 u1 u2 u3
      have hfr : ∀ i, i ≠ Lid → i ≠ R0 → i ≠ R1 → i ≠ R2 → m3[i]? = M[i]? := fun i k1 k2 k3 k4 => by rw [u3 i k4, q3 i k3, p3 i k2, g2H i k1]
      repeat' (first | ((with_reducible first | apply S_0 | apply S_q1 | apply S_g | apply S_c); exact sgc) | (with_reducible first | apply SO_q | apply SG_t | apply SG_f0 | apply SG_f1 | apply S_nil | apply T_n | apply W_seq | apply W_region | apply SO_x | apply SC_t | apply SC_f | apply W_block | apply W_ret | apply W_skip | apply W_exit | apply T_r | apply T_e | apply B_n | apply B_e) | (with_reducible apply B_ne; focus decide) | (with_reducible first | apply B_r | apply R_e | apply R_r | apply H_e | apply H_r | apply G_e | apply G_r) | (with_reducible apply SC_n) | ((with_reducible first | apply SC_d | apply SG_d | apply SG_n | apply SC_b | apply SG_b) <;> intro hc <;> try simp only [decide_eq_true_eq, decide_eq_false_iff_not, Classical.not_not, Bool.not_eq_true', Bool.not_eq_false'] at hc))
      refine ⟨_, _, _, rfl, ⟨fv, fs, ⟨?_, ?_, ?_, ?_, ?_, ?_, ?_, hx.ac, hx.ne⟩, rfl⟩, by simp; omega, fun i hi hF hne => ?_, fun i hi => .inl hi, fun i hi hlt => ?_⟩
      · rw [set_get1 (by omega)]; rfl
      · rw [set_get (by omega), hfr _ (by omega) (by omega) (by omega) (by omega)]; exact hx.b1
      · rw [set_get (by omega), u3 _ (by omega), q3 _ (by omega), p2]; rfl
      · rw [set_get (by omega), u3 _ (by omega), q2]; rfl
      · rw [set_get (by omega), u2]; rfl
      · rw [set_get (by omega), hfr _ (by omega) (by omega) (by omega) (by omega)]; exact hx.l
      · refine hx.row.keep (by simp; omega) fun i _ hi => ?_
        obtain ⟨k1, k2, k3, k4, k5, k6⟩ := hfn i hi
        rw [set_get k1]; exact hfr i k1 k3 k4 k5
      · simp only [List.mem_append, List.mem_cons, List.not_mem_nil, or_false, not_or] at hF
        obtain ⟨⟨k1, k2, k3, k4, k5, k6⟩, _⟩ := hF
        rw [set_get k1]; exact hfr i k1 k3 k4 k5
      · refine .inl (List.mem_append_left _ ?_)
        rcases mem_dirt hi with h | rfl
        · rcases mem_dirt h with h | rfl
          · rcases mem_dirt h with h | rfl
            · rcases mem_dirt h with h | rfl
              · rcases mem_dirt h with h | rfl
                · simp at h
                · simp
              · simp
            · simp
          · simp
        · simp
    · have hy : yAll m a (pl s) = (true, a ++ [pl s]) := by simp [yAll, hm]
      rw [hy]
      have hmH : Hid (¬ (a.length : Int) = m) := hm
      have hmd : decide ((a.length : Int) = m) = false := decide_eq_false hm
      clear hm
      repeat' (first | ((with_reducible first | apply S_0 | apply S_q1 | apply S_g | apply S_c); exact sgc) | (with_reducible first | apply SO_q | apply SG_t | apply SG_f0 | apply SG_f1 | apply S_nil | apply T_n | apply W_seq | apply W_region | apply SO_x | apply SC_t | apply SC_f | apply W_block | apply W_ret | apply W_skip | apply W_exit | apply T_r | apply T_e | apply B_n | apply B_e) | (with_reducible apply B_ne; focus decide) | (with_reducible first | apply B_r | apply R_e | apply R_r | apply H_e | apply H_r | apply G_e | apply G_r) | (with_reducible apply SC_n) | ((with_reducible first | apply SC_d | apply SG_d | apply SG_n | apply SC_b | apply SG_b) <;> intro hc <;> try simp only [decide_eq_true_eq, decide_eq_false_iff_not, Classical.not_not, Bool.not_eq_true', Bool.not_eq_false'] at hc))
      refine S_bslS hSV1 (by exact svc) rfl ?_
      intro m1 ns cs D1 p1 p2 p3
      have hrow2 : SRow m1 fv (fs.map Sta.av) := hrow1.keep (by omega) fun i _ hi => p1 i fun e => by cases e; exact hidn.2.2.2.2.2.2 _ hi rfl
      refine S_appR (y := .list 1 (s.map Pth.av) ns cs) hrow2 (by exact svc) (by exact svc) rfl (allI_stas _) (by simp; omega) (by decide) ?_
      intro w m2 D2 q1 q2 q3 q4 q5
      have hLm : L < m1.length := by have := get_lt b11; omega
      have c11 : m2[L]? = some (some [fv]) := by
        rw [q3 L hLm fun e => (hfn _ e.symm).2.2.2.2.2 rfl, p1 L fun e => by cases e; exact hidn.2.2.2.2.2.1 rfl]; exact b11
      refine S_putX (off := 0) (y := w) (by exact svc) (by exact svc) q1.cell c11 (by simp) ?_
      intro m3 u1 u2 u3
      have hfr : ∀ i, i < M.length → i ≠ Lid → i ≠ L → i ≠ id → some i ≠ idOf fv → m3[i]? = M[i]? := fun i k0 k1 k2 k3 k4 => by
        rw [u3 i k2, q3 i (by omega) k4, p1 i (fun e => by cases e; exact k3 rfl), g2H i k1]
      have hwi : ∀ i, idOf w = some i → M.length ≤ i ∧ i < m3.length ∧ m3[i]? = m2[i]? := fun i hi => by
        have h6 := q5 i hi
        have h7 := q1.lt hi
        have := get_lt c11
        exact ⟨by omega, by omega, u3 i (by omega)⟩
      have nf : ∀ j, j < B1 + 1 ∨ j = R0 ∨ j = R1 ∨ j = R2 → True := fun _ _ => trivial
      have nfv : ∀ j, (j = B1 ∨ j = R0 ∨ j = R1 ∨ j = R2) → some j ≠ idOf fv := fun j hj e => by
        obtain ⟨k1, k2, k3, k4, k5, k6⟩ := hfn j e.symm
        rcases hj with h | h | h | h
        · exact k2 h
        · exact k3 h
        · exact k4 h
        · exact k5 h
      repeat' (first | ((with_reducible first | apply S_0 | apply S_q1 | apply S_g | apply S_c); exact sgc) | (with_reducible first | apply SO_q | apply SG_t | apply SG_f0 | apply SG_f1 | apply S_nil | apply T_n | apply W_seq | apply W_region | apply SO_x | apply SC_t | apply SC_f | apply W_block | apply W_ret | apply W_skip | apply W_exit | apply T_r | apply T_e | apply B_n | apply B_e) | (with_reducible apply B_ne; focus decide) | (with_reducible first | apply B_r | apply R_e | apply R_r | apply H_e | apply H_r | apply G_e | apply G_r) | (with_reducible apply SC_n) | ((with_reducible first | apply SC_d | apply SG_d | apply SG_n | apply SC_b | apply SG_b) <;> intro hc <;> try simp only [decide_eq_true_eq, decide_eq_false_iff_not, Classical.not_not, Bool.not_eq_true', Bool.not_eq_false'] at hc))
      refine ⟨_, _, _, rfl, ⟨w, fs ++ [⟨s, ns, cs⟩], ⟨?_, ?_, ?_, ?_, ?_, ?_, ?_, ?_, fun i hi => ?_⟩, rfl⟩, by simp; omega, fun i hi hF hne => ?_, fun i hi => ?_, fun i hi hlt => ?_⟩
      · rw [set_get1 (by omega)]; rfl
      · rw [set_get (by omega), hfr _ (get_lt hx.b1) (by omega) (by omega) (Ne.symm hidn.2.1) (nfv _ (.inl rfl))]; exact hx.b1
      · rw [set_get (by omega), hfr _ (get_lt hx.r0) (by omega) (by omega) (Ne.symm hidn.2.2.1) (nfv _ (.inr (.inl rfl)))]; exact hx.r0
      · rw [set_get (by omega), hfr _ (get_lt hx.r1) (by omega) (by omega) (Ne.symm hidn.2.2.2.1) (nfv _ (.inr (.inr (.inl rfl))))]; exact hx.r1
      · rw [set_get (by omega), hfr _ (get_lt hx.r2) (by omega) (by omega) (Ne.symm hidn.2.2.2.2.1) (nfv _ (.inr (.inr (.inr rfl))))]; simpa using hx.r2
      · rw [set_get (by omega), u2]; rfl
      · rw [List.map_append]
        refine q1.keep (by simp; omega) fun i _ hi => ?_
        obtain ⟨k1, k2, k3⟩ := hwi i hi
        rw [set_get (by omega)]; exact k3
      · rw [List.map_append, hx.ac]; rfl
      · obtain ⟨k1, k2, k3⟩ := hwi i hi
        have l1 := get_lt hx.b1
        have l2 := get_lt hx.r0
        have l3 := get_lt hx.r1
        have l4 := get_lt hx.r2
        have l5 := get_lt hx.l
        simp only [List.mem_cons, List.not_mem_nil, or_false, not_or]
        exact ⟨by omega, by omega, by omega, by omega, by omega, by omega⟩
      · simp only [List.mem_append, List.mem_cons, List.not_mem_nil, or_false, not_or, mem_idOf] at hF
        obtain ⟨⟨k1, k2, k3, k4, k5, k6⟩, k7⟩ := hF
        rw [set_get k1]; exact hfr i hi k1 k6 hne fun e => k7 e.symm
      · rcases List.mem_append.1 hi with h | h
        · exact .inl (List.mem_append_left _ h)
        · exact .inr (hwi i (mem_idOf.1 h)).1
      · have fin : i ∈ D2 → i ∈ [Lid, B1, R0, R1, R2, L] ++ (idOf fv).toList ∨ i = id := fun h => by
          rcases q4 i h with h | h
          · rcases p3 i h with h | h
            · rcases mem_dirt h with h | rfl
              · simp at h
              · exact .inl (by simp)
            · cases h; exact .inr rfl
          · exact .inl (List.mem_append_right _ (mem_idOf.2 h.symm))
        rcases mem_dirt hi with h | rfl
        · rcases mem_dirt h with h | rfl
          · exact fin h
          · exact .inl (by simp)
        · exact .inl (by simp)
end Go.Proofs.Ytopiaiibpacmlaa.Av
namespace Go.Proofs.Ytopiaiibpacmlaa.Av
open Go.RowKit
set_option linter.unusedSimpArgs false
set_option linter.unusedVariables false
set_option maxHeartbeats 10000000
def sv0 : AV := .list 1 [orP.av] false true
theorem t92 (n : Int) (l : List Rks) (nl cd : Bool) (st : Int) (M : MS) (hS : SmallX l) : ev pr 92 [.agg [.flat (.int .i64 n), .list 1 (l.map Rks.av) nl cd], .flat (.int .i64 st)] M =
    some (if MayX n l ∧ 0 ≤ st then .x (.tup [.mptr (M.length + 1) 0, .flat (.int .i64 0)]) (M ++ [some [.flat (.int .i64 n), .list 1 (l.map Rks.av) nl cd], some [.flat (.int .i64 n), .list 1 (l.map Rks.av) nl cd, sv0, .flat (.int .i64 0), .flat (.int .i64 st), .flat (.bool false)]]) []
      else .x (.tup [.flat (.pointer none), .flat (.int .i64 1)]) (M ++ [some [.flat (.int .i64 n), .list 1 (l.map Rks.av) nl cd]]) []) := by
  have h76 := fun M => t76 n l nl cd M hS
  by_cases hX : MayX n l
  · simp only [hX, decide_true] at h76
    by_cases h0 : 0 ≤ st
    · rw [if_pos ⟨hX, h0⟩]
      have h0' : ¬ st < 0 := by omega
      clear hX
      refine ev_fn' A92 ?_
      repeat' (first | ((with_reducible first | apply S_0 | apply S_q1 | apply S_g | apply S_c); exact sgc) | (with_reducible first | apply SO_q | apply SG_t | apply SG_f0 | apply SG_f1 | apply S_nil | apply T_n | apply W_seq | apply W_region | apply SO_x | apply SC_t | apply SC_f | apply W_block | apply W_ret | apply W_skip | apply W_exit | apply T_r | apply T_e | apply B_n | apply B_e) | (with_reducible apply B_ne; focus decide) | (with_reducible first | apply B_r | apply R_e | apply R_r | apply H_e | apply H_r | apply G_e | apply G_r) | (with_reducible apply SC_n) | ((with_reducible first | apply SC_d | apply SG_d | apply SG_n | apply SC_b | apply SG_b) <;> intro hc <;> try simp only [decide_eq_true_eq, decide_eq_false_iff_not, Classical.not_not, Bool.not_eq_true', Bool.not_eq_false'] at hc))
      (refine ⟨by first | exact .inr rfl | exact .inl rfl, ?_⟩; simp (disch := first | assumption | decide | omega | exact Pth.le _ | exact Rks.le _ | exact List.getElem_mem _ | exact allI_ints _ | exact allI_rks _ | exact allI_pths _ | exact Pth.nil _ | exact Rks.nil _ | (intro hh; simp only [Pth.nil _ hh, List.take_nil, List.drop_nil]; done) | (intro hh; simp only [Rks.nil _ hh, List.take_nil, List.drop_nil]; done) | (simp only [List.length_take, List.length_drop, List.length_append, List.length_cons, List.length_nil, List.length_replicate, List.length_map, ints_len]; omega)) only [resA, rvA, tupA, Option.bind_some, go_sem, if_pos, if_neg, Nat.reduceBEq, Nat.reduceEqDiff, ↓reduceIte, Nat.reduceSub, Nat.reduceAdd, Int.reduceToNat, reduceCtorEq, Nat.reduceLeDiff, Nat.reduceLT, Nat.reduceMul, Nat.reduceDiv, Int.reduceLT, Int.reduceLE, Int.reduceEq, Int.reduceNe, Int.reduceAdd, Int.reduceSub, Int.reduceNeg, Int.reduceGT, Int.reduceGE, Int.reduceBEq, Int.reduceBNe, Int.reduceMul, *])
      simp only [fin, if_true]
      rfl
    · rw [if_neg fun h => h0 h.2]
      have h0' : st < 0 := by omega
      clear hX
      refine ev_fn' A92 ?_
      repeat' (first | ((with_reducible first | apply S_0 | apply S_q1 | apply S_g | apply S_c); exact sgc) | (with_reducible first | apply SO_q | apply SG_t | apply SG_f0 | apply SG_f1 | apply S_nil | apply T_n | apply W_seq | apply W_region | apply SO_x | apply SC_t | apply SC_f | apply W_block | apply W_ret | apply W_skip | apply W_exit | apply T_r | apply T_e | apply B_n | apply B_e) | (with_reducible apply B_ne; focus decide) | (with_reducible first | apply B_r | apply R_e | apply R_r | apply H_e | apply H_r | apply G_e | apply G_r) | (with_reducible apply SC_n) | ((with_reducible first | apply SC_d | apply SG_d | apply SG_n | apply SC_b | apply SG_b) <;> intro hc <;> try simp only [decide_eq_true_eq, decide_eq_false_iff_not, Classical.not_not, Bool.not_eq_true', Bool.not_eq_false'] at hc))
      (refine ⟨by first | exact .inr rfl | exact .inl rfl, ?_⟩; simp (disch := first | assumption | decide | omega | exact Pth.le _ | exact Rks.le _ | exact List.getElem_mem _ | exact allI_ints _ | exact allI_rks _ | exact allI_pths _ | exact Pth.nil _ | exact Rks.nil _ | (intro hh; simp only [Pth.nil _ hh, List.take_nil, List.drop_nil]; done) | (intro hh; simp only [Rks.nil _ hh, List.take_nil, List.drop_nil]; done) | (simp only [List.length_take, List.length_drop, List.length_append, List.length_cons, List.length_nil, List.length_replicate, List.length_map, ints_len]; omega)) only [resA, rvA, tupA, Option.bind_some, go_sem, if_pos, if_neg, Nat.reduceBEq, Nat.reduceEqDiff, ↓reduceIte, Nat.reduceSub, Nat.reduceAdd, Int.reduceToNat, reduceCtorEq, Nat.reduceLeDiff, Nat.reduceLT, Nat.reduceMul, Nat.reduceDiv, Int.reduceLT, Int.reduceLE, Int.reduceEq, Int.reduceNe, Int.reduceAdd, Int.reduceSub, Int.reduceNeg, Int.reduceGT, Int.reduceGE, Int.reduceBEq, Int.reduceBNe, Int.reduceMul, *])
      simp only [fin, if_true]
  · rw [if_neg fun h => hX h.1]
    simp only [hX, decide_false] at h76
    clear hX
    refine ev_fn' A92 ?_
    repeat' (first | ((with_reducible first | apply S_0 | apply S_q1 | apply S_g | apply S_c); exact sgc) | (with_reducible first | apply SO_q | apply SG_t | apply SG_f0 | apply SG_f1 | apply S_nil | apply T_n | apply W_seq | apply W_region | apply SO_x | apply SC_t | apply SC_f | apply W_block | apply W_ret | apply W_skip | apply W_exit | apply T_r | apply T_e | apply B_n | apply B_e) | (with_reducible apply B_ne; focus decide) | (with_reducible first | apply B_r | apply R_e | apply R_r | apply H_e | apply H_r | apply G_e | apply G_r) | (with_reducible apply SC_n) | ((with_reducible first | apply SC_d | apply SG_d | apply SG_n | apply SC_b | apply SG_b) <;> intro hc <;> try simp only [decide_eq_true_eq, decide_eq_false_iff_not, Classical.not_not, Bool.not_eq_true', Bool.not_eq_false'] at hc))
    (refine ⟨by first | exact .inr rfl | exact .inl rfl, ?_⟩; simp (disch := first | assumption | decide | omega | exact Pth.le _ | exact Rks.le _ | exact List.getElem_mem _ | exact allI_ints _ | exact allI_rks _ | exact allI_pths _ | exact Pth.nil _ | exact Rks.nil _ | (intro hh; simp only [Pth.nil _ hh, List.take_nil, List.drop_nil]; done) | (intro hh; simp only [Rks.nil _ hh, List.take_nil, List.drop_nil]; done) | (simp only [List.length_take, List.length_drop, List.length_append, List.length_cons, List.length_nil, List.length_replicate, List.length_map, ints_len]; omega)) only [resA, rvA, tupA, Option.bind_some, go_sem, if_pos, if_neg, Nat.reduceBEq, Nat.reduceEqDiff, ↓reduceIte, Nat.reduceSub, Nat.reduceAdd, Int.reduceToNat, reduceCtorEq, Nat.reduceLeDiff, Nat.reduceLT, Nat.reduceMul, Nat.reduceDiv, Int.reduceLT, Int.reduceLE, Int.reduceEq, Int.reduceNe, Int.reduceAdd, Int.reduceSub, Int.reduceNeg, Int.reduceGT, Int.reduceGE, Int.reduceBEq, Int.reduceBNe, Int.reduceMul, *])
    simp only [fin, if_true]
theorem t93 (P : Nat) (M : MS) : ev pr 93 [.mptr P 0] M = some (.x (.clo 118 [.mptr M.length 0]) (M ++ [some [.mptr P 0]]) []) := by
  refine ev_fn' A93 ?_
  repeat' (first | ((with_reducible first | apply S_0 | apply S_q1 | apply S_g | apply S_c); exact sgc) | (with_reducible first | apply SO_q | apply SG_t | apply SG_f0 | apply SG_f1 | apply S_nil | apply T_n | apply W_seq | apply W_region | apply SO_x | apply SC_t | apply SC_f | apply W_block | apply W_ret | apply W_skip | apply W_exit | apply T_r | apply T_e | apply B_n | apply B_e) | (with_reducible apply B_ne; focus decide) | (with_reducible first | apply B_r | apply R_e | apply R_r | apply H_e | apply H_r | apply G_e | apply G_r) | (with_reducible apply SC_n) | ((with_reducible first | apply SC_d | apply SG_d | apply SG_n | apply SC_b | apply SG_b) <;> intro hc <;> try simp only [decide_eq_true_eq, decide_eq_false_iff_not, Classical.not_not, Bool.not_eq_true', Bool.not_eq_false'] at hc))
  (refine ⟨by first | exact .inr rfl | exact .inl rfl, ?_⟩; simp (disch := first | assumption | decide | omega | exact Pth.le _ | exact Rks.le _ | exact List.getElem_mem _ | exact allI_ints _ | exact allI_rks _ | exact allI_pths _ | exact Pth.nil _ | exact Rks.nil _ | (intro hh; simp only [Pth.nil _ hh, List.take_nil, List.drop_nil]; done) | (intro hh; simp only [Rks.nil _ hh, List.take_nil, List.drop_nil]; done) | (simp only [List.length_take, List.length_drop, List.length_append, List.length_cons, List.length_nil, List.length_replicate, List.length_map, ints_len]; omega)) only [resA, rvA, tupA, Option.bind_some, go_sem, if_pos, if_neg, Nat.reduceBEq, Nat.reduceEqDiff, ↓reduceIte, Nat.reduceSub, Nat.reduceAdd, Int.reduceToNat, reduceCtorEq, Nat.reduceLeDiff, Nat.reduceLT, Nat.reduceMul, Nat.reduceDiv, Int.reduceLT, Int.reduceLE, Int.reduceEq, Int.reduceNe, Int.reduceAdd, Int.reduceSub, Int.reduceNeg, Int.reduceGT, Int.reduceGE, Int.reduceBEq, Int.reduceBNe, Int.reduceMul, *])
  simp only [fin, if_true]
theorem t118 {YI : MS → Bool → List (List Pa) → List Nat → Prop} {P zb : Nat} {l : List Rks} {nl cd : Bool} {most : Int} {yn Lid : Nat} {caps : List AV} {y : List (List Pa) → List Pa → Bool × List (List Pa)} (hY : Yld P l nl cd most yn Lid caps y YI) (hX : MayX l.length l) (hS : SmallX l) (hm : most ≤ 9223372036854775807)
    {M : MS} {F : List Nat} (hz : M[zb]? = some (some [.mptr P 0])) (h0 : 0 ≤ most) (hbd : (fdsT (trc (plX l) (l.length - 1) [[0]])).length ≤ 3000) (hb : Bef YI P l nl cd most M sv0 [orP] 0 [] F) :
    ∃ out, ev pr 118 [.yld Lid yn caps, .mptr zb 0] M = some out ∧ ∃ M' D' sv' F', out = .x (.tup []) M' D' ∧ Pst YI P l nl cd most M M' sv0 [orP] F D' (runT most y (trc (plX l) (l.length - 1) [[0]]) ⟨0, []⟩) sv' F' := by
  have h1 : 1 ≤ l.length := by have := hX.1; omega
  obtain ⟨out, h119, M', D', sv', F', rfl, hp⟩ := t119 (nl := nl) (cd := cd) hY hX hS hm (l.length - 1) M sv0 [orP] 0 [] F (by simp; omega) (by simp) (by simpa using h0) (fun p hp => by rw [List.mem_singleton.1 hp]; decide) (Nat.le_trans (Nat.le_of_eq (Nat.zero_add _)) hbd) hb
  refine ev_fnE A118 ?_
  repeat' (first | ((with_reducible first | apply S_0 | apply S_q1 | apply S_g | apply S_c); exact sgc) | (with_reducible first | apply SO_q | apply SG_t | apply SG_f0 | apply SG_f1 | apply S_nil | apply T_n | apply W_seq | apply W_region | apply SO_x | apply SC_t | apply SC_f | apply W_block | apply W_ret | apply W_skip | apply W_exit | apply T_r | apply T_e | apply B_n | apply B_e) | (with_reducible apply B_ne; focus decide) | (with_reducible first | apply B_r | apply R_e | apply R_r | apply H_e | apply H_r | apply G_e | apply G_r) | (with_reducible apply SC_n) | ((with_reducible first | apply SC_d | apply SG_d | apply SG_n | apply SC_b | apply SG_b) <;> intro hc <;> try simp only [decide_eq_true_eq, decide_eq_false_iff_not, Classical.not_not, Bool.not_eq_true', Bool.not_eq_false'] at hc))
  refine ⟨.inl rfl, .x (.tup []) M' (List.filter (fun x => decide (x < M.length)) D'), ?_, M', _, sv', F', rfl, ?_⟩
  · simp only [fin, if_true, resA, rvA, tupA]
    (simp (disch := first | assumption | decide | omega | exact Pth.le _ | exact Rks.le _ | exact List.getElem_mem _ | exact allI_ints _ | exact allI_rks _ | exact allI_pths _ | exact Pth.nil _ | exact Rks.nil _ | (intro hh; simp only [Pth.nil _ hh, List.take_nil, List.drop_nil]; done) | (intro hh; simp only [Rks.nil _ hh, List.take_nil, List.drop_nil]; done) | (simp only [List.length_take, List.length_drop, List.length_append, List.length_cons, List.length_nil, List.length_replicate, List.length_map, ints_len]; omega)) only [go_sem, if_pos, if_neg, Nat.reduceBEq, Nat.reduceEqDiff, ↓reduceIte, Nat.reduceSub, Nat.reduceAdd, Int.reduceToNat, reduceCtorEq, Nat.reduceLeDiff, Nat.reduceLT, Nat.reduceMul, Nat.reduceDiv, Int.reduceLT, Int.reduceLE, Int.reduceEq, Int.reduceNe, Int.reduceAdd, Int.reduceSub, Int.reduceNeg, Int.reduceGT, Int.reduceGE, Int.reduceBEq, Int.reduceBNe, Int.reduceMul, *])
  · exact ⟨hp.at_, hp.row, hp.yi, hp.len, hp.fr, hp.ff, hp.fs, fun i hi => hp.dd i (by
      exact (List.mem_filter.1 hi).1), hp.mks⟩
end Go.Proofs.Ytopiaiibpacmlaa.Av
