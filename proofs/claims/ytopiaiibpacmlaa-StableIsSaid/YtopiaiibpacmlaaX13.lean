/- The list of the stable states. -/
import Derived.Test.YtopiaiibpacmlaaX12
namespace Go.Proofs.Ytopiaiibpacmlaa.Av
open Go.RowKit
set_option linter.unusedSimpArgs false
set_option linter.unusedVariables false
set_option maxHeartbeats 10000000
/-- What the search's trace is. -/
def trX (l : List Rks) : List Tr := trc (plX l) (l.length - 1) [[0]]
/-- What All answers. -/
noncomputable def ans49 (n m st : Int) (l : List Rks) : List (List Pa) × Int × Int :=
  if m < 0 ∨ ¬ (MayX n l ∧ 0 ≤ st) then ([], 0, 1) else if (stpT (trX l) : Int) ≤ st ∧ ((fdsT (trX l)).length : Int) ≤ m then (fdsT (trX l), (stpT (trX l) : Int), 0) else ([], 0, 11)
theorem filter_none {b : Nat} {D : List Nat} (h : ∀ i ∈ D, b ≤ i) : List.filter (fun x => decide (x < b)) D = [] := by
  rw [List.filter_eq_nil_iff]
  intro x hx
  have := h x hx
  simp only [decide_eq_true_eq]; omega
theorem pend0 : pend 0 = .nrm := rfl
theorem pend1 : pend 1 = .ret := rfl
theorem yA_0 {m : Int} {B : Nat} {M : MS} (h : M.length = B + 10) (hL : M[B + 9]? = some (some [.flat (.int .i64 0), .flat (.int .i64 0)])) (h1 : M[B + 1]? = some (some [.flat (.int .i64 m)])) (h2 : M[B + 2]? = some (some [.list 1 [] true true]))
    (h3 : M[B + 3]? = some (some [.flat (.int .i64 0)])) (h4 : M[B + 4]? = some (some [.flat (.int .i64 0)])) (h5 : M[B + 7]? = some (some [.list 1 [] true true])) : YA m (B + 9) (B + 1) (B + 2) (B + 3) (B + 4) (B + 7) M false [] [B + 9, B + 1, B + 2, B + 3, B + 4, B + 7] :=
  ⟨.list 1 [] true true, [], ⟨hL, h1, h2, h3, h4, h5, .inl ⟨rfl, rfl⟩, rfl, fun i hi => by cases hi⟩, rfl⟩
theorem ap_get {α : Type} (M G : List α) (k : Nat) : (M ++ G)[M.length + k]? = G[k]? := by
  rw [List.getElem?_append_right (by omega), Nat.add_sub_cancel_left]
section
variable {p : Pr} {base : Nat} {env : Env} {m : MS} {r : List AOp} {R : Env → MS → List Nat → Prop}
theorem calm_ld {ag : Bool} {n i off id : Nat} {x : O} (h : x.ev env = .mptr i off) (hne : i ≠ id) : I.calm id env (.load ag n x) = true := by simp [I.calm, h, hne]
theorem calm_fad {n i off id : Nat} {x : O} (h : x.ev env = .mptr i off) (hne : i ≠ id) : I.calm id env (.fad n x) = true := by simp [I.calm, h, hne]
theorem calm_nil {i off id : Nat} {x : O} (h : x.ev env = .mptr i off) (hne : i ≠ id) : I.calm id env (.nilck x) = true := by simp [I.calm, h, hne]
theorem tgt_k {n id off : Nat} {a x : O} {r : List AOp} (h : a.ev env = .mptr id off) : tgtK env (⟨none, .storeK n a x, none⟩ :: r : List AOp).head? = some id := by simp [tgtK, h]
/-- A region of which the first store may come early. -/
def WC (p : Pr) (base : Nat) (M : MS) (id : Nat) : Nat → List AOp → Env → (Env → MS → List Nat → Prop) → List Nat → Prop
  | 0, ops, env, Q, D => tgtK env ops.head? = some id ∧ WS p base 0 ops env M D Q
  | _ + 1, [], _, _, _ => False
  | k + 1, o :: r, env, Q, D => o.g = none ∧ o.i.calm id env = true ∧ ∃ v, evI (ev p) base env M [] o.i = some (.q v) ∧ WC p base M id k r (updO env o.dst v) Q D
theorem WC_s {id k : Nat} {o : AOp} {v : AV} {Q : Env → MS → List Nat → Prop} {D : List Nat} (hg : o.g = none) (he : evI (ev p) base env m [] o.i = some (.q v)) (hc : o.i.calm id env = true) (h : WC p base m id k r (updO env o.dst v) Q D) : WC p base m id (k + 1) (o :: r) env Q D := ⟨hg, hc, v, he, h⟩
theorem WC_0 {id : Nat} {ops : List AOp} {Q : Env → MS → List Nat → Prop} {D : List Nat} (ht : tgtK env ops.head? = some id) (h : WS p base 0 ops env m D Q) : WC p base m id 0 ops env Q D := ⟨ht, h⟩
theorem WC_all {id : Nat} {Q : Env → MS → List Nat → Prop} {D : List Nat} : ∀ {k : Nat} {ops : List AOp} {env : Env}, WC p base m id k ops env Q D → ∃ env1 env2 M2 D2, evQ (ev p) base m (ops.take k) env = some env1 ∧ tgtK env1 ops[k]? = some id ∧ calmQ (ev p) base m id (ops.take k) env = true ∧ evS (ev p) base (ops.drop k) env1 m D = some (env2, M2, D2) ∧ Q env2 M2 D2
  | 0, ops, env, h => by
    obtain ⟨e, m2, d, h1, h2⟩ := WS_zero h.2
    exact ⟨env, e, m2, d, rfl, by rw [← List.head?_eq_getElem?]; exact h.1, rfl, h1, h2⟩
  | k + 1, [], env, h => h.elim
  | k + 1, o :: r, env, ⟨hg, hc, v, he, h⟩ => by
    obtain ⟨env1, env2, M2, D2, h1, h2, h3, h4, h5⟩ := WC_all h
    refine ⟨env1, env2, M2, D2, ?_, by simpa using h2, ?_, h4, h5⟩
    · simp only [List.take_succ_cons, evQ, hg, wantA, he]; exact h1
    · simp only [List.take_succ_cons, calmQ, hg, hc, he, h3]; rfl
theorem W_C {k : Nat} (id : Nat) {ops : List AOp} {D : List Nat} {Q : Post} (h : WC p base m id k ops env (fun e m d => Q .nrm e m d) D) : W p base (.regionC k ops) env m D Q := by
  obtain ⟨env1, env2, M2, D2, h1, h2, h3, h4, h5⟩ := WC_all h
  exact W_regionC h1 h2 h3 h4 h5
/-- Three boxed results. -/
theorem S_res3 {a0 a1 a2 x0 x1 x2 : O} {i0 i1 i2 : Nat} {y0 y1 y2 z0 z1 z2 : AV} (h0 : a0.ev env = .mptr i0 0) (h1 : a1.ev env = .mptr i1 0) (h2 : a2.ev env = .mptr i2 0) (g0 : x0.ev env = y0) (g1 : x1.ev env = y1) (g2 : x2.ev env = y2)
    (c0 : cellsOf y0 = some [y0]) (c1 : cellsOf y1 = some [y1]) (c2 : cellsOf y2 = some [y2]) (m0 : m[i0]? = some (some [z0])) (m1 : m[i1]? = some (some [z1])) (m2 : m[i2]? = some (some [z2])) (hb : base ≤ i0 ∧ i0 < i1 ∧ i1 < i2)
    (h : ∀ m', m'.length = m.length → m'[i0]? = some (some [y0]) → m'[i1]? = some (some [y1]) → m'[i2]? = some (some [y2]) → (∀ i, i ≠ i0 → i ≠ i1 → i ≠ i2 → m'[i]? = m[i]?) → WS p base 0 r env m' [] R) : WS p base 0 (⟨none, .storeK 1 a0 x0, none⟩ :: ⟨none, .storeK 1 a1 x1, none⟩ :: ⟨none, .storeK 1 a2 x2, none⟩ :: r) env m [] R := by
  refine S_putX h0 g0 c0 m0 (by simp) fun m' p1 p2 p3 => ?_
  refine S_putX h1 g1 c1 ((p3 _ (by omega)).trans m1) (by simp) fun m'' q1 q2 q3 => ?_
  refine S_putX h2 g2 c2 ((q3 _ (by omega)).trans ((p3 _ (by omega)).trans m2)) (by simp) fun m3 u1 u2 u3 => ?_
  rw [dirt_o (by omega : base ≤ i2), dirt_o (by omega : base ≤ i1), dirt_o (by omega : base ≤ i0)]
  refine h m3 (by omega) ?_ ?_ ?_ fun i k0 k1 k2 => ?_
  · rw [u3 _ (by omega), q3 _ (by omega), p2]; rfl
  · rw [u3 _ (by omega), q2]; rfl
  · rw [u2]; rfl
  · rw [u3 i k2, q3 i k1, p3 i k0]
end
theorem t49 {n m st : Int} {l : List Rks} {nl cd : Bool} {M : MS} (hS : SmallX l) (hst : st ≤ 9223372036854775807) (hbd : MayX n l → (fdsT (trX l)).length ≤ 3000) :
    ∃ out, ev pr 49 [.agg [.flat (.int .i64 n), .list 1 (l.map Rks.av) nl cd], .flat (.int .i64 m), .flat (.int .i64 st)] M = some out ∧ ∃ (fs : List Sta) (n' c' : Bool), out = .q (.tup [.list 1 (fs.map Sta.av) n' c', .flat (.int .i64 (ans49 n m st l).2.1), .flat (.int .i64 (ans49 n m st l).2.2)]) ∧ fs.map Sta.l = (ans49 n m st l).1 := by
  by_cases hm : m < 0
  · simp only [ans49, if_pos (Or.inl hm : m < 0 ∨ ¬ (MayX n l ∧ 0 ≤ st))]
    refine ev_fnE A49 ?_
    repeat' (first | ((with_reducible first | apply S_0 | apply S_q1 | apply S_g | apply S_c); exact sgc) | (with_reducible first | apply SO_q | apply SG_t | apply SG_f0 | apply SG_f1 | apply S_nil | apply T_n | apply W_seq | apply W_region | apply SO_x | apply SC_t | apply SC_f | apply W_block | apply W_ret | apply W_skip | apply W_exit | apply T_r | apply T_e | apply B_n | apply B_e) | (with_reducible apply B_ne; focus decide) | (with_reducible first | apply B_r | apply R_e | apply R_r | apply H_e | apply H_r | apply G_e | apply G_r) | (with_reducible apply SC_n) | ((with_reducible first | apply SC_d | apply SG_d | apply SG_n | apply SC_b | apply SG_b) <;> intro hc <;> try simp only [decide_eq_true_eq, decide_eq_false_iff_not, Classical.not_not, Bool.not_eq_true', Bool.not_eq_false'] at hc))
    refine S_res3 (y0 := .list 1 [] true true) (y1 := .flat (.int .i64 0)) (y2 := .flat (.int .i64 1)) (by exact svc) (by exact svc) (by exact svc) (by exact svc) (by exact svc) (by exact svc) rfl rfl rfl (ap_get _ _ 2) (ap_get _ _ 3) (ap_get _ _ 4) (by omega) ?_
    intro m' w0 w1 w2 w3 w4
    repeat' (first | ((with_reducible first | apply S_0 | apply S_q1 | apply S_g | apply S_c); exact sgc) | (with_reducible first | apply SO_q | apply SG_t | apply SG_f0 | apply SG_f1 | apply S_nil | apply T_n | apply W_seq | apply W_region | apply SO_x | apply SC_t | apply SC_f | apply W_block | apply W_ret | apply W_skip | apply W_exit | apply T_r | apply T_e | apply B_n | apply B_e) | (with_reducible apply B_ne; focus decide) | (with_reducible first | apply B_r | apply R_e | apply R_r | apply H_e | apply H_r | apply G_e | apply G_r) | (with_reducible apply SC_n) | ((with_reducible first | apply SC_d | apply SG_d | apply SG_n | apply SC_b | apply SG_b) <;> intro hc <;> try simp only [decide_eq_true_eq, decide_eq_false_iff_not, Classical.not_not, Bool.not_eq_true', Bool.not_eq_false'] at hc))
    refine ⟨.inr rfl, .q (.tup [.list 1 [] true true, .flat (.int .i64 0), .flat (.int .i64 1)]), ?_, [], true, true, rfl, rfl⟩
    (simp (disch := first | assumption | decide | omega | exact Pth.le _ | exact Rks.le _ | exact List.getElem_mem _ | exact allI_ints _ | exact allI_rks _ | exact allI_pths _ | exact Pth.nil _ | exact Rks.nil _ | (intro hh; simp only [Pth.nil _ hh, List.take_nil, List.drop_nil]; done) | (intro hh; simp only [Rks.nil _ hh, List.take_nil, List.drop_nil]; done) | (simp only [List.length_take, List.length_drop, List.length_append, List.length_cons, List.length_nil, List.length_replicate, List.length_map, ints_len]; omega)) only [resA, rvA, tupA, fin, frzV, frzTup, frzA, frz, isI, isI.all, Option.bind_some, go_sem, if_pos, if_neg, Nat.reduceBEq, Nat.reduceEqDiff, ↓reduceIte, Nat.reduceSub, Nat.reduceAdd, Int.reduceToNat, reduceCtorEq, Nat.reduceLeDiff, Nat.reduceLT, Nat.reduceMul, Nat.reduceDiv, Int.reduceLT, Int.reduceLE, Int.reduceEq, Int.reduceNe, Int.reduceAdd, Int.reduceSub, Int.reduceNeg, Int.reduceGT, Int.reduceGE, Int.reduceBEq, Int.reduceBNe, Int.reduceMul, *])
  · have h92 := fun M => t92 n l nl cd st M hS
    by_cases hX : MayX n l ∧ 0 ≤ st
    · simp only [if_pos hX] at h92
      obtain ⟨hX, h0⟩ := hX
      obtain rfl : n = l.length := hX.2.2.1.symm
      have h93 := t93
      obtain ⟨M9, hM9⟩ : ∃ M9 : MS, M9 = M ++ [some [.flat (.int .i64 l.length), .list 1 (l.map Rks.av) nl cd], some [.flat (.int .i64 m)], some [.list 1 [] true true], some [.flat (.int .i64 0)], some [.flat (.int .i64 0)], some [.flat (.int .i64 l.length), .list 1 (l.map Rks.av) nl cd],
        some (zc l nl cd sv0 0 st false), some [.list 1 [] true true], some [.mptr (M.length + 6) 0], some [.flat (.int .i64 0), .flat (.int .i64 0)]] := ⟨_, rfl⟩
      have hg : ∀ (k : Nat), M9[M.length + k]? = [some [.flat (.int .i64 l.length), .list 1 (l.map Rks.av) nl cd], some [.flat (.int .i64 m)], some [.list 1 [] true true], some [.flat (.int .i64 0)], some [.flat (.int .i64 0)], some [.flat (.int .i64 l.length), .list 1 (l.map Rks.av) nl cd],
        some (zc l nl cd sv0 0 st false), some [.list 1 [] true true], some [.mptr (M.length + 6) 0], some [.flat (.int .i64 0), .flat (.int .i64 0)]][k]? := fun k => by
        rw [hM9, List.getElem?_append_right (by omega), Nat.add_sub_cancel_left]
      have hM9l : M9.length = M.length + 10 := by rw [hM9]; simp
      have hY := yldA (P := M.length + 6) (l := l) (nl := nl) (cd := cd) (most := st) (m := m) (Lid := M.length + 9) (B1 := M.length + 1) (R0 := M.length + 2) (R1 := M.length + 3) (R2 := M.length + 4) (L := M.length + 7) (by omega) (by omega) (by omega) (by omega) (by omega)
      have hB : Bef (YA m (M.length + 9) (M.length + 1) (M.length + 2) (M.length + 3) (M.length + 4) (M.length + 7)) (M.length + 6) l nl cd st M9 sv0 [orP] 0 [] [M.length + 9, M.length + 1, M.length + 2, M.length + 3, M.length + 4, M.length + 7] :=
        ⟨hg 6, .inl rfl, yA_0 hM9l (hg 9) (hg 1) (hg 2) (hg 3) (hg 4) (hg 7), by simp, fun i hi => by cases hi⟩
      obtain ⟨out, h118, M2, D2, sv2, F2, rfl, hp⟩ := t118 hY hX hS hst (hg 8) h0 (hbd hX) hB
      have hra := run_all (m := m) (most := st) (trX l) ⟨0, []⟩ (by simpa using h0) (by simp; omega)
      simp only [Int.ofNat_zero, Int.zero_add, List.length_nil, Nat.zero_add, List.nil_append, Int.natCast_zero] at hra
      have hans : ans49 l.length m st l = if (stpT (trX l) : Int) ≤ st ∧ ((fdsT (trX l)).length : Int) ≤ m then (fdsT (trX l), (stpT (trX l) : Int), 0) else ([], 0, 11) := by
        rw [ans49, if_neg]
        rintro (h | h)
        · exact hm h
        · exact h ⟨hX, h0⟩
      obtain ⟨r, hr⟩ : ∃ r, r = runT st (yAll m) (trX l) ⟨0, []⟩ := ⟨_, rfl⟩
      have hp' : Pst (YA m (M.length + 9) (M.length + 1) (M.length + 2) (M.length + 3) (M.length + 4) (M.length + 7)) (M.length + 6) l nl cd st M9 M2 sv0 [orP] [M.length + 9, M.length + 1, M.length + 2, M.length + 3, M.length + 4, M.length + 7] D2 r sv2 F2 := by rw [hr]; exact hp
      rw [← hr] at hra
      obtain ⟨fv, fs, hx, hF2⟩ := hp'.yi
      have hfv : ∀ i, idOf fv = some i → M.length + 10 ≤ i := fun i hi => by
        have := (hp'.ff i (by rw [hF2]; exact List.mem_append_right _ (mem_idOf.2 hi))).resolve_left (hx.ne i hi)
        omega
      clear hF2
      have hD2 : List.filter (fun x => decide (x < M.length)) D2 = [] := filter_none fun i hi => by
        rcases Nat.lt_or_ge i M9.length with h | h
        · rcases hp'.dd i hi h with h | h | h
          · omega
          · cases h
          · simp only [List.mem_cons, List.not_mem_nil, or_false] at h
            omega
        · omega
      have hlid := hx.lid
      have hPat := hp'.at_
      have hLat := hx.l
      have hr0 := hx.r0
      have hr1 := hx.r1
      have hr2 := hx.r2
      have hM2l := hp'.len
      have hrow := hx.row
      have hac := hx.ac
      have hne := hx.ne
      have hfrow : fs.map Sta.l = r.2.a := hac
      unfold zc at hPat
      obtain ⟨b, hb⟩ : ∃ b, decide (r.1 = .no) = b := ⟨_, rfl⟩
      obtain ⟨f, hf⟩ : ∃ f, decide (r.1 = .full) = f := ⟨_, rfl⟩
      rw [hb] at hlid hr2
      rw [hf] at hPat
      rw [hM9] at h118
      have hno : ∀ M3 : MS, (M3 = M2.set (M.length + 9) (some [.flat (.int .i64 3), .flat (.int .i64 (if b then 1 else 0))])) → M3.length = M2.length ∧ ∀ i, i ≠ M.length + 9 → M3[i]? = M2[i]? := fun M3 h => ⟨by rw [h]; simp, fun i hi => by rw [h]; exact set_get hi⟩
      clear hbd hB hY hx hp hp' hg hM9 hX hS hr
      refine ev_fnE A49 ?_
      repeat' (first | ((with_reducible first | apply S_0 | apply S_q1 | apply S_g | apply S_c); exact sgc) | (with_reducible first | apply SO_q | apply SG_t | apply SG_f0 | apply SG_f1 | apply S_nil | apply T_n | apply W_seq | apply W_region | apply SO_x | apply SC_t | apply SC_f | apply W_block | apply W_ret | apply W_skip | apply W_exit | apply T_r | apply T_e | apply B_n | apply B_e) | (with_reducible apply B_ne; focus decide) | (with_reducible first | apply B_r | apply R_e | apply R_r | apply H_e | apply H_r | apply G_e | apply G_r) | (with_reducible apply SC_n) | ((with_reducible first | apply SC_d | apply SG_d | apply SG_n | apply SC_b | apply SG_b) <;> intro hc <;> try simp only [decide_eq_true_eq, decide_eq_false_iff_not, Classical.not_not, Bool.not_eq_true', Bool.not_eq_false'] at hc))
      refine W_range (f := 118) (caps := [.mptr (M.length + 8) 0]) (x := .tup []) (M' := M2) (D' := D2) (st := if b then 2 else 0) (pd := if b then 1 else 0) (by exact svc) (by
        simp only [List.map_cons, List.map_nil, List.length_append, List.length_cons, List.length_nil, List.append_assoc, List.cons_append, List.nil_append]
        (simp (disch := first | assumption | decide | omega | exact Pth.le _ | exact Rks.le _ | exact List.getElem_mem _ | exact allI_ints _ | exact allI_rks _ | exact allI_pths _ | exact Pth.nil _ | exact Rks.nil _ | (intro hh; simp only [Pth.nil _ hh, List.take_nil, List.drop_nil]; done) | (intro hh; simp only [Rks.nil _ hh, List.take_nil, List.drop_nil]; done) | (simp only [List.length_take, List.length_drop, List.length_append, List.length_cons, List.length_nil, List.length_replicate, List.length_map, ints_len]; omega)) only [go_sem, if_pos, if_neg, Nat.reduceBEq, Nat.reduceEqDiff, ↓reduceIte, Nat.reduceSub, Nat.reduceAdd, Int.reduceToNat, reduceCtorEq, Nat.reduceLeDiff, Nat.reduceLT, Nat.reduceMul, Nat.reduceDiv, Int.reduceLT, Int.reduceLE, Int.reduceEq, Int.reduceNe, Int.reduceAdd, Int.reduceSub, Int.reduceNeg, Int.reduceGT, Int.reduceGE, Int.reduceBEq, Int.reduceBNe, Int.reduceMul, *])
        exact h118) (by
        simp only [List.length_append, List.length_cons, List.length_nil]
        exact hlid) (by cases b <;> simp) ?_
      simp only [List.length_append, List.length_cons, List.length_nil]
      rw [hD2]
      obtain ⟨M3, hM3⟩ : ∃ M3 : MS, M3 = M2.set (M.length + 9) (some [.flat (.int .i64 3), .flat (.int .i64 (if b then 1 else 0))]) := ⟨_, rfl⟩
      obtain ⟨z1, z2⟩ := hno M3 hM3
      rw [← hM3]
      clear hM3 hno h118
      have q0 := (z2 _ (by omega)).trans hr0
      have q1 := (z2 _ (by omega)).trans hr1
      have q2 := (z2 _ (by omega)).trans hr2
      have qP := (z2 _ (by omega)).trans hPat
      have qL := (z2 _ (by omega)).trans hLat
      have hrow3 : SRow M3 fv (fs.map Sta.av) := hrow.keep (by omega) fun i _ hi => z2 i fun e => hne i hi (by simp [e])
      clear hr0 hr1 hr2 hPat hLat hlid hrow z2
      cases b with
      | true =>
        have hn : r.1 ≠ .ok := fun h => by rw [h] at hb; simp at hb
        have hnc : ¬ ((stpT (trX l) : Int) ≤ st ∧ ((fdsT (trX l)).length : Int) ≤ m) := fun h => hn (by rw [hra.1 h])
        rw [hans, if_neg hnc]
        simp only [if_true, pend1, List.append_nil] at q2 ⊢
        clear hnc hra hn hb hf hac
        repeat' (first | ((with_reducible first | apply S_0 | apply S_q1 | apply S_g | apply S_c); exact sgc) | (with_reducible first | apply SO_q | apply SG_t | apply SG_f0 | apply SG_f1 | apply S_nil | apply T_n | apply W_seq | apply W_region | apply SO_x | apply SC_t | apply SC_f | apply W_block | apply W_ret | apply W_skip | apply W_exit | apply T_r | apply T_e | apply B_n | apply B_e) | (with_reducible apply B_ne; focus decide) | (with_reducible first | apply B_r | apply R_e | apply R_r | apply H_e | apply H_r | apply G_e | apply G_r) | (with_reducible apply SC_n) | ((with_reducible first | apply SC_d | apply SG_d | apply SG_n | apply SC_b | apply SG_b) <;> intro hc <;> try simp only [decide_eq_true_eq, decide_eq_false_iff_not, Classical.not_not, Bool.not_eq_true', Bool.not_eq_false'] at hc))
        refine ⟨.inr rfl, .q (.tup [.list 1 [] true true, .flat (.int .i64 0), .flat (.int .i64 11)]), ?_, [], true, true, rfl, rfl⟩
        (simp (disch := first | assumption | decide | omega | exact Pth.le _ | exact Rks.le _ | exact List.getElem_mem _ | exact allI_ints _ | exact allI_rks _ | exact allI_pths _ | exact Pth.nil _ | exact Rks.nil _ | (intro hh; simp only [Pth.nil _ hh, List.take_nil, List.drop_nil]; done) | (intro hh; simp only [Rks.nil _ hh, List.take_nil, List.drop_nil]; done) | (simp only [List.length_take, List.length_drop, List.length_append, List.length_cons, List.length_nil, List.length_replicate, List.length_map, ints_len]; omega)) only [resA, rvA, tupA, fin, frzV, frzTup, frzA, frz, isI, isI.all, Option.bind_some, go_sem, if_pos, if_neg, Nat.reduceBEq, Nat.reduceEqDiff, ↓reduceIte, Nat.reduceSub, Nat.reduceAdd, Int.reduceToNat, reduceCtorEq, Nat.reduceLeDiff, Nat.reduceLT, Nat.reduceMul, Nat.reduceDiv, Int.reduceLT, Int.reduceLE, Int.reduceEq, Int.reduceNe, Int.reduceAdd, Int.reduceSub, Int.reduceNeg, Int.reduceGT, Int.reduceGE, Int.reduceBEq, Int.reduceBNe, Int.reduceMul, *])
      | false =>
        simp only [Bool.false_eq_true, if_false, pend0, List.append_nil] at q2 ⊢
        cases f with
        | true =>
          have hn : r.1 ≠ .ok := fun h => by rw [h] at hf; simp at hf
          have hnc : ¬ ((stpT (trX l) : Int) ≤ st ∧ ((fdsT (trX l)).length : Int) ≤ m) := fun h => hn (by rw [hra.1 h])
          rw [hans, if_neg hnc]
          clear hnc hra hn hb hf hac
          repeat' (first | ((with_reducible first | apply S_0 | apply S_q1 | apply S_g | apply S_c); exact sgc) | (with_reducible first | apply SO_q | apply SG_t | apply SG_f0 | apply SG_f1 | apply S_nil | apply T_n | apply W_seq | apply W_region | apply SO_x | apply SC_t | apply SC_f | apply W_block | apply W_ret | apply W_skip | apply W_exit | apply T_r | apply T_e | apply B_n | apply B_e) | (with_reducible apply B_ne; focus decide) | (with_reducible first | apply B_r | apply R_e | apply R_r | apply H_e | apply H_r | apply G_e | apply G_r) | (with_reducible apply SC_n) | ((with_reducible first | apply SC_d | apply SG_d | apply SG_n | apply SC_b | apply SG_b) <;> intro hc <;> try simp only [decide_eq_true_eq, decide_eq_false_iff_not, Classical.not_not, Bool.not_eq_true', Bool.not_eq_false'] at hc))
          refine S_res3 (y0 := .list 1 [] true true) (y1 := .flat (.int .i64 0)) (y2 := .flat (.int .i64 11)) (by exact svc) (by exact svc) (by exact svc) (by exact svc) (by exact svc) (by exact svc) rfl rfl rfl q0 q1 q2 (by omega) ?_
          intro m' w0 w1 w2 w3 w4
          repeat' (first | ((with_reducible first | apply S_0 | apply S_q1 | apply S_g | apply S_c); exact sgc) | (with_reducible first | apply SO_q | apply SG_t | apply SG_f0 | apply SG_f1 | apply S_nil | apply T_n | apply W_seq | apply W_region | apply SO_x | apply SC_t | apply SC_f | apply W_block | apply W_ret | apply W_skip | apply W_exit | apply T_r | apply T_e | apply B_n | apply B_e) | (with_reducible apply B_ne; focus decide) | (with_reducible first | apply B_r | apply R_e | apply R_r | apply H_e | apply H_r | apply G_e | apply G_r) | (with_reducible apply SC_n) | ((with_reducible first | apply SC_d | apply SG_d | apply SG_n | apply SC_b | apply SG_b) <;> intro hc <;> try simp only [decide_eq_true_eq, decide_eq_false_iff_not, Classical.not_not, Bool.not_eq_true', Bool.not_eq_false'] at hc))
          refine ⟨.inr rfl, .q (.tup [.list 1 [] true true, .flat (.int .i64 0), .flat (.int .i64 11)]), ?_, [], true, true, rfl, rfl⟩
          (simp (disch := first | assumption | decide | omega | exact Pth.le _ | exact Rks.le _ | exact List.getElem_mem _ | exact allI_ints _ | exact allI_rks _ | exact allI_pths _ | exact Pth.nil _ | exact Rks.nil _ | (intro hh; simp only [Pth.nil _ hh, List.take_nil, List.drop_nil]; done) | (intro hh; simp only [Rks.nil _ hh, List.take_nil, List.drop_nil]; done) | (simp only [List.length_take, List.length_drop, List.length_append, List.length_cons, List.length_nil, List.length_replicate, List.length_map, ints_len]; omega)) only [resA, rvA, tupA, fin, frzV, frzTup, frzA, frz, isI, isI.all, Option.bind_some, go_sem, if_pos, if_neg, Nat.reduceBEq, Nat.reduceEqDiff, ↓reduceIte, Nat.reduceSub, Nat.reduceAdd, Int.reduceToNat, reduceCtorEq, Nat.reduceLeDiff, Nat.reduceLT, Nat.reduceMul, Nat.reduceDiv, Int.reduceLT, Int.reduceLE, Int.reduceEq, Int.reduceNe, Int.reduceAdd, Int.reduceSub, Int.reduceNeg, Int.reduceGT, Int.reduceGE, Int.reduceBEq, Int.reduceBNe, Int.reduceMul, *])
        | false =>
          have hok : r.1 = .ok := by
            cases h : r.1 with
            | ok => rfl
            | no => rw [h] at hb; simp at hb
            | full => rw [h] at hf; simp at hf
          have hyc : ((stpT (trX l) : Int) ≤ st ∧ ((fdsT (trX l)).length : Int) ≤ m) := by
            by_cases h : ((stpT (trX l) : Int) ≤ st ∧ ((fdsT (trX l)).length : Int) ≤ m)
            · exact h
            · exact absurd hok (hra.2 h)
          have hre := hra.1 hyc
          rw [hans, if_pos hyc]
          rw [hre] at hac qP
          simp only at hac qP
          clear hyc hra hb hf hok hre
          repeat' (first | ((with_reducible first | apply S_0 | apply S_q1 | apply S_g | apply S_c); exact sgc) | (with_reducible first | apply SO_q | apply SG_t | apply SG_f0 | apply SG_f1 | apply S_nil | apply T_n | apply W_seq | apply W_region | apply SO_x | apply SC_t | apply SC_f | apply W_block | apply W_ret | apply W_skip | apply W_exit | apply T_r | apply T_e | apply B_n | apply B_e) | (with_reducible apply B_ne; focus decide) | (with_reducible first | apply B_r | apply R_e | apply R_r | apply H_e | apply H_r | apply G_e | apply G_r) | (with_reducible apply SC_n) | ((with_reducible first | apply SC_d | apply SG_d | apply SG_n | apply SC_b | apply SG_b) <;> intro hc <;> try simp only [decide_eq_true_eq, decide_eq_false_iff_not, Classical.not_not, Bool.not_eq_true', Bool.not_eq_false'] at hc))
          refine W_C (M.length + 2) ?_
          iterate 5 refine WC_s rfl (by exact sgc) (by first | exact rfl | exact calm_ld (by exact sgc) (by omega) | exact calm_fad (by exact sgc) (by omega) | exact calm_nil (by exact sgc) (by omega)) ?_
          refine WC_0 (tgt_k (off := 0) (by exact svc)) ?_
          refine S_res3 (y0 := fv) (y1 := .flat (.int .i64 (stpT (trX l)))) (y2 := .flat (.int .i64 0)) (by exact svc) (by exact svc) (by exact svc) (by exact svc) (by exact svc) (by exact svc) hrow3.cell rfl rfl q0 q1 q2 (by omega) ?_
          intro m' w0 w1 w2 w3 w4
          have hrow4 : SRow m' fv (fs.map Sta.av) := hrow3.keep (by omega) fun i _ hi => by have := hfv i hi; exact w4 i (by omega) (by omega) (by omega)
          clear w4 q0 q1 q2 qP qL hrow3
          repeat' (first | ((with_reducible first | apply S_0 | apply S_q1 | apply S_g | apply S_c); exact sgc) | (with_reducible first | apply SO_q | apply SG_t | apply SG_f0 | apply SG_f1 | apply S_nil | apply T_n | apply W_seq | apply W_region | apply SO_x | apply SC_t | apply SC_f | apply W_block | apply W_ret | apply W_skip | apply W_exit | apply T_r | apply T_e | apply B_n | apply B_e) | (with_reducible apply B_ne; focus decide) | (with_reducible first | apply B_r | apply R_e | apply R_r | apply H_e | apply H_r | apply G_e | apply G_r) | (with_reducible apply SC_n) | ((with_reducible first | apply SC_d | apply SG_d | apply SG_n | apply SC_b | apply SG_b) <;> intro hc <;> try simp only [decide_eq_true_eq, decide_eq_false_iff_not, Classical.not_not, Bool.not_eq_true', Bool.not_eq_false'] at hc))
          rcases hrow4 with ⟨rfl, hn⟩ | ⟨id, h2, rfl, h4⟩
          · refine ⟨.inr rfl, .q (.tup [.list 1 (fs.map Sta.av) true true, .flat (.int .i64 (stpT (trX l))), .flat (.int .i64 0)]), ?_, fs, true, true, rfl, hac⟩
            rw [hn]
            (simp (disch := first | assumption | decide | omega | exact Pth.le _ | exact Rks.le _ | exact List.getElem_mem _ | exact allI_ints _ | exact allI_rks _ | exact allI_pths _ | exact Pth.nil _ | exact Rks.nil _ | (intro hh; simp only [Pth.nil _ hh, List.take_nil, List.drop_nil]; done) | (intro hh; simp only [Rks.nil _ hh, List.take_nil, List.drop_nil]; done) | (simp only [List.length_take, List.length_drop, List.length_append, List.length_cons, List.length_nil, List.length_replicate, List.length_map, ints_len]; omega)) only [resA, rvA, tupA, fin, frzV, frzTup, frzA, frz, isI, isI.all, Option.bind_some, go_sem, if_pos, if_neg, Nat.reduceBEq, Nat.reduceEqDiff, ↓reduceIte, Nat.reduceSub, Nat.reduceAdd, Int.reduceToNat, reduceCtorEq, Nat.reduceLeDiff, Nat.reduceLT, Nat.reduceMul, Nat.reduceDiv, Int.reduceLT, Int.reduceLE, Int.reduceEq, Int.reduceNe, Int.reduceAdd, Int.reduceSub, Int.reduceNeg, Int.reduceGT, Int.reduceGE, Int.reduceBEq, Int.reduceBNe, Int.reduceMul, *])
          · have hid : M.length ≤ id := by have := hfv id rfl; omega
            refine ⟨.inr rfl, .q (.tup [.list 1 (fs.map Sta.av) false false, .flat (.int .i64 (stpT (trX l))), .flat (.int .i64 0)]), ?_, fs, false, false, rfl, hac⟩
            have htk : List.take fs.length (fs.map Sta.av) = fs.map Sta.av := List.take_of_length_le (by simp)
            have hall := allI_stas fs
            (simp (disch := first | assumption | decide | omega | exact Pth.le _ | exact Rks.le _ | exact List.getElem_mem _ | exact allI_ints _ | exact allI_rks _ | exact allI_pths _ | exact Pth.nil _ | exact Rks.nil _ | (intro hh; simp only [Pth.nil _ hh, List.take_nil, List.drop_nil]; done) | (intro hh; simp only [Rks.nil _ hh, List.take_nil, List.drop_nil]; done) | (simp only [List.length_take, List.length_drop, List.length_append, List.length_cons, List.length_nil, List.length_replicate, List.length_map, ints_len]; omega)) only [resA, rvA, tupA, fin, frzV, frzTup, frzA, frz, isI, isI.all, Option.bind_some, go_sem, if_pos, if_neg, Nat.reduceBEq, Nat.reduceEqDiff, ↓reduceIte, Nat.reduceSub, Nat.reduceAdd, Int.reduceToNat, reduceCtorEq, Nat.reduceLeDiff, Nat.reduceLT, Nat.reduceMul, Nat.reduceDiv, Int.reduceLT, Int.reduceLE, Int.reduceEq, Int.reduceNe, Int.reduceAdd, Int.reduceSub, Int.reduceNeg, Int.reduceGT, Int.reduceGE, Int.reduceBEq, Int.reduceBNe, Int.reduceMul, *])
    · have hX' : m < 0 ∨ ¬ (MayX n l ∧ 0 ≤ st) := .inr hX
      simp only [ans49, if_pos hX']
      simp only [if_neg hX] at h92
      clear hX hX'
      refine ev_fnE A49 ?_
      repeat' (first | ((with_reducible first | apply S_0 | apply S_q1 | apply S_g | apply S_c); exact sgc) | (with_reducible first | apply SO_q | apply SG_t | apply SG_f0 | apply SG_f1 | apply S_nil | apply T_n | apply W_seq | apply W_region | apply SO_x | apply SC_t | apply SC_f | apply W_block | apply W_ret | apply W_skip | apply W_exit | apply T_r | apply T_e | apply B_n | apply B_e) | (with_reducible apply B_ne; focus decide) | (with_reducible first | apply B_r | apply R_e | apply R_r | apply H_e | apply H_r | apply G_e | apply G_r) | (with_reducible apply SC_n) | ((with_reducible first | apply SC_d | apply SG_d | apply SG_n | apply SC_b | apply SG_b) <;> intro hc <;> try simp only [decide_eq_true_eq, decide_eq_false_iff_not, Classical.not_not, Bool.not_eq_true', Bool.not_eq_false'] at hc))
      refine S_res3 (y0 := .list 1 [] true true) (y1 := .flat (.int .i64 0)) (y2 := .flat (.int .i64 1)) (by exact svc) (by exact svc) (by exact svc) (by exact svc) (by exact svc) (by exact svc) rfl rfl rfl (ap_get _ _ 2) (ap_get _ _ 3) (ap_get _ _ 4) (by omega) ?_
      intro m' w0 w1 w2 w3 w4
      repeat' (first | ((with_reducible first | apply S_0 | apply S_q1 | apply S_g | apply S_c); exact sgc) | (with_reducible first | apply SO_q | apply SG_t | apply SG_f0 | apply SG_f1 | apply S_nil | apply T_n | apply W_seq | apply W_region | apply SO_x | apply SC_t | apply SC_f | apply W_block | apply W_ret | apply W_skip | apply W_exit | apply T_r | apply T_e | apply B_n | apply B_e) | (with_reducible apply B_ne; focus decide) | (with_reducible first | apply B_r | apply R_e | apply R_r | apply H_e | apply H_r | apply G_e | apply G_r) | (with_reducible apply SC_n) | ((with_reducible first | apply SC_d | apply SG_d | apply SG_n | apply SC_b | apply SG_b) <;> intro hc <;> try simp only [decide_eq_true_eq, decide_eq_false_iff_not, Classical.not_not, Bool.not_eq_true', Bool.not_eq_false'] at hc))
      refine ⟨.inr rfl, .q (.tup [.list 1 [] true true, .flat (.int .i64 0), .flat (.int .i64 1)]), ?_, [], true, true, rfl, rfl⟩
      (simp (disch := first | assumption | decide | omega | exact Pth.le _ | exact Rks.le _ | exact List.getElem_mem _ | exact allI_ints _ | exact allI_rks _ | exact allI_pths _ | exact Pth.nil _ | exact Rks.nil _ | (intro hh; simp only [Pth.nil _ hh, List.take_nil, List.drop_nil]; done) | (intro hh; simp only [Rks.nil _ hh, List.take_nil, List.drop_nil]; done) | (simp only [List.length_take, List.length_drop, List.length_append, List.length_cons, List.length_nil, List.length_replicate, List.length_map, ints_len]; omega)) only [resA, rvA, tupA, fin, frzV, frzTup, frzA, frz, isI, isI.all, Option.bind_some, go_sem, if_pos, if_neg, Nat.reduceBEq, Nat.reduceEqDiff, ↓reduceIte, Nat.reduceSub, Nat.reduceAdd, Int.reduceToNat, reduceCtorEq, Nat.reduceLeDiff, Nat.reduceLT, Nat.reduceMul, Nat.reduceDiv, Int.reduceLT, Int.reduceLE, Int.reduceEq, Int.reduceNe, Int.reduceAdd, Int.reduceSub, Int.reduceNeg, Int.reduceGT, Int.reduceGE, Int.reduceBEq, Int.reduceBNe, Int.reduceMul, *])
end Go.Proofs.Ytopiaiibpacmlaa.Av
namespace Go.Proofs.Ytopiaiibpacmlaa.Av
open Go.RowKit
set_option linter.unusedSimpArgs false
set_option linter.unusedVariables false
set_option maxHeartbeats 10000000
theorem stp_take (l : List Rks) (n : Nat) (s ps : List Pa) (i : Nat) : stpT (evL l n s (ps.take i)) ≤ stpT (evL l n s ps) := by
  conv => rhs; rw [← List.take_append_drop i ps, evL_app, stp_app]
  omega
theorem stp_evT (l : List Rks) (n : Nat) (s : List Pa) (p : Pa) : stpT (evT l n s p) = (if fitsA (plX l) (s ++ [p]) then stpT (trc (plX l) n (s ++ [p])) else 0) + 1 := by
  rw [evT, stp_st]
  split <;> rfl
theorem t94 {l : List Rks} {nl cd : Bool} (hX : MayX l.length l) (hS : SmallX l) : ∀ (r : Nat) {M : MS} {sv : AV} {s : List Pth}, s.length + r = l.length → 1 ≤ s.length → SV M sv s → (prodL ((plX l).drop s.length)).length ≤ 3000 →
    ev pr 94 [.agg [.flat (.int .i64 l.length), .list 1 (l.map Rks.av) nl cd], sv] M = some (.q (.flat (.int .i64 (stpT (trc (plX l) r (pl s))))))
  | 0, M, sv, s, hr, hs1, hsv, hb => by
    have hsl : s.length = l.length := by omega
    have hlen := hsv.len
    have hslZ : (s.length : Int) = l.length := by omega
    have h0 : (stpT (trc (plX l) 0 (pl s)) : Int) = 0 := by simp [trc, stpT]
    rw [h0]
    clear hX hS h0
    refine ev_fn' A94 ?_
    repeat' (first | ((with_reducible first | apply S_0 | apply S_q1 | apply S_g | apply S_c); exact sgc) | (with_reducible first | apply SO_q | apply SG_t | apply SG_f0 | apply SG_f1 | apply S_nil | apply T_n | apply W_seq | apply W_region | apply SO_x | apply SC_t | apply SC_f | apply W_block | apply W_ret | apply W_skip | apply W_exit | apply T_r | apply T_e | apply B_n | apply B_e) | (with_reducible apply B_ne; focus decide) | (with_reducible first | apply B_r | apply R_e | apply R_r | apply H_e | apply H_r | apply G_e | apply G_r) | (with_reducible apply SC_n) | ((with_reducible first | apply SC_d | apply SG_d | apply SG_n | apply SC_b | apply SG_b) <;> intro hc <;> try simp only [decide_eq_true_eq, decide_eq_false_iff_not, Classical.not_not, Bool.not_eq_true', Bool.not_eq_false'] at hc))
    (first | exact fincR | exact fincN)
  | r + 1, M, sv, s, hr, hs1, hsv, hb => by
    have hvl : s.length < l.length := by omega
    have h12 := hS.1
    have h70 := (hS.2 _ (List.getElem_mem hvl)).1
    have htot := stp_trc (plX l) (r + 1) (s := pl s) (by rw [pl_len, plX_len]; exact hr)
    rw [pl_len] at htot
    have htot2 : (r + 1) * (prodL ((plX l).drop s.length)).length ≤ 12 * 3000 := Nat.mul_le_mul (by omega) hb
    have hdrop := plX_drop hvl
    rw [hdrop, prodL_len, paths_len] at hb
    obtain ⟨P, hP⟩ : ∃ P, P = (prodL ((plX l).drop (s.length + 1))).length := ⟨_, rfl⟩
    have hPb : (prodL ((plX l).drop (s.length + 1))).length ≤ 3000 := Nat.le_trans (Nat.le_mul_of_pos_left _ (by omega)) hb
    have IH := fun {M : MS} {sv : AV} {s : List Pth} => t94 (nl := nl) (cd := cd) hX hS r (M := M) (sv := sv) (s := s)
    have h120 := fun {M : MS} {sv : AV} {s : List Pth} hv h1 h2 => t120 (M := M) (sv := sv) (s := s) (nl := nl) (cd := cd) (n := l.length) hv hX hS h1 h2
    have hlen := hsv.len
    have hcell := hsv.cell
    have hslZ : ¬ (s.length : Int) = l.length := by omega
    rw [trc_evL l r (pl s) (pl_len s) hvl] at htot ⊢
    clear hX hS hdrop hP
    refine ev_fn' A94 ?_
    repeat' (first | ((with_reducible first | apply S_0 | apply S_q1 | apply S_g | apply S_c); exact sgc) | (with_reducible first | apply SO_q | apply SG_t | apply SG_f0 | apply SG_f1 | apply S_nil | apply T_n | apply W_seq | apply W_region | apply SO_x | apply SC_t | apply SC_f | apply W_block | apply W_ret | apply W_skip | apply W_exit | apply T_r | apply T_e | apply B_n | apply B_e) | (with_reducible apply B_ne; focus decide) | (with_reducible first | apply B_r | apply R_e | apply R_r | apply H_e | apply H_r | apply G_e | apply G_r) | (with_reducible apply SC_n) | ((with_reducible first | apply SC_d | apply SG_d | apply SG_n | apply SC_b | apply SG_b) <;> intro hc <;> try simp only [decide_eq_true_eq, decide_eq_false_iff_not, Classical.not_not, Bool.not_eq_true', Bool.not_eq_false'] at hc))
    refine W_whl (fun q e m d => d = [] ∧ ∃ i, q = l[s.length].l.length + 1 - i ∧ i ≤ l[s.length].l.length + 1 ∧ e 7 = .flat (.int .i64 i) ∧ e 6 = .flat (.int .i64 (stpT (evL l r (pl s) ((paths l[s.length].l ++ [[]]).take i)))) ∧ (∀ G, (m ++ G)[M.length]? = some (some [.flat (.int .i64 l.length), .list 1 (l.map Rks.av) nl cd])) ∧ M.length < m.length ∧ SV m sv s) (l[s.length].l.length + 1) (by simp only [asg, asgO, List.append_nil, List.nil_append, List.cons_append]; rfl)
      ⟨rfl, 0, rfl, by omega, by exact svc, ?_, fun G => by simp, by simp, hsv.keep (by simp) fun id hid _ => List.getElem?_append_left hid⟩ ?_
    · have hz : stpT (evL l r (pl s) ((paths l[s.length].l ++ [[]]).take 0)) = 0 := by simp [evL, stpT]
      rw [hz]
      (simp (disch := first | assumption | decide | omega | exact Pth.le _ | exact Rks.le _ | exact List.getElem_mem _ | exact allI_ints _ | exact allI_rks _ | exact allI_pths _ | exact Pth.nil _ | exact Rks.nil _ | (intro hh; simp only [Pth.nil _ hh, List.take_nil, List.drop_nil]; done) | (intro hh; simp only [Rks.nil _ hh, List.take_nil, List.drop_nil]; done) | (simp only [List.length_take, List.length_drop, List.length_append, List.length_cons, List.length_nil, List.length_replicate, List.length_map, ints_len]; omega)) only [go_sem, if_pos, if_neg, Nat.reduceBEq, Nat.reduceEqDiff, ↓reduceIte, Nat.reduceSub, Nat.reduceAdd, Int.reduceToNat, reduceCtorEq, Nat.reduceLeDiff, Nat.reduceLT, Nat.reduceMul, Nat.reduceDiv, Int.reduceLT, Int.reduceLE, Int.reduceEq, Int.reduceNe, Int.reduceAdd, Int.reduceSub, Int.reduceNeg, Int.reduceGT, Int.reduceGE, Int.reduceBEq, Int.reduceBNe, Int.reduceMul, *])
    rintro q e m d hk ⟨rfl, i, rfl, hi, e7, e6, hbx, hml, hsm⟩
    have k0 : e 0 = e 0 := rfl
    have k1 : e 1 = sv := by rw [hk 1 rfl]; exact svc
    have k2 : e 2 = .mptr M.length 0 := by rw [hk 2 rfl]; exact svc
    have k5 : e 5 = .flat (.int .i64 s.length) := by rw [hk 5 rfl]; exact svc
    clear hk k0
    have hbx0 : m[M.length]? = some (some [.flat (.int .i64 l.length), .list 1 (l.map Rks.av) nl cd]) := by simpa using hbx []
    have hvm : view m sv = some (s.map Pth.av) := hsm.view
    have hvm' : ∀ G, view (m ++ G) sv = some (s.map Pth.av) := hsm.vw.vw
    rcases Nat.lt_or_ge i (l[s.length].l.length + 1) with hlt | hlt
    · have hlt' : (i : Int) ≤ l[s.length].l.length := by omega
      have hle := stp_take l r (pl s) (paths l[s.length].l ++ [[]]) (i + 1)
      have tail : ∀ (v' : AV) (G' : MS) (pp : Pth), Own m.length (m ++ G') v' 1 ((s ++ [pp]).map Pth.av) → (paths l[s.length].l ++ [[]])[i]? = some pp.l → ∃ b K : Nat, ∃ f : Bool, ev pr 120 [.agg [.flat (.int .i64 l.length), .list 1 (l.map Rks.av) nl cd], v'] (m ++ G') = some (.q (.flat (.bool (!f)))) ∧ ev pr 94 [.agg [.flat (.int .i64 l.length), .list 1 (l.map Rks.av) nl cd], v'] (m ++ G') = some (.q (.flat (.int .i64 K))) ∧
          SV (m ++ G') sv s ∧ stpT (evL l r (pl s) ((paths l[s.length].l ++ [[]]).take (i + 1))) = stpT (evL l r (pl s) ((paths l[s.length].l ++ [[]]).take i)) + 1 + (if f then K else 0) := by
        intro v' G' pp hO hpp
        obtain ⟨hSV, idn, hid, hidn⟩ := own_sv hO (by simp)
        refine ⟨0, stpT (trc (plX l) r (pl (s ++ [pp]))), fitsA (plX l) (pl (s ++ [pp])), h120 hSV.vw (by simp) (by simp; omega), IH (by simp; omega) (by simp) hSV (by simpa using hPb), hsm.keep (by simp) fun id h _ => List.getElem?_append_left h, ?_⟩
        have : (paths l[s.length].l ++ [[]]).take (i + 1) = (paths l[s.length].l ++ [[]]).take i ++ [pp.l] := by
          rw [List.take_add_one, hpp]; rfl
        rw [this, evL_app, stp_app, evL_one, stp_evT, pl_snoc]
        omega
      clear IH h120
      have hO1 : Own m.length (m ++ [some (s.map Pth.av)]) (.ms m.length 0 s.length 1 false) 1 (s.map Pth.av) := ⟨by decide, allI_pths s, ⟨s.length, by simp⟩, .inr ⟨by intro h; rw [List.map_eq_nil_iff] at h; subst h; simp at hs1, m.length, Nat.le_refl _, by simp, by simp, by simp⟩⟩
      repeat' (first | ((with_reducible first | apply S_0 | apply S_q1 | apply S_g | apply S_c); exact sgc) | (with_reducible first | apply SO_q | apply SG_t | apply SG_f0 | apply SG_f1 | apply S_nil | apply T_n | apply W_seq | apply W_region | apply SO_x | apply SC_t | apply SC_f | apply W_block | apply W_ret | apply W_skip | apply W_exit | apply T_r | apply T_e | apply B_n | apply B_e) | (with_reducible apply B_ne; focus decide) | (with_reducible first | apply B_r | apply R_e | apply R_r | apply H_e | apply H_r | apply G_e | apply G_r) | (with_reducible apply SC_n) | ((with_reducible first | apply SC_d | apply SG_d | apply SG_n | apply SC_b | apply SG_b) <;> intro hc <;> try simp only [decide_eq_true_eq, decide_eq_false_iff_not, Classical.not_not, Bool.not_eq_true', Bool.not_eq_false'] at hc))
      · have hil : i < l[s.length].l.length := by omega
        (refine S_ownG (cs := s.map Pth.av) m [some (s.map Pth.av)] (by assumption) (by first | rfl | simp only [List.append_assoc, List.cons_append, List.nil_append]) (by exact sgc) (by exact sgc) (by exact sgc) (by exact sgc) (by exact sgc) (by (first | assumption | omega | (simp only [ints_len, Nat.div_one, Nat.one_mul, Nat.mul_one, List.length_map, rks_len, half, List.length_cons, List.length_nil, List.length_append, List.length_replicate]; omega))) (by (first | assumption | omega | (simp only [ints_len, Nat.div_one, Nat.one_mul, Nat.mul_one, List.length_map, rks_len, half, List.length_cons, List.length_nil, List.length_append, List.length_replicate]; omega))) (by first | omega | (simp; done) | (simp; omega)) ?_)
        intro v' G' hO2
        obtain ⟨_, K, f, h120, h94, g1, g2⟩ := tail v' G' l[s.length].l[i].p (by simpa [Pth.av_eq] using hO2) (by
          rw [List.getElem?_append_left (by rw [paths_len]; exact hil), List.getElem?_eq_getElem (by rw [paths_len]; exact hil), paths_get])
        have hvc := hO2.cell
        clear tail
        cases f with
        | true =>
          simp only [if_true] at g2
          have g3 : ((stpT (evL l r (pl s) ((paths l[s.length].l ++ [[]]).take (i + 1))) : Nat) : Int) = stpT (evL l r (pl s) ((paths l[s.length].l ++ [[]]).take i)) + 1 + K := by omega
          have g4 : stpT (evL l r (pl s) ((paths l[s.length].l ++ [[]]).take i)) + 1 + K ≤ 36000 := by omega
          clear g2 hle htot htot2 hb hPb
          repeat' (first | ((with_reducible first | apply S_0 | apply S_q1 | apply S_g | apply S_c); exact sgc) | (with_reducible first | apply SO_q | apply SG_t | apply SG_f0 | apply SG_f1 | apply S_nil | apply T_n | apply W_seq | apply W_region | apply SO_x | apply SC_t | apply SC_f | apply W_block | apply W_ret | apply W_skip | apply W_exit | apply T_r | apply T_e | apply B_n | apply B_e) | (with_reducible apply B_ne; focus decide) | (with_reducible first | apply B_r | apply R_e | apply R_r | apply H_e | apply H_r | apply G_e | apply G_r) | (with_reducible apply SC_n) | ((with_reducible first | apply SC_d | apply SG_d | apply SG_n | apply SC_b | apply SG_b) <;> intro hc <;> try simp only [decide_eq_true_eq, decide_eq_false_iff_not, Classical.not_not, Bool.not_eq_true', Bool.not_eq_false'] at hc))
          exact R_n _ (by omega) ⟨rfl, i + 1, rfl, by omega, by exact svc, by exact svc, fun G => by rw [List.append_assoc]; exact hbx _, by simp; omega, g1⟩
        | false =>
          simp only [Bool.false_eq_true, if_false] at g2
          have g3 : ((stpT (evL l r (pl s) ((paths l[s.length].l ++ [[]]).take (i + 1))) : Nat) : Int) = stpT (evL l r (pl s) ((paths l[s.length].l ++ [[]]).take i)) + 1 := by omega
          have g4 : stpT (evL l r (pl s) ((paths l[s.length].l ++ [[]]).take i)) + 1 ≤ 36000 := by omega
          clear g2 hle htot htot2 hb hPb
          repeat' (first | ((with_reducible first | apply S_0 | apply S_q1 | apply S_g | apply S_c); exact sgc) | (with_reducible first | apply SO_q | apply SG_t | apply SG_f0 | apply SG_f1 | apply S_nil | apply T_n | apply W_seq | apply W_region | apply SO_x | apply SC_t | apply SC_f | apply W_block | apply W_ret | apply W_skip | apply W_exit | apply T_r | apply T_e | apply B_n | apply B_e) | (with_reducible apply B_ne; focus decide) | (with_reducible first | apply B_r | apply R_e | apply R_r | apply H_e | apply H_r | apply G_e | apply G_r) | (with_reducible apply SC_n) | ((with_reducible first | apply SC_d | apply SG_d | apply SG_n | apply SC_b | apply SG_b) <;> intro hc <;> try simp only [decide_eq_true_eq, decide_eq_false_iff_not, Classical.not_not, Bool.not_eq_true', Bool.not_eq_false'] at hc))
          exact R_n _ (by omega) ⟨rfl, i + 1, rfl, by omega, by exact svc, by exact svc, fun G => by rw [List.append_assoc]; exact hbx _, by simp; omega, g1⟩
      · have hil : i = l[s.length].l.length := by omega
        have hilH : Hid (i = l[s.length].l.length) := hil
        (refine S_ownG (cs := s.map Pth.av) m [some (s.map Pth.av)] (by assumption) (by first | rfl | simp only [List.append_assoc, List.cons_append, List.nil_append]) (by exact sgc) (by exact sgc) (by exact sgc) (by exact sgc) (by exact sgc) (by (first | assumption | omega | (simp only [ints_len, Nat.div_one, Nat.one_mul, Nat.mul_one, List.length_map, rks_len, half, List.length_cons, List.length_nil, List.length_append, List.length_replicate]; omega))) (by (first | assumption | omega | (simp only [ints_len, Nat.div_one, Nat.one_mul, Nat.mul_one, List.length_map, rks_len, half, List.length_cons, List.length_nil, List.length_append, List.length_replicate]; omega))) (by first | omega | (simp; done) | (simp; omega)) ?_)
        intro v' G' hO2
        obtain ⟨_, K, f, h120, h94, g1, g2⟩ := tail v' G' nlP (by simpa [Pth.av_eq, nlP, intsA] using hO2) (by
          rw [List.getElem?_append_right (by rw [paths_len]; omega), paths_len, hil, Nat.sub_self]; rfl)
        have hvc := hO2.cell
        clear tail hil
        cases f with
        | true =>
          simp only [if_true] at g2
          have g3 : ((stpT (evL l r (pl s) ((paths l[s.length].l ++ [[]]).take (i + 1))) : Nat) : Int) = stpT (evL l r (pl s) ((paths l[s.length].l ++ [[]]).take i)) + 1 + K := by omega
          have g4 : stpT (evL l r (pl s) ((paths l[s.length].l ++ [[]]).take i)) + 1 + K ≤ 36000 := by omega
          clear g2 hle htot htot2 hb hPb
          repeat' (first | ((with_reducible first | apply S_0 | apply S_q1 | apply S_g | apply S_c); exact sgc) | (with_reducible first | apply SO_q | apply SG_t | apply SG_f0 | apply SG_f1 | apply S_nil | apply T_n | apply W_seq | apply W_region | apply SO_x | apply SC_t | apply SC_f | apply W_block | apply W_ret | apply W_skip | apply W_exit | apply T_r | apply T_e | apply B_n | apply B_e) | (with_reducible apply B_ne; focus decide) | (with_reducible first | apply B_r | apply R_e | apply R_r | apply H_e | apply H_r | apply G_e | apply G_r) | (with_reducible apply SC_n) | ((with_reducible first | apply SC_d | apply SG_d | apply SG_n | apply SC_b | apply SG_b) <;> intro hc <;> try simp only [decide_eq_true_eq, decide_eq_false_iff_not, Classical.not_not, Bool.not_eq_true', Bool.not_eq_false'] at hc))
          exact R_n _ (by omega) ⟨rfl, i + 1, rfl, by omega, by exact svc, by exact svc, fun G => by rw [List.append_assoc]; exact hbx _, by simp; omega, g1⟩
        | false =>
          simp only [Bool.false_eq_true, if_false] at g2
          have g3 : ((stpT (evL l r (pl s) ((paths l[s.length].l ++ [[]]).take (i + 1))) : Nat) : Int) = stpT (evL l r (pl s) ((paths l[s.length].l ++ [[]]).take i)) + 1 := by omega
          have g4 : stpT (evL l r (pl s) ((paths l[s.length].l ++ [[]]).take i)) + 1 ≤ 36000 := by omega
          clear g2 hle htot htot2 hb hPb
          repeat' (first | ((with_reducible first | apply S_0 | apply S_q1 | apply S_g | apply S_c); exact sgc) | (with_reducible first | apply SO_q | apply SG_t | apply SG_f0 | apply SG_f1 | apply S_nil | apply T_n | apply W_seq | apply W_region | apply SO_x | apply SC_t | apply SC_f | apply W_block | apply W_ret | apply W_skip | apply W_exit | apply T_r | apply T_e | apply B_n | apply B_e) | (with_reducible apply B_ne; focus decide) | (with_reducible first | apply B_r | apply R_e | apply R_r | apply H_e | apply H_r | apply G_e | apply G_r) | (with_reducible apply SC_n) | ((with_reducible first | apply SC_d | apply SG_d | apply SG_n | apply SC_b | apply SG_b) <;> intro hc <;> try simp only [decide_eq_true_eq, decide_eq_false_iff_not, Classical.not_not, Bool.not_eq_true', Bool.not_eq_false'] at hc))
          exact R_n _ (by omega) ⟨rfl, i + 1, rfl, by omega, by exact svc, by exact svc, fun G => by rw [List.append_assoc]; exact hbx _, by simp; omega, g1⟩
    · have hlt' : ¬ (i : Int) ≤ l[s.length].l.length := by omega
      have hall : (paths l[s.length].l ++ [[]]).take i = paths l[s.length].l ++ [[]] := List.take_of_length_le (by rw [List.length_append, paths_len]; simp; omega)
      rw [hall] at e6
      clear IH h120 hall
      repeat' (first | ((with_reducible first | apply S_0 | apply S_q1 | apply S_g | apply S_c); exact sgc) | (with_reducible first | apply SO_q | apply SG_t | apply SG_f0 | apply SG_f1 | apply S_nil | apply T_n | apply W_seq | apply W_region | apply SO_x | apply SC_t | apply SC_f | apply W_block | apply W_ret | apply W_skip | apply W_exit | apply T_r | apply T_e | apply B_n | apply B_e) | (with_reducible apply B_ne; focus decide) | (with_reducible first | apply B_r | apply R_e | apply R_r | apply H_e | apply H_r | apply G_e | apply G_r) | (with_reducible apply SC_n) | ((with_reducible first | apply SC_d | apply SG_d | apply SG_n | apply SC_b | apply SG_b) <;> intro hc <;> try simp only [decide_eq_true_eq, decide_eq_false_iff_not, Classical.not_not, Bool.not_eq_true', Bool.not_eq_false'] at hc))
      (first | exact fincR | exact fincN)
end Go.Proofs.Ytopiaiibpacmlaa.Av
namespace Go.Proofs.Ytopiaiibpacmlaa.Av
open Go.RowKit
set_option linter.unusedSimpArgs false
set_option linter.unusedVariables false
set_option maxHeartbeats 10000000
theorem t51 (x y : List Sta) (nx cx ny cy : Bool) (M : MS) (hx : x.length ≤ 1000000) (hs : ∀ a ∈ x, a.s.length ≤ 1000) : ev pr 51 [.list 1 (x.map Sta.av) nx cx, .list 1 (y.map Sta.av) ny cy] M = some (.q (.flat (.bool (decide (x.map Sta.l = y.map Sta.l))))) := by
  have h24 := fun (i : Nat) (hi : i < x.length) (hj : i < y.length) M => t24 x[i].s y[i].s x[i].ns x[i].cs y[i].ns y[i].cs M (by have := hs _ (List.getElem_mem hi); omega)
  refine ev_fn' A51 ?_
  repeat' (first | ((with_reducible first | apply S_0 | apply S_q1 | apply S_g | apply S_c); exact sgc) | (with_reducible first | apply SO_q | apply SG_t | apply SG_f0 | apply SG_f1 | apply S_nil | apply T_n | apply W_seq | apply W_region | apply SO_x | apply SC_t | apply SC_f | apply W_block | apply W_ret | apply W_skip | apply W_exit | apply T_r | apply T_e | apply B_n | apply B_e) | (with_reducible apply B_ne; focus decide) | (with_reducible first | apply B_r | apply R_e | apply R_r | apply H_e | apply H_r | apply G_e | apply G_r) | (with_reducible apply SC_n) | ((with_reducible first | apply SC_d | apply SG_d | apply SG_n | apply SC_b | apply SG_b) <;> intro hc <;> try simp only [decide_eq_true_eq, decide_eq_false_iff_not, Classical.not_not, Bool.not_eq_true', Bool.not_eq_false'] at hc))
  · (refine ⟨by first | exact .inr rfl | exact .inl rfl, ?_⟩; simp (disch := first | assumption | decide | omega | exact Pth.le _ | exact Rks.le _ | exact List.getElem_mem _ | exact allI_ints _ | exact allI_rks _ | exact allI_pths _ | exact Pth.nil _ | exact Rks.nil _ | (intro hh; simp only [Pth.nil _ hh, List.take_nil, List.drop_nil]; done) | (intro hh; simp only [Rks.nil _ hh, List.take_nil, List.drop_nil]; done) | (simp only [List.length_take, List.length_drop, List.length_append, List.length_cons, List.length_nil, List.length_replicate, List.length_map, ints_len]; omega)) only [resA, rvA, tupA, fin, frzV, frzTup, frzA, frz, isI, isI.all, Option.bind_some, go_sem, if_pos, if_neg, Nat.reduceBEq, Nat.reduceEqDiff, ↓reduceIte, Nat.reduceSub, Nat.reduceAdd, Int.reduceToNat, reduceCtorEq, Nat.reduceLeDiff, Nat.reduceLT, Nat.reduceMul, Nat.reduceDiv, Int.reduceLT, Int.reduceLE, Int.reduceEq, Int.reduceNe, Int.reduceAdd, Int.reduceSub, Int.reduceNeg, Int.reduceGT, Int.reduceGE, Int.reduceBEq, Int.reduceBNe, Int.reduceMul, *])
    have : ¬ x.map Sta.l = y.map Sta.l := by intro h; have := congrArg List.length h; simp only [List.length_map] at this; omega
    simp only [this, decide_false]
  have hn : x.length = y.length := by omega
  have hnH : Hid (x.length = y.length) := hn
  clear hc hn
  refine W_rng 5 0 x.length (fun i _ => (x.map Sta.l).take i = (y.map Sta.l).take i) (by simp only [asg, asgO, List.append_nil, List.nil_append, List.cons_append]; rfl) (by exact svc) (by omega) (by simp) ?_
  rintro i e _ hi hk e5 hl
  have k0 : e 0 = .list 1 (x.map Sta.av) nx cx := by rw [hk 0 rfl]; exact svc
  have k1 : e 1 = .list 1 (y.map Sta.av) ny cy := by rw [hk 1 rfl]; exact svc
  clear hk
  rcases Nat.lt_or_ge i x.length with hlt | hlt
  · have hlt' : (i : Int) < x.length := by omega
    have hiy : i < y.length := by have : x.length = y.length := hnH; omega
    replace h24 := fun M => h24 i hlt hiy M
    by_cases hp : pl x[i].s = pl y[i].s
    · replace h24 := fun M => (h24 M).trans (congrArg (fun b => some (Out.q (.flat (.bool b)))) (decide_eq_true hp))
      have hpH : Hid (pl x[i].s = pl y[i].s) := hp
      clear hp
      repeat' (first | ((with_reducible first | apply S_0 | apply S_q1 | apply S_g | apply S_c); exact sgc) | (with_reducible first | apply SO_q | apply SG_t | apply SG_f0 | apply SG_f1 | apply S_nil | apply T_n | apply W_seq | apply W_region | apply SO_x | apply SC_t | apply SC_f | apply W_block | apply W_ret | apply W_skip | apply W_exit | apply T_r | apply T_e | apply B_n | apply B_e) | (with_reducible apply B_ne; focus decide) | (with_reducible first | apply B_r | apply R_e | apply R_r | apply H_e | apply H_r | apply G_e | apply G_r) | (with_reducible apply SC_n) | ((with_reducible first | apply SC_d | apply SG_d | apply SG_n | apply SC_b | apply SG_b) <;> intro hc <;> try simp only [decide_eq_true_eq, decide_eq_false_iff_not, Classical.not_not, Bool.not_eq_true', Bool.not_eq_false'] at hc))
      refine H_n (by exact svc) hlt (takes_ext hl (by simpa using hlt) (by simpa using hiy) ?_)
      rw [stl_get, stl_get]; exact hpH
    · replace h24 := fun M => (h24 M).trans (congrArg (fun b => some (Out.q (.flat (.bool b)))) (decide_eq_false hp))
      have : ¬ x.map Sta.l = y.map Sta.l := by
        intro h
        apply hp
        have h1 := stl_get x i (by simpa using hlt)
        have h2 := stl_get y i (by simpa using hiy)
        rw [← h1, ← h2]; simp only [h]
      simp only [this, decide_false]
      repeat' (first | ((with_reducible first | apply S_0 | apply S_q1 | apply S_g | apply S_c); exact sgc) | (with_reducible first | apply SO_q | apply SG_t | apply SG_f0 | apply SG_f1 | apply S_nil | apply T_n | apply W_seq | apply W_region | apply SO_x | apply SC_t | apply SC_f | apply W_block | apply W_ret | apply W_skip | apply W_exit | apply T_r | apply T_e | apply B_n | apply B_e) | (with_reducible apply B_ne; focus decide) | (with_reducible first | apply B_r | apply R_e | apply R_r | apply H_e | apply H_r | apply G_e | apply G_r) | (with_reducible apply SC_n) | ((with_reducible first | apply SC_d | apply SG_d | apply SG_n | apply SC_b | apply SG_b) <;> intro hc <;> try simp only [decide_eq_true_eq, decide_eq_false_iff_not, Classical.not_not, Bool.not_eq_true', Bool.not_eq_false'] at hc))
      (first | exact fincR | exact fincN)
  · have hlt' : ¬ (i : Int) < x.length := by omega
    have hn : x.length = y.length := hnH
    have : x.map Sta.l = y.map Sta.l := eq_of_takes hl (by simpa using hlt) (by simp; omega)
    simp only [this, decide_true]
    clear hl this hn
    repeat' (first | ((with_reducible first | apply S_0 | apply S_q1 | apply S_g | apply S_c); exact sgc) | (with_reducible first | apply SO_q | apply SG_t | apply SG_f0 | apply SG_f1 | apply S_nil | apply T_n | apply W_seq | apply W_region | apply SO_x | apply SC_t | apply SC_f | apply W_block | apply W_ret | apply W_skip | apply W_exit | apply T_r | apply T_e | apply B_n | apply B_e) | (with_reducible apply B_ne; focus decide) | (with_reducible first | apply B_r | apply R_e | apply R_r | apply H_e | apply H_r | apply G_e | apply G_r) | (with_reducible apply SC_n) | ((with_reducible first | apply SC_d | apply SG_d | apply SG_n | apply SC_b | apply SG_b) <;> intro hc <;> try simp only [decide_eq_true_eq, decide_eq_false_iff_not, Classical.not_not, Bool.not_eq_true', Bool.not_eq_false'] at hc))
    (first | exact fincR | exact fincN)
theorem t47 (n : Int) (l : List Rks) (nl cd : Bool) (M : MS) (hl : l.length ≤ 9223372036854775807) : ∃ b : Bool, ev pr 47 [.agg [.flat (.int .i64 n), .list 1 (l.map Rks.av) nl cd]] M = some (.q (.flat (.bool b))) ∧ (b = true → SmallX l ∧ (MayX n l → (prodL ((plX l).drop 1)).length ≤ 3000)) := by
  have h27 := fun M => t27 n l nl cd M hl
  by_cases hS : SmallX l
  · simp only [hS, decide_true] at h27
    have h31 := fun M => t31 n l nl cd M hl
    by_cases hX : MayX n l
    · simp only [hX, decide_true] at h31
      obtain rfl : n = l.length := hX.2.2.1.symm
      have h1 : 1 ≤ l.length := by have := hX.1; omega
      obtain ⟨out, h80, r, rfl, hr⟩ := t80 (nl := nl) (cd := cd) (M := M ++ [some [.flat (.int .i64 l.length), .list 1 (l.map Rks.av) nl cd]]) hS h1
      refine ⟨decide (r ≤ 3000), ?_, fun h => ⟨hS, fun _ => by rw [szF_all h1]; exact hr (by simpa using h)⟩⟩
      clear hr
      refine ev_fn' A47 ?_
      repeat' (first | ((with_reducible first | apply S_0 | apply S_q1 | apply S_g | apply S_c); exact sgc) | (with_reducible first | apply SO_q | apply SG_t | apply SG_f0 | apply SG_f1 | apply S_nil | apply T_n | apply W_seq | apply W_region | apply SO_x | apply SC_t | apply SC_f | apply W_block | apply W_ret | apply W_skip | apply W_exit | apply T_r | apply T_e | apply B_n | apply B_e) | (with_reducible apply B_ne; focus decide) | (with_reducible first | apply B_r | apply R_e | apply R_r | apply H_e | apply H_r | apply G_e | apply G_r) | (with_reducible apply SC_n) | ((with_reducible first | apply SC_d | apply SG_d | apply SG_n | apply SC_b | apply SG_b) <;> intro hc <;> try simp only [decide_eq_true_eq, decide_eq_false_iff_not, Classical.not_not, Bool.not_eq_true', Bool.not_eq_false'] at hc))
      (first | exact fincR | exact fincN)
    · simp only [hX, decide_false] at h31
      refine ⟨true, ?_, fun _ => ⟨hS, fun h => absurd h hX⟩⟩
      refine ev_fn' A47 ?_
      repeat' (first | ((with_reducible first | apply S_0 | apply S_q1 | apply S_g | apply S_c); exact sgc) | (with_reducible first | apply SO_q | apply SG_t | apply SG_f0 | apply SG_f1 | apply S_nil | apply T_n | apply W_seq | apply W_region | apply SO_x | apply SC_t | apply SC_f | apply W_block | apply W_ret | apply W_skip | apply W_exit | apply T_r | apply T_e | apply B_n | apply B_e) | (with_reducible apply B_ne; focus decide) | (with_reducible first | apply B_r | apply R_e | apply R_r | apply H_e | apply H_r | apply G_e | apply G_r) | (with_reducible apply SC_n) | ((with_reducible first | apply SC_d | apply SG_d | apply SG_n | apply SC_b | apply SG_b) <;> intro hc <;> try simp only [decide_eq_true_eq, decide_eq_false_iff_not, Classical.not_not, Bool.not_eq_true', Bool.not_eq_false'] at hc))
      (first | exact fincR | exact fincN)
  · simp only [hS, decide_false] at h27
    refine ⟨false, ?_, fun h => by cases h⟩
    refine ev_fn' A47 ?_
    repeat' (first | ((with_reducible first | apply S_0 | apply S_q1 | apply S_g | apply S_c); exact sgc) | (with_reducible first | apply SO_q | apply SG_t | apply SG_f0 | apply SG_f1 | apply S_nil | apply T_n | apply W_seq | apply W_region | apply SO_x | apply SC_t | apply SC_f | apply W_block | apply W_ret | apply W_skip | apply W_exit | apply T_r | apply T_e | apply B_n | apply B_e) | (with_reducible apply B_ne; focus decide) | (with_reducible first | apply B_r | apply R_e | apply R_r | apply H_e | apply H_r | apply G_e | apply G_r) | (with_reducible apply SC_n) | ((with_reducible first | apply SC_d | apply SG_d | apply SG_n | apply SC_b | apply SG_b) <;> intro hc <;> try simp only [decide_eq_true_eq, decide_eq_false_iff_not, Classical.not_not, Bool.not_eq_true', Bool.not_eq_false'] at hc))
    (first | exact fincR | exact fincN)
theorem t50 {l : List Rks} {nl cd : Bool} {M : MS} (hX : MayX l.length l) (hS : SmallX l) (hb : (prodL ((plX l).drop 1)).length ≤ 3000) : ev pr 50 [.agg [.flat (.int .i64 l.length), .list 1 (l.map Rks.av) nl cd]] M = some (.q (.flat (.int .i64 (stpT (trX l))))) := by
  have h1 : 1 ≤ l.length := by have := hX.1; omega
  have h94 := fun M => t94 (nl := nl) (cd := cd) hX hS (l.length - 1) (M := M) (sv := .list 1 ([orP].map Pth.av) false true) (s := [orP]) (by simp; omega) (by simp) (.inl ⟨_, _, rfl⟩) (by simpa using hb)
  simp only [List.map_cons, List.map_nil, ← orP_av] at h94
  have h94' : ∀ M, ev pr 94 [.agg [.flat (.int .i64 l.length), .list 1 (l.map Rks.av) nl cd], .list 1 [.list 1 [.flat (.int .i64 0)] false true] false true] M = some (.q (.flat (.int .i64 (stpT (trX l))))) := h94
  clear h94 hX hS
  refine ev_fn' A50 ?_
  repeat' (first | ((with_reducible first | apply S_0 | apply S_q1 | apply S_g | apply S_c); exact sgc) | (with_reducible first | apply SO_q | apply SG_t | apply SG_f0 | apply SG_f1 | apply S_nil | apply T_n | apply W_seq | apply W_region | apply SO_x | apply SC_t | apply SC_f | apply W_block | apply W_ret | apply W_skip | apply W_exit | apply T_r | apply T_e | apply B_n | apply B_e) | (with_reducible apply B_ne; focus decide) | (with_reducible first | apply B_r | apply R_e | apply R_r | apply H_e | apply H_r | apply G_e | apply G_r) | (with_reducible apply SC_n) | ((with_reducible first | apply SC_d | apply SG_d | apply SG_n | apply SC_b | apply SG_b) <;> intro hc <;> try simp only [decide_eq_true_eq, decide_eq_false_iff_not, Classical.not_not, Bool.not_eq_true', Bool.not_eq_false'] at hc))
  (first | exact fincR | exact fincN)
end Go.Proofs.Ytopiaiibpacmlaa.Av
namespace Go.Proofs.Ytopiaiibpacmlaa.Av
open Go.RowKit
set_option linter.unusedSimpArgs false
set_option linter.unusedVariables false
set_option maxHeartbeats 10000000
/-- What the round knows. -/
structure YsX (m : Int) (P Lid B1 R0 R1 R2 Z L : Nat) (M : MS) (e : Bool) (a : List (List Pa)) (fv : AV) (fs : List Sta) (K : Int) : Prop where
  lid : M[Lid]? = some (some [.flat (.int .i64 (if e then 2 else 0)), .flat (.int .i64 (if e then 1 else 0))])
  b1 : M[B1]? = some (some [.flat (.int .i64 m)])
  r0 : M[R0]? = some (some [if e then fv else .list 1 [] true true])
  r1 : M[R1]? = some (some [.flat (.int .i64 K)])
  r2 : M[R2]? = some (some [.flat (.int .i64 0)])
  z : M[Z]? = some (some [.mptr P 0])
  l : M[L]? = some (some [fv])
  row : SRow M fv (fs.map Sta.av)
  ac : fs.map Sta.l = a
  ne : ∀ i, idOf fv = some i → i ∉ [Lid, B1, R0, R1, R2, Z, L]
def YS (m : Int) (P Lid B1 R0 R1 R2 Z L : Nat) (M : MS) (e : Bool) (a : List (List Pa)) (F : List Nat) : Prop := ∃ fv fs K, YsX m P Lid B1 R0 R1 R2 Z L M e a fv fs K ∧ F = [Lid, B1, R0, R1, R2, Z, L] ++ (idOf fv).toList
theorem yS_lt {m : Int} {P Lid B1 R0 R1 R2 Z L : Nat} {M : MS} {e : Bool} {a : List (List Pa)} {F : List Nat} (h : YS m P Lid B1 R0 R1 R2 Z L M e a F) : ∀ i ∈ F, i < M.length := by
  obtain ⟨fv, fs, K, hx, rfl⟩ := h
  intro i hi
  rcases List.mem_append.1 hi with h | h
  · simp only [List.mem_cons, List.not_mem_nil, or_false] at h
    rcases h with rfl | rfl | rfl | rfl | rfl | rfl | rfl
    · exact get_lt hx.lid
    · exact get_lt hx.b1
    · exact get_lt hx.r0
    · exact get_lt hx.r1
    · exact get_lt hx.r2
    · exact get_lt hx.z
    · exact get_lt hx.l
  · exact hx.row.lt (mem_idOf.1 h)
theorem yS_stab {m : Int} {P Lid B1 R0 R1 R2 Z L : Nat} {M M' : MS} {e : Bool} {a : List (List Pa)} {F : List Nat} (h : YS m P Lid B1 R0 R1 R2 Z L M e a F) (hl : M.length ≤ M'.length) (hk : ∀ i ∈ F, M'[i]? = M[i]?) : YS m P Lid B1 R0 R1 R2 Z L M' e a F := by
  obtain ⟨fv, fs, K, hx, rfl⟩ := h
  refine ⟨fv, fs, K, ⟨(hk _ (by simp)).trans hx.lid, (hk _ (by simp)).trans hx.b1, (hk _ (by simp)).trans hx.r0, (hk _ (by simp)).trans hx.r1, (hk _ (by simp)).trans hx.r2, (hk _ (by simp)).trans hx.z, (hk _ (by simp)).trans hx.l, hx.row.keep hl fun i _ hi => hk i ?_, hx.ac, hx.ne⟩, rfl⟩
  exact List.mem_append_right _ (mem_idOf.2 hi)
theorem yldS {P : Nat} {l : List Rks} {nl cd : Bool} {most m : Int} {Lid B1 R0 R1 R2 Z L : Nat} (h1 : B1 < R0) (h2 : R0 < R1) (h3 : R1 < R2) (h4 : R2 < Z) (h5 : Z < L) (h6 : L < Lid) :
    Yld P l nl cd most 1000100 Lid [.mptr B1 0, .mptr R0 0, .mptr R1 0, .mptr R2 0, .mptr Z 0, .mptr L 0] (ySome m) (YS m P Lid B1 R0 R1 R2 Z L) where
  one := fun a s => by simp [ySome]
  lt := fun h => yS_lt h
  stab := fun h hl hk => yS_stab h hl hk
  call := by
    rintro M a F id s ⟨fv, fs, K0, hx, rfl⟩ ⟨svz, kz, hPz⟩ hPF hPid ha hid hidF hs hs2 hM
    have hSV : SV M (.ms id 0 s.length 1 false) s := .inr ⟨id, hid, rfl, hM⟩
    have hfl : fs.length = a.length := by rw [← hx.ac]; simp
    have hlen := hx.row.len
    rw [List.length_map, hfl] at hlen
    have hcell := hx.row.cell
    have hidn : id ≠ Lid ∧ id ≠ B1 ∧ id ≠ R0 ∧ id ≠ R1 ∧ id ≠ R2 ∧ id ≠ Z ∧ id ≠ L ∧ ∀ i, idOf fv = some i → i ≠ id := by
      simp only [List.mem_append, List.mem_cons, List.not_mem_nil, or_false, not_or, mem_idOf] at hidF
      obtain ⟨⟨q1, q2, q3, q4, q5, q6, q7⟩, q8⟩ := hidF
      exact ⟨q1, q2, q3, q4, q5, q6, q7, fun i hi e => q8 (e ▸ hi)⟩
    have hPn : P ≠ Lid ∧ P ≠ B1 ∧ P ≠ R0 ∧ P ≠ R1 ∧ P ≠ R2 ∧ P ≠ Z ∧ P ≠ L ∧ some P ≠ idOf fv := by
      simp only [List.mem_append, List.mem_cons, List.not_mem_nil, or_false, not_or, mem_idOf] at hPF
      obtain ⟨⟨q1, q2, q3, q4, q5, q6, q7⟩, q8⟩ := hPF
      exact ⟨q1, q2, q3, q4, q5, q6, q7, fun e => q8 e.symm⟩
    have hfn : ∀ i, idOf fv = some i → i ≠ Lid ∧ i ≠ B1 ∧ i ≠ R0 ∧ i ≠ R1 ∧ i ≠ R2 ∧ i ≠ Z ∧ i ≠ L := fun i hi => by
      have := hx.ne i hi
      simpa only [List.mem_cons, List.not_mem_nil, or_false, not_or] using this
    have hLl := get_lt hx.lid
    have hPl := get_lt hPz
    suffices hgo : ∃ out, ev pr 1000100 [.yld Lid 1000100 [.mptr B1 0, .mptr R0 0, .mptr R1 0, .mptr R2 0, .mptr Z 0, .mptr L 0], .ms id 0 s.length 1 false] M = some out ∧ ∃ M' D' F', out = .x (.flat (.bool (ySome m a (pl s)).1)) M' D' ∧ YS m P Lid B1 R0 R1 R2 Z L M' (!(ySome m a (pl s)).1) (ySome m a (pl s)).2 F' ∧ M.length ≤ M'.length ∧
        (∀ i, i < M.length → i ∉ [Lid, B1, R0, R1, R2, Z, L] ++ (idOf fv).toList → i ≠ id → M'[i]? = M[i]?) ∧ (∀ i ∈ F', i ∈ [Lid, B1, R0, R1, R2, Z, L] ++ (idOf fv).toList ∨ M.length ≤ i) ∧ (∀ i ∈ D', i < M.length → i ∈ [Lid, B1, R0, R1, R2, Z, L] ++ (idOf fv).toList ∨ i = id) by
      obtain ⟨out, g1, M', D', F', rfl, g2⟩ := hgo
      exact ⟨M', D', F', g1, g2⟩
    refine ev_roundE (ay := ay100) rfl rfl ⟨rfl, rfl⟩ ?_
    have e1 : envY ay100.ps ay100.pl [.mptr B1 0, .mptr R0 0, .mptr R1 0, .mptr R2 0, .mptr Z 0, .mptr L 0] [.ms id 0 s.length 1 false] = updO (updO (updO (updO (updO (updO (updO (fun _ => .any) (some 4) (.mptr B1 0)) (some 6) (.mptr R0 0)) (some 7) (.mptr R1 0)) (some 8) (.mptr R2 0)) (some 9) (.mptr Z 0)) (some 11) (.mptr L 0)) (some 24) (.ms id 0 s.length 1 false) := rfl
    rw [e1]
    clear e1
    simp only [ay100]
    repeat' (first | ((with_reducible first | apply S_0 | apply S_q1 | apply S_g | apply S_c); exact sgc) | (with_reducible first | apply SO_q | apply SG_t | apply SG_f0 | apply SG_f1 | apply S_nil | apply T_n | apply W_seq | apply W_region | apply SO_x | apply SC_t | apply SC_f | apply W_block | apply W_ret | apply W_skip | apply W_exit | apply T_r | apply T_e | apply B_n | apply B_e) | (with_reducible apply B_ne; focus decide) | (with_reducible first | apply B_r | apply R_e | apply R_r | apply H_e | apply H_r | apply G_e | apply G_r) | (with_reducible apply SC_n) | ((with_reducible first | apply SC_d | apply SG_d | apply SG_n | apply SC_b | apply SG_b) <;> intro hc <;> try simp only [decide_eq_true_eq, decide_eq_false_iff_not, Classical.not_not, Bool.not_eq_true', Bool.not_eq_false'] at hc))
    refine ⟨rfl, 0, by simpa using hx.lid, ?_⟩
    obtain ⟨M1, hM1⟩ : ∃ M1, M1 = M.set Lid (some [.flat (.int .i64 1), .flat (.int .i64 0)]) := ⟨_, rfl⟩
    rw [← hM1]
    have g1 : M1.length = M.length := by rw [hM1]; simp
    have g2 : ∀ i, i ≠ Lid → M1[i]? = M[i]? := fun i hi => by rw [hM1]; exact set_get hi
    clear hM1
    have b4 : M1[B1]? = some (some [.flat (.int .i64 m)]) := (g2 _ (by omega)).trans hx.b1
    have b6 : M1[R0]? = some (some [.list 1 [] true true]) := (g2 _ (by omega)).trans (by simpa using hx.r0)
    have b7 : M1[R1]? = some (some [.flat (.int .i64 K0)]) := (g2 _ (by omega)).trans hx.r1
    have b8 : M1[R2]? = some (some [.flat (.int .i64 0)]) := (g2 _ (by omega)).trans hx.r2
    have b11 : M1[L]? = some (some [fv]) := (g2 _ (by omega)).trans hx.l
    have hSV1 : SV M1 (.ms id 0 s.length 1 false) s := hSV.keep (by omega) fun i _ hi => by cases hi; exact g2 _ hidn.1
    have hrow1 : SRow M1 fv (fs.map Sta.av) := hx.row.keep (by omega) fun i _ hi => g2 i (hfn i hi).1
    have g2H : Hid (∀ i, i ≠ Lid → M1[i]? = M[i]?) := g2
    clear g2
    repeat' (first | ((with_reducible first | apply S_0 | apply S_q1 | apply S_g | apply S_c); exact sgc) | (with_reducible first | apply SO_q | apply SG_t | apply SG_f0 | apply SG_f1 | apply S_nil | apply T_n | apply W_seq | apply W_region | apply SO_x | apply SC_t | apply SC_f | apply W_block | apply W_ret | apply W_skip | apply W_exit | apply T_r | apply T_e | apply B_n | apply B_e) | (with_reducible apply B_ne; focus decide) | (with_reducible first | apply B_r | apply R_e | apply R_r | apply H_e | apply H_r | apply G_e | apply G_r) | (with_reducible apply SC_n) | ((with_reducible first | apply SC_d | apply SG_d | apply SG_n | apply SC_b | apply SG_b) <;> intro hc <;> try simp only [decide_eq_true_eq, decide_eq_false_iff_not, Classical.not_not, Bool.not_eq_true', Bool.not_eq_false'] at hc))
    refine S_bslS hSV1 (by exact svc) rfl ?_
    intro m1 ns cs D1 p1 p2 p3
    have hrow2 : SRow m1 fv (fs.map Sta.av) := hrow1.keep (by omega) fun i _ hi => p1 i fun e => by cases e; exact hidn.2.2.2.2.2.2.2 _ hi rfl
    refine S_appR (y := .list 1 (s.map Pth.av) ns cs) hrow2 (by exact svc) (by exact svc) rfl (allI_stas _) (by simp; omega) (by decide) ?_
    intro w m2 D2 q1 q2 q3 q4 q5
    have hLm : L < m1.length := by have := get_lt b11; omega
    have c11 : m2[L]? = some (some [fv]) := by
      rw [q3 L hLm fun e => (hfn _ e.symm).2.2.2.2.2.2 rfl, p1 L fun e => by cases e; exact hidn.2.2.2.2.2.2.1 rfl]; exact b11
    refine S_putX (off := 0) (y := w) (by exact svc) (by exact svc) q1.cell c11 (by simp) ?_
    intro m3 u1 u2 u3
    have hfr : Hid (∀ i, i < M.length → i ≠ Lid → i ≠ L → i ≠ id → some i ≠ idOf fv → m3[i]? = M[i]?) := fun i k0 k1 k2 k3 k4 => by
      rw [u3 i k2, q3 i (by omega) k4, p1 i (fun e => by cases e; exact k3 rfl), g2H i k1]
    have hwi : ∀ i, idOf w = some i → M.length ≤ i ∧ i < m3.length ∧ m3[i]? = m2[i]? := fun i hi => by
      have h6 := q5 i hi
      have h7 := q1.lt hi
      have := get_lt c11
      exact ⟨by omega, by omega, u3 i (by omega)⟩
    have nfv : ∀ j, (j = B1 ∨ j = R0 ∨ j = R1 ∨ j = R2 ∨ j = Z) → some j ≠ idOf fv := fun j hj e => by
      obtain ⟨k1, k2, k3, k4, k5, k6, k7⟩ := hfn j e.symm
      rcases hj with h | h | h | h | h
      · exact k2 h
      · exact k3 h
      · exact k4 h
      · exact k5 h
      · exact k6 h
    have hD2 : ∀ i ∈ D2, i ∈ [Lid, B1, R0, R1, R2, Z, L] ++ (idOf fv).toList ∨ i = id := fun i h => by
      rcases q4 i h with h | h
      · rcases p3 i h with h | h
        · rcases mem_dirt h with h | rfl
          · simp at h
          · exact .inl (by simp)
        · cases h; exact .inr rfl
      · exact .inl (List.mem_append_right _ (mem_idOf.2 h.symm))
    have x4 : m3[B1]? = some (some [.flat (.int .i64 m)]) := by rw [hfr _ (get_lt hx.b1) (by omega) (by omega) (Ne.symm hidn.2.1) (nfv _ (.inl rfl))]; exact hx.b1
    have x6 : m3[R0]? = some (some [.list 1 [] true true]) := by rw [hfr _ (get_lt hx.r0) (by omega) (by omega) (Ne.symm hidn.2.2.1) (nfv _ (.inr (.inl rfl)))]; simpa using hx.r0
    have x7 : m3[R1]? = some (some [.flat (.int .i64 K0)]) := by rw [hfr _ (get_lt hx.r1) (by omega) (by omega) (Ne.symm hidn.2.2.2.1) (nfv _ (.inr (.inr (.inl rfl))))]; exact hx.r1
    have x8 : m3[R2]? = some (some [.flat (.int .i64 0)]) := by rw [hfr _ (get_lt hx.r2) (by omega) (by omega) (Ne.symm hidn.2.2.2.2.1) (nfv _ (.inr (.inr (.inr (.inl rfl)))))]; exact hx.r2
    have x9 : m3[Z]? = some (some [.mptr P 0]) := by rw [hfr _ (get_lt hx.z) (by omega) (by omega) (Ne.symm hidn.2.2.2.2.2.1) (nfv _ (.inr (.inr (.inr (.inr rfl)))))]; exact hx.z
    have xP : m3[P]? = some (some [.flat (.int .i64 l.length), .list 1 (l.map Rks.av) nl cd, svz, .flat (.int .i64 kz), .flat (.int .i64 most), .flat (.bool false)]) := by
      rw [hfr _ hPl hPn.1 hPn.2.2.2.2.2.2.1 hPid hPn.2.2.2.2.2.2.2]; exact hPz
    have x11 : m3[L]? = some (some [w]) := u2
    have hwl : lenOf w = some (a.length + 1) := by have := q1.len; rw [this]; simp [hfl]
    have hwc := q1.cell
    have hrow3 : SRow m3 w ((fs ++ [(⟨s, ns, cs⟩ : Sta)]).map Sta.av) := by
      rw [List.map_append]
      exact q1.keep (by omega) fun i _ hi => (hwi i hi).2.2
    have hac3 : (fs ++ [(⟨s, ns, cs⟩ : Sta)]).map Sta.l = a ++ [pl s] := by rw [List.map_append, hx.ac]; rfl
    have hwn : ∀ i, idOf w = some i → i ∉ [Lid, B1, R0, R1, R2, Z, L] := fun i hi => by
      obtain ⟨k1, k2, k3⟩ := hwi i hi
      have l1 := get_lt hx.b1
      have l2 := get_lt hx.r0
      have l3 := get_lt hx.r1
      have l4 := get_lt hx.r2
      have l5 := get_lt hx.l
      have l6 := get_lt hx.z
      simp only [List.mem_cons, List.not_mem_nil, or_false, not_or]
      exact ⟨by omega, by omega, by omega, by omega, by omega, by omega, by omega⟩
    have hwi2 : Hid (∀ i, idOf w = some i → M.length ≤ i) := fun i hi => (hwi i hi).1
    have hm3 : Hid (M.length ≤ m3.length) := show M.length ≤ m3.length by omega
    have hml := get_lt x11
    have hxl := hx.lid
    have hLm3 : Lid < m3.length := Nat.lt_of_lt_of_le hLl hm3
    clear u1 u2 u3 q1 q2 q3 q4 q5 p1 p2 p3 c11 hwi hrow2 hSV1 hrow1 b4 b6 b7 b8 b11 g1 g2H hSV hM
    by_cases hm : ((a.length : Int) + 1) = m
    · have hy : ySome m a (pl s) = (false, a ++ [pl s]) := by simp [ySome, hm]
      rw [hy]
      have hmH : Hid ((a.length : Int) + 1 = m) := hm
      have hmd : decide ((a.length : Int) + 1 = m) = true := decide_eq_true hm
      have hmd2 : decide (((a.length + 1 : Nat) : Int) = m) = true := decide_eq_true (by omega)
      clear hm
      repeat' (first | ((with_reducible first | apply S_0 | apply S_q1 | apply S_g | apply S_c); exact sgc) | (with_reducible first | apply SO_q | apply SG_t | apply SG_f0 | apply SG_f1 | apply S_nil | apply T_n | apply W_seq | apply W_region | apply SO_x | apply SC_t | apply SC_f | apply W_block | apply W_ret | apply W_skip | apply W_exit | apply T_r | apply T_e | apply B_n | apply B_e) | (with_reducible apply B_ne; focus decide) | (with_reducible first | apply B_r | apply R_e | apply R_r | apply H_e | apply H_r | apply G_e | apply G_r) | (with_reducible apply SC_n) | ((with_reducible first | apply SC_d | apply SG_d | apply SG_n | apply SC_b | apply SG_b) <;> intro hc <;> try simp only [decide_eq_true_eq, decide_eq_false_iff_not, Classical.not_not, Bool.not_eq_true', Bool.not_eq_false'] at hc))
      refine W_C R0 ?_
      iterate 5 refine WC_s rfl (by exact sgc) (by first | exact rfl | exact calm_ld (by exact sgc) (by omega) | exact calm_fad (by exact sgc) (by omega) | exact calm_nil (by exact sgc) (by omega)) ?_
      refine WC_0 (tgt_k (off := 0) (by exact svc)) ?_
      refine S_putX (off := 0) (y := w) (by exact svc) (by exact svc) hwc x6 (by simp) ?_
      intro m4 u1 u2 u3
      refine S_putX (off := 0) (y := .flat (.int .i64 kz)) (by exact svc) (by exact svc) rfl ((u3 _ (by omega)).trans x7) (by simp) ?_
      intro m5 v1 v2 v3
      refine S_putX (off := 0) (y := .flat (.int .i64 0)) (by exact svc) (by exact svc) rfl ((v3 _ (by omega)).trans ((u3 _ (by omega)).trans x8)) (by simp) ?_
      intro m6 w1 w2 w3
      have hf6 : Hid (∀ i, i ≠ R0 → i ≠ R1 → i ≠ R2 → m6[i]? = m3[i]?) := fun i k1 k2 k3 => by rw [w3 i k3, v3 i k2, u3 i k1]
      repeat' (first | ((with_reducible first | apply S_0 | apply S_q1 | apply S_g | apply S_c); exact sgc) | (with_reducible first | apply SO_q | apply SG_t | apply SG_f0 | apply SG_f1 | apply S_nil | apply T_n | apply W_seq | apply W_region | apply SO_x | apply SC_t | apply SC_f | apply W_block | apply W_ret | apply W_skip | apply W_exit | apply T_r | apply T_e | apply B_n | apply B_e) | (with_reducible apply B_ne; focus decide) | (with_reducible first | apply B_r | apply R_e | apply R_r | apply H_e | apply H_r | apply G_e | apply G_r) | (with_reducible apply SC_n) | ((with_reducible first | apply SC_d | apply SG_d | apply SG_n | apply SC_b | apply SG_b) <;> intro hc <;> try simp only [decide_eq_true_eq, decide_eq_false_iff_not, Classical.not_not, Bool.not_eq_true', Bool.not_eq_false'] at hc))
      refine ⟨_, _, _, rfl, ⟨w, fs ++ [⟨s, ns, cs⟩], kz, ⟨?_, ?_, ?_, ?_, ?_, ?_, ?_, ?_, hac3, hwn⟩, rfl⟩, ?_, fun i hi hF hne => ?_, fun i hi => ?_, fun i hi hlt => ?_⟩
      · rw [set_get1 (by omega)]; rfl
      · rw [set_get (by omega), hf6 _ (by omega) (by omega) (by omega)]; exact x4
      · rw [set_get (by omega), w3 _ (by omega), v3 _ (by omega), u2]; rfl
      · rw [set_get (by omega), w3 _ (by omega), v2]; rfl
      · rw [set_get (by omega), w2]; rfl
      · rw [set_get (by omega), hf6 _ (by omega) (by omega) (by omega)]; exact x9
      · rw [set_get (by omega), hf6 _ (by omega) (by omega) (by omega)]; exact x11
      · refine hrow3.keep (by simp; omega) fun i _ hi => ?_
        have := hwn i hi
        simp only [List.mem_cons, List.not_mem_nil, or_false, not_or] at this
        obtain ⟨k1, k2, k3, k4, k5, k6, k7⟩ := this
        rw [set_get k1]; exact hf6 i k3 k4 k5
      · have : M.length ≤ m3.length := hm3
        simp; omega
      · simp only [List.mem_append, List.mem_cons, List.not_mem_nil, or_false, not_or, mem_idOf] at hF
        obtain ⟨⟨k1, k2, k3, k4, k5, k6, k7⟩, k8⟩ := hF
        rw [set_get k1, hf6 i k3 k4 k5]; exact hfr i hi k1 k7 hne fun e => k8 e.symm
      · rcases List.mem_append.1 hi with h | h
        · exact .inl (List.mem_append_left _ h)
        · exact .inr (hwi2 i (mem_idOf.1 h))
      · rcases mem_dirt hi with h | rfl
        · rcases mem_dirt h with h | rfl
          · rcases mem_dirt h with h | rfl
            · rcases mem_dirt h with h | rfl
              · rcases mem_dirt h with h | rfl
                · exact hD2 i h
                · exact .inl (by simp)
              · exact .inl (by simp)
            · exact .inl (by simp)
          · exact .inl (by simp)
        · exact .inl (by simp)
    · have hy : ySome m a (pl s) = (true, a ++ [pl s]) := by simp [ySome, hm]
      rw [hy]
      have hmH : Hid (¬ (a.length : Int) + 1 = m) := hm
      have hmd : decide ((a.length : Int) + 1 = m) = false := decide_eq_false hm
      have hmd2 : decide (((a.length + 1 : Nat) : Int) = m) = false := decide_eq_false (by omega)
      clear hm
      repeat' (first | ((with_reducible first | apply S_0 | apply S_q1 | apply S_g | apply S_c); exact sgc) | (with_reducible first | apply SO_q | apply SG_t | apply SG_f0 | apply SG_f1 | apply S_nil | apply T_n | apply W_seq | apply W_region | apply SO_x | apply SC_t | apply SC_f | apply W_block | apply W_ret | apply W_skip | apply W_exit | apply T_r | apply T_e | apply B_n | apply B_e) | (with_reducible apply B_ne; focus decide) | (with_reducible first | apply B_r | apply R_e | apply R_r | apply H_e | apply H_r | apply G_e | apply G_r) | (with_reducible apply SC_n) | ((with_reducible first | apply SC_d | apply SG_d | apply SG_n | apply SC_b | apply SG_b) <;> intro hc <;> try simp only [decide_eq_true_eq, decide_eq_false_iff_not, Classical.not_not, Bool.not_eq_true', Bool.not_eq_false'] at hc))
      refine ⟨_, _, _, rfl, ⟨w, fs ++ [⟨s, ns, cs⟩], K0, ⟨?_, ?_, ?_, ?_, ?_, ?_, ?_, ?_, hac3, hwn⟩, rfl⟩, ?_, fun i hi hF hne => ?_, fun i hi => ?_, fun i hi hlt => ?_⟩
      · rw [set_get1 (by omega)]; rfl
      · rw [set_get (by omega)]; exact x4
      · rw [set_get (by omega)]; exact x6
      · rw [set_get (by omega)]; exact x7
      · rw [set_get (by omega)]; exact x8
      · rw [set_get (by omega)]; exact x9
      · rw [set_get (by omega)]; exact x11
      · refine hrow3.keep (by simp) fun i _ hi => ?_
        have := hwn i hi
        simp only [List.mem_cons, List.not_mem_nil, or_false, not_or] at this
        rw [set_get this.1]
      · have : M.length ≤ m3.length := hm3
        simp; omega
      · simp only [List.mem_append, List.mem_cons, List.not_mem_nil, or_false, not_or, mem_idOf] at hF
        obtain ⟨⟨k1, k2, k3, k4, k5, k6, k7⟩, k8⟩ := hF
        rw [set_get k1]; exact hfr i hi k1 k7 hne fun e => k8 e.symm
      · rcases List.mem_append.1 hi with h | h
        · exact .inl (List.mem_append_left _ h)
        · exact .inr (hwi2 i (mem_idOf.1 h))
      · rcases mem_dirt hi with h | rfl
        · rcases mem_dirt h with h | rfl
          · exact hD2 i h
          · exact .inl (by simp)
        · exact .inl (by simp)
end Go.Proofs.Ytopiaiibpacmlaa.Av
