/- How many states; all stable states: rules. -/
import Derived.Test.YtopiaiibpacmlaaX10
namespace Go.Proofs.Ytopiaiibpacmlaa.Av
open Go.RowKit
set_option linter.unusedSimpArgs false
set_option linter.unusedVariables false
set_option maxHeartbeats 10000000
/-- How many states the nodes below k have. -/
def szF (l : List Rks) : Nat → Nat
  | 0 => 1
  | k + 1 => if h : 1 ≤ k ∧ k < l.length then szF l k * (l[k].l.length + 1) else szF l k
theorem szF_1 (l : List Rks) : szF l 1 = 1 := by simp [szF]
theorem szF_step {l : List Rks} {k : Nat} (h1 : 1 ≤ k) (h : k < l.length) : szF l (k + 1) = szF l k * (l[k].l.length + 1) := by rw [szF, dif_pos ⟨h1, h⟩]
theorem szF_mono (l : List Rks) (i : Nat) : ∀ k, szF l i ≤ szF l (i + k)
  | 0 => Nat.le_refl _
  | k + 1 => by
    refine Nat.le_trans (szF_mono l i k) ?_
    rw [← Nat.add_assoc, szF]
    split
    · exact Nat.le_mul_of_pos_right _ (Nat.succ_pos _)
    · exact Nat.le_refl _
theorem prodL_len (l : List Pa) (R : List (List Pa)) : (prodL (l :: R)).length = (l.length + 1) * (prodL R).length := by
  simp only [prodL]
  have : ∀ ps : List Pa, (ps.flatMap fun p => (prodL R).map (p :: ·)).length = ps.length * (prodL R).length := by
    intro ps
    induction ps with
    | nil => simp
    | cons p ps ih => rw [List.flatMap_cons, List.length_append, ih, List.length_map, List.length_cons, Nat.add_mul, Nat.one_mul, Nat.add_comm]
  rw [this, List.length_append]; rfl
theorem plX_drop {l : List Rks} {k : Nat} (h : k < l.length) : (plX l).drop k = paths l[k].l :: (plX l).drop (k + 1) := by
  rw [List.drop_eq_getElem_cons (by rw [plX_len]; exact h)]
  simp [plX]
theorem szF_prod (l : List Rks) : ∀ k, 1 ≤ k → k ≤ l.length → szF l k * (prodL ((plX l).drop k)).length = (prodL ((plX l).drop 1)).length
  | 0, h, _ => by omega
  | 1, _, _ => by rw [szF_1, Nat.one_mul]
  | k + 2, _, h => by
    have ih := szF_prod l (k + 1) (by omega) (by omega)
    rw [plX_drop (show k + 1 < l.length by omega), prodL_len, paths_len] at ih
    rw [szF_step (by omega) (by omega), Nat.mul_assoc]
    exact ih
theorem szF_all {l : List Rks} (h : 1 ≤ l.length) : (prodL ((plX l).drop 1)).length = szF l l.length := by
  rw [← szF_prod l l.length h (Nat.le_refl _), List.drop_of_length_le (by rw [plX_len]; exact Nat.le_refl _)]
  simp [prodL]
theorem t80 {l : List Rks} {nl cd : Bool} {M : MS} (hS : SmallX l) (h1 : 1 ≤ l.length) : ∃ out, ev pr 80 [.agg [.flat (.int .i64 l.length), .list 1 (l.map Rks.av) nl cd], .flat (.int .i64 3001)] M = some out ∧ ∃ r : Int, out = .q (.flat (.int .i64 r)) ∧ (r ≤ 3000 → szF l l.length ≤ 3000) := by
  have h12 := hS.1
  refine ev_fnE A80 ?_
  repeat' (first | ((with_reducible first | apply S_0 | apply S_q1 | apply S_g | apply S_c); exact sgc) | (with_reducible first | apply SO_q | apply SG_t | apply SG_f0 | apply SG_f1 | apply S_nil | apply T_n | apply W_seq | apply W_region | apply SO_x | apply SC_t | apply SC_f | apply W_block | apply W_ret | apply W_skip | apply W_exit | apply T_r | apply T_e | apply B_n | apply B_e) | (with_reducible apply B_ne; focus decide) | (with_reducible first | apply B_r | apply R_e | apply R_r | apply H_e | apply H_r | apply G_e | apply G_r) | (with_reducible apply SC_n) | ((with_reducible first | apply SC_d | apply SG_d | apply SG_n | apply SC_b | apply SG_b) <;> intro hc <;> try simp only [decide_eq_true_eq, decide_eq_false_iff_not, Classical.not_not, Bool.not_eq_true', Bool.not_eq_false'] at hc))
  refine W_rng 6 1 l.length (fun i e => e 5 = .flat (.int .i64 (szF l i)) ∧ szF l i ≤ 3001) (by simp only [asg, asgO, List.append_nil, List.nil_append, List.cons_append]; rfl) (by exact svc) (by omega) ⟨by rw [szF_1]; exact svc, by rw [szF_1]; omega⟩ ?_
  rintro i e hi1 hi hk e6 ⟨e5, hsz⟩
  have k2 : e 2 = .mptr M.length 0 := by rw [hk 2 rfl]; exact svc
  have k1 : e 1 = .flat (.int .i64 3001) := by rw [hk 1 rfl]; exact svc
  clear hk
  rcases Nat.lt_or_ge i l.length with hlt | hlt
  · have hlt' : (i : Int) < l.length := by omega
    have h70 := (hS.2 _ (List.getElem_mem hlt)).1
    have hst := szF_step hi1 hlt
    have hb : szF l i * (l[i].l.length + 1) ≤ 3001 * 71 := Nat.mul_le_mul hsz (by omega)
    have hmul : (szF l i : Int) * ((l[i].l.length : Int) + 1) = ((szF l (i + 1) : Nat) : Int) := by rw [hst]; simp
    have hb2 : (szF l (i + 1) : Int) ≤ 213071 := by rw [hst]; omega
    have hstH : Hid (szF l (i + 1) = szF l i * (l[i].l.length + 1)) := hst
    clear hst hS hb
    repeat' (first | ((with_reducible first | apply S_0 | apply S_q1 | apply S_g | apply S_c); exact sgc) | (with_reducible first | apply SO_q | apply SG_t | apply SG_f0 | apply SG_f1 | apply S_nil | apply T_n | apply W_seq | apply W_region | apply SO_x | apply SC_t | apply SC_f | apply W_block | apply W_ret | apply W_skip | apply W_exit | apply T_r | apply T_e | apply B_n | apply B_e) | (with_reducible apply B_ne; focus decide) | (with_reducible first | apply B_r | apply R_e | apply R_r | apply H_e | apply H_r | apply G_e | apply G_r) | (with_reducible apply SC_n) | ((with_reducible first | apply SC_d | apply SG_d | apply SG_n | apply SC_b | apply SG_b) <;> intro hc <;> try simp only [decide_eq_true_eq, decide_eq_false_iff_not, Classical.not_not, Bool.not_eq_true', Bool.not_eq_false'] at hc))
    · refine ⟨.inr rfl, .q (.flat (.int .i64 3001)), ?_, 3001, rfl, fun h => by omega⟩
      simp only [resA, rvA, tupA, fin, frzV, frzTup, frzA, frz, isI, isI.all, Option.bind_some]
      (simp (disch := first | assumption | decide | omega | exact Pth.le _ | exact Rks.le _ | exact List.getElem_mem _ | exact allI_ints _ | exact allI_rks _ | exact allI_pths _ | exact Pth.nil _ | exact Rks.nil _ | (intro hh; simp only [Pth.nil _ hh, List.take_nil, List.drop_nil]; done) | (intro hh; simp only [Rks.nil _ hh, List.take_nil, List.drop_nil]; done) | (simp only [List.length_take, List.length_drop, List.length_append, List.length_cons, List.length_nil, List.length_replicate, List.length_map, ints_len]; omega)) only [go_sem, if_pos, if_neg, Nat.reduceBEq, Nat.reduceEqDiff, ↓reduceIte, Nat.reduceSub, Nat.reduceAdd, Int.reduceToNat, reduceCtorEq, Nat.reduceLeDiff, Nat.reduceLT, Nat.reduceMul, Nat.reduceDiv, Int.reduceLT, Int.reduceLE, Int.reduceEq, Int.reduceNe, Int.reduceAdd, Int.reduceSub, Int.reduceNeg, Int.reduceGT, Int.reduceGE, Int.reduceBEq, Int.reduceBNe, Int.reduceMul, *])
    · exact H_n (by exact svc) hlt ⟨by exact svc, by omega⟩
  · have hlt' : ¬ (i : Int) < l.length := by omega
    obtain rfl : i = l.length := by omega
    repeat' (first | ((with_reducible first | apply S_0 | apply S_q1 | apply S_g | apply S_c); exact sgc) | (with_reducible first | apply SO_q | apply SG_t | apply SG_f0 | apply SG_f1 | apply S_nil | apply T_n | apply W_seq | apply W_region | apply SO_x | apply SC_t | apply SC_f | apply W_block | apply W_ret | apply W_skip | apply W_exit | apply T_r | apply T_e | apply B_n | apply B_e) | (with_reducible apply B_ne; focus decide) | (with_reducible first | apply B_r | apply R_e | apply R_r | apply H_e | apply H_r | apply G_e | apply G_r) | (with_reducible apply SC_n) | ((with_reducible first | apply SC_d | apply SG_d | apply SG_n | apply SC_b | apply SG_b) <;> intro hc <;> try simp only [decide_eq_true_eq, decide_eq_false_iff_not, Classical.not_not, Bool.not_eq_true', Bool.not_eq_false'] at hc))
    refine ⟨.inr rfl, .q (.flat (.int .i64 (szF l l.length))), ?_, _, rfl, fun h => by omega⟩
    simp only [resA, rvA, tupA, fin, frzV, frzTup, frzA, frz, isI, isI.all, Option.bind_some]
    (simp (disch := first | assumption | decide | omega | exact Pth.le _ | exact Rks.le _ | exact List.getElem_mem _ | exact allI_ints _ | exact allI_rks _ | exact allI_pths _ | exact Pth.nil _ | exact Rks.nil _ | (intro hh; simp only [Pth.nil _ hh, List.take_nil, List.drop_nil]; done) | (intro hh; simp only [Rks.nil _ hh, List.take_nil, List.drop_nil]; done) | (simp only [List.length_take, List.length_drop, List.length_append, List.length_cons, List.length_nil, List.length_replicate, List.length_map, ints_len]; omega)) only [go_sem, if_pos, if_neg, Nat.reduceBEq, Nat.reduceEqDiff, ↓reduceIte, Nat.reduceSub, Nat.reduceAdd, Int.reduceToNat, reduceCtorEq, Nat.reduceLeDiff, Nat.reduceLT, Nat.reduceMul, Nat.reduceDiv, Int.reduceLT, Int.reduceLE, Int.reduceEq, Int.reduceNe, Int.reduceAdd, Int.reduceSub, Int.reduceNeg, Int.reduceGT, Int.reduceGE, Int.reduceBEq, Int.reduceBNe, Int.reduceMul, *])
/-- Is an instance gone through, with all its states? -/
theorem t34 (n : Int) (l : List Rks) (nl cd : Bool) (M : MS) (hl : l.length ≤ 9223372036854775807) : ∃ b : Bool, ev pr 34 [.agg [.flat (.int .i64 n), .list 1 (l.map Rks.av) nl cd]] M = some (.q (.flat (.bool b))) ∧ (b = true → SmallX l ∧ (MayX n l → (prodL ((plX l).drop 1)).length ≤ 3000)) := by
  have h27 := fun M => t27 n l nl cd M hl
  by_cases hS : SmallX l
  · simp only [hS, decide_true] at h27
    have h31 := fun M => t31 n l nl cd M hl
    by_cases hX : MayX n l
    · simp only [hX, decide_true] at h31
      obtain rfl : n = l.length := hX.2.2.1.symm
      have h1 : 1 ≤ l.length := by have := hX.1; omega
      obtain ⟨out, h80, r, rfl, hr⟩ := t80 (nl := nl) (cd := cd) (M := M ++ [some [.flat (.int .i64 l.length), .list 1 (l.map Rks.av) nl cd]]) hS h1
      refine ⟨decide (r ≤ 3000), ?_, fun h => ⟨hS, fun _ => by rw [szF_all h1]; exact hr (by simpa using h)⟩⟩
      clear hr
      refine ev_fn' A34 ?_
      repeat' (first | ((with_reducible first | apply S_0 | apply S_q1 | apply S_g | apply S_c); exact sgc) | (with_reducible first | apply SO_q | apply SG_t | apply SG_f0 | apply SG_f1 | apply S_nil | apply T_n | apply W_seq | apply W_region | apply SO_x | apply SC_t | apply SC_f | apply W_block | apply W_ret | apply W_skip | apply W_exit | apply T_r | apply T_e | apply B_n | apply B_e) | (with_reducible apply B_ne; focus decide) | (with_reducible first | apply B_r | apply R_e | apply R_r | apply H_e | apply H_r | apply G_e | apply G_r) | (with_reducible apply SC_n) | ((with_reducible first | apply SC_d | apply SG_d | apply SG_n | apply SC_b | apply SG_b) <;> intro hc <;> try simp only [decide_eq_true_eq, decide_eq_false_iff_not, Classical.not_not, Bool.not_eq_true', Bool.not_eq_false'] at hc))
      (first | exact fincR | exact fincN)
    · simp only [hX, decide_false] at h31
      refine ⟨true, ?_, fun _ => ⟨hS, fun h => absurd h hX⟩⟩
      refine ev_fn' A34 ?_
      repeat' (first | ((with_reducible first | apply S_0 | apply S_q1 | apply S_g | apply S_c); exact sgc) | (with_reducible first | apply SO_q | apply SG_t | apply SG_f0 | apply SG_f1 | apply S_nil | apply T_n | apply W_seq | apply W_region | apply SO_x | apply SC_t | apply SC_f | apply W_block | apply W_ret | apply W_skip | apply W_exit | apply T_r | apply T_e | apply B_n | apply B_e) | (with_reducible apply B_ne; focus decide) | (with_reducible first | apply B_r | apply R_e | apply R_r | apply H_e | apply H_r | apply G_e | apply G_r) | (with_reducible apply SC_n) | ((with_reducible first | apply SC_d | apply SG_d | apply SG_n | apply SC_b | apply SG_b) <;> intro hc <;> try simp only [decide_eq_true_eq, decide_eq_false_iff_not, Classical.not_not, Bool.not_eq_true', Bool.not_eq_false'] at hc))
      (first | exact fincR | exact fincN)
  · simp only [hS, decide_false] at h27
    refine ⟨false, ?_, fun h => by cases h⟩
    refine ev_fn' A34 ?_
    repeat' (first | ((with_reducible first | apply S_0 | apply S_q1 | apply S_g | apply S_c); exact sgc) | (with_reducible first | apply SO_q | apply SG_t | apply SG_f0 | apply SG_f1 | apply S_nil | apply T_n | apply W_seq | apply W_region | apply SO_x | apply SC_t | apply SC_f | apply W_block | apply W_ret | apply W_skip | apply W_exit | apply T_r | apply T_e | apply B_n | apply B_e) | (with_reducible apply B_ne; focus decide) | (with_reducible first | apply B_r | apply R_e | apply R_r | apply H_e | apply H_r | apply G_e | apply G_r) | (with_reducible apply SC_n) | ((with_reducible first | apply SC_d | apply SG_d | apply SG_n | apply SC_b | apply SG_b) <;> intro hc <;> try simp only [decide_eq_true_eq, decide_eq_false_iff_not, Classical.not_not, Bool.not_eq_true', Bool.not_eq_false'] at hc))
    (first | exact fincR | exact fincN)
end Go.Proofs.Ytopiaiibpacmlaa.Av
namespace Go.Proofs.Ytopiaiibpacmlaa.Av
open Go.RowKit
set_option linter.unusedSimpArgs false
set_option linter.unusedVariables false
set_option maxHeartbeats 10000000
/-- A state, as a value. -/
structure Sta where
  s : List Pth
  ns : Bool
  cs : Bool
def Sta.av (x : Sta) : AV := .list 1 (x.s.map Pth.av) x.ns x.cs
def Sta.l (x : Sta) : List Pa := pl x.s
theorem allI_stas : ∀ l : List Sta, allI (l.map Sta.av) = true := allI_map fun _ => rfl
def idOf : AV → Option Nat
  | .ms id _ _ _ _ => some id
  | _ => none
/-- A state that is read, and given up. -/
def SV (M : MS) (x : AV) (s : List Pth) : Prop := (∃ ns cs, x = .list 1 (s.map Pth.av) ns cs) ∨ ∃ id, id < M.length ∧ x = .ms id 0 s.length 1 false ∧ M[id]? = some (some (s.map Pth.av))
/-- A row that grows. -/
def SRow (M : MS) (x : AV) (cs : List AV) : Prop := (x = .list 1 [] true true ∧ cs = []) ∨ ∃ id, id < M.length ∧ x = .ms id 0 cs.length 1 false ∧ M[id]? = some (some cs)
theorem SV.view {M : MS} {x : AV} {s : List Pth} (h : SV M x s) : Av.view M x = some (s.map Pth.av) := by
  rcases h with ⟨ns, cs, rfl⟩ | ⟨id, _, rfl, h⟩
  · rfl
  · simp only [Av.view, h]
    rw [if_pos (by simp)]
    simp [List.take_of_length_le]
theorem SV.len {M : MS} {x : AV} {s : List Pth} (h : SV M x s) : lenOf x = some s.length := by
  rcases h with ⟨ns, cs, rfl⟩ | ⟨id, _, rfl, h⟩
  · simp [lenOf]
  · rfl
theorem SV.cell {M : MS} {x : AV} {s : List Pth} (h : SV M x s) : cellsOf x = some [x] := by
  rcases h with ⟨ns, cs, rfl⟩ | ⟨id, _, rfl, h⟩ <;> rfl
theorem SV.keep {M M' : MS} {x : AV} {s : List Pth} (h : SV M x s) (hl : M.length ≤ M'.length) (hk : ∀ id, id < M.length → idOf x = some id → M'[id]? = M[id]?) : SV M' x s := by
  rcases h with h | ⟨id, h1, rfl, h⟩
  · exact .inl h
  · exact .inr ⟨id, by omega, rfl, by rw [hk id h1 rfl]; exact h⟩
theorem SRow.keep {M M' : MS} {x : AV} {cs : List AV} (h : SRow M x cs) (hl : M.length ≤ M'.length) (hk : ∀ id, id < M.length → idOf x = some id → M'[id]? = M[id]?) : SRow M' x cs := by
  rcases h with h | ⟨id, h1, rfl, h⟩
  · exact .inl h
  · exact .inr ⟨id, by omega, rfl, by rw [hk id h1 rfl]; exact h⟩
theorem SV.vw {M : MS} {x : AV} {s : List Pth} (h : SV M x s) : Vw M x (s.map Pth.av) s.length :=
  ⟨h.len, fun G => (h.keep (M' := M ++ G) (by simp) fun id hid _ => by rw [List.getElem?_append_left hid]).view, h.cell⟩
theorem SV.lt {M : MS} {x : AV} {s : List Pth} (h : SV M x s) {id : Nat} (hi : idOf x = some id) : id < M.length := by
  rcases h with ⟨ns, cs, rfl⟩ | ⟨i, h1, rfl, _⟩
  · cases hi
  · cases hi; exact h1
theorem SRow.lt {M : MS} {x : AV} {cs : List AV} (h : SRow M x cs) {id : Nat} (hi : idOf x = some id) : id < M.length := by
  rcases h with ⟨rfl, _⟩ | ⟨i, h1, rfl, _⟩
  · cases hi
  · cases hi; exact h1
section
variable {p : Pr} {base : Nat} {env : Env} {m : MS} {D : List Nat} {d : Option Nat} {r : List AOp} {R : Env → MS → List Nat → Prop}
theorem S_bslS {x : O} {zs : List AV} {sv : AV} {s : List Pth} (hs : SV m sv s) (hx : x.ev env = sv) (hz : zs.length = 1)
    (h : ∀ m' ns cs D', (∀ i, some i ≠ idOf sv → m'[i]? = m[i]?) → m'.length = m.length → (∀ i ∈ D', i ∈ D ∨ some i = idOf sv) → WS p base 0 r (updO env d (.list 1 [.list 1 (s.map Pth.av) ns cs] false true)) m' D' R) :
    WS p base 0 (⟨d, .bslice 1 1 zs [(0, 1, x)], none⟩ :: r) env m D R := by
  have hf : fillA (List.replicate 1 zs).flatten (List.map (fun x => match x with | (o, n, x) => (o, n, x.ev env)) [(0, 1, x)]) = some [sv] := by
    match zs, hz with
    | [z], _ => simp [fillA, hx, hs.cell]
  rcases hs with ⟨ns, cs, rfl⟩ | ⟨id, h1, rfl, h2⟩
  · have hv : evI (ev p) base env m D (.bslice 1 1 zs [(0, 1, x)]) = some (.q (.list 1 [.list 1 (s.map Pth.av) ns cs] false true)) := by
      simp only [evI, hf]; rfl
    exact S_0 hv (SO_q (h m ns cs D (fun _ _ => rfl) rfl fun i hi => .inl hi))
  · have hv : evI (ev p) base env m D (.bslice 1 1 zs [(0, 1, x)]) = some (.x (.list 1 [.list 1 (s.map Pth.av) false false] false true) (m.set id none) (dirt base id D)) := by
      simp only [evI, hf, allI, isI, Bool.false_and, Bool.false_eq_true, if_false]
      simp only [frzAll, frz, h2]
      rw [if_pos ⟨Nat.zero_le _, by simp, allI_pths s⟩]
      simp only [List.drop_zero, dirts, Nat.mul_one]
      rw [List.take_of_length_le (by simp)]
    refine S_0 hv (SO_x (h _ _ _ _ (fun i hi => ?_) (by simp) fun i hi => ?_))
    · rw [List.getElem?_set_ne]; intro e; exact hi (by rw [e]; rfl)
    · unfold dirt at hi
      split at hi
      · rcases List.mem_cons.1 hi with rfl | hi
        · exact .inr rfl
        · exact .inl hi
      · exact .inl hi
theorem S_appR {s x : O} {fv y : AV} {cs : List AV} {bytes : Nat} (hf : SRow m fv cs) (hs : s.ev env = fv) (hx : x.ev env = .list 1 [y] false true) (hy : isI y = true) (hA : allI cs = true) (hl : cs.length ≤ 3000) (hb : bytes ≤ 1000)
    (h : ∀ w m' D', SRow m' w (cs ++ [y]) → m.length ≤ m'.length → (∀ i, i < m.length → some i ≠ idOf fv → m'[i]? = m[i]?) → (∀ i ∈ D', i ∈ D ∨ some i = idOf fv) → (∀ id, idOf w = some id → m.length ≤ id) → WS p base 0 r (updO env d w) m' D' R) :
    WS p base 0 (⟨d, .app 1 bytes s x, none⟩ :: r) env m D R := by
  have hbb : ∀ k, k ≤ 3001 → k * bytes ≤ 140737488355328 := fun k hk => Nat.le_trans (Nat.mul_le_mul hk hb) (by decide)
  have hyA : allI [y] = true := by simp only [allI, hy, Bool.and_self]
  rcases hf with ⟨rfl, rfl⟩ | ⟨id, h1, rfl, h2⟩
  · have hv : evI (ev p) base env m D (.app 1 bytes s x) = some (.x (.ms m.length 0 1 1 false) (m ++ [some [y]]) D) := by
      simp only [evI, hx, view_list, lenOf_list, hs, List.length_singleton, Nat.div_one, appA]
      rw [if_neg (by decide), if_pos ⟨.inl trivial, trivial, hyA, trivial, by decide, hbb _ (by simp)⟩]
      rfl
    refine S_0 hv (SO_x (h _ _ _ (.inr ⟨m.length, by simp, rfl, by simp⟩) (by simp) (fun i hi _ => by rw [List.getElem?_append_left hi]) (fun i hi => .inl hi) fun id hid => by cases hid; exact Nat.le_refl _))
  · have hv : evI (ev p) base env m D (.app 1 bytes s x) = some (.x (.ms m.length 0 (cs.length + 1) 1 false) (m.set id none ++ [some (cs ++ [y])]) (dirt base id D)) := by
      simp only [evI, hx, view_list, lenOf_list, hs, List.length_singleton, Nat.div_one, appA, h2]
      rw [if_neg (by decide), if_pos ⟨trivial, hyA, trivial, by unfold LIM; omega, hbb _ (by omega), by simp⟩]
      simp only [Bool.false_eq_true, if_false, if_true, Nat.mul_one, List.take_length]
    refine S_0 hv (SO_x (h _ _ _ (.inr ⟨m.length, by simp, by simp, by simp⟩) (by simp) (fun i hi hne => ?_) (fun i hi => ?_) fun id hid => by cases hid; exact Nat.le_refl _))
    · rw [List.getElem?_append_left (by simpa using hi), List.getElem?_set_ne]
      intro e; exact hne (by rw [e]; rfl)
    · unfold dirt at hi
      split at hi
      · rcases List.mem_cons.1 hi with rfl | hi
        · exact .inr rfl
        · exact .inl hi
      · exact .inl hi
end
/-- The stable states that begin with some paths. -/
noncomputable def evX (L : In) (s : List Pa) (ps : List Pa) (R : List (List Pa)) : List (List Pa) := (((ps.flatMap fun p => (prodL R).map (p :: ·)).map (s ++ ·)).filter fun t => decide (StabP L t))
theorem evX_snoc (L : In) (s ps : List Pa) (p : Pa) (R : List (List Pa)) : evX L s (ps ++ [p]) R = evX L s ps R ++ ((prodL R).map ((s ++ [p]) ++ ·)).filter fun t => decide (StabP L t) := by
  simp only [evX, List.flatMap_append, List.flatMap_cons, List.flatMap_nil, List.append_nil, List.map_append, List.filter_append, List.map_map]
  congr 3
  funext t
  simp
end Go.Proofs.Ytopiaiibpacmlaa.Av
namespace Go.Proofs.Ytopiaiibpacmlaa.Av
open Go.RowKit
set_option linter.unusedSimpArgs false
set_option linter.unusedVariables false
set_option maxHeartbeats 10000000
theorem evX_len (L : In) (s ps : List Pa) (R : List (List Pa)) : (evX L s ps R).length ≤ ps.length * (prodL R).length := by
  refine Nat.le_trans (List.length_filter_le _ _) ?_
  rw [List.length_map]
  induction ps with
  | nil => simp
  | cons p ps ih => rw [List.flatMap_cons, List.length_append, List.length_map, List.length_cons, Nat.add_mul, Nat.one_mul]; omega
theorem pl_snoc (s : List Pth) (p : Pth) : pl (s ++ [p]) = pl s ++ [p.l] := by simp [pl]
def nlP : Pth := ⟨[], true, true, fun _ => ⟨rfl, rfl⟩, by simp⟩
theorem own_sv {lo : Nat} {m : MS} {x : AV} {s : List Pth} (h : Own lo m x 1 (s.map Pth.av)) (hs : 1 ≤ s.length) : SV m x s ∧ ∃ id, idOf x = some id ∧ lo ≤ id := by
  obtain ⟨_, _, _, ⟨h1, _⟩ | ⟨_, id, h2, h3, rfl, h5⟩⟩ := h
  · rw [List.map_eq_nil_iff] at h1; subst h1; simp at hs
  · exact ⟨.inr ⟨id, h3, by simp, h5⟩, id, rfl, h2⟩
theorem t81 {l : List Rks} {nl cd : Bool} (hX : MayX l.length l) (hS : SmallX l) : ∀ (r : Nat) {M : MS} {sv fv : AV} {s : List Pth} {fs : List Sta}, s.length + r = l.length → 1 ≤ s.length → (∀ h : 0 < s.length, s[0].l = [0]) → SV M sv s → SRow M fv (fs.map Sta.av) → (∀ i, idOf sv = some i → idOf fv ≠ some i) →
    fs.length + (prodL ((plX l).drop s.length)).length ≤ 3000 →
    ∃ out, ev pr 81 [.agg [.flat (.int .i64 l.length), .list 1 (l.map Rks.av) nl cd], sv, fv] M = some out ∧ ∃ (w : AV) (M' : MS) (D : List Nat) (fs' : List Sta), out = .x w M' D ∧ SRow M' w (fs'.map Sta.av) ∧
      fs'.map Sta.l = fs.map Sta.l ++ ((prodL ((plX l).drop s.length)).map (pl s ++ ·)).filter (fun t => decide (StabP (plX l) t)) ∧ M.length ≤ M'.length ∧ (∀ i, i < M.length → some i ≠ idOf sv → some i ≠ idOf fv → M'[i]? = M[i]?) ∧
      (∀ i ∈ D, i < M.length → some i = idOf sv ∨ some i = idOf fv) ∧ (∀ id, idOf w = some id → idOf fv = some id ∨ M.length ≤ id)
  | 0, M, sv, fv, s, fs, hr, hs1, hs0, hsv, hfv, hne, hb => by
    have hsl : s.length = l.length := by omega
    have h45 := t45 (nl := nl) (cd := cd) (hsv.vw.ext [some [.flat (.int .i64 l.length), .list 1 (l.map Rks.av) nl cd]]) hX hS hsl hs0
    have hlen := hsv.len
    have hcell := hsv.cell
    have h12 := hS.1
    have hvw := hsv.vw.vw
    have hdrop : (plX l).drop s.length = [] := List.drop_of_length_le (by rw [plX_len]; omega)
    rw [hdrop] at hb ⊢
    have hslZ : (s.length : Int) = l.length := by omega
    have hfl : (fs.map Sta.av).length ≤ 3000 := by simp; omega
    have hext : ∀ id, id < M.length → (M ++ [some [AV.flat (.int .i64 l.length), .list 1 (l.map Rks.av) nl cd]])[id]? = M[id]? := fun id h => List.getElem?_append_left h
    have hsv' := hsv.keep (M' := M ++ [some [AV.flat (.int .i64 l.length), .list 1 (l.map Rks.av) nl cd]]) (by simp) fun id hid _ => hext id hid
    have hfv' := hfv.keep (M' := M ++ [some [AV.flat (.int .i64 l.length), .list 1 (l.map Rks.av) nl cd]]) (by simp) fun id hid _ => hext id hid
    refine ev_fnE A81 ?_
    by_cases hst : StabP (plX l) (pl s)
    · simp only [hst, decide_true] at h45
      clear hX hS hs0
      repeat' (first | ((with_reducible first | apply S_0 | apply S_q1 | apply S_g | apply S_c); exact sgc) | (with_reducible first | apply SO_q | apply SG_t | apply SG_f0 | apply SG_f1 | apply S_nil | apply T_n | apply W_seq | apply W_region | apply SO_x | apply SC_t | apply SC_f | apply W_block | apply W_ret | apply W_skip | apply W_exit | apply T_r | apply T_e | apply B_n | apply B_e) | (with_reducible apply B_ne; focus decide) | (with_reducible first | apply B_r | apply R_e | apply R_r | apply H_e | apply H_r | apply G_e | apply G_r) | (with_reducible apply SC_n) | ((with_reducible first | apply SC_d | apply SG_d | apply SG_n | apply SC_b | apply SG_b) <;> intro hc <;> try simp only [decide_eq_true_eq, decide_eq_false_iff_not, Classical.not_not, Bool.not_eq_true', Bool.not_eq_false'] at hc))
      refine S_bslS hsv' (by exact svc) rfl ?_
      intro m1 ns cs D1 g1 g2 g3
      have hfv1 := hfv'.keep (M' := m1) (by omega) fun id hid hi => g1 id fun e => hne id e.symm hi
      refine S_appR (y := .list 1 (s.map Pth.av) ns cs) hfv1 (by exact svc) (by exact svc) rfl (allI_stas _) hfl (by decide) ?_
      intro w m2 D2 k1 k2 k3 k4 k5
      repeat' (first | ((with_reducible first | apply S_0 | apply S_q1 | apply S_g | apply S_c); exact sgc) | (with_reducible first | apply SO_q | apply SG_t | apply SG_f0 | apply SG_f1 | apply S_nil | apply T_n | apply W_seq | apply W_region | apply SO_x | apply SC_t | apply SC_f | apply W_block | apply W_ret | apply W_skip | apply W_exit | apply T_r | apply T_e | apply B_n | apply B_e) | (with_reducible apply B_ne; focus decide) | (with_reducible first | apply B_r | apply R_e | apply R_r | apply H_e | apply H_r | apply G_e | apply G_r) | (with_reducible apply SC_n) | ((with_reducible first | apply SC_d | apply SG_d | apply SG_n | apply SC_b | apply SG_b) <;> intro hc <;> try simp only [decide_eq_true_eq, decide_eq_false_iff_not, Classical.not_not, Bool.not_eq_true', Bool.not_eq_false'] at hc))
      refine ⟨.inr rfl, .x w m2 D2, ?_, w, m2, D2, fs ++ [⟨s, ns, cs⟩], rfl, by simpa [Sta.av] using k1, ?_, ?_, ?_, ?_, ?_⟩
      · simp only [fin, if_true, resA, rvA, tupA]
        (simp (disch := first | assumption | decide | omega | exact Pth.le _ | exact Rks.le _ | exact List.getElem_mem _ | exact allI_ints _ | exact allI_rks _ | exact allI_pths _ | exact Pth.nil _ | exact Rks.nil _ | (intro hh; simp only [Pth.nil _ hh, List.take_nil, List.drop_nil]; done) | (intro hh; simp only [Rks.nil _ hh, List.take_nil, List.drop_nil]; done) | (simp only [List.length_take, List.length_drop, List.length_append, List.length_cons, List.length_nil, List.length_replicate, List.length_map, ints_len]; omega)) only [go_sem, if_pos, if_neg, Nat.reduceBEq, Nat.reduceEqDiff, ↓reduceIte, Nat.reduceSub, Nat.reduceAdd, Int.reduceToNat, reduceCtorEq, Nat.reduceLeDiff, Nat.reduceLT, Nat.reduceMul, Nat.reduceDiv, Int.reduceLT, Int.reduceLE, Int.reduceEq, Int.reduceNe, Int.reduceAdd, Int.reduceSub, Int.reduceNeg, Int.reduceGT, Int.reduceGE, Int.reduceBEq, Int.reduceBNe, Int.reduceMul, *])
      · simp [prodL, hst, Sta.l]
      · simp at g2; omega
      · intro i hi h1 h2
        rw [k3 i (by simp at g2; omega) h2, g1 i h1, hext i hi]
      · intro i hi hil
        rcases k4 i hi with h | h
        · rcases g3 i h with h | h
          · simp at h
          · exact .inl h
        · exact .inr h
      · intro id hid
        have := k5 id hid
        simp at g2
        exact .inr (by omega)
    · simp only [hst, decide_false] at h45
      clear hX hS hs0
      repeat' (first | ((with_reducible first | apply S_0 | apply S_q1 | apply S_g | apply S_c); exact sgc) | (with_reducible first | apply SO_q | apply SG_t | apply SG_f0 | apply SG_f1 | apply S_nil | apply T_n | apply W_seq | apply W_region | apply SO_x | apply SC_t | apply SC_f | apply W_block | apply W_ret | apply W_skip | apply W_exit | apply T_r | apply T_e | apply B_n | apply B_e) | (with_reducible apply B_ne; focus decide) | (with_reducible first | apply B_r | apply R_e | apply R_r | apply H_e | apply H_r | apply G_e | apply G_r) | (with_reducible apply SC_n) | ((with_reducible first | apply SC_d | apply SG_d | apply SG_n | apply SC_b | apply SG_b) <;> intro hc <;> try simp only [decide_eq_true_eq, decide_eq_false_iff_not, Classical.not_not, Bool.not_eq_true', Bool.not_eq_false'] at hc))
      refine ⟨.inr rfl, .x fv (M ++ [some [.flat (.int .i64 l.length), .list 1 (l.map Rks.av) nl cd]]) [], ?_, fv, _, [], fs, rfl, hfv', ?_, by simp, fun i hi _ _ => hext i hi, fun i hi => by simp at hi, fun id hid => .inl hid⟩
      · simp only [fin, if_true, resA, rvA, tupA]
        (simp (disch := first | assumption | decide | omega | exact Pth.le _ | exact Rks.le _ | exact List.getElem_mem _ | exact allI_ints _ | exact allI_rks _ | exact allI_pths _ | exact Pth.nil _ | exact Rks.nil _ | (intro hh; simp only [Pth.nil _ hh, List.take_nil, List.drop_nil]; done) | (intro hh; simp only [Rks.nil _ hh, List.take_nil, List.drop_nil]; done) | (simp only [List.length_take, List.length_drop, List.length_append, List.length_cons, List.length_nil, List.length_replicate, List.length_map, ints_len]; omega)) only [go_sem, if_pos, if_neg, Nat.reduceBEq, Nat.reduceEqDiff, ↓reduceIte, Nat.reduceSub, Nat.reduceAdd, Int.reduceToNat, reduceCtorEq, Nat.reduceLeDiff, Nat.reduceLT, Nat.reduceMul, Nat.reduceDiv, Int.reduceLT, Int.reduceLE, Int.reduceEq, Int.reduceNe, Int.reduceAdd, Int.reduceSub, Int.reduceNeg, Int.reduceGT, Int.reduceGE, Int.reduceBEq, Int.reduceBNe, Int.reduceMul, *])
      · simp [prodL, hst]
  | r + 1, M, sv, fv, s, fs, hr, hs1, hs0, hsv, hfv, hne, hb => by
    have hvl : s.length < l.length := by omega
    have h12 := hS.1
    have h70 := (hS.2 _ (List.getElem_mem hvl)).1
    have hdrop := plX_drop hvl
    rw [hdrop] at hb ⊢
    rw [prodL_len, paths_len] at hb
    have IH := fun {M : MS} {sv fv : AV} {s : List Pth} {fs : List Sta} => t81 (nl := nl) (cd := cd) hX hS r (M := M) (sv := sv) (fv := fv) (s := s) (fs := fs)
    have hlen := hsv.len
    have hcell := hsv.cell
    have hslZ : ¬ (s.length : Int) = l.length := by omega
    clear hX hS
    obtain ⟨P, hP⟩ : ∃ P, P = (prodL ((plX l).drop (s.length + 1))).length := ⟨_, rfl⟩
    rw [← hP] at hb
    refine ev_fnE A81 ?_
    repeat' (first | ((with_reducible first | apply S_0 | apply S_q1 | apply S_g | apply S_c); exact sgc) | (with_reducible first | apply SO_q | apply SG_t | apply SG_f0 | apply SG_f1 | apply S_nil | apply T_n | apply W_seq | apply W_region | apply SO_x | apply SC_t | apply SC_f | apply W_block | apply W_ret | apply W_skip | apply W_exit | apply T_r | apply T_e | apply B_n | apply B_e) | (with_reducible apply B_ne; focus decide) | (with_reducible first | apply B_r | apply R_e | apply R_r | apply H_e | apply H_r | apply G_e | apply G_r) | (with_reducible apply SC_n) | ((with_reducible first | apply SC_d | apply SG_d | apply SG_n | apply SC_b | apply SG_b) <;> intro hc <;> try simp only [decide_eq_true_eq, decide_eq_false_iff_not, Classical.not_not, Bool.not_eq_true', Bool.not_eq_false'] at hc))
    refine W_whl (fun q e m d => ∃ (i : Nat) (fs1 : List Sta) (w : AV), q = l[s.length].l.length + 1 - i ∧ i ≤ l[s.length].l.length + 1 ∧ e 8 = .flat (.int .i64 i) ∧ e 2 = w ∧ SRow m w (fs1.map Sta.av) ∧ (∀ G, (m ++ G)[M.length]? = some (some [.flat (.int .i64 l.length), .list 1 (l.map Rks.av) nl cd])) ∧ M.length < m.length ∧
        (∀ i, i < M.length → some i ≠ idOf sv → some i ≠ idOf fv → m[i]? = M[i]?) ∧ SV m sv s ∧ (∀ id, idOf w = some id → idOf fv = some id ∨ M.length < id) ∧ (∀ i ∈ d, i < M.length → some i = idOf sv ∨ some i = idOf fv) ∧
        fs1.map Sta.l = fs.map Sta.l ++ evX (plX l) (pl s) ((paths l[s.length].l ++ [[]]).take i) ((plX l).drop (s.length + 1))) (l[s.length].l.length + 1) (by simp only [asg, asgO, List.append_nil, List.nil_append, List.cons_append]; rfl)
      ⟨0, fs, fv, rfl, by omega, by exact svc, by exact svc, hfv.keep (by simp) fun id hid _ => List.getElem?_append_left hid, fun G => by simp, by simp, fun i hi _ _ => List.getElem?_append_left hi, hsv.keep (by simp) fun id hid _ => List.getElem?_append_left hid, fun id hid => .inl hid, fun i hi => by simp at hi, ?_⟩ ?_
    · simp [evX]
    rintro q e m d hk ⟨i, fs1, w, rfl, hi, e8, e2, hw, hbx, hml, hfr, hsm, hwi, hd, hfs⟩
    have k0 : e 0 = e 0 := rfl
    have k1 : e 1 = sv := by rw [hk 1 rfl]; exact svc
    have k3 : e 3 = .mptr M.length 0 := by rw [hk 3 rfl]; exact svc
    have k7 : e 7 = .flat (.int .i64 s.length) := by rw [hk 7 rfl]; exact svc
    clear hk k0
    have hbx0 : m[M.length]? = some (some [.flat (.int .i64 l.length), .list 1 (l.map Rks.av) nl cd]) := by simpa using hbx []
    have hvm : view m sv = some (s.map Pth.av) := hsm.view
    have hvm' : ∀ G, view (m ++ G) sv = some (s.map Pth.av) := hsm.vw.vw
    have hwc : ∀ id, idOf w = some id → id < m.length := fun id h => hw.lt h
    have hfl : fs1.length ≤ fs.length + i * P := by
      have h1 := congrArg List.length hfs
      have h2 := evX_len (plX l) (pl s) ((paths l[s.length].l ++ [[]]).take i) ((plX l).drop (s.length + 1))
      rw [List.length_append, List.length_map, List.length_map] at h1
      rw [← hP] at h2
      have h3 : ((paths l[s.length].l ++ [[]]).take i).length ≤ i := List.length_take_le _ _
      have h4 := Nat.mul_le_mul_right P h3
      omega
    rcases Nat.lt_or_ge i (l[s.length].l.length + 1) with hlt | hlt
    · have hlt' : (i : Int) ≤ l[s.length].l.length := by omega
      have hPi : (i + 1) * P ≤ (l[s.length].l.length + 1) * P := Nat.mul_le_mul_right P (by omega)
      rw [Nat.add_mul, Nat.one_mul] at hPi
      have tail : ∀ (v' : AV) (G' : MS) (pp : Pth), Own m.length (m ++ G') v' 1 ((s ++ [pp]).map Pth.av) → (paths l[s.length].l ++ [[]])[i]? = some pp.l → ∃ (w' : AV) (M' : MS) (D' : List Nat) (fs' : List Sta), ev pr 81 [.agg [.flat (.int .i64 l.length), .list 1 (l.map Rks.av) nl cd], v', w] (m ++ G') = some (.x w' M' D') ∧
          SRow M' w' (fs'.map Sta.av) ∧ (∀ G, (M' ++ G)[M.length]? = some (some [.flat (.int .i64 l.length), .list 1 (l.map Rks.av) nl cd])) ∧ M.length < M'.length ∧ (∀ i, i < M.length → some i ≠ idOf sv → some i ≠ idOf fv → M'[i]? = M[i]?) ∧ SV M' sv s ∧ (∀ id, idOf w' = some id → idOf fv = some id ∨ M.length < id) ∧
          (∀ i ∈ List.filter (fun x => decide (x < M.length)) D' ++ d, i < M.length → some i = idOf sv ∨ some i = idOf fv) ∧ fs'.map Sta.l = fs.map Sta.l ++ evX (plX l) (pl s) ((paths l[s.length].l ++ [[]]).take (i + 1)) ((plX l).drop (s.length + 1)) := by
        intro v' G' pp hO hpp
        obtain ⟨hSV, idn, hid, hidn⟩ := own_sv hO (by simp)
        have hwm : SRow (m ++ G') w (fs1.map Sta.av) := hw.keep (by simp) fun id h _ => List.getElem?_append_left h
        obtain ⟨out, h1, w', M', D', fs', rfl, g1, g2, g3, g4, g5, g6⟩ := IH (s := s ++ [pp]) (by simp; omega) (by simp) (fun h => by rw [List.getElem_append_left (by omega)]; exact hs0 (by omega)) hSV hwm (fun j hj hw' => by
          rw [hid] at hj; cases hj
          have := hwc idn hw'; omega) (by rw [List.length_append, List.length_singleton, ← hP]; omega)
        have low : ∀ j, j < m.length → some j ≠ idOf w → M'[j]? = m[j]? := fun j hj hjw => by
          rw [g4 j (by simp; omega) (by rw [hid]; intro e; cases e; omega) hjw, List.getElem?_append_left hj]
        have hwM : some M.length ≠ idOf w := fun e => by
          rcases hwi _ e.symm with h | h
          · have := hfv.lt h; omega
          · omega
        have hsw : ∀ j, idOf sv = some j → some j ≠ idOf w := fun j hj e => by
          have hjM := hsv.lt hj
          rcases hwi _ e.symm with h | h
          · exact hne j hj h
          · omega
        simp only [List.length_append] at g3
        refine ⟨w', M', D', fs', h1, g1, fun G => ?_, by omega, fun j hj hjs hjf => ?_, hsm.keep (by omega) fun j hj hjs => low j hj (hsw j hjs), fun id hid' => ?_, fun j hj hjM => ?_, ?_⟩
        · rw [List.getElem?_append_left (by omega), low _ hml hwM]; exact hbx0
        · rw [low j (by omega) (fun e => by
            rcases hwi _ e.symm with h | h
            · exact hjf h.symm
            · omega)]
          exact hfr j hj hjs hjf
        · rcases g6 id hid' with h | h
          · exact hwi id h
          · simp at h; exact .inr (by omega)
        · rcases List.mem_append.1 hj with h | h
          · have hjD := (List.mem_filter.1 h).1
            rcases g5 j hjD (by simp; omega) with h | h
            · rw [hid] at h; cases h; omega
            · rcases hwi j h.symm with h' | h'
              · exact .inr h'.symm
              · omega
          · exact hd j h hjM
        · rw [g2, hfs, List.append_assoc]
          congr 1
          have : (paths l[s.length].l ++ [[]]).take (i + 1) = (paths l[s.length].l ++ [[]]).take i ++ [pp.l] := by
            rw [List.take_add_one, hpp]; rfl
          rw [this, evX_snoc, pl_snoc, List.length_append, List.length_singleton]
      clear IH hfs hfr hd
      have hO1 : Own m.length (m ++ [some (s.map Pth.av)]) (.ms m.length 0 s.length 1 false) 1 (s.map Pth.av) := ⟨by decide, allI_pths s, ⟨s.length, by simp⟩, .inr ⟨by intro h; rw [List.map_eq_nil_iff] at h; subst h; simp at hs1, m.length, Nat.le_refl _, by simp, by simp, by simp⟩⟩
      repeat' (first | ((with_reducible first | apply S_0 | apply S_q1 | apply S_g | apply S_c); exact sgc) | (with_reducible first | apply SO_q | apply SG_t | apply SG_f0 | apply SG_f1 | apply S_nil | apply T_n | apply W_seq | apply W_region | apply SO_x | apply SC_t | apply SC_f | apply W_block | apply W_ret | apply W_skip | apply W_exit | apply T_r | apply T_e | apply B_n | apply B_e) | (with_reducible apply B_ne; focus decide) | (with_reducible first | apply B_r | apply R_e | apply R_r | apply H_e | apply H_r | apply G_e | apply G_r) | (with_reducible apply SC_n) | ((with_reducible first | apply SC_d | apply SG_d | apply SG_n | apply SC_b | apply SG_b) <;> intro hc <;> try simp only [decide_eq_true_eq, decide_eq_false_iff_not, Classical.not_not, Bool.not_eq_true', Bool.not_eq_false'] at hc))
      · have hil : i < l[s.length].l.length := by omega
        (refine S_ownG (cs := s.map Pth.av) m [some (s.map Pth.av)] (by assumption) (by first | rfl | simp only [List.append_assoc, List.cons_append, List.nil_append]) (by exact sgc) (by exact sgc) (by exact sgc) (by exact sgc) (by exact sgc) (by (first | assumption | omega | (simp only [ints_len, Nat.div_one, Nat.one_mul, Nat.mul_one, List.length_map, rks_len, half, List.length_cons, List.length_nil, List.length_append]; omega))) (by (first | assumption | omega | (simp only [ints_len, Nat.div_one, Nat.one_mul, Nat.mul_one, List.length_map, rks_len, half, List.length_cons, List.length_nil, List.length_append]; omega))) (by first | omega | (simp; done) | (simp; omega)) ?_)
        intro v' G' hO2
        obtain ⟨w', M', D', fs', h81, g1, g2, g3, g4, g5, g6, g7, g8⟩ := tail v' G' l[s.length].l[i].p (by simpa [Pth.av_eq] using hO2) (by
          rw [List.getElem?_append_left (by rw [paths_len]; exact hil), List.getElem?_eq_getElem (by rw [paths_len]; exact hil), paths_get])
        have hvc := hO2.cell
        clear tail
        repeat' (first | ((with_reducible first | apply S_0 | apply S_q1 | apply S_g | apply S_c); exact sgc) | (with_reducible first | apply SO_q | apply SG_t | apply SG_f0 | apply SG_f1 | apply S_nil | apply T_n | apply W_seq | apply W_region | apply SO_x | apply SC_t | apply SC_f | apply W_block | apply W_ret | apply W_skip | apply W_exit | apply T_r | apply T_e | apply B_n | apply B_e) | (with_reducible apply B_ne; focus decide) | (with_reducible first | apply B_r | apply R_e | apply R_r | apply H_e | apply H_r | apply G_e | apply G_r) | (with_reducible apply SC_n) | ((with_reducible first | apply SC_d | apply SG_d | apply SG_n | apply SC_b | apply SG_b) <;> intro hc <;> try simp only [decide_eq_true_eq, decide_eq_false_iff_not, Classical.not_not, Bool.not_eq_true', Bool.not_eq_false'] at hc))
        exact R_n _ (by omega) ⟨i + 1, fs', w', rfl, by omega, by exact svc, by exact svc, g1, g2, g3, g4, g5, g6, g7, g8⟩
      · have hil : i = l[s.length].l.length := by omega
        have hilH : Hid (i = l[s.length].l.length) := hil
        (refine S_ownG (cs := s.map Pth.av) m [some (s.map Pth.av)] (by assumption) (by first | rfl | simp only [List.append_assoc, List.cons_append, List.nil_append]) (by exact sgc) (by exact sgc) (by exact sgc) (by exact sgc) (by exact sgc) (by (first | assumption | omega | (simp only [ints_len, Nat.div_one, Nat.one_mul, Nat.mul_one, List.length_map, rks_len, half, List.length_cons, List.length_nil, List.length_append]; omega))) (by (first | assumption | omega | (simp only [ints_len, Nat.div_one, Nat.one_mul, Nat.mul_one, List.length_map, rks_len, half, List.length_cons, List.length_nil, List.length_append]; omega))) (by first | omega | (simp; done) | (simp; omega)) ?_)
        intro v' G' hO2
        obtain ⟨w', M', D', fs', h81, g1, g2, g3, g4, g5, g6, g7, g8⟩ := tail v' G' nlP (by simpa [Pth.av_eq, nlP, intsA] using hO2) (by
          rw [List.getElem?_append_right (by rw [paths_len]; omega), paths_len, hil, Nat.sub_self]; rfl)
        have hvc := hO2.cell
        clear tail hil
        repeat' (first | ((with_reducible first | apply S_0 | apply S_q1 | apply S_g | apply S_c); exact sgc) | (with_reducible first | apply SO_q | apply SG_t | apply SG_f0 | apply SG_f1 | apply S_nil | apply T_n | apply W_seq | apply W_region | apply SO_x | apply SC_t | apply SC_f | apply W_block | apply W_ret | apply W_skip | apply W_exit | apply T_r | apply T_e | apply B_n | apply B_e) | (with_reducible apply B_ne; focus decide) | (with_reducible first | apply B_r | apply R_e | apply R_r | apply H_e | apply H_r | apply G_e | apply G_r) | (with_reducible apply SC_n) | ((with_reducible first | apply SC_d | apply SG_d | apply SG_n | apply SC_b | apply SG_b) <;> intro hc <;> try simp only [decide_eq_true_eq, decide_eq_false_iff_not, Classical.not_not, Bool.not_eq_true', Bool.not_eq_false'] at hc))
        exact R_n _ (by omega) ⟨i + 1, fs', w', rfl, by omega, by exact svc, by exact svc, g1, g2, g3, g4, g5, g6, g7, g8⟩
    · have hlt' : ¬ (i : Int) ≤ l[s.length].l.length := by omega
      have hall : evX (plX l) (pl s) ((paths l[s.length].l ++ [[]]).take i) ((plX l).drop (s.length + 1)) = ((prodL (paths l[s.length].l :: (plX l).drop (s.length + 1))).map (pl s ++ ·)).filter (fun t => decide (StabP (plX l) t)) := by
        rw [List.take_of_length_le (by rw [List.length_append, paths_len]; simp; omega)]
        rfl
      clear IH
      repeat' (first | ((with_reducible first | apply S_0 | apply S_q1 | apply S_g | apply S_c); exact sgc) | (with_reducible first | apply SO_q | apply SG_t | apply SG_f0 | apply SG_f1 | apply S_nil | apply T_n | apply W_seq | apply W_region | apply SO_x | apply SC_t | apply SC_f | apply W_block | apply W_ret | apply W_skip | apply W_exit | apply T_r | apply T_e | apply B_n | apply B_e) | (with_reducible apply B_ne; focus decide) | (with_reducible first | apply B_r | apply R_e | apply R_r | apply H_e | apply H_r | apply G_e | apply G_r) | (with_reducible apply SC_n) | ((with_reducible first | apply SC_d | apply SG_d | apply SG_n | apply SC_b | apply SG_b) <;> intro hc <;> try simp only [decide_eq_true_eq, decide_eq_false_iff_not, Classical.not_not, Bool.not_eq_true', Bool.not_eq_false'] at hc))
      refine ⟨.inr rfl, .x w m d, ?_, w, m, d, fs1, rfl, hw, by rw [hfs, hall], by omega, hfr, hd, fun id hid => (hwi id hid).imp (fun h => h) (fun h => by omega)⟩
      simp only [fin, if_true, resA, rvA, tupA]
      (simp (disch := first | assumption | decide | omega | exact Pth.le _ | exact Rks.le _ | exact List.getElem_mem _ | exact allI_ints _ | exact allI_rks _ | exact allI_pths _ | exact Pth.nil _ | exact Rks.nil _ | (intro hh; simp only [Pth.nil _ hh, List.take_nil, List.drop_nil]; done) | (intro hh; simp only [Rks.nil _ hh, List.take_nil, List.drop_nil]; done) | (simp only [List.length_take, List.length_drop, List.length_append, List.length_cons, List.length_nil, List.length_replicate, List.length_map, ints_len]; omega)) only [go_sem, if_pos, if_neg, Nat.reduceBEq, Nat.reduceEqDiff, ↓reduceIte, Nat.reduceSub, Nat.reduceAdd, Int.reduceToNat, reduceCtorEq, Nat.reduceLeDiff, Nat.reduceLT, Nat.reduceMul, Nat.reduceDiv, Int.reduceLT, Int.reduceLE, Int.reduceEq, Int.reduceNe, Int.reduceAdd, Int.reduceSub, Int.reduceNeg, Int.reduceGT, Int.reduceGE, Int.reduceBEq, Int.reduceBNe, Int.reduceMul, *])
end Go.Proofs.Ytopiaiibpacmlaa.Av
namespace Go.Proofs.Ytopiaiibpacmlaa.Av
open Go.RowKit
set_option linter.unusedSimpArgs false
set_option linter.unusedVariables false
set_option maxHeartbeats 10000000
theorem prod_red {k : Nat} {L N : In} (h : Red k L N) : (prodL (N.drop 1)).length ≤ (prodL (L.drop 1)).length := by
  induction h with
  | refl => exact Nat.le_refl _
  | @step k L N p hg _ ih =>
    refine Nat.le_trans ih ?_
    have hp0 : p ≠ [] := by obtain ⟨v, hv, _⟩ := hg; rintro rfl; simp at hv
    have h1 : (delP L p).drop 1 = (L.drop 1).map (·.filter fun q => decide (q ≠ p)) := by simp [delP, keepL, List.map_drop]
    rw [h1, prodL_keep _ (by simpa using Ne.symm hp0)]
    exact List.length_filter_le _ _
theorem evF_mem {L : In} (hL : L ≠ []) {s : List Pa} (h : s ∈ evF L) : s.length = L.length ∧ s.getD 0 [] = [0] ∧ (∀ v, 1 ≤ v → v < L.length → s.getD v [] = [] ∨ s.getD v [] ∈ L.getD v []) ∧ StabP L s := by
  unfold evF at h
  obtain ⟨h1, h2⟩ := List.mem_filter.1 h
  obtain ⟨a, b, c⟩ := (sts_mem hL).1 h1
  exact ⟨a, b, c, by simpa using h2⟩
/-- The origin's path. -/
def orP : Pth := ⟨[0], false, true, fun h => by simp at h, by simp⟩
theorem orP_av : (AV.list 1 [.flat (.int .i64 0)] false true) = orP.av := rfl
theorem t36 {l : List Rks} {nl cd : Bool} {M : MS} (hX : MayX l.length l) (hS : SmallX l) (hb : (prodL ((plX l).drop 1)).length ≤ 3000) : ∃ out, ev pr 36 [.agg [.flat (.int .i64 l.length), .list 1 (l.map Rks.av) nl cd]] M = some out ∧ ∃ (fs : List Sta) (n' c' : Bool), out = .q (.list 1 (fs.map Sta.av) n' c') ∧ fs.map Sta.l = evF (plX l) := by
  have h1 : 1 ≤ l.length := by have := hX.1; omega
  obtain ⟨out, h81, w, M', D, fs, rfl, g1, g2, g3, g4, g5, g6⟩ := t81 (nl := nl) (cd := cd) hX hS (l.length - 1) (M := M ++ [some [.flat (.int .i64 l.length), .list 1 (l.map Rks.av) nl cd]]) (sv := .list 1 ([orP].map Pth.av) false true) (fv := .list 1 [] true true) (s := [orP]) (fs := []) (by simp; omega) (by simp) (fun _ => rfl) (.inl ⟨_, _, rfl⟩) (.inl ⟨rfl, rfl⟩) (fun i hi => by cases hi) (by simpa using hb)
  have hD : List.filter (fun x => decide (x < M.length)) D = [] := by
    rw [List.filter_eq_nil_iff]
    intro x hx
    simp only [decide_eq_true_eq]
    intro hlt
    rcases g5 x hx (by simp; omega) with h | h <;> cases h
  have hev : fs.map Sta.l = evF (plX l) := by
    rw [g2]; rfl
  simp only [List.map_cons, List.map_nil, ← orP_av] at h81
  have hall := allI_stas fs
  clear hX hS
  refine ev_fnE A36 ?_
  repeat' (first | ((with_reducible first | apply S_0 | apply S_q1 | apply S_g | apply S_c); exact sgc) | (with_reducible first | apply SO_q | apply SG_t | apply SG_f0 | apply SG_f1 | apply S_nil | apply T_n | apply W_seq | apply W_region | apply SO_x | apply SC_t | apply SC_f | apply W_block | apply W_ret | apply W_skip | apply W_exit | apply T_r | apply T_e | apply B_n | apply B_e) | (with_reducible apply B_ne; focus decide) | (with_reducible first | apply B_r | apply R_e | apply R_r | apply H_e | apply H_r | apply G_e | apply G_r) | (with_reducible apply SC_n) | ((with_reducible first | apply SC_d | apply SG_d | apply SG_n | apply SC_b | apply SG_b) <;> intro hc <;> try simp only [decide_eq_true_eq, decide_eq_false_iff_not, Classical.not_not, Bool.not_eq_true', Bool.not_eq_false'] at hc))
  rcases g1 with ⟨rfl, hn⟩ | ⟨id, h2, rfl, h4⟩
  · refine ⟨.inr rfl, .q (.list 1 (fs.map Sta.av) true true), ?_, fs, true, true, rfl, hev⟩
    rw [hn]
    simp only [resA, rvA, tupA, fin, frzV, frzTup, frzA, frz, isI, isI.all, Option.bind_some]
    (simp (disch := first | assumption | decide | omega | exact Pth.le _ | exact Rks.le _ | exact List.getElem_mem _ | exact allI_ints _ | exact allI_rks _ | exact allI_pths _ | exact Pth.nil _ | exact Rks.nil _ | (intro hh; simp only [Pth.nil _ hh, List.take_nil, List.drop_nil]; done) | (intro hh; simp only [Rks.nil _ hh, List.take_nil, List.drop_nil]; done) | (simp only [List.length_take, List.length_drop, List.length_append, List.length_cons, List.length_nil, List.length_replicate, List.length_map, ints_len]; omega)) only [go_sem, if_pos, if_neg, Nat.reduceBEq, Nat.reduceEqDiff, ↓reduceIte, Nat.reduceSub, Nat.reduceAdd, Int.reduceToNat, reduceCtorEq, Nat.reduceLeDiff, Nat.reduceLT, Nat.reduceMul, Nat.reduceDiv, Int.reduceLT, Int.reduceLE, Int.reduceEq, Int.reduceNe, Int.reduceAdd, Int.reduceSub, Int.reduceNeg, Int.reduceGT, Int.reduceGE, Int.reduceBEq, Int.reduceBNe, Int.reduceMul, *])
  · have hid : M.length ≤ id := by
      rcases g6 id rfl with h | h
      · cases h
      · simp at h; omega
    refine ⟨.inr rfl, .q (.list 1 (fs.map Sta.av) false false), ?_, fs, false, false, rfl, hev⟩
    have htk : List.take fs.length (fs.map Sta.av) = fs.map Sta.av := List.take_of_length_le (by simp)
    simp only [resA, rvA, tupA, fin, frzV, frzTup, frzA, frz, isI, isI.all, Option.bind_some]
    (simp (disch := first | assumption | decide | omega | exact Pth.le _ | exact Rks.le _ | exact List.getElem_mem _ | exact allI_ints _ | exact allI_rks _ | exact allI_pths _ | exact Pth.nil _ | exact Rks.nil _ | (intro hh; simp only [Pth.nil _ hh, List.take_nil, List.drop_nil]; done) | (intro hh; simp only [Rks.nil _ hh, List.take_nil, List.drop_nil]; done) | (simp only [List.length_take, List.length_drop, List.length_append, List.length_cons, List.length_nil, List.length_replicate, List.length_map, ints_len]; omega)) only [go_sem, if_pos, if_neg, Nat.reduceBEq, Nat.reduceEqDiff, ↓reduceIte, Nat.reduceSub, Nat.reduceAdd, Int.reduceToNat, reduceCtorEq, Nat.reduceLeDiff, Nat.reduceLT, Nat.reduceMul, Nat.reduceDiv, Int.reduceLT, Int.reduceLE, Int.reduceEq, Int.reduceNe, Int.reduceAdd, Int.reduceSub, Int.reduceNeg, Int.reduceGT, Int.reduceGE, Int.reduceBEq, Int.reduceBNe, Int.reduceMul, *])
theorem Sta.av_eq (x : Sta) : x.av = .list 1 (x.s.map Pth.av) x.ns x.cs := rfl
attribute [go_sem] Sta.av_eq
theorem stl_get (a : List Sta) (i : Nat) (h : i < (a.map Sta.l).length) : (a.map Sta.l)[i] = pl (a[i]'(by simpa using h)).s := by simp [Sta.l]
theorem t35 (x y : List Sta) (nx cx ny cy : Bool) (M : MS) (hx : x.length ≤ 1000000) (hs : ∀ a ∈ x, a.s.length ≤ 1000) : ev pr 35 [.list 1 (x.map Sta.av) nx cx, .list 1 (y.map Sta.av) ny cy] M = some (.q (.flat (.bool (decide (x.map Sta.l = y.map Sta.l))))) := by
  have h24 := fun (i : Nat) (hi : i < x.length) (hj : i < y.length) M => t24 x[i].s y[i].s x[i].ns x[i].cs y[i].ns y[i].cs M (by have := hs _ (List.getElem_mem hi); omega)
  refine ev_fn' A35 ?_
  repeat' (first | ((with_reducible first | apply S_0 | apply S_q1 | apply S_g | apply S_c); exact sgc) | (with_reducible first | apply SO_q | apply SG_t | apply SG_f0 | apply SG_f1 | apply S_nil | apply T_n | apply W_seq | apply W_region | apply SO_x | apply SC_t | apply SC_f | apply W_block | apply W_ret | apply W_skip | apply W_exit | apply T_r | apply T_e | apply B_n | apply B_e) | (with_reducible apply B_ne; focus decide) | (with_reducible first | apply B_r | apply R_e | apply R_r | apply H_e | apply H_r | apply G_e | apply G_r) | (with_reducible apply SC_n) | ((with_reducible first | apply SC_d | apply SG_d | apply SG_n | apply SC_b | apply SG_b) <;> intro hc <;> try simp only [decide_eq_true_eq, decide_eq_false_iff_not, Classical.not_not, Bool.not_eq_true', Bool.not_eq_false'] at hc))
  · (refine ⟨by first | exact .inr rfl | exact .inl rfl, ?_⟩; simp (disch := first | assumption | decide | omega | exact Pth.le _ | exact Rks.le _ | exact List.getElem_mem _ | exact allI_ints _ | exact allI_rks _ | exact allI_pths _ | exact Pth.nil _ | exact Rks.nil _ | (intro hh; simp only [Pth.nil _ hh, List.take_nil, List.drop_nil]; done) | (intro hh; simp only [Rks.nil _ hh, List.take_nil, List.drop_nil]; done) | (simp only [List.length_take, List.length_drop, List.length_append, List.length_cons, List.length_nil, List.length_replicate, List.length_map, ints_len]; omega)) only [resA, rvA, tupA, fin, frzV, frzTup, frzA, frz, isI, isI.all, Option.bind_some, go_sem, if_pos, if_neg, Nat.reduceBEq, Nat.reduceEqDiff, ↓reduceIte, Nat.reduceSub, Nat.reduceAdd, Int.reduceToNat, reduceCtorEq, Nat.reduceLeDiff, Nat.reduceLT, Nat.reduceMul, Nat.reduceDiv, Int.reduceLT, Int.reduceLE, Int.reduceEq, Int.reduceNe, Int.reduceAdd, Int.reduceSub, Int.reduceNeg, Int.reduceGT, Int.reduceGE, Int.reduceBEq, Int.reduceBNe, Int.reduceMul, *])
    have : ¬ x.map Sta.l = y.map Sta.l := by intro h; have := congrArg List.length h; simp only [List.length_map] at this; omega
    simp only [this, decide_false]
  have hn : x.length = y.length := by omega
  have hnH : Hid (x.length = y.length) := hn
  clear hc hn
  refine W_rng 5 0 x.length (fun i _ => (x.map Sta.l).take i = (y.map Sta.l).take i) (by simp only [asg, asgO, List.append_nil, List.nil_append, List.cons_append]; rfl) (by exact svc) (by omega) (by simp) ?_
  rintro i e _ hi hk e5 hl
  have k0 : e 0 = .list 1 (x.map Sta.av) nx cx := by rw [hk 0 rfl]; exact svc
  have k1 : e 1 = .list 1 (y.map Sta.av) ny cy := by rw [hk 1 rfl]; exact svc
  clear hk
  rcases Nat.lt_or_ge i x.length with hlt | hlt
  · have hlt' : (i : Int) < x.length := by omega
    have hiy : i < y.length := by have : x.length = y.length := hnH; omega
    replace h24 := fun M => h24 i hlt hiy M
    by_cases hp : pl x[i].s = pl y[i].s
    · replace h24 := fun M => (h24 M).trans (congrArg (fun b => some (Out.q (.flat (.bool b)))) (decide_eq_true hp))
      have hpH : Hid (pl x[i].s = pl y[i].s) := hp
      clear hp
      repeat' (first | ((with_reducible first | apply S_0 | apply S_q1 | apply S_g | apply S_c); exact sgc) | (with_reducible first | apply SO_q | apply SG_t | apply SG_f0 | apply SG_f1 | apply S_nil | apply T_n | apply W_seq | apply W_region | apply SO_x | apply SC_t | apply SC_f | apply W_block | apply W_ret | apply W_skip | apply W_exit | apply T_r | apply T_e | apply B_n | apply B_e) | (with_reducible apply B_ne; focus decide) | (with_reducible first | apply B_r | apply R_e | apply R_r | apply H_e | apply H_r | apply G_e | apply G_r) | (with_reducible apply SC_n) | ((with_reducible first | apply SC_d | apply SG_d | apply SG_n | apply SC_b | apply SG_b) <;> intro hc <;> try simp only [decide_eq_true_eq, decide_eq_false_iff_not, Classical.not_not, Bool.not_eq_true', Bool.not_eq_false'] at hc))
      refine H_n (by exact svc) hlt (takes_ext hl (by simpa using hlt) (by simpa using hiy) ?_)
      rw [stl_get, stl_get]; exact hpH
    · replace h24 := fun M => (h24 M).trans (congrArg (fun b => some (Out.q (.flat (.bool b)))) (decide_eq_false hp))
      have : ¬ x.map Sta.l = y.map Sta.l := by
        intro h
        apply hp
        have h1 := stl_get x i (by simpa using hlt)
        have h2 := stl_get y i (by simpa using hiy)
        rw [← h1, ← h2]; simp only [h]
      simp only [this, decide_false]
      repeat' (first | ((with_reducible first | apply S_0 | apply S_q1 | apply S_g | apply S_c); exact sgc) | (with_reducible first | apply SO_q | apply SG_t | apply SG_f0 | apply SG_f1 | apply S_nil | apply T_n | apply W_seq | apply W_region | apply SO_x | apply SC_t | apply SC_f | apply W_block | apply W_ret | apply W_skip | apply W_exit | apply T_r | apply T_e | apply B_n | apply B_e) | (with_reducible apply B_ne; focus decide) | (with_reducible first | apply B_r | apply R_e | apply R_r | apply H_e | apply H_r | apply G_e | apply G_r) | (with_reducible apply SC_n) | ((with_reducible first | apply SC_d | apply SG_d | apply SG_n | apply SC_b | apply SG_b) <;> intro hc <;> try simp only [decide_eq_true_eq, decide_eq_false_iff_not, Classical.not_not, Bool.not_eq_true', Bool.not_eq_false'] at hc))
      (first | exact fincR | exact fincN)
  · have hlt' : ¬ (i : Int) < x.length := by omega
    have hn : x.length = y.length := hnH
    have : x.map Sta.l = y.map Sta.l := eq_of_takes hl (by simpa using hlt) (by simp; omega)
    simp only [this, decide_true]
    clear hl this hn
    repeat' (first | ((with_reducible first | apply S_0 | apply S_q1 | apply S_g | apply S_c); exact sgc) | (with_reducible first | apply SO_q | apply SG_t | apply SG_f0 | apply SG_f1 | apply S_nil | apply T_n | apply W_seq | apply W_region | apply SO_x | apply SC_t | apply SC_f | apply W_block | apply W_ret | apply W_skip | apply W_exit | apply T_r | apply T_e | apply B_n | apply B_e) | (with_reducible apply B_ne; focus decide) | (with_reducible first | apply B_r | apply R_e | apply R_r | apply H_e | apply H_r | apply G_e | apply G_r) | (with_reducible apply SC_n) | ((with_reducible first | apply SC_d | apply SG_d | apply SG_n | apply SC_b | apply SG_b) <;> intro hc <;> try simp only [decide_eq_true_eq, decide_eq_false_iff_not, Classical.not_not, Bool.not_eq_true', Bool.not_eq_false'] at hc))
    (first | exact fincR | exact fincN)
end Go.Proofs.Ytopiaiibpacmlaa.Av
