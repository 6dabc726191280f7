/- Paths are taken away. -/
import Derived.Test.YtopiaiibpacmlaaX9
namespace Go.Proofs.Ytopiaiibpacmlaa.Av
open Go.RowKit
set_option linter.unusedSimpArgs false
set_option linter.unusedVariables false
set_option maxHeartbeats 10000000
section
variable {p : Pr} {base : Nat} {env : Env} {M : MS} {D : List Nat} {d : Option Nat} {r : List AOp} {R : Env → MS → List Nat → Prop}
end
/-- The ranks that stay of the first i, told anew; P: it goes. -/
noncomputable def kpI (P : Nat → List Int → Prop) (x : List Rnk) : Nat → List Rnk
  | 0 => []
  | i + 1 => open Classical in kpI P x i ++ (if h : i < x.length then (if P i x[i].p.l then [] else [⟨x[i].p, ((kpI P x i).length : Int)⟩]) else [])
theorem kpI_len (P : Nat → List Int → Prop) (x : List Rnk) : ∀ i, (kpI P x i).length ≤ i
  | 0 => by simp [kpI]
  | i + 1 => by
    have := kpI_len P x i
    simp only [kpI, List.length_append]
    split
    · split <;> simp <;> omega
    · simp; omega
noncomputable def kpR (P : Nat → List Int → Prop) (r : Rks) : Rks := ⟨kpI P r.l r.l.length, (kpI P r.l r.l.length).isEmpty, (kpI P r.l r.l.length).isEmpty, fun h => ⟨List.isEmpty_iff.1 h, h⟩, Nat.le_trans (kpI_len _ _ _) r.le⟩
noncomputable instance (L : In) (p : Pa) : Decidable (usel L p) := Classical.propDecidable _
end Go.Proofs.Ytopiaiibpacmlaa.Av
namespace Go.Proofs.Ytopiaiibpacmlaa.Av
open Go.RowKit
set_option linter.unusedSimpArgs false
set_option linter.unusedVariables false
set_option maxHeartbeats 10000000
/-- What a call makes of a row that lies below. -/
def UpdR (M : MS) (id : Nat) (C : List AV) (v : AV) (out : Out) : Prop := (out = .q v ∧ M[id]? = some (some C)) ∨ ∃ D, D ≠ [] ∧ out = .x v (M.set id (some C)) D ∧ ∀ x ∈ D, x = id
end Go.Proofs.Ytopiaiibpacmlaa.Av
namespace Go.Proofs.Ytopiaiibpacmlaa.Av
open Go.RowKit
set_option linter.unusedSimpArgs false
set_option linter.unusedVariables false
set_option maxHeartbeats 10000000
end Go.Proofs.Ytopiaiibpacmlaa.Av
namespace Go.Proofs.Ytopiaiibpacmlaa.Av
open Go.RowKit
set_option linter.unusedSimpArgs false
set_option linter.unusedVariables false
set_option maxHeartbeats 10000000
section
variable {p : Pr} {base : Nat} {env : Env} {M : MS} {D : List Nat} {d : Option Nat} {r : List AOp} {R : Env → MS → List Nat → Prop}
end
/-- The rows without the i-th path of v. -/
noncomputable def woK (l : List Rks) (v i : Nat) : Nat → List Rks
  | 0 => []
  | k + 1 => woK l v i k ++ (if h : k < l.length then [kpR (fun j _ => k = v ∧ j = i) l[k]] else [])
end Go.Proofs.Ytopiaiibpacmlaa.Av
namespace Go.Proofs.Ytopiaiibpacmlaa.Av
open Go.RowKit
set_option linter.unusedSimpArgs false
set_option linter.unusedVariables false
set_option maxHeartbeats 10000000
end Go.Proofs.Ytopiaiibpacmlaa.Av
namespace Go.Proofs.Ytopiaiibpacmlaa.Av
open Go.RowKit
set_option linter.unusedSimpArgs false
set_option linter.unusedVariables false
set_option maxHeartbeats 10000000
/-- An instance's ranks, as plain lists. -/
def rkR (x : List Rnk) : List (Int × List Int) := x.map fun q => (q.r, q.p.l)
def rkv (x : List Rks) : List (List (Int × List Int)) := x.map fun r => rkR r.l
end Go.Proofs.Ytopiaiibpacmlaa.Av
namespace Go.Proofs.Ytopiaiibpacmlaa.Av
open Go.RowKit
set_option linter.unusedSimpArgs false
set_option linter.unusedVariables false
set_option maxHeartbeats 10000000
/-- How many states the nodes below k have. -/
def szF (l : List Rks) : Nat → Nat
  | 0 => 1
  | k + 1 => if h : 1 ≤ k ∧ k < l.length then szF l k * (l[k].l.length + 1) else szF l k
theorem szF_1 (l : List Rks) : szF l 1 = 1 := by simp [szF]
theorem szF_step {l : List Rks} {k : Nat} (h1 : 1 ≤ k) (h : k < l.length) : szF l (k + 1) = szF l k * (l[k].l.length + 1) := by rw [szF, dif_pos ⟨h1, h⟩]
theorem prodL_len (l : List Pa) (R : List (List Pa)) : (prodL (l :: R)).length = (l.length + 1) * (prodL R).length := by
  simp only [prodL]
  have : ∀ ps : List Pa, (ps.flatMap fun p => (prodL R).map (p :: ·)).length = ps.length * (prodL R).length := by
    intro ps
    induction ps with
    | nil => simp
    | cons p ps ih => rw [List.flatMap_cons, List.length_append, ih, List.length_map, List.length_cons, Nat.add_mul, Nat.one_mul, Nat.add_comm]
  rw [this, List.length_append]; rfl
theorem plX_drop {l : List Rks} {k : Nat} (h : k < l.length) : (plX l).drop k = paths l[k].l :: (plX l).drop (k + 1) := by
  rw [List.drop_eq_getElem_cons (by rw [plX_len]; exact h)]
  simp [plX]
theorem szF_prod (l : List Rks) : ∀ k, 1 ≤ k → k ≤ l.length → szF l k * (prodL ((plX l).drop k)).length = (prodL ((plX l).drop 1)).length
  | 0, h, _ => by omega
  | 1, _, _ => by rw [szF_1, Nat.one_mul]
  | k + 2, _, h => by
    have ih := szF_prod l (k + 1) (by omega) (by omega)
    rw [plX_drop (show k + 1 < l.length by omega), prodL_len, paths_len] at ih
    rw [szF_step (by omega) (by omega), Nat.mul_assoc]
    exact ih
theorem szF_all {l : List Rks} (h : 1 ≤ l.length) : (prodL ((plX l).drop 1)).length = szF l l.length := by
  rw [← szF_prod l l.length h (Nat.le_refl _), List.drop_of_length_le (by rw [plX_len]; exact Nat.le_refl _)]
  simp [prodL]
theorem t80 {l : List Rks} {nl cd : Bool} {M : MS} (hS : SmallX l) (h1 : 1 ≤ l.length) : ∃ out, ev pr 80 [.agg [.flat (.int .i64 l.length), .list 1 (l.map Rks.av) nl cd], .flat (.int .i64 3001)] M = some out ∧ ∃ r : Int, out = .q (.flat (.int .i64 r)) ∧ (r ≤ 3000 → szF l l.length ≤ 3000) := by
  have h12 := hS.1
  refine ev_fnE A80 ?_
  repeat' (first | ((with_reducible first | apply S_0 | apply S_q1 | apply S_g | apply S_c); exact sgc) | (with_reducible first | apply SO_q | apply SG_t | apply SG_f0 | apply SG_f1 | apply S_nil | apply T_n | apply W_seq | apply W_region | apply SO_x | apply SC_t | apply SC_f | apply W_block | apply W_ret | apply W_skip | apply W_exit | apply T_r | apply T_e | apply B_n | apply B_e) | (with_reducible apply B_ne; focus decide) | (with_reducible first | apply B_r | apply R_e | apply R_r | apply H_e | apply H_r | apply G_e | apply G_r) | (with_reducible apply SC_n) | ((with_reducible first | apply SC_d | apply SG_d | apply SG_n | apply SC_b | apply SG_b) <;> intro hc <;> try simp only [decide_eq_true_eq, decide_eq_false_iff_not, Classical.not_not, Bool.not_eq_true', Bool.not_eq_false'] at hc))
  refine W_rng 6 1 l.length (fun i e => e 5 = .flat (.int .i64 (szF l i)) ∧ szF l i ≤ 3001) (by simp only [asg, asgO, List.append_nil, List.nil_append, List.cons_append]; rfl) (by exact svc) (by omega) ⟨by rw [szF_1]; exact svc, by rw [szF_1]; omega⟩ ?_
  rintro i e hi1 hi hk e6 ⟨e5, hsz⟩
  have k2 : e 2 = .mptr M.length 0 := by rw [hk 2 rfl]; exact svc
  have k1 : e 1 = .flat (.int .i64 3001) := by rw [hk 1 rfl]; exact svc
  clear hk
  rcases Nat.lt_or_ge i l.length with hlt | hlt
  · have hlt' : (i : Int) < l.length := by omega
    have h70 := (hS.2 _ (List.getElem_mem hlt)).1
    have hst := szF_step hi1 hlt
    have hb : szF l i * (l[i].l.length + 1) ≤ 3001 * 71 := Nat.mul_le_mul hsz (by omega)
    have hmul : (szF l i : Int) * ((l[i].l.length : Int) + 1) = ((szF l (i + 1) : Nat) : Int) := by rw [hst]; simp
    have hb2 : (szF l (i + 1) : Int) ≤ 213071 := by rw [hst]; omega
    have hstH : Hid (szF l (i + 1) = szF l i * (l[i].l.length + 1)) := hst
    clear hst hS hb
    repeat' (first | ((with_reducible first | apply S_0 | apply S_q1 | apply S_g | apply S_c); exact sgc) | (with_reducible first | apply SO_q | apply SG_t | apply SG_f0 | apply SG_f1 | apply S_nil | apply T_n | apply W_seq | apply W_region | apply SO_x | apply SC_t | apply SC_f | apply W_block | apply W_ret | apply W_skip | apply W_exit | apply T_r | apply T_e | apply B_n | apply B_e) | (with_reducible apply B_ne; focus decide) | (with_reducible first | apply B_r | apply R_e | apply R_r | apply H_e | apply H_r | apply G_e | apply G_r) | (with_reducible apply SC_n) | ((with_reducible first | apply SC_d | apply SG_d | apply SG_n | apply SC_b | apply SG_b) <;> intro hc <;> try simp only [decide_eq_true_eq, decide_eq_false_iff_not, Classical.not_not, Bool.not_eq_true', Bool.not_eq_false'] at hc))
    · refine ⟨.inr rfl, .q (.flat (.int .i64 3001)), ?_, 3001, rfl, fun h => by omega⟩
      simp only [resA, rvA, tupA, fin, frzV, frzTup, frzA, frz, isI, isI.all, Option.bind_some]
      (simp (disch := first | assumption | decide | omega | exact Pth.le _ | exact Rks.le _ | exact List.getElem_mem _ | exact allI_ints _ | exact allI_rks _ | exact allI_pths _ | exact Pth.nil _ | exact Rks.nil _ | (intro hh; simp only [Pth.nil _ hh, List.take_nil, List.drop_nil]; done) | (intro hh; simp only [Rks.nil _ hh, List.take_nil, List.drop_nil]; done) | (simp only [List.length_take, List.length_drop, List.length_append, List.length_cons, List.length_nil, List.length_replicate, List.length_map, ints_len]; omega)) only [go_sem, if_pos, if_neg, Nat.reduceBEq, Nat.reduceEqDiff, ↓reduceIte, Nat.reduceSub, Nat.reduceAdd, Int.reduceToNat, reduceCtorEq, Nat.reduceLeDiff, Nat.reduceLT, Nat.reduceMul, Nat.reduceDiv, Int.reduceLT, Int.reduceLE, Int.reduceEq, Int.reduceNe, Int.reduceAdd, Int.reduceSub, Int.reduceNeg, Int.reduceGT, Int.reduceGE, Int.reduceBEq, Int.reduceBNe, Int.reduceMul, *])
    · exact H_n (by exact svc) hlt ⟨by exact svc, by omega⟩
  · have hlt' : ¬ (i : Int) < l.length := by omega
    obtain rfl : i = l.length := by omega
    repeat' (first | ((with_reducible first | apply S_0 | apply S_q1 | apply S_g | apply S_c); exact sgc) | (with_reducible first | apply SO_q | apply SG_t | apply SG_f0 | apply SG_f1 | apply S_nil | apply T_n | apply W_seq | apply W_region | apply SO_x | apply SC_t | apply SC_f | apply W_block | apply W_ret | apply W_skip | apply W_exit | apply T_r | apply T_e | apply B_n | apply B_e) | (with_reducible apply B_ne; focus decide) | (with_reducible first | apply B_r | apply R_e | apply R_r | apply H_e | apply H_r | apply G_e | apply G_r) | (with_reducible apply SC_n) | ((with_reducible first | apply SC_d | apply SG_d | apply SG_n | apply SC_b | apply SG_b) <;> intro hc <;> try simp only [decide_eq_true_eq, decide_eq_false_iff_not, Classical.not_not, Bool.not_eq_true', Bool.not_eq_false'] at hc))
    refine ⟨.inr rfl, .q (.flat (.int .i64 (szF l l.length))), ?_, _, rfl, fun h => by omega⟩
    simp only [resA, rvA, tupA, fin, frzV, frzTup, frzA, frz, isI, isI.all, Option.bind_some]
    (simp (disch := first | assumption | decide | omega | exact Pth.le _ | exact Rks.le _ | exact List.getElem_mem _ | exact allI_ints _ | exact allI_rks _ | exact allI_pths _ | exact Pth.nil _ | exact Rks.nil _ | (intro hh; simp only [Pth.nil _ hh, List.take_nil, List.drop_nil]; done) | (intro hh; simp only [Rks.nil _ hh, List.take_nil, List.drop_nil]; done) | (simp only [List.length_take, List.length_drop, List.length_append, List.length_cons, List.length_nil, List.length_replicate, List.length_map, ints_len]; omega)) only [go_sem, if_pos, if_neg, Nat.reduceBEq, Nat.reduceEqDiff, ↓reduceIte, Nat.reduceSub, Nat.reduceAdd, Int.reduceToNat, reduceCtorEq, Nat.reduceLeDiff, Nat.reduceLT, Nat.reduceMul, Nat.reduceDiv, Int.reduceLT, Int.reduceLE, Int.reduceEq, Int.reduceNe, Int.reduceAdd, Int.reduceSub, Int.reduceNeg, Int.reduceGT, Int.reduceGE, Int.reduceBEq, Int.reduceBNe, Int.reduceMul, *])
end Go.Proofs.Ytopiaiibpacmlaa.Av
namespace Go.Proofs.Ytopiaiibpacmlaa.Av
open Go.RowKit
set_option linter.unusedSimpArgs false
set_option linter.unusedVariables false
set_option maxHeartbeats 10000000
/-- A state, as a value. -/
structure Sta where
  s : List Pth
  ns : Bool
  cs : Bool
def Sta.av (x : Sta) : AV := .list 1 (x.s.map Pth.av) x.ns x.cs
def Sta.l (x : Sta) : List Pa := pl x.s
theorem allI_stas : ∀ l : List Sta, allI (l.map Sta.av) = true := allI_map fun _ => rfl
def idOf : AV → Option Nat
  | .ms id _ _ _ _ => some id
  | _ => none
/-- A state that is read, and given up. -/
def SV (M : MS) (x : AV) (s : List Pth) : Prop := (∃ ns cs, x = .list 1 (s.map Pth.av) ns cs) ∨ ∃ id, id < M.length ∧ x = .ms id 0 s.length 1 false ∧ M[id]? = some (some (s.map Pth.av))
/-- A row that grows. -/
def SRow (M : MS) (x : AV) (cs : List AV) : Prop := (x = .list 1 [] true true ∧ cs = []) ∨ ∃ id, id < M.length ∧ x = .ms id 0 cs.length 1 false ∧ M[id]? = some (some cs)
theorem SV.view {M : MS} {x : AV} {s : List Pth} (h : SV M x s) : Av.view M x = some (s.map Pth.av) := by
  rcases h with ⟨ns, cs, rfl⟩ | ⟨id, _, rfl, h⟩
  · rfl
  · simp only [Av.view, h]
    rw [if_pos (by simp)]
    simp [List.take_of_length_le]
theorem SV.len {M : MS} {x : AV} {s : List Pth} (h : SV M x s) : lenOf x = some s.length := by
  rcases h with ⟨ns, cs, rfl⟩ | ⟨id, _, rfl, h⟩
  · simp [lenOf]
  · rfl
theorem SV.cell {M : MS} {x : AV} {s : List Pth} (h : SV M x s) : cellsOf x = some [x] := by
  rcases h with ⟨ns, cs, rfl⟩ | ⟨id, _, rfl, h⟩ <;> rfl
theorem SV.keep {M M' : MS} {x : AV} {s : List Pth} (h : SV M x s) (hl : M.length ≤ M'.length) (hk : ∀ id, id < M.length → idOf x = some id → M'[id]? = M[id]?) : SV M' x s := by
  rcases h with h | ⟨id, h1, rfl, h⟩
  · exact .inl h
  · exact .inr ⟨id, by omega, rfl, by rw [hk id h1 rfl]; exact h⟩
theorem SRow.keep {M M' : MS} {x : AV} {cs : List AV} (h : SRow M x cs) (hl : M.length ≤ M'.length) (hk : ∀ id, id < M.length → idOf x = some id → M'[id]? = M[id]?) : SRow M' x cs := by
  rcases h with h | ⟨id, h1, rfl, h⟩
  · exact .inl h
  · exact .inr ⟨id, by omega, rfl, by rw [hk id h1 rfl]; exact h⟩
theorem SV.vw {M : MS} {x : AV} {s : List Pth} (h : SV M x s) : Vw M x (s.map Pth.av) s.length :=
  ⟨h.len, fun G => (h.keep (M' := M ++ G) (by simp) fun id hid _ => by rw [List.getElem?_append_left hid]).view, h.cell⟩
theorem SV.lt {M : MS} {x : AV} {s : List Pth} (h : SV M x s) {id : Nat} (hi : idOf x = some id) : id < M.length := by
  rcases h with ⟨ns, cs, rfl⟩ | ⟨i, h1, rfl, _⟩
  · cases hi
  · cases hi; exact h1
theorem SRow.lt {M : MS} {x : AV} {cs : List AV} (h : SRow M x cs) {id : Nat} (hi : idOf x = some id) : id < M.length := by
  rcases h with ⟨rfl, _⟩ | ⟨i, h1, rfl, _⟩
  · cases hi
  · cases hi; exact h1
section
variable {p : Pr} {base : Nat} {env : Env} {m : MS} {D : List Nat} {d : Option Nat} {r : List AOp} {R : Env → MS → List Nat → Prop}
theorem S_bslS {x : O} {zs : List AV} {sv : AV} {s : List Pth} (hs : SV m sv s) (hx : x.ev env = sv) (hz : zs.length = 1)
    (h : ∀ m' ns cs D', (∀ i, some i ≠ idOf sv → m'[i]? = m[i]?) → m'.length = m.length → (∀ i ∈ D', i ∈ D ∨ some i = idOf sv) → WS p base 0 r (updO env d (.list 1 [.list 1 (s.map Pth.av) ns cs] false true)) m' D' R) :
    WS p base 0 (⟨d, .bslice 1 1 zs [(0, 1, x)], none⟩ :: r) env m D R := by
  have hf : fillA (List.replicate 1 zs).flatten (List.map (fun x => match x with | (o, n, x) => (o, n, x.ev env)) [(0, 1, x)]) = some [sv] := by
    match zs, hz with
    | [z], _ => simp [fillA, hx, hs.cell]
  rcases hs with ⟨ns, cs, rfl⟩ | ⟨id, h1, rfl, h2⟩
  · have hv : evI (ev p) base env m D (.bslice 1 1 zs [(0, 1, x)]) = some (.q (.list 1 [.list 1 (s.map Pth.av) ns cs] false true)) := by
      simp only [evI, hf]; rfl
    exact S_0 hv (SO_q (h m ns cs D (fun _ _ => rfl) rfl fun i hi => .inl hi))
  · have hv : evI (ev p) base env m D (.bslice 1 1 zs [(0, 1, x)]) = some (.x (.list 1 [.list 1 (s.map Pth.av) false false] false true) (m.set id none) (dirt base id D)) := by
      simp only [evI, hf, allI, isI, Bool.false_and, Bool.false_eq_true, if_false]
      simp only [frzAll, frz, h2]
      rw [if_pos ⟨Nat.zero_le _, by simp, allI_pths s⟩]
      simp only [List.drop_zero, dirts, Nat.mul_one]
      rw [List.take_of_length_le (by simp)]
    refine S_0 hv (SO_x (h _ _ _ _ (fun i hi => ?_) (by simp) fun i hi => ?_))
    · rw [List.getElem?_set_ne]; intro e; exact hi (by rw [e]; rfl)
    · unfold dirt at hi
      split at hi
      · rcases List.mem_cons.1 hi with rfl | hi
        · exact .inr rfl
        · exact .inl hi
      · exact .inl hi
theorem S_appR {s x : O} {fv y : AV} {cs : List AV} {bytes : Nat} (hf : SRow m fv cs) (hs : s.ev env = fv) (hx : x.ev env = .list 1 [y] false true) (hy : isI y = true) (hA : allI cs = true) (hl : cs.length ≤ 3000) (hb : bytes ≤ 1000)
    (h : ∀ w m' D', SRow m' w (cs ++ [y]) → m.length ≤ m'.length → (∀ i, i < m.length → some i ≠ idOf fv → m'[i]? = m[i]?) → (∀ i ∈ D', i ∈ D ∨ some i = idOf fv) → (∀ id, idOf w = some id → m.length ≤ id) → WS p base 0 r (updO env d w) m' D' R) :
    WS p base 0 (⟨d, .app 1 bytes s x, none⟩ :: r) env m D R := by
  have hbb : ∀ k, k ≤ 3001 → k * bytes ≤ 140737488355328 := fun k hk => Nat.le_trans (Nat.mul_le_mul hk hb) (by decide)
  have hyA : allI [y] = true := by simp only [allI, hy, Bool.and_self]
  rcases hf with ⟨rfl, rfl⟩ | ⟨id, h1, rfl, h2⟩
  · have hv : evI (ev p) base env m D (.app 1 bytes s x) = some (.x (.ms m.length 0 1 1 false) (m ++ [some [y]]) D) := by
      simp only [evI, hx, view_list, lenOf_list, hs, List.length_singleton, Nat.div_one, appA]
      rw [if_neg (by decide), if_pos ⟨.inl trivial, trivial, hyA, trivial, by decide, hbb _ (by simp)⟩]
      rfl
    refine S_0 hv (SO_x (h _ _ _ (.inr ⟨m.length, by simp, rfl, by simp⟩) (by simp) (fun i hi _ => by rw [List.getElem?_append_left hi]) (fun i hi => .inl hi) fun id hid => by cases hid; exact Nat.le_refl _))
  · have hv : evI (ev p) base env m D (.app 1 bytes s x) = some (.x (.ms m.length 0 (cs.length + 1) 1 false) (m.set id none ++ [some (cs ++ [y])]) (dirt base id D)) := by
      simp only [evI, hx, view_list, lenOf_list, hs, List.length_singleton, Nat.div_one, appA, h2]
      rw [if_neg (by decide), if_pos ⟨trivial, hyA, trivial, by unfold LIM; omega, hbb _ (by omega), by simp⟩]
      simp only [Bool.false_eq_true, if_false, if_true, Nat.mul_one, List.take_length]
    refine S_0 hv (SO_x (h _ _ _ (.inr ⟨m.length, by simp, by simp, by simp⟩) (by simp) (fun i hi hne => ?_) (fun i hi => ?_) fun id hid => by cases hid; exact Nat.le_refl _))
    · rw [List.getElem?_append_left (by simpa using hi), List.getElem?_set_ne]
      intro e; exact hne (by rw [e]; rfl)
    · unfold dirt at hi
      split at hi
      · rcases List.mem_cons.1 hi with rfl | hi
        · exact .inr rfl
        · exact .inl hi
      · exact .inl hi
end
/-- The stable states that begin with some paths. -/
noncomputable def evX (L : In) (s : List Pa) (ps : List Pa) (R : List (List Pa)) : List (List Pa) := (((ps.flatMap fun p => (prodL R).map (p :: ·)).map (s ++ ·)).filter fun t => decide (StabP L t))
theorem evX_snoc (L : In) (s ps : List Pa) (p : Pa) (R : List (List Pa)) : evX L s (ps ++ [p]) R = evX L s ps R ++ ((prodL R).map ((s ++ [p]) ++ ·)).filter fun t => decide (StabP L t) := by
  simp only [evX, List.flatMap_append, List.flatMap_cons, List.flatMap_nil, List.append_nil, List.map_append, List.filter_append, List.map_map]
  congr 3
  funext t
  simp
end Go.Proofs.Ytopiaiibpacmlaa.Av
