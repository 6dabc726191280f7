/- Copies of instances. -/
import Derived.Test.YtopiaiibpacmlaaX8
namespace Go.Proofs.Ytopiaiibpacmlaa.Av
open Go.RowKit
set_option linter.unusedSimpArgs false
set_option linter.unusedVariables false
set_option maxHeartbeats 10000000
theorem t74e (nl cd : Bool) (M : MS) : ev pr 74 [.list 2 [] nl cd] M = some (.x (.list 2 [] nl true) M []) := by
  refine ev_fn' A74 ?_
  cases nl with
  | true =>
    repeat' (first | ((with_reducible first | apply S_0 | apply S_q1 | apply S_g | apply S_c); exact sgc) | (with_reducible first | apply SO_q | apply SG_t | apply SG_f0 | apply SG_f1 | apply S_nil | apply T_n | apply W_seq | apply W_region | apply SO_x | apply SC_t | apply SC_f | apply W_block | apply W_ret | apply W_skip | apply W_exit | apply T_r | apply T_e | apply B_n | apply B_e) | (with_reducible apply B_ne; focus decide) | (with_reducible first | apply B_r | apply R_e | apply R_r | apply H_e | apply H_r | apply G_e | apply G_r) | (with_reducible apply SC_n) | ((with_reducible first | apply SC_d | apply SG_d | apply SG_n | apply SC_b | apply SG_b) <;> intro hc <;> try simp only [decide_eq_true_eq, decide_eq_false_iff_not, Classical.not_not, Bool.not_eq_true', Bool.not_eq_false'] at hc))
    (first | exact fincR | exact fincN)
  | false =>
    repeat' (first | ((with_reducible first | apply S_0 | apply S_q1 | apply S_g | apply S_c); exact sgc) | (with_reducible first | apply SO_q | apply SG_t | apply SG_f0 | apply SG_f1 | apply S_nil | apply T_n | apply W_seq | apply W_region | apply SO_x | apply SC_t | apply SC_f | apply W_block | apply W_ret | apply W_skip | apply W_exit | apply T_r | apply T_e | apply B_n | apply B_e) | (with_reducible apply B_ne; focus decide) | (with_reducible first | apply B_r | apply R_e | apply R_r | apply H_e | apply H_r | apply G_e | apply G_r) | (with_reducible apply SC_n) | ((with_reducible first | apply SC_d | apply SG_d | apply SG_n | apply SC_b | apply SG_b) <;> intro hc <;> try simp only [decide_eq_true_eq, decide_eq_false_iff_not, Classical.not_not, Bool.not_eq_true', Bool.not_eq_false'] at hc))
    (first | exact fincR | exact fincN)
theorem t74 (l : List Rnk) (nl cd : Bool) (M : MS) (hne : 0 < l.length) (hl : l.length ≤ 1000000) (hn : nl = true → l = []) : ev pr 74 [.list 2 (rksA l) nl cd] M = some (.x (.ms M.length 0 l.length 2 false) (M ++ [some (rksA l)]) []) := by
  cases nl with
  | true => have := hn rfl; subst this; simp at hne
  | false =>
    have hm : ¬ l.length = 0 := by omega
    have hrl := rks_len l
    refine ev_fn' A74 ?_
    clear hn
    repeat' (first | ((with_reducible first | apply S_0 | apply S_q1 | apply S_g | apply S_c); exact sgc) | (with_reducible first | apply SO_q | apply SG_t | apply SG_f0 | apply SG_f1 | apply S_nil | apply T_n | apply W_seq | apply W_region | apply SO_x | apply SC_t | apply SC_f | apply W_block | apply W_ret | apply W_skip | apply W_exit | apply T_r | apply T_e | apply B_n | apply B_e) | (with_reducible apply B_ne; focus decide) | (with_reducible first | apply B_r | apply R_e | apply R_r | apply H_e | apply H_r | apply G_e | apply G_r) | (with_reducible apply SC_n) | ((with_reducible first | apply SC_d | apply SG_d | apply SG_n | apply SC_b | apply SG_b) <;> intro hc <;> try simp only [decide_eq_true_eq, decide_eq_false_iff_not, Classical.not_not, Bool.not_eq_true', Bool.not_eq_false'] at hc))
    (first | exact fincR | exact fincN)
theorem Own.swap {lo : Nat} {B B' G : MS} {x : AV} {sz : Nat} {cs : List AV} (h : Own lo (B ++ G) x sz cs) (hl : B'.length = B.length) (hlo : B.length ≤ lo) : Own lo (B' ++ G) x sz cs := by
  obtain ⟨a, b, c, e | ⟨f, id, g1, g2, g3, g4⟩⟩ := h
  · exact ⟨a, b, c, .inl e⟩
  · refine ⟨a, b, c, .inr ⟨f, id, g1, by simp at g2 ⊢; omega, g3, ?_⟩⟩
    rw [List.getElem?_append_right (by omega)] at g4 ⊢
    rw [hl]; exact g4
theorem Own.lower {lo lo' : Nat} {m : MS} {x : AV} {sz : Nat} {cs : List AV} (h : Own lo m x sz cs) (hl : lo' ≤ lo) : Own lo' m x sz cs := by
  obtain ⟨a, b, c, e | ⟨f, id, g1, g2⟩⟩ := h
  · exact ⟨a, b, c, .inl e⟩
  · exact ⟨a, b, c, .inr ⟨f, id, by omega, g2⟩⟩
theorem Own.cell {lo : Nat} {m : MS} {x : AV} {sz : Nat} {cs : List AV} (h : Own lo m x sz cs) : cellsOf x = some [x] := by
  obtain ⟨_, _, _, ⟨_, rfl⟩ | ⟨_, id, _, _, rfl, _⟩⟩ := h <;> rfl
def cpQ (q : Rnk) : Rnk := ⟨cln q.p, q.r⟩
def cpI (x : List Rnk) (i : Nat) : List Rnk := (x.take i).map cpQ ++ x.drop i
theorem cpI_len (x : List Rnk) (i : Nat) : (cpI x i).length = x.length := by simp [cpI]; omega
def cpR (r : Rks) : Rks := ⟨r.l.map cpQ, r.nl, r.l.isEmpty, fun h => by rw [r.nil h]; exact ⟨rfl, rfl⟩, by simpa using r.le⟩
theorem rks_app (x y : List Rnk) : rksA (x ++ y) = rksA x ++ rksA y := by simp [rksA]
theorem cpI_step {x : List Rnk} {i : Nat} (h : i < x.length) : rksA (cpI x (i + 1)) = splice (rksA (cpI x i)) (i * 2) [(cln x[i].p).av] := by
  have e1 : cpI x i = (x.take i).map cpQ ++ x[i] :: x.drop (i + 1) := by rw [cpI, List.drop_eq_getElem_cons h]
  have e2 : cpI x (i + 1) = (x.take i).map cpQ ++ cpQ x[i] :: x.drop (i + 1) := by rw [cpI, List.take_succ_eq_append_getElem h, List.map_append]; simp
  rw [e1, e2, rks_app, rks_app, rks_cons, rks_cons, splice]
  have hl : (rksA ((x.take i).map cpQ)).length = i * 2 := by rw [rks_len]; simp; omega
  rw [List.take_left' hl, ← hl, ← List.length_append]
  have : (rksA ((x.take i).map cpQ) ++ x[i].p.av :: AV.flat (.int .i64 x[i].r) :: rksA (x.drop (i + 1))).drop ((rksA ((x.take i).map cpQ)).length + 1) = AV.flat (.int .i64 x[i].r) :: rksA (x.drop (i + 1)) := by
    rw [← List.drop_drop, List.drop_left]; rfl
  rw [List.length_append, List.length_singleton, this]
  simp [cpQ]
theorem cpI_get {x : List Rnk} {i : Nat} (h : i < x.length) : (cpI x i)[i]'(by rw [cpI_len]; exact h) = x[i] := by
  simp only [cpI]
  rw [List.getElem_append_right (by simp; omega)]
  simp [Nat.min_eq_left (Nat.le_of_lt h)]
theorem cpI_all (x : List Rnk) : cpI x x.length = x.map cpQ := by simp [cpI]
theorem cpR_e {r : Rks} (h : r.l = []) : (cpR r).av = .list 2 [] r.nl true := by simp only [cpR, Rks.av, h]; rfl
theorem cpR_n {r : Rks} (h : 0 < r.l.length) : (cpR r).av = .list 2 (rksA (r.l.map cpQ)) false false := by
  have h1 : r.nl = false := by
    cases hn : r.nl with
    | false => rfl
    | true => rw [r.nil hn] at h; simp at h
  have h2 : r.l.isEmpty = false := by
    cases hp : r.l with
    | nil => rw [hp] at h; simp at h
    | cons a b => rfl
  simp only [cpR, Rks.av, h1, h2]
theorem pl_cpQ (x : List Rnk) : paths (x.map cpQ) = paths x := by simp [paths, cpQ, cln, Function.comp_def]
theorem plX_cp (l : List Rks) : plX (l.map cpR) = plX l := by
  simp only [plX, List.map_map]
  exact List.map_congr_left fun r _ => pl_cpQ r.l
/-- A fact that the reckoning doesn't see. -/
def Hid (p : Prop) : Prop := p
theorem dirt_out {base id : Nat} {D : List Nat} (h : base ≤ id) : dirt base id D = D := if_neg (by omega)
attribute [go_sem] dirt_out
section
variable {p : Pr} {base : Nat} {env : Env} {M : MS} {D : List Nat} {d : Option Nat} {r : List AOp} {R : Env → MS → List Nat → Prop}
/-- A store into a known row, of a row that is given up. -/
theorem S_putC {sz k rl len id2 : Nat} {c1 c2 : Bool} {a x : O} (B H : MS) {cs C : List AV} (hM : M = B ++ (some cs :: (H ++ [some C]))) (hy : a.ev env = .elem (.ms B.length 0 rl sz c1) k) (hx : x.ev env = .ms id2 0 len 1 c2) (hid : id2 = B.length + 1 + H.length) (hC : allI C = true)
    (hlen : C.length = len) (hcs : cs.length = rl * sz) (hk : k + 1 ≤ rl * sz) (hbase : base ≤ B.length)
    (h : WS p base 0 r (updO env d (.flat undef)) (B ++ (some (splice cs k [.list 1 C false c2]) :: (H ++ [none]))) D R) :
    WS p base 0 (⟨d, .store 1 a x, none⟩ :: r) env M D R := by
  subst hM hid
  have e1 : (B ++ (some cs :: (H ++ [some C])))[B.length + 1 + H.length]? = some (some C) := by
    rw [List.getElem?_append_right (by omega), show B.length + 1 + H.length - B.length = H.length + 1 by omega, List.getElem?_cons_succ, List.getElem?_append_right (by omega)]; simp
  have e2 : (B ++ (some cs :: (H ++ [some C]))).set (B.length + 1 + H.length) none = B ++ (some cs :: (H ++ [none])) := by
    rw [List.set_append_right _ _ (by omega), show B.length + 1 + H.length - B.length = H.length + 1 by omega, List.set_cons_succ, List.set_append_right _ _ (by omega)]; simp
  have hv : evI (ev p) base env (B ++ (some cs :: (H ++ [some C]))) D (.store 1 a x) = some (.x (.flat undef) (B ++ (some (splice cs k [.list 1 C false c2]) :: (H ++ [none]))) D) := by
    simp only [evI, hx, cellsOf, List.length_singleton, if_true, hy, storeA, frzAll, frz, e1]
    rw [if_pos ⟨by omega, by omega, hC⟩]
    simp only [e2, List.drop_zero, Nat.mul_one]
    rw [show (B ++ (some cs :: (H ++ [none])))[B.length]? = some (some cs) by simp]
    simp only
    rw [if_pos ⟨by simpa using hk, by omega⟩]
    simp only [dirt, Nat.zero_add, List.set_append_right _ _ (Nat.le_refl _), Nat.sub_self, List.set_cons_zero]
    rw [if_neg (by omega), ← hlen, List.take_length]
  exact S_0 hv (SO_x h)
theorem S_putV {sz k rl : Nat} {c1 : Bool} {a x : O} (B H : MS) {cs : List AV} {v : AV} (hM : M = B ++ (some cs :: H)) (hy : a.ev env = .elem (.ms B.length 0 rl sz c1) k) (hx : x.ev env = v) (hv : cellsOf v = some [v]) (hi : isI v = true)
    (hcs : cs.length = rl * sz) (hk : k + 1 ≤ rl * sz) (hbase : base ≤ B.length)
    (h : WS p base 0 r (updO env d (.flat undef)) (B ++ (some (splice cs k [v]) :: H)) D R) :
    WS p base 0 (⟨d, .store 1 a x, none⟩ :: r) env M D R := by
  subst hM
  have hv : evI (ev p) base env (B ++ (some cs :: H)) D (.store 1 a x) = some (.x (.flat undef) (B ++ (some (splice cs k [v]) :: H)) D) := by
    simp only [evI, hx, hv, List.length_singleton, if_true, hy, storeA, frzAll1 _ _ _ hi]
    rw [show (B ++ (some cs :: H))[B.length]? = some (some cs) by simp]
    simp only
    rw [if_pos ⟨by simpa using hk, by omega⟩]
    simp only [dirt, Nat.zero_add, List.set_append_right _ _ (Nat.le_refl _), Nat.sub_self, List.set_cons_zero]
    rw [if_neg (by omega)]
  exact S_0 hv (SO_x h)
end
theorem t29 (n : Int) (l : List Rks) (nl cd : Bool) (M : MS) (hl : l.length ≤ 1000) (hp : ∀ r ∈ l, r.l.length ≤ 1000 ∧ ∀ q ∈ r.l, q.p.l.length ≤ 1000) : ∃ out, ev pr 29 [.agg [.flat (.int .i64 n), .list 1 (l.map Rks.av) nl cd]] M = some out ∧ ∃ v G, out = .x (.agg [.flat (.int .i64 n), v]) (M ++ G) [] ∧ Own M.length (M ++ G) v 1 ((l.map cpR).map Rks.av) := by
  refine ev_fnE A29 ?_
  obtain ⟨A, hA⟩ : ∃ A : MS, A = M ++ [some [.flat (.int .i64 n), .list 1 (l.map Rks.av) nl cd], some [.flat (.int .i64 0), .list 1 [] true true]] := ⟨_, rfl⟩
  have hAl : A.length = M.length + 2 := by rw [hA]; simp
  have hAm : ∀ X : MS, A ++ X = M ++ (some [.flat (.int .i64 n), .list 1 (l.map Rks.av) nl cd] :: some [.flat (.int .i64 0), .list 1 [] true true] :: X) := by rw [hA]; simp
  clear hA
  repeat' (first | ((with_reducible first | apply S_0 | apply S_q1 | apply S_g | apply S_c); exact sgc) | (with_reducible first | apply SO_q | apply SG_t | apply SG_f0 | apply SG_f1 | apply S_nil | apply T_n | apply W_seq | apply W_region | apply SO_x | apply SC_t | apply SC_f | apply W_block | apply W_ret | apply W_skip | apply W_exit | apply T_r | apply T_e | apply B_n | apply B_e) | (with_reducible apply B_ne; focus decide) | (with_reducible first | apply B_r | apply R_e | apply R_r | apply H_e | apply H_r | apply G_e | apply G_r) | (with_reducible apply SC_n) | ((with_reducible first | apply SC_d | apply SG_d | apply SG_n | apply SC_b | apply SG_b) <;> intro hc <;> try simp only [decide_eq_true_eq, decide_eq_false_iff_not, Classical.not_not, Bool.not_eq_true', Bool.not_eq_false'] at hc))
  refine W_rngM 14 0 l.length (fun i e m => ∃ w G, m = A ++ [some [.flat (.int .i64 n), w]] ++ G ∧ Own (A ++ [some [.flat (.int .i64 n), w]]).length m w 1 (((l.take i).map cpR).map Rks.av)) (by simp only [asg, asgO, List.append_nil, List.nil_append, List.cons_append]; rfl) (by exact svc) (by omega)
    ⟨.list 1 [] true true, [], by simp [hAm], by simpa using Own.nil _ _ (by decide)⟩ ?_
  rintro i e _ _ hi hk e14 ⟨w, G, rfl, hO⟩
  have k3 : e 3 = .mptr A.length 0 := by rw [hk 3 rfl, hAl]; exact svc
  have k2 : e 2 = .mptr (M.length + 1) 0 := by rw [hk 2 rfl]; exact svc
  have k12 : e 12 = .list 1 (l.map Rks.av) nl cd := by rw [hk 12 rfl]; exact svc
  have k13 : e 13 = .flat (.int .i64 l.length) := by rw [hk 13 rfl]; exact svc
  clear hk
  rcases Nat.lt_or_ge i l.length with hlt | hlt
  · have hlt' : (i : Int) < l.length := by omega
    have hwc := hO.cell
    have hwv := hO.buf
    obtain ⟨hpl, hpq⟩ := hp _ (List.getElem_mem hlt)
    have htl : (((l.take i).map cpR).map Rks.av).length = i := by simp; omega
    have htk : ((l.take (i + 1)).map cpR).map Rks.av = ((l.take i).map cpR).map Rks.av ++ [(cpR l[i]).av] := by
      rw [List.take_succ_eq_append_getElem hlt, List.map_append, List.map_append]; rfl
    have hAl' : M.length + 2 ≤ A.length := by omega
    clear hp hAm hAl
    rcases Nat.eq_zero_or_pos l[i].l.length with h0 | h0
    · have hnil := List.eq_nil_of_length_eq_zero h0
      have h74 : ∀ M, ev pr 74 [.list 2 (rksA []) l[i].nl l[i].cd] M = some (.x (.list 2 [] l[i].nl true) M []) := fun M => t74e l[i].nl l[i].cd M
      rw [cpR_e hnil] at htk
      repeat' (first | ((with_reducible first | apply S_0 | apply S_q1 | apply S_g | apply S_c); exact sgc) | (with_reducible first | apply SO_q | apply SG_t | apply SG_f0 | apply SG_f1 | apply S_nil | apply T_n | apply W_seq | apply W_region | apply SO_x | apply SC_t | apply SC_f | apply W_block | apply W_ret | apply W_skip | apply W_exit | apply T_r | apply T_e | apply B_n | apply B_e) | (with_reducible apply B_ne; focus decide) | (with_reducible first | apply B_r | apply R_e | apply R_r | apply H_e | apply H_r | apply G_e | apply G_r) | (with_reducible apply SC_n) | ((with_reducible first | apply SC_d | apply SG_d | apply SG_n | apply SC_b | apply SG_b) <;> intro hc <;> try simp only [decide_eq_true_eq, decide_eq_false_iff_not, Classical.not_not, Bool.not_eq_true', Bool.not_eq_false'] at hc))
      refine W_rngM 22 0 0 (fun _ e' m => m = A ++ [some [.flat (.int .i64 n), w]] ++ G) (by simp only [asg, asgO, List.append_nil, List.nil_append, List.cons_append]; rfl) (by exact svc) (by omega) (by simp) ?_
      rintro j e' _ _ hj hk e22 rfl
      have j3 : e' 3 = .mptr A.length 0 := by rw [hk 3 rfl]; exact svc
      have j2 : e' 2 = .mptr (M.length + 1) 0 := by rw [hk 2 rfl]; exact svc
      have j12 : e' 12 = .list 1 (l.map Rks.av) nl cd := by rw [hk 12 rfl]; exact svc
      have j13 : e' 13 = .flat (.int .i64 l.length) := by rw [hk 13 rfl]; exact svc
      have j14 : e' 14 = .flat (.int .i64 i) := by rw [hk 14 rfl]; exact svc
      have j6 : e' 6 = .list 2 [] l[i].nl true := by rw [hk 6 rfl]; exact svc
      have j21 : e' 21 = .flat (.int .i64 0) := by rw [hk 21 rfl]; exact svc
      clear hk k3 k2 k12 k13 e14
      obtain rfl : j = 0 := by omega
      repeat' (first | ((with_reducible first | apply S_0 | apply S_q1 | apply S_g | apply S_c); exact sgc) | (with_reducible first | apply SO_q | apply SG_t | apply SG_f0 | apply SG_f1 | apply S_nil | apply T_n | apply W_seq | apply W_region | apply SO_x | apply SC_t | apply SC_f | apply W_block | apply W_ret | apply W_skip | apply W_exit | apply T_r | apply T_e | apply B_n | apply B_e) | (with_reducible apply B_ne; focus decide) | (with_reducible first | apply B_r | apply R_e | apply R_r | apply H_e | apply H_r | apply G_e | apply G_r) | (with_reducible apply SC_n) | ((with_reducible first | apply SC_d | apply SG_d | apply SG_n | apply SC_b | apply SG_b) <;> intro hc <;> try simp only [decide_eq_true_eq, decide_eq_false_iff_not, Classical.not_not, Bool.not_eq_true', Bool.not_eq_false'] at hc))
      (refine S_ownG (cs := ((l.take i).map cpR).map Rks.av) (A ++ [some [.flat (.int .i64 n), w]]) G (by assumption) (by first | rfl | simp only [List.append_assoc, List.cons_append, List.nil_append]) (by exact sgc) (by exact sgc) (by exact sgc) (by exact sgc) (by exact sgc) (by (first | assumption | omega | (simp only [ints_len, Nat.div_one, Nat.one_mul, Nat.mul_one, List.length_map, rks_len, half, List.length_cons, List.length_nil, List.length_append]; omega))) (by (first | assumption | omega | (simp only [ints_len, Nat.div_one, Nat.one_mul, Nat.mul_one, List.length_map, rks_len, half, List.length_cons, List.length_nil, List.length_append]; omega))) (by first | omega | (simp; done) | (simp; omega)) ?_)
      intro v' G' hO2
      rw [← htk] at hO2
      have hvc := hO2.cell
      repeat' (first | ((with_reducible first | apply S_0 | apply S_q1 | apply S_g | apply S_c); exact sgc) | (with_reducible first | apply SO_q | apply SG_t | apply SG_f0 | apply SG_f1 | apply S_nil | apply T_n | apply W_seq | apply W_region | apply SO_x | apply SC_t | apply SC_f | apply W_block | apply W_ret | apply W_skip | apply W_exit | apply T_r | apply T_e | apply B_n | apply B_e) | (with_reducible apply B_ne; focus decide) | (with_reducible first | apply B_r | apply R_e | apply R_r | apply H_e | apply H_r | apply G_e | apply G_r) | (with_reducible apply SC_n) | ((with_reducible first | apply SC_d | apply SG_d | apply SG_n | apply SC_b | apply SG_b) <;> intro hc <;> try simp only [decide_eq_true_eq, decide_eq_false_iff_not, Classical.not_not, Bool.not_eq_true', Bool.not_eq_false'] at hc))
      refine G_n (by exact svc) hlt ?_
      exact ⟨v', G', by simp, by simpa using hO2.swap (B' := A ++ [some [.flat (.int .i64 n), v']]) (by simp) (by simp)⟩
    · have h74 := fun M => t74 l[i].l l[i].nl l[i].cd M h0 (by omega) l[i].nil
      rw [cpR_n h0] at htk
      obtain ⟨B, hB⟩ : ∃ B, B = A ++ (some [.flat (.int .i64 n), w] :: G) := ⟨_, rfl⟩
      have hBl : A.length + 1 ≤ B.length := by rw [hB]; simp
      have hB3 : ∀ X, (B ++ X)[A.length]? = some (some [.flat (.int .i64 n), w]) := fun X => by rw [hB]; simp
      have hBs : ∀ X c, (B ++ X).set A.length c = A ++ (c :: (G ++ X)) := fun X c => by rw [hB]; simp
      have hrl := rks_len l[i].l
      have hbe : B.length = A.length + (1 + G.length) := by rw [hB]; simp; omega
      rw [show A ++ [some [AV.flat (Value.int IntKind.i64 n), w]] ++ G = B by rw [hB]; simp]
      rw [show A ++ [some [AV.flat (Value.int IntKind.i64 n), w]] ++ G = B by rw [hB]; simp] at hO hwv
      have hH : Hid (B = A ++ (some [.flat (.int .i64 n), w] :: G)) := hB
      clear hB hbe
      repeat' (first | ((with_reducible first | apply S_0 | apply S_q1 | apply S_g | apply S_c); exact sgc) | (with_reducible first | apply SO_q | apply SG_t | apply SG_f0 | apply SG_f1 | apply S_nil | apply T_n | apply W_seq | apply W_region | apply SO_x | apply SC_t | apply SC_f | apply W_block | apply W_ret | apply W_skip | apply W_exit | apply T_r | apply T_e | apply B_n | apply B_e) | (with_reducible apply B_ne; focus decide) | (with_reducible first | apply B_r | apply R_e | apply R_r | apply H_e | apply H_r | apply G_e | apply G_r) | (with_reducible apply SC_n) | ((with_reducible first | apply SC_d | apply SG_d | apply SG_n | apply SC_b | apply SG_b) <;> intro hc <;> try simp only [decide_eq_true_eq, decide_eq_false_iff_not, Classical.not_not, Bool.not_eq_true', Bool.not_eq_false'] at hc))
      refine W_rngM 22 0 l[i].l.length (fun j e' m => ∃ H, m = B ++ (some (rksA (cpI l[i].l j)) :: H)) (by simp only [asg, asgO, List.append_nil, List.nil_append, List.cons_append]; rfl) (by exact svc) (by omega) ⟨[], by simp [cpI]⟩ ?_
      rintro j e' _ _ hj hk e22 ⟨H, rfl⟩
      have j3 : e' 3 = .mptr A.length 0 := by rw [hk 3 rfl]; exact svc
      have j2 : e' 2 = .mptr (M.length + 1) 0 := by rw [hk 2 rfl]; exact svc
      have j12 : e' 12 = .list 1 (l.map Rks.av) nl cd := by rw [hk 12 rfl]; exact svc
      have j13 : e' 13 = .flat (.int .i64 l.length) := by rw [hk 13 rfl]; exact svc
      have j14 : e' 14 = .flat (.int .i64 i) := by rw [hk 14 rfl]; exact svc
      have j6 : e' 6 = .ms B.length 0 l[i].l.length 2 false := by rw [hk 6 rfl]; exact svc
      have j21 : e' 21 = .flat (.int .i64 l[i].l.length) := by rw [hk 21 rfl]; exact svc
      clear hk k3 k2 k12 k13 e14
      have hcl := cpI_len l[i].l j
      have hrl2 := rks_len (cpI l[i].l j)
      rcases Nat.lt_or_ge j l[i].l.length with hjl | hjl
      · have hjl' : (j : Int) < l[i].l.length := by omega
        have hst := cpI_step hjl
        have hjc : j < (cpI l[i].l j).length := by omega
        have hgt := cpI_get hjl
        have hql := hpq _ (List.getElem_mem hjl)
        have htk0 : List.take l[i].l.length (cpI l[i].l j) = cpI l[i].l j := List.take_of_length_le (by omega)
        clear htk
        rcases Nat.eq_zero_or_pos l[i].l[j].p.l.length with p0 | p0
        · have hnp := List.eq_nil_of_length_eq_zero p0
          have h75 : ∀ M, ev pr 75 [.list 1 (intsA []) l[i].l[j].p.nl l[i].l[j].p.cd] M = some (.x (.list 1 [] l[i].l[j].p.nl true) M []) := fun M => t75e l[i].l[j].p.nl l[i].l[j].p.cd M
          rw [cln_e hnp] at hst
          repeat' (first | ((with_reducible first | apply S_0 | apply S_q1 | apply S_g | apply S_c); exact sgc) | (with_reducible first | apply SO_q | apply SG_t | apply SG_f0 | apply SG_f1 | apply S_nil | apply T_n | apply W_seq | apply W_region | apply SO_x | apply SC_t | apply SC_f | apply W_block | apply W_ret | apply W_skip | apply W_exit | apply T_r | apply T_e | apply B_n | apply B_e) | (with_reducible apply B_ne; focus decide) | (with_reducible first | apply B_r | apply R_e | apply R_r | apply H_e | apply H_r | apply G_e | apply G_r) | (with_reducible apply SC_n) | ((with_reducible first | apply SC_d | apply SG_d | apply SG_n | apply SC_b | apply SG_b) <;> intro hc <;> try simp only [decide_eq_true_eq, decide_eq_false_iff_not, Classical.not_not, Bool.not_eq_true', Bool.not_eq_false'] at hc))
          refine G_n (by exact svc) hjl ⟨H, ?_⟩
          rw [hst]
          simp only [splice, rks_take, List.length_singleton, rks_at1 _ _ hjc, hgt, List.append_assoc, List.cons_append, List.nil_append]
        · have h75 := fun M => t75 l[i].l[j].p.l l[i].l[j].p.nl l[i].l[j].p.cd M p0 (by omega) l[i].l[j].p.nil
          rw [cln_n p0] at hst
          repeat' (first | ((with_reducible first | apply S_0 | apply S_q1 | apply S_g | apply S_c); exact sgc) | (with_reducible first | apply SO_q | apply SG_t | apply SG_f0 | apply SG_f1 | apply S_nil | apply T_n | apply W_seq | apply W_region | apply SO_x | apply SC_t | apply SC_f | apply W_block | apply W_ret | apply W_skip | apply W_exit | apply T_r | apply T_e | apply B_n | apply B_e) | (with_reducible apply B_ne; focus decide) | (with_reducible first | apply B_r | apply R_e | apply R_r | apply H_e | apply H_r | apply G_e | apply G_r) | (with_reducible apply SC_n) | ((with_reducible first | apply SC_d | apply SG_d | apply SG_n | apply SC_b | apply SG_b) <;> intro hc <;> try simp only [decide_eq_true_eq, decide_eq_false_iff_not, Classical.not_not, Bool.not_eq_true', Bool.not_eq_false'] at hc))
          refine G_n (by exact svc) hjl ⟨H ++ [none], ?_⟩
          rw [hst]
          simp only [splice, rks_take, List.length_singleton, rks_at1 _ _ hjc, hgt, List.append_assoc, List.cons_append, List.nil_append]
      · have hjl' : ¬ (j : Int) < l[i].l.length := by omega
        obtain rfl : j = l[i].l.length := by omega
        have htq : List.take l[i].l.length (List.map cpQ l[i].l) = List.map cpQ l[i].l := List.take_of_length_le (by simp)
        rw [cpI_all] at *
        repeat' (first | ((with_reducible first | apply S_0 | apply S_q1 | apply S_g | apply S_c); exact sgc) | (with_reducible first | apply SO_q | apply SG_t | apply SG_f0 | apply SG_f1 | apply S_nil | apply T_n | apply W_seq | apply W_region | apply SO_x | apply SC_t | apply SC_f | apply W_block | apply W_ret | apply W_skip | apply W_exit | apply T_r | apply T_e | apply B_n | apply B_e) | (with_reducible apply B_ne; focus decide) | (with_reducible first | apply B_r | apply R_e | apply R_r | apply H_e | apply H_r | apply G_e | apply G_r) | (with_reducible apply SC_n) | ((with_reducible first | apply SC_d | apply SG_d | apply SG_n | apply SC_b | apply SG_b) <;> intro hc <;> try simp only [decide_eq_true_eq, decide_eq_false_iff_not, Classical.not_not, Bool.not_eq_true', Bool.not_eq_false'] at hc))
        have hB : B = A ++ (some [.flat (.int .i64 n), w] :: G) := hH
        rw [show B ++ none :: H = (A ++ [some [AV.flat (Value.int IntKind.i64 n), w]]) ++ (G ++ none :: H) by rw [hB]; simp]
        replace hO : Own (List.length (A ++ [some [AV.flat (Value.int IntKind.i64 n), w]])) ((A ++ [some [AV.flat (Value.int IntKind.i64 n), w]]) ++ (G ++ none :: H)) w 1 (List.map Rks.av (List.map cpR (List.take i l))) := by
          refine Own.growG ?_ _
          rw [hB] at hO
          simpa using hO
        clear hB hwv
        (refine S_ownG (cs := ((l.take i).map cpR).map Rks.av) (A ++ [some [.flat (.int .i64 n), w]]) (G ++ none :: H) (by assumption) (by first | rfl | simp only [List.append_assoc, List.cons_append, List.nil_append]) (by exact sgc) (by exact sgc) (by exact sgc) (by exact sgc) (by exact sgc) (by (first | assumption | omega | (simp only [ints_len, Nat.div_one, Nat.one_mul, Nat.mul_one, List.length_map, rks_len, half, List.length_cons, List.length_nil, List.length_append]; omega))) (by (first | assumption | omega | (simp only [ints_len, Nat.div_one, Nat.one_mul, Nat.mul_one, List.length_map, rks_len, half, List.length_cons, List.length_nil, List.length_append]; omega))) (by first | omega | (simp; done) | (simp; omega)) ?_)
        intro v' G' hO2
        rw [← htk] at hO2
        have hvc := hO2.cell
        repeat' (first | ((with_reducible first | apply S_0 | apply S_q1 | apply S_g | apply S_c); exact sgc) | (with_reducible first | apply SO_q | apply SG_t | apply SG_f0 | apply SG_f1 | apply S_nil | apply T_n | apply W_seq | apply W_region | apply SO_x | apply SC_t | apply SC_f | apply W_block | apply W_ret | apply W_skip | apply W_exit | apply T_r | apply T_e | apply B_n | apply B_e) | (with_reducible apply B_ne; focus decide) | (with_reducible first | apply B_r | apply R_e | apply R_r | apply H_e | apply H_r | apply G_e | apply G_r) | (with_reducible apply SC_n) | ((with_reducible first | apply SC_d | apply SG_d | apply SG_n | apply SC_b | apply SG_b) <;> intro hc <;> try simp only [decide_eq_true_eq, decide_eq_false_iff_not, Classical.not_not, Bool.not_eq_true', Bool.not_eq_false'] at hc))
        refine G_n (by exact svc) hlt ?_
        exact ⟨v', G', by simp, by simpa using hO2.swap (B' := A ++ [some [.flat (.int .i64 n), v']]) (by simp) (by simp)⟩
  · have hlt' : ¬ (i : Int) < l.length := by omega
    obtain rfl : i = l.length := by omega
    rw [List.take_length] at hO
    clear hp
    repeat' (first | ((with_reducible first | apply S_0 | apply S_q1 | apply S_g | apply S_c); exact sgc) | (with_reducible first | apply SO_q | apply SG_t | apply SG_f0 | apply SG_f1 | apply S_nil | apply T_n | apply W_seq | apply W_region | apply SO_x | apply SC_t | apply SC_f | apply W_block | apply W_ret | apply W_skip | apply W_exit | apply T_r | apply T_e | apply B_n | apply B_e) | (with_reducible apply B_ne; focus decide) | (with_reducible first | apply B_r | apply R_e | apply R_r | apply H_e | apply H_r | apply G_e | apply G_r) | (with_reducible apply SC_n) | ((with_reducible first | apply SC_d | apply SG_d | apply SG_n | apply SC_b | apply SG_b) <;> intro hc <;> try simp only [decide_eq_true_eq, decide_eq_false_iff_not, Classical.not_not, Bool.not_eq_true', Bool.not_eq_false'] at hc))
    refine ⟨.inr rfl, _, ?_, w, some [.flat (.int .i64 n), .list 1 (l.map Rks.av) nl cd] :: some [.flat (.int .i64 n), w] :: some [.flat (.int .i64 n), w] :: G, rfl, ?_⟩
    · simp only [fin, if_true, resA, rvA, tupA]
      (simp (disch := first | assumption | decide | omega | exact Pth.le _ | exact Rks.le _ | exact List.getElem_mem _ | exact allI_ints _ | exact allI_rks _ | exact allI_pths _ | exact Pth.nil _ | exact Rks.nil _ | (intro hh; simp only [Pth.nil _ hh, List.take_nil, List.drop_nil]; done) | (intro hh; simp only [Rks.nil _ hh, List.take_nil, List.drop_nil]; done) | (simp only [List.length_take, List.length_drop, List.length_append, List.length_cons, List.length_nil, List.length_replicate, List.length_map, ints_len]; omega)) only [go_sem, if_pos, if_neg, Nat.reduceBEq, Nat.reduceEqDiff, ↓reduceIte, Nat.reduceSub, Nat.reduceAdd, Int.reduceToNat, reduceCtorEq, Nat.reduceLeDiff, Nat.reduceLT, Nat.reduceMul, Nat.reduceDiv, Int.reduceLT, Int.reduceLE, Int.reduceEq, Int.reduceNe, Int.reduceAdd, Int.reduceSub, Int.reduceNeg, Int.reduceGT, Int.reduceGE, Int.reduceBEq, Int.reduceBNe, Int.reduceMul, *])
    · have h := (hO.swap (B' := M ++ [some [.flat (.int .i64 n), .list 1 (l.map Rks.av) nl cd], some [.flat (.int .i64 n), w], some [.flat (.int .i64 n), w]]) (by simp [hAl]) (Nat.le_refl _)).lower (lo' := M.length) (by simp [hAl]; omega)
      simpa using h
end Go.Proofs.Ytopiaiibpacmlaa.Av
namespace Go.Proofs.Ytopiaiibpacmlaa.Av
open Go.RowKit
set_option linter.unusedSimpArgs false
set_option linter.unusedVariables false
set_option maxHeartbeats 10000000
section
variable {p : Pr} {base : Nat} {env : Env} {M : MS} {D : List Nat} {d : Option Nat} {r : List AOp} {R : Env → MS → List Nat → Prop}
/-- A store into a row that lies below, of a row of one's own that is given up. -/
theorem S_putO {lo sz k rl id : Nat} {c1 : Bool} {a x : O} {w : AV} (B G : MS) {old cs : List AV} (hO : Own lo (B ++ G) w sz cs) (hlo : B.length ≤ lo) (hb : base ≤ lo) (hid : id < B.length) (hB : B[id]? = some (some old)) (hM : M = B ++ G) (hy : a.ev env = .elem (.ms id 0 rl 1 c1) k) (hx : x.ev env = w) (hk : k + 1 ≤ rl) (hold : old.length = rl)
    (h : ∀ G', WS p base 0 r (updO env d (.flat undef)) (B.set id (some (splice old k [lst sz cs])) ++ G') (dirt base id D) R) :
    WS p base 0 (⟨d, .store 1 a x, none⟩ :: r) env M D R := by
  subst hM
  have hlen := hO.buf.len
  have hc := hO.cell
  have key : ∃ G', frzAll base (B ++ G) [w] = some ([lst sz cs], B ++ G') := by
    obtain ⟨h0, hA, _, ⟨h1, h2⟩ | ⟨h1, i2, h2, h3, h4, h5⟩⟩ := hO
    · subst h1 h2
      exact ⟨G, rfl⟩
    · subst h4
      refine ⟨G.set (i2 - B.length) none, ?_⟩
      simp only [frzAll, frz, h5]
      rw [if_pos ⟨by omega, by omega, hA⟩]
      simp only [List.drop_zero]
      rw [hlen, List.take_length, List.set_append_right _ _ (by omega)]
      cases cs with
      | nil => exact absurd rfl h1
      | cons _ _ => rfl
  obtain ⟨G', hG⟩ := key
  have hv : evI (ev p) base env (B ++ G) D (.store 1 a x) = some (.x (.flat undef) (B.set id (some (splice old k [lst sz cs])) ++ G') (dirt base id D)) := by
    simp only [evI, hx, hc, List.length_singleton, if_true, hy, storeA, hG]
    rw [List.getElem?_append_left hid, hB]
    simp only
    rw [if_pos ⟨by simpa using hk, by omega⟩, Nat.zero_add, List.set_append_left _ _ hid]
  exact S_0 hv (SO_x (h G'))
end
/-- The ranks that stay of the first i, told anew; P: it goes. -/
noncomputable def kpI (P : Nat → List Int → Prop) (x : List Rnk) : Nat → List Rnk
  | 0 => []
  | i + 1 => open Classical in kpI P x i ++ (if h : i < x.length then (if P i x[i].p.l then [] else [⟨x[i].p, ((kpI P x i).length : Int)⟩]) else [])
theorem kpI_len (P : Nat → List Int → Prop) (x : List Rnk) : ∀ i, (kpI P x i).length ≤ i
  | 0 => by simp [kpI]
  | i + 1 => by
    have := kpI_len P x i
    simp only [kpI, List.length_append]
    split
    · split <;> simp <;> omega
    · simp; omega
theorem kpI_gone {P : Nat → List Int → Prop} {x : List Rnk} {i : Nat} (h : i < x.length) (hp : P i x[i].p.l) : kpI P x (i + 1) = kpI P x i := by simp [kpI, h, hp]
theorem kpI_stay {P : Nat → List Int → Prop} {x : List Rnk} {i : Nat} (h : i < x.length) (hp : ¬ P i x[i].p.l) : kpI P x (i + 1) = kpI P x i ++ [⟨x[i].p, ((kpI P x i).length : Int)⟩] := by simp [kpI, h, hp]
theorem kpI_rk (P : Nat → List Int → Prop) (x : List Rnk) : ∀ i, IsRk (kpI P x i)
  | 0 => fun j h => by simp [kpI] at h
  | i + 1 => fun j h => by
    have ih := kpI_rk P x i
    rcases Nat.lt_or_ge i x.length with hi | hi
    · by_cases hp : P i x[i].p.l
      · simp only [kpI_gone hi hp] at h ⊢
        exact ih j h
      · simp only [kpI_stay hi hp] at h ⊢
        rw [List.getElem_append]
        split
        · rename_i hj; exact ih j hj
        · rename_i hj
          simp only [List.length_append, List.length_singleton] at h
          have : j = (kpI P x i).length := by omega
          subst this
          simp
    · have : kpI P x (i + 1) = kpI P x i := by simp [kpI, Nat.not_lt.2 hi]
      simp only [this] at h ⊢
      exact ih j h
theorem kpI_sub (P : Nat → List Int → Prop) (x : List Rnk) : ∀ i, (paths (kpI P x i)).Sublist (paths (x.take i))
  | 0 => by simp [kpI, paths]
  | i + 1 => by
    have ih := kpI_sub P x i
    rcases Nat.lt_or_ge i x.length with hi | hi
    · rw [List.take_succ_eq_append_getElem hi]
      simp only [paths, List.map_append] at ih ⊢
      by_cases hp : P i x[i].p.l
      · rw [kpI_gone hi hp]
        exact ih.trans (List.sublist_append_left _ _)
      · rw [kpI_stay hi hp, List.map_append]
        exact ih.append (by simp)
    · have : kpI P x (i + 1) = kpI P x i := by simp [kpI, Nat.not_lt.2 hi]
      rw [this, List.take_of_length_le (by omega)]
      rw [List.take_of_length_le hi] at ih
      exact ih
theorem kpI_subl (P : Nat → List Int → Prop) (x : List Rnk) : (paths (kpI P x x.length)).Sublist (paths x) := by
  have := kpI_sub P x x.length
  rwa [List.take_length] at this
/-- What is gone is not among them. -/
theorem kpI_mem {P : Nat → List Int → Prop} {x : List Rnk} (hn : (paths x).Nodup) {i : Nat} (hi : i < x.length) : x[i].p.l ∈ paths (kpI P x x.length) ↔ ¬ P i x[i].p.l := by
  have key : ∀ k, k ≤ x.length → (x[i].p.l ∈ paths (kpI P x k) ↔ i < k ∧ ¬ P i x[i].p.l) := by
    intro k
    induction k with
    | zero => intro _; simp [kpI, paths]
    | succ k ih =>
      intro hk
      have hkx : k < x.length := by omega
      have hne : i ≠ k → x[k].p.l ≠ x[i].p.l := fun h e => by
        rcases Nat.lt_or_ge i k with h1 | h1
        · have := List.pairwise_iff_getElem.1 hn i k (by rw [paths_len]; exact hi) (by rw [paths_len]; exact hkx) h1
          rw [paths_get _ _ (by rw [paths_len]; exact hi), paths_get _ _ (by rw [paths_len]; exact hkx)] at this
          exact this e.symm
        · have := List.pairwise_iff_getElem.1 hn k i (by rw [paths_len]; exact hkx) (by rw [paths_len]; exact hi) (by omega)
          rw [paths_get _ _ (by rw [paths_len]; exact hkx), paths_get _ _ (by rw [paths_len]; exact hi)] at this
          exact this e
      have ih := ih (by omega)
      by_cases hp : P k x[k].p.l
      · rw [kpI_gone hkx hp, ih]
        constructor
        · rintro ⟨h1, h2⟩; exact ⟨by omega, h2⟩
        · rintro ⟨h1, h2⟩
          refine ⟨?_, h2⟩
          rcases Nat.lt_or_ge i k with h | h
          · exact h
          · obtain rfl : i = k := by omega
            exact absurd hp h2
      · rw [kpI_stay hkx hp]
        simp only [paths, List.map_append, List.mem_append, List.map_cons, List.map_nil, List.mem_singleton]
        simp only [paths] at ih
        rw [ih]
        constructor
        · rintro (⟨h1, h2⟩ | h)
          · exact ⟨by omega, h2⟩
          · by_cases hik : i = k
            · subst hik; exact ⟨by omega, hp⟩
            · exact absurd h.symm (hne hik)
        · rintro ⟨h1, h2⟩
          by_cases hik : i = k
          · subst hik; exact .inr rfl
          · exact .inl ⟨by omega, h2⟩
  rw [key _ (Nat.le_refl _)]
  simp [hi]
noncomputable def kpR (P : Nat → List Int → Prop) (r : Rks) : Rks := ⟨kpI P r.l r.l.length, (kpI P r.l r.l.length).isEmpty, (kpI P r.l r.l.length).isEmpty, fun h => ⟨List.isEmpty_iff.1 h, h⟩, Nat.le_trans (kpI_len _ _ _) r.le⟩
theorem kpR_av (P : Nat → List Int → Prop) (r : Rks) : (kpR P r).av = lst 2 (rksA (kpI P r.l r.l.length)) := by
  have : (rksA (kpI P r.l r.l.length)).isEmpty = (kpI P r.l r.l.length).isEmpty := by
    cases kpI P r.l r.l.length with
    | nil => rfl
    | cons a b => rfl
  simp only [kpR, Rks.av]
  cases h : kpI P r.l r.l.length with
  | nil => rfl
  | cons a b => rfl
theorem set_rkss (s : List Rks) (v : Nat) (r : Rks) (h : v < s.length) : (s.set v r).map Rks.av = splice (s.map Rks.av) v [r.av] := by
  rw [List.set_eq_take_append_cons_drop, if_pos h, List.map_append, List.map_cons]
  simp [splice, List.map_take, List.map_drop]
theorem t105 {n : Int} {l : List Rks} {M : MS} {id v fn : Nat} {c1 : Bool} {caps : List AV} (hid : id < M.length) (hM : M[id]? = some (some (l.map Rks.av))) (hvl : v < l.length) (P : Nat → List Int → Prop) [∀ i q, Decidable (P i q)] (hx : l[v].l.length ≤ 1000)
    (hc : ∀ i (h : i < l[v].l.length) G, ev pr fn (.flat (.int .i64 i) :: .list 1 (intsA l[v].l[i].p.l) l[v].l[i].p.nl l[v].l[i].p.cd :: caps) (M ++ G) = some (.q (.flat (.bool (decide (P i l[v].l[i].p.l)))))) :
    ev pr 105 [.agg [.flat (.int .i64 n), .ms id 0 l.length 1 c1], .flat (.int .i64 v), .clo fn caps] M = some (.x (.flat (.int .i64 ((l[v].l.length : Int) - ((kpI P l[v].l l[v].l.length).length : Int)))) (M.set id (some ((l.set v (kpR P l[v])).map Rks.av))) [id]) := by
  have hM1 : ∀ G, (M ++ G)[id]? = some (some (l.map Rks.av)) := fun G => by rw [List.getElem?_append_left hid, hM]
  rw [set_rkss _ _ _ hvl, kpR_av]
  have q1 : ∀ (c : Option (List AV)) (L : MS), (M.set id c ++ L)[id]? = some c := fun c L => by rw [List.getElem?_append_left (by simpa using hid), List.getElem?_set_self hid]
  have q2 : ∀ (c : Option (List AV)) (L : MS), (M.set id c ++ L).take M.length = M.set id c := fun c L => List.take_left' (by simp)
  have hll := l[v].le
  have hvv : ∀ G, view (M ++ G) (.ms id 0 l.length 1 c1) = some (l.map Rks.av) := fun G => by
    simp only [view, hM1]
    rw [if_pos (by simp)]
    simp [List.take_of_length_le]
  refine ev_fn' A105 ?_
  repeat' (first | ((with_reducible first | apply S_0 | apply S_q1 | apply S_g | apply S_c); exact sgc) | (with_reducible first | apply SO_q | apply SG_t | apply SG_f0 | apply SG_f1 | apply S_nil | apply T_n | apply W_seq | apply W_region | apply SO_x | apply SC_t | apply SC_f | apply W_block | apply W_ret | apply W_skip | apply W_exit | apply T_r | apply T_e | apply B_n | apply B_e) | (with_reducible apply B_ne; focus decide) | (with_reducible first | apply B_r | apply R_e | apply R_r | apply H_e | apply H_r | apply G_e | apply G_r) | (with_reducible apply SC_n) | ((with_reducible first | apply SC_d | apply SG_d | apply SG_n | apply SC_b | apply SG_b) <;> intro hc <;> try simp only [decide_eq_true_eq, decide_eq_false_iff_not, Classical.not_not, Bool.not_eq_true', Bool.not_eq_false'] at hc))
  refine W_rngM 23 0 l[v].l.length (fun i e m => ∃ w G, e 7 = w ∧ m = M ++ [some [AV.flat (.int .i64 n), AV.ms id 0 l.length 1 c1]] ++ G ∧ Own (M ++ [some [AV.flat (.int .i64 n), AV.ms id 0 l.length 1 c1]]).length (M ++ [some [AV.flat (.int .i64 n), AV.ms id 0 l.length 1 c1]] ++ G) w 2 (rksA (kpI P l[v].l i))) (by simp only [asg, asgO, List.append_nil, List.nil_append, List.cons_append]; rfl) (by exact svc) (by omega)
    ⟨.list 2 [] true true, [], by exact svc, by simp, by simpa [kpI, rksA] using Own.nil _ _ (by decide)⟩ ?_
  rintro i e _ _ hi hk e23 ⟨w, G, e7, rfl, hO⟩
  have k1 : e 1 = .flat (.int .i64 v) := by rw [hk 1 rfl]; exact svc
  have k2 : e 2 = .clo fn caps := by rw [hk 2 rfl]; exact svc
  have k3 : e 3 = .mptr M.length 0 := by rw [hk 3 rfl]; exact svc
  have k8 : e 8 = .flat (.int .i64 l[v].l.length) := by rw [hk 8 rfl]; exact svc
  have k21 : e 21 = .list 2 (rksA l[v].l) l[v].nl l[v].cd := by rw [hk 21 rfl]; exact svc
  have k22 : e 22 = .flat (.int .i64 l[v].l.length) := by rw [hk 22 rfl]; exact svc
  clear hk
  have hkl := kpI_len P l[v].l i
  have hwl : lenOf w = some (kpI P l[v].l i).length := by have := hO.buf.lenOf; simpa [rks_len] using this
  rcases Nat.lt_or_ge i l[v].l.length with hlt | hlt
  · have hlt' : (i : Int) < l[v].l.length := by omega
    have hc := hc i hlt
    have hO' := hO.growG [some [l[v].l[i].p.av, .flat (.int .i64 l[v].l[i].r)]]
    by_cases hp : P i l[v].l[i].p.l
    · simp only [hp, decide_true] at hc
      rw [Pth.av_eq] at hO'
      repeat' (first | ((with_reducible first | apply S_0 | apply S_q1 | apply S_g | apply S_c); exact sgc) | (with_reducible first | apply SO_q | apply SG_t | apply SG_f0 | apply SG_f1 | apply S_nil | apply T_n | apply W_seq | apply W_region | apply SO_x | apply SC_t | apply SC_f | apply W_block | apply W_ret | apply W_skip | apply W_exit | apply T_r | apply T_e | apply B_n | apply B_e) | (with_reducible apply B_ne; focus decide) | (with_reducible first | apply B_r | apply R_e | apply R_r | apply H_e | apply H_r | apply G_e | apply G_r) | (with_reducible apply SC_n) | ((with_reducible first | apply SC_d | apply SG_d | apply SG_n | apply SC_b | apply SG_b) <;> intro hc <;> try simp only [decide_eq_true_eq, decide_eq_false_iff_not, Classical.not_not, Bool.not_eq_true', Bool.not_eq_false'] at hc))
      refine G_n (by exact svc) hlt ⟨w, _, by exact svc, by simp; rfl, ?_⟩
      rw [kpI_gone hlt hp]
      simpa using hO'
    · simp only [hp, decide_false] at hc
      rw [Pth.av_eq] at hO'
      repeat' (first | ((with_reducible first | apply S_0 | apply S_q1 | apply S_g | apply S_c); exact sgc) | (with_reducible first | apply SO_q | apply SG_t | apply SG_f0 | apply SG_f1 | apply S_nil | apply T_n | apply W_seq | apply W_region | apply SO_x | apply SC_t | apply SC_f | apply W_block | apply W_ret | apply W_skip | apply W_exit | apply T_r | apply T_e | apply B_n | apply B_e) | (with_reducible apply B_ne; focus decide) | (with_reducible first | apply B_r | apply R_e | apply R_r | apply H_e | apply H_r | apply G_e | apply G_r) | (with_reducible apply SC_n) | ((with_reducible first | apply SC_d | apply SG_d | apply SG_n | apply SC_b | apply SG_b) <;> intro hc <;> try simp only [decide_eq_true_eq, decide_eq_false_iff_not, Classical.not_not, Bool.not_eq_true', Bool.not_eq_false'] at hc))
      (refine S_ownG (cs := rksA (kpI P l[v].l i)) (M ++ [some [AV.flat (.int .i64 n), AV.ms id 0 l.length 1 c1]]) (G ++ [some [.list 1 (intsA l[v].l[i].p.l) l[v].l[i].p.nl l[v].l[i].p.cd, .flat (.int .i64 l[v].l[i].r)]]) (by assumption) (by first | rfl | simp only [List.append_assoc, List.cons_append, List.nil_append]) (by exact sgc) (by exact sgc) (by exact sgc) (by exact sgc) (by exact sgc) (by (first | assumption | omega | (simp only [ints_len, Nat.div_one, Nat.one_mul, Nat.mul_one, List.length_map, rks_len, half, List.length_cons, List.length_nil, List.length_append]; omega))) (by (first | assumption | omega | (simp only [ints_len, Nat.div_one, Nat.one_mul, Nat.mul_one, List.length_map, rks_len, half, List.length_cons, List.length_nil, List.length_append]; omega))) (by first | omega | (simp; done) | (simp; omega)) ?_)
      intro v' G' hO2
      repeat' (first | ((with_reducible first | apply S_0 | apply S_q1 | apply S_g | apply S_c); exact sgc) | (with_reducible first | apply SO_q | apply SG_t | apply SG_f0 | apply SG_f1 | apply S_nil | apply T_n | apply W_seq | apply W_region | apply SO_x | apply SC_t | apply SC_f | apply W_block | apply W_ret | apply W_skip | apply W_exit | apply T_r | apply T_e | apply B_n | apply B_e) | (with_reducible apply B_ne; focus decide) | (with_reducible first | apply B_r | apply R_e | apply R_r | apply H_e | apply H_r | apply G_e | apply G_r) | (with_reducible apply SC_n) | ((with_reducible first | apply SC_d | apply SG_d | apply SG_n | apply SC_b | apply SG_b) <;> intro hc <;> try simp only [decide_eq_true_eq, decide_eq_false_iff_not, Classical.not_not, Bool.not_eq_true', Bool.not_eq_false'] at hc))
      refine G_n (by exact svc) hlt ⟨v', G', by exact svc, by simp, ?_⟩
      rw [kpI_stay hlt hp, rks_app]
      simpa [rksA, Rnk.cs, Pth.av_eq] using hO2
  · have hlt' : ¬ (i : Int) < l[v].l.length := by omega
    obtain rfl : i = l[v].l.length := by omega
    clear hc
    repeat' (first | ((with_reducible first | apply S_0 | apply S_q1 | apply S_g | apply S_c); exact sgc) | (with_reducible first | apply SO_q | apply SG_t | apply SG_f0 | apply SG_f1 | apply S_nil | apply T_n | apply W_seq | apply W_region | apply SO_x | apply SC_t | apply SC_f | apply W_block | apply W_ret | apply W_skip | apply W_exit | apply T_r | apply T_e | apply B_n | apply B_e) | (with_reducible apply B_ne; focus decide) | (with_reducible first | apply B_r | apply R_e | apply R_r | apply H_e | apply H_r | apply G_e | apply G_r) | (with_reducible apply SC_n) | ((with_reducible first | apply SC_d | apply SG_d | apply SG_n | apply SC_b | apply SG_b) <;> intro hc <;> try simp only [decide_eq_true_eq, decide_eq_false_iff_not, Classical.not_not, Bool.not_eq_true', Bool.not_eq_false'] at hc))
    rw [show M ++ [some [AV.flat (.int .i64 n), AV.ms id 0 l.length 1 c1]] ++ G = M ++ (some [AV.flat (.int .i64 n), AV.ms id 0 l.length 1 c1] :: G) by simp] at *
    refine S_putO (k := v) (rl := l.length) (c1 := c1) M (some [AV.flat (.int .i64 n), AV.ms id 0 l.length 1 c1] :: G) hO (by simp) (by simp) hid hM rfl (by exact svc) (by exact svc) (by omega) (by simp) ?_
    intro G'
    repeat' (first | ((with_reducible first | apply S_0 | apply S_q1 | apply S_g | apply S_c); exact sgc) | (with_reducible first | apply SO_q | apply SG_t | apply SG_f0 | apply SG_f1 | apply S_nil | apply T_n | apply W_seq | apply W_region | apply SO_x | apply SC_t | apply SC_f | apply W_block | apply W_ret | apply W_skip | apply W_exit | apply T_r | apply T_e | apply B_n | apply B_e) | (with_reducible apply B_ne; focus decide) | (with_reducible first | apply B_r | apply R_e | apply R_r | apply H_e | apply H_r | apply G_e | apply G_r) | (with_reducible apply SC_n) | ((with_reducible first | apply SC_d | apply SG_d | apply SG_n | apply SC_b | apply SG_b) <;> intro hc <;> try simp only [decide_eq_true_eq, decide_eq_false_iff_not, Classical.not_not, Bool.not_eq_true', Bool.not_eq_false'] at hc))
    have hall : allI (splice (l.map Rks.av) v [lst 2 (rksA (kpI P l[v].l l[v].l.length))]) = true := by rw [← kpR_av, ← set_rkss _ _ _ hvl]; exact allI_rkss _
    generalize splice (l.map Rks.av) v [lst 2 (rksA (kpI P l[v].l l[v].l.length))] = C at hall ⊢
    clear hO hvv hM1
    (refine ⟨by first | exact .inr rfl | exact .inl rfl, ?_⟩; simp (disch := first | assumption | decide | omega | exact Pth.le _ | exact Rks.le _ | exact List.getElem_mem _ | exact allI_ints _ | exact allI_rks _ | exact allI_pths _ | exact Pth.nil _ | exact Rks.nil _ | (intro hh; simp only [Pth.nil _ hh, List.take_nil, List.drop_nil]; done) | (intro hh; simp only [Rks.nil _ hh, List.take_nil, List.drop_nil]; done) | (simp only [List.length_take, List.length_drop, List.length_append, List.length_cons, List.length_nil, List.length_replicate, List.length_map, ints_len]; omega)) only [resA, rvA, tupA, fin, frzV, frzTup, frzA, frz, isI, isI.all, Option.bind_some, go_sem, if_pos, if_neg, Nat.reduceBEq, Nat.reduceEqDiff, ↓reduceIte, Nat.reduceSub, Nat.reduceAdd, Int.reduceToNat, reduceCtorEq, Nat.reduceLeDiff, Nat.reduceLT, Nat.reduceMul, Nat.reduceDiv, Int.reduceLT, Int.reduceLE, Int.reduceEq, Int.reduceNe, Int.reduceAdd, Int.reduceSub, Int.reduceNeg, Int.reduceGT, Int.reduceGE, Int.reduceBEq, Int.reduceBNe, Int.reduceMul, *])
    simp only [List.all_cons, List.all_nil, q1, hall, Bool.and_true, if_true]
theorem usel_iff {l : List Rks} {p : List Int} {u : Nat} (hp : 1 < p.length) (hu : p[1] = u) (hul : u < l.length) : (p[1] ≠ 0 ∧ p.drop 1 ∉ paths l[u].l) ↔ usel (plX l) p := by
  have e : p.getD 1 0 = u := by rw [List.getD, List.getElem?_eq_getElem hp, hu]; rfl
  unfold usel atL
  rw [e, hu, Int.toNat_natCast, plX_get hul]
noncomputable instance (L : In) (p : Pa) : Decidable (usel L p) := Classical.propDecidable _
/-- The closure of the useless ones. -/
theorem t109 {n i : Int} {l : List Rks} {rv : AV} {M : MS} {b : Nat} {p : List Int} {np cp : Bool} (hb : b < M.length) (hM : M[b]? = some (some [.flat (.int .i64 n), rv])) (hv : Vw M rv (l.map Rks.av) l.length) (hpc : PC l p) (hnp : np = true → p = []) :
    ev pr 109 [.flat (.int .i64 i), .list 1 (intsA p) np cp, .mptr b 0] M = some (.q (.flat (.bool (decide (usel (plX l) p))))) := by
  obtain ⟨h2, h1000, hr⟩ := hpc
  obtain ⟨hr0, hr1⟩ := hr p[1] (List.getElem_mem _)
  have h83 := t83 (n := n) (np := np) (cp := cp) (u := p[1].toNat) hv (by omega) (by omega) (by omega) h1000 hnp
  have hul : p[1].toNat < l.length := by omega
  have hd : decide (p[1] ≠ 0 ∧ p.drop 1 ∉ paths l[p[1].toNat].l) = decide (usel (plX l) p) := decide_eq_decide.2 (usel_iff (by omega) (by omega) hul)
  rw [hd] at h83
  clear hr
  refine ev_fn' A109 ?_
  repeat' (first | ((with_reducible first | apply S_0 | apply S_q1 | apply S_g | apply S_c); exact sgc) | (with_reducible first | apply SO_q | apply SG_t | apply SG_f0 | apply SG_f1 | apply S_nil | apply T_n | apply W_seq | apply W_region | apply SO_x | apply SC_t | apply SC_f | apply W_block | apply W_ret | apply W_skip | apply W_exit | apply T_r | apply T_e | apply B_n | apply B_e) | (with_reducible apply B_ne; focus decide) | (with_reducible first | apply B_r | apply R_e | apply R_r | apply H_e | apply H_r | apply G_e | apply G_r) | (with_reducible apply SC_n) | ((with_reducible first | apply SC_d | apply SG_d | apply SG_n | apply SC_b | apply SG_b) <;> intro hc <;> try simp only [decide_eq_true_eq, decide_eq_false_iff_not, Classical.not_not, Bool.not_eq_true', Bool.not_eq_false'] at hc))
  (first | exact fincR | exact fincN)
/-- The closure of the sure ones. -/
theorem t111 {l : List Rks} {rv : AV} {M : MS} {b : Nat} {r : Rnk} (hX : ∀ v (h : v < l.length), ∀ q ∈ l[v].l, PC l q.p.l) (hb : b < M.length) (hM : M[b]? = some (some [.flat (.int .i64 l.length), rv])) (hv : Vw M rv (l.map Rks.av) l.length) (hpc : PC l r.p.l) :
    ev pr 111 [.agg [.list 1 (intsA r.p.l) r.p.nl r.p.cd, .flat (.int .i64 r.r)], .mptr b 0] M = some (.q (.flat (.bool (decide (sureF l r.p.l))))) := by
  have h84 := t84 (n := l.length) hX _ (Nat.le_refl _) (np := r.p.nl) (cp := r.p.cd) (fun h => (r.p.ok h).1) (hv.ext [some [.list 1 (intsA r.p.l) r.p.nl r.p.cd, .flat (.int .i64 r.r)]]) hpc
  have hM' : (M ++ [some [.list 1 (intsA r.p.l) r.p.nl r.p.cd, .flat (.int .i64 r.r)]])[b]? = some (some [.flat (.int .i64 l.length), rv]) := by rw [List.getElem?_append_left hb, hM]
  refine ev_fn' A111 ?_
  repeat' (first | ((with_reducible first | apply S_0 | apply S_q1 | apply S_g | apply S_c); exact sgc) | (with_reducible first | apply SO_q | apply SG_t | apply SG_f0 | apply SG_f1 | apply S_nil | apply T_n | apply W_seq | apply W_region | apply SO_x | apply SC_t | apply SC_f | apply W_block | apply W_ret | apply W_skip | apply W_exit | apply T_r | apply T_e | apply B_n | apply B_e) | (with_reducible apply B_ne; focus decide) | (with_reducible first | apply B_r | apply R_e | apply R_r | apply H_e | apply H_r | apply G_e | apply G_r) | (with_reducible apply SC_n) | ((with_reducible first | apply SC_d | apply SG_d | apply SG_n | apply SC_b | apply SG_b) <;> intro hc <;> try simp only [decide_eq_true_eq, decide_eq_false_iff_not, Classical.not_not, Bool.not_eq_true', Bool.not_eq_false'] at hc))
  (first | exact fincR | exact fincN)
/-- The closure of those behind one. -/
theorem t112 {i k : Int} {x : AV} {M : MS} {b : Nat} (hb : b < M.length) (hM : M[b]? = some (some [.flat (.int .i64 k)])) : ev pr 112 [.flat (.int .i64 i), x, .mptr b 0] M = some (.q (.flat (.bool (decide (k < i))))) := by
  refine ev_fn' A112 ?_
  repeat' (first | ((with_reducible first | apply S_0 | apply S_q1 | apply S_g | apply S_c); exact sgc) | (with_reducible first | apply SO_q | apply SG_t | apply SG_f0 | apply SG_f1 | apply S_nil | apply T_n | apply W_seq | apply W_region | apply SO_x | apply SC_t | apply SC_f | apply W_block | apply W_ret | apply W_skip | apply W_exit | apply T_r | apply T_e | apply B_n | apply B_e) | (with_reducible apply B_ne; focus decide) | (with_reducible first | apply B_r | apply R_e | apply R_r | apply H_e | apply H_r | apply G_e | apply G_r) | (with_reducible apply SC_n) | ((with_reducible first | apply SC_d | apply SG_d | apply SG_n | apply SC_b | apply SG_b) <;> intro hc <;> try simp only [decide_eq_true_eq, decide_eq_false_iff_not, Classical.not_not, Bool.not_eq_true', Bool.not_eq_false'] at hc))
  (first | exact fincR | exact fincN)
/-- The closure of those that aren't a state's. -/
theorem t106 {i : Int} {v : Nat} {s : List Pth} {ns cs : Bool} {p : List Int} {np cp : Bool} {M : MS} {b b2 : Nat} (hp : p.length ≤ 9223372036854775807) (hb : b < M.length) (hM : M[b]? = some (some [.list 1 (s.map Pth.av) ns cs])) (hb2 : b2 < M.length) (hM2 : M[b2]? = some (some [.flat (.int .i64 v)])) (hv : v < s.length) :
    ev pr 106 [.flat (.int .i64 i), .list 1 (intsA p) np cp, .mptr b 0, .mptr b2 0] M = some (.q (.flat (.bool (decide (¬ p = s[v].l))))) := by
  have h104 := fun nx cx ny cy M => t104 p s[v].l nx cx ny cy M hp
  rw [decide_not]
  refine ev_fn' A106 ?_
  repeat' (first | ((with_reducible first | apply S_0 | apply S_q1 | apply S_g | apply S_c); exact sgc) | (with_reducible first | apply SO_q | apply SG_t | apply SG_f0 | apply SG_f1 | apply S_nil | apply T_n | apply W_seq | apply W_region | apply SO_x | apply SC_t | apply SC_f | apply W_block | apply W_ret | apply W_skip | apply W_exit | apply T_r | apply T_e | apply B_n | apply B_e) | (with_reducible apply B_ne; focus decide) | (with_reducible first | apply B_r | apply R_e | apply R_r | apply H_e | apply H_r | apply G_e | apply G_r) | (with_reducible apply SC_n) | ((with_reducible first | apply SC_d | apply SG_d | apply SG_n | apply SC_b | apply SG_b) <;> intro hc <;> try simp only [decide_eq_true_eq, decide_eq_false_iff_not, Classical.not_not, Bool.not_eq_true', Bool.not_eq_false'] at hc))
  (first | exact fincR | exact fincN)
end Go.Proofs.Ytopiaiibpacmlaa.Av
namespace Go.Proofs.Ytopiaiibpacmlaa.Av
open Go.RowKit
set_option linter.unusedSimpArgs false
set_option linter.unusedVariables false
set_option maxHeartbeats 10000000
theorem bef_idx {q p : Pa} : ∀ {l : List Pa}, [q, p].Sublist l → ∃ (a b : Nat) (ha : a < l.length) (hb : b < l.length), a < b ∧ l[a] = q ∧ l[b] = p
  | [], h => by cases h
  | x :: l, h => by
    cases h with
    | cons _ h =>
      obtain ⟨a, b, ha, hb, h1, h2, h3⟩ := bef_idx h
      exact ⟨a + 1, b + 1, by simp; omega, by simp; omega, by omega, by simpa using h2, by simpa using h3⟩
    | cons_cons _ h =>
      obtain ⟨b, hb, h2⟩ := List.mem_iff_getElem.1 (List.singleton_sublist.1 h)
      exact ⟨0, b + 1, by simp, by simp; omega, by omega, rfl, by simpa using h2⟩
theorem idx_bef : ∀ {l : List Pa} {a b : Nat} (ha : a < l.length) (hb : b < l.length), a < b → [l[a], l[b]].Sublist l
  | x :: l, 0, b + 1, _, hb, _ => .cons_cons _ (List.singleton_sublist.2 (List.getElem_mem _))
  | x :: l, a + 1, b + 1, ha, hb, h => .cons _ (idx_bef (by simpa using ha) (by simpa using hb) (by omega))
theorem set_self {M : MS} {id : Nat} {c : Option (List AV)} (h : M[id]? = some c) : M.set id c = M := by
  obtain ⟨h1, h2⟩ := List.getElem?_eq_some_iff.1 h
  rw [← h2]
  exact List.set_getElem_self h1
theorem at_nat (L : In) (u : Nat) : atL L (u : Int) = L.getD u [] := by simp [atL]
theorem pth_nn {l : List Rks} (hX : MayX l.length l) {v : Nat} (hv1 : 1 ≤ v) (hv : v < l.length) {q : Rnk} (hq : q ∈ l[v].l) : ∀ a ∈ q.p.l, 0 ≤ a := fun a ha => ((lok_path (hX.2.2.2.2 v hv hv1) q hq).2.2.2.2 a ha).1
/-- Paths of a node that go are taken away. -/
theorem upd_step {lc : List Rks} {i : Nat} (hX : MayX lc.length lc) (hS : SmallX lc) (hi1 : 1 ≤ i) (hi : i < lc.length) (P : Nat → List Int → Prop) (hg : ∀ j (h : j < lc[i].l.length), P j lc[i].l[j].p.l → goes (plX lc) lc[i].l[j].p.l) :
    (lc.set i (kpR P lc[i])).length = lc.length ∧ MayX lc.length (lc.set i (kpR P lc[i])) ∧ SmallX (lc.set i (kpR P lc[i])) ∧ Red (lc[i].l.length - (kpI P lc[i].l lc[i].l.length).length) (plX lc) (plX (lc.set i (kpR P lc[i]))) := by
  have hsub := kpI_subl P lc[i].l
  refine ⟨by simp, mayX_setR hX hi1 hi hsub (kpI_rk _ _ _), small_setR hS hi hsub, ?_⟩
  have hget : (plX lc).getD i [] = paths lc[i].l := plX_get hi
  have := cut_red (ok_plX hX) i (l' := paths (kpI P lc[i].l lc[i].l.length)) (by rw [hget]; exact hsub) fun p hp hnp => by
    rw [hget] at hp
    obtain ⟨j, hj, rfl⟩ := List.mem_iff_getElem.1 hp
    rw [paths_len] at hj
    rw [paths_get] at hnp ⊢
    have := (not_congr (kpI_mem (P := P) (lok_nodup (hX.2.2.2.2 i hi hi1)) hj)).1 hnp
    exact hg j hj (Classical.not_not.1 this)
  rw [hget, paths_len, paths_len] at this
  rw [plX_set]
  exact this
theorem kp_all {P : Nat → List Int → Prop} {x : List Rnk} (hn : (paths x).Nodup) (h : x.length - (kpI P x x.length).length = 0) : ∀ j (hj : j < x.length), ¬ P j x[j].p.l := fun j hj => by
  have hs := kpI_subl P x
  have : paths (kpI P x x.length) = paths x := hs.eq_of_length_le (by rw [paths_len, paths_len]; omega)
  refine (kpI_mem hn hj).1 ?_
  rw [this]
  exact List.mem_map.2 ⟨_, List.getElem_mem hj, rfl⟩
/-- What a call makes of a row that lies below. -/
def UpdR (M : MS) (id : Nat) (C : List AV) (v : AV) (out : Out) : Prop := (out = .q v ∧ M[id]? = some (some C)) ∨ ∃ D, D ≠ [] ∧ out = .x v (M.set id (some C)) D ∧ ∀ x ∈ D, x = id
theorem fin_upd {M : MS} {id : Nat} {C : List AV} {L : MS} {D : List Nat} {v : Value} (hid : id < M.length) (hD : D ≠ []) (hd : ∀ x ∈ D, x = id) (hC : allI C = true) : fin M.length false (.flat v) (M.set id (some C) ++ L) D = some (.x (.flat v) (M.set id (some C)) D) := by
  match D, hD with
  | x :: d, _ =>
    simp only [fin, frzV, frzA, frz, isI, Bool.false_eq_true, if_false, if_true]
    split
    · rw [List.take_left' (by simp)]
    · rename_i h
      refine absurd (List.all_eq_true.2 fun y hy => ?_) h
      rw [hd y hy, List.getElem?_append_left (by simpa using hid), List.getElem?_set_self hid]
      exact hC
theorem t77 {l : List Rks} {M : MS} {id : Nat} {c1 : Bool} (hid : id < M.length) (hM : M[id]? = some (some (l.map Rks.av))) (hX : MayX l.length l) (hS : SmallX l) :
    ∃ out, ev pr 77 [.agg [.flat (.int .i64 l.length), .ms id 0 l.length 1 c1]] M = some out ∧ ∃ (k : Nat) (l' : List Rks), UpdR M id (l'.map Rks.av) (.flat (.int .i64 k)) out ∧ l'.length = l.length ∧ MayX l.length l' ∧ SmallX l' ∧ Red k (plX l) (plX l') ∧ (k = 0 → NF (plX l')) := by
  refine ev_fnE A77 ?_
  obtain ⟨N, hN⟩ : ∃ N, N = l.length := ⟨_, rfl⟩
  have h12 := hS.1
  have hN1 : 1 ≤ N := by have := hX.1; omega
  have hN12 : N ≤ 12 := by omega
  rw [← hN] at hX ⊢
  have hNl : l.length = N := hN.symm
  have hNH : Hid (l.length = N) := hNl
  clear h12 hN hNl
  repeat' (first | ((with_reducible first | apply S_0 | apply S_q1 | apply S_g | apply S_c); exact sgc) | (with_reducible first | apply SO_q | apply SG_t | apply SG_f0 | apply SG_f1 | apply S_nil | apply T_n | apply W_seq | apply W_region | apply SO_x | apply SC_t | apply SC_f | apply W_block | apply W_ret | apply W_skip | apply W_exit | apply T_r | apply T_e | apply B_n | apply B_e) | (with_reducible apply B_ne; focus decide) | (with_reducible first | apply B_r | apply R_e | apply R_r | apply H_e | apply H_r | apply G_e | apply G_r) | (with_reducible apply SC_n) | ((with_reducible first | apply SC_d | apply SG_d | apply SG_n | apply SC_b | apply SG_b) <;> intro hc <;> try simp only [decide_eq_true_eq, decide_eq_false_iff_not, Classical.not_not, Bool.not_eq_true', Bool.not_eq_false'] at hc))
  refine W_whl (fun q e m d => ∃ (i k : Nat) (lc : List Rks) (G : MS), q = N - i ∧ 1 ≤ i ∧ i ≤ N ∧ e 4 = .flat (.int .i64 i) ∧ e 3 = .flat (.int .i64 k) ∧ m = M.set id (some (lc.map Rks.av)) ++ (some [.flat (.int .i64 N), .ms id 0 N 1 c1] :: G) ∧ (∀ x ∈ d, x = id) ∧ (d = [] → lc = l) ∧ lc.length = N ∧ MayX N lc ∧ SmallX lc ∧ Red k (plX l) (plX lc) ∧ k ≤ 140 * i ∧
    (k = 0 → ∀ u : Nat, 1 ≤ u → u < i → ∀ p ∈ (plX lc).getD u [], ¬ usel (plX lc) p ∧ ¬ idle (plX lc) u p)) (N - 1) (by simp only [asg, asgO, List.append_nil, List.nil_append, List.cons_append]; rfl)
    ⟨1, 0, l, [], rfl, Nat.le_refl _, hN1, by exact svc, by exact svc, by rw [set_self hM], by simp, fun _ => rfl, hNH, hX, hS, .refl _, by omega, fun _ u h1 h2 => by omega⟩ ?_
  rintro q e m d hk ⟨i, k, lc, G, rfl, hi1, hi, e4, e3, rfl, hd, hdl, hlc, hX, hS, hR, hk140, hnf⟩
  have k1 : e 1 = .mptr M.length 0 := by rw [hk 1 rfl]; exact svc
  clear hk
  have hbx : ∀ (C : Option (List AV)) (X : MS), (M.set id C ++ (some [.flat (.int .i64 N), .ms id 0 N 1 c1] :: X))[M.length]? = some (some [.flat (.int .i64 N), .ms id 0 N 1 c1]) := fun C X => by
    rw [List.getElem?_append_right (by simp)]; simp
  rcases Nat.lt_or_ge i N with hlt | hlt
  · have hlt' : (i : Int) < N := by omega
    have hil : i < lc.length := by omega
    rw [← hlc] at hX
    have hOk := ok_plX hX
    have hok := hX.2.2.2.2 i hil hi1
    have hpc := fun v h => pc_x hX hS v h
    have h70 := (hS.2 _ (List.getElem_mem hil)).1
    -- the useless ones
    obtain ⟨u1, u2, u3, u4⟩ := upd_step hX hS hi1 hil (fun _ p => usel (plX lc) p) fun j hj hu => by
      obtain ⟨t, ht, _⟩ := pathOk_shape (lok_path hok _ (List.getElem_mem hj))
      exact ⟨(i : Int), by rw [ht]; rfl, by rw [at_nat, plX_get hil]; exact List.mem_map.2 ⟨_, List.getElem_mem hj, rfl⟩, .inl hu⟩
    have hkall := kp_all (P := fun _ p => usel (plX lc) p) (x := lc[i].l) (lok_nodup hok)
    have hkle := kpI_len (fun _ p => usel (plX lc) p) lc[i].l lc[i].l.length
    have hget1 : (lc.set i (kpR (fun _ p => usel (plX lc) p) lc[i]))[i]'(by simpa using hil) = kpR (fun _ p => usel (plX lc) p) lc[i] := by simp
    have hid1 : id < (M.set id (some (lc.map Rks.av)) ++ (some [.flat (.int .i64 N), .ms id 0 N 1 c1] :: G)).length := by simp; omega
    have hM1 : (M.set id (some (lc.map Rks.av)) ++ (some [.flat (.int .i64 N), .ms id 0 N 1 c1] :: G))[id]? = some (some (lc.map Rks.av)) := by
      rw [List.getElem?_append_left (by simpa using hid), List.getElem?_set_self hid]
    have hvw : Vw (M.set id (some (lc.map Rks.av)) ++ (some [.flat (.int .i64 N), .ms id 0 N 1 c1] :: G)) (.ms id 0 N 1 c1) (lc.map Rks.av) lc.length := by
      refine ⟨by rw [hlc]; rfl, fun X => ?_, rfl⟩
      simp only [view]
      rw [List.getElem?_append_left hid1, hM1]
      simp only
      rw [if_pos (by simp; omega)]
      rw [List.drop_zero, Nat.mul_one, List.take_of_length_le (by simp; omega)]
    have h105 := t105 (n := N) (c1 := c1) (fn := 109) (caps := [.mptr M.length 0]) hid1 hM1 hil (fun _ p => usel (plX lc) p) (by omega) fun j hj X => by
      refine t109 (n := N) (rv := .ms id 0 N 1 c1) (by simp <;> omega) ?_ (hvw.ext X) (hpc i hil _ (List.getElem_mem hj)) (lc[i].l[j].p.nil)
      rw [List.append_assoc, List.getElem?_append_right (by simp)]
      simp
    rw [hlc, List.set_append_left _ _ (by simpa using hid), List.set_set] at h105
    obtain ⟨l1, hl1⟩ : ∃ l1, l1 = lc.set i (kpR (fun _ p => usel (plX lc) p) lc[i]) := ⟨_, rfl⟩
    obtain ⟨n1, hn1⟩ : ∃ n1, n1 = lc[i].l.length - (kpI (fun _ p => usel (plX lc) p) lc[i].l lc[i].l.length).length := ⟨_, rfl⟩
    have hn1' : (lc[i].l.length : Int) - ((kpI (fun _ p => usel (plX lc) p) lc[i].l lc[i].l.length).length : Int) = (n1 : Int) := by omega
    have hn1b : n1 ≤ 70 := by omega
    rw [hn1', ← hl1] at h105
    rw [← hl1] at u1 u2 u3 u4
    rw [← hn1] at u4 hkall
    -- the first sure one
    have hi1l : i < l1.length := by omega
    have e1 : l1[i].l = kpI (fun _ p => usel (plX lc) p) lc[i].l lc[i].l.length := by simp only [hl1, List.getElem_set_self]; rfl
    rw [hlc] at u1 u2
    have hX1 : MayX l1.length l1 := by rw [u1]; exact u2
    have hpc1 := fun v h => pc_x hX1 u3 v h
    have hok1 := hX1.2.2.2.2 i hi1l hi1
    have h70' := (u3.2 _ (List.getElem_mem hi1l)).1
    have hid2 : id < (M.set id (some (l1.map Rks.av)) ++ (some [.flat (.int .i64 N), .ms id 0 N 1 c1] :: G)).length := by simp; omega
    have hM2 : (M.set id (some (l1.map Rks.av)) ++ (some [.flat (.int .i64 N), .ms id 0 N 1 c1] :: G))[id]? = some (some (l1.map Rks.av)) := by
      rw [List.getElem?_append_left (by simpa using hid), List.getElem?_set_self hid]
    have hvw2 : Vw (M.set id (some (l1.map Rks.av)) ++ (some [.flat (.int .i64 N), .ms id 0 N 1 c1] :: G)) (.ms id 0 N 1 c1) (l1.map Rks.av) l1.length := by
      refine ⟨by rw [u1]; rfl, fun X => ?_, rfl⟩
      simp only [view]
      rw [List.getElem?_append_left hid2, hM2]
      simp only
      rw [if_pos (by simp; omega)]
      rw [List.drop_zero, Nat.mul_one, List.take_of_length_le (by simp; omega)]
    have h110 := t110 (P := fun r => sureF l1 r.p.l) (x := l1[i].l) (nx := l1[i].nl) (cx := l1[i].cd) (fn := 111) (caps := [.mptr M.length 0]) l1[i].le fun r hr => by
      refine t111 (l := l1) (rv := .ms id 0 N 1 c1) hpc1 (by simp <;> omega) ?_ hvw2 (hpc1 i hi1l r hr)
      rw [u1, List.getElem?_append_right (by simp)]
      simp
    have hve := hvw2.vw
    obtain ⟨f, hf⟩ : ∃ f, f = fst (fun r : Rnk => sureF l1 r.p.l) l1[i].l := ⟨_, rfl⟩
    rw [← hf] at h110
    have hl1H : Hid (l1 = lc.set i (kpR (fun _ p => usel (plX lc) p) lc[i])) := hl1
    have e1H : Hid (l1[i].l = kpI (fun _ p => usel (plX lc) p) lc[i].l lc[i].l.length) := e1
    clear hl1 hget1 hvw hM1 hn1' hn1 hvw2 e1
    have htN : List.take N l1 = l1 := List.take_of_length_le (by omega)
    have hfH : Hid (f = fst (fun r : Rnk => sureF l1 r.p.l) l1[i].l) := hf
    clear hf
    have hdo : ∀ (c : Option (List AV)) (q : Nat) (D : List Nat), dirt M.length ((M.set id c).length + q) D = D := fun c q D => dirt_out (by rw [List.length_set]; omega)
    have hfil : List.filter (fun x => decide (x < M.length)) [id] = [id] := by simp [hid]
    -- what is so when nothing has gone so far
    have keyU : k + n1 = 0 → plX l1 = plX lc ∧ ∀ p ∈ (plX lc).getD i [], ¬ usel (plX lc) p := fun h0 => by
      have hn0 : n1 = 0 := by omega
      refine ⟨red_zero (by rw [hn0] at u4; exact u4), fun p hp => ?_⟩
      rw [plX_get hil] at hp
      obtain ⟨q, hq, rfl⟩ := List.mem_map.1 hp
      obtain ⟨j, hj, rfl⟩ := List.mem_iff_getElem.1 hq
      exact hkall hn0 j hj
    by_cases hf0 : f < 0
    · have hf0' : ¬ (0 ≤ f) := by omega
      repeat' (first | ((with_reducible first | apply S_0 | apply S_q1 | apply S_g | apply S_c); exact sgc) | (with_reducible first | apply SO_q | apply SG_t | apply SG_f0 | apply SG_f1 | apply S_nil | apply T_n | apply W_seq | apply W_region | apply SO_x | apply SC_t | apply SC_f | apply W_block | apply W_ret | apply W_skip | apply W_exit | apply T_r | apply T_e | apply B_n | apply B_e) | (with_reducible apply B_ne; focus decide) | (with_reducible first | apply B_r | apply R_e | apply R_r | apply H_e | apply H_r | apply G_e | apply G_r) | (with_reducible apply SC_n) | ((with_reducible first | apply SC_d | apply SG_d | apply SG_n | apply SC_b | apply SG_b) <;> intro hc <;> try simp only [decide_eq_true_eq, decide_eq_false_iff_not, Classical.not_not, Bool.not_eq_true', Bool.not_eq_false'] at hc))
      have hR1 := red_trans hR u4
      refine R_n (N - (i + 1)) (by omega) ⟨i + 1, k + n1, l1, _, rfl, by omega, by omega, by exact svc, by exact svc, rfl, ?_, ?_, u1, u2, u3, hR1, by omega, fun h0 u hu1 hu2 p hp => ?_⟩
      · intro x hx; rcases List.mem_cons.1 hx with h | h
        · exact h
        · exact hd x h
      · intro h; cases h
      · obtain ⟨e0, hus⟩ := keyU h0
        rw [e0] at hp ⊢
        rcases Nat.lt_or_ge u i with hui | hui
        · exact hnf (by omega) u hu1 hui p hp
        · obtain rfl : u = i := by omega
          refine ⟨hus p hp, ?_⟩
          rintro ⟨q, hq, hsq⟩
          have hno : ∀ a ∈ l1[u].l, ¬ sureF l1 a.p.l := fst_lt.1 (by rw [← show f = fst (fun r : Rnk => sureF l1 r.p.l) l1[u].l from hfH]; exact hf0)
          have hqm : q ∈ (plX lc).getD u [] := by rw [← at_nat]; exact hq.subset (by simp)
          rw [← e0, plX_get hi1l] at hqm
          obtain ⟨r, hr, rfl⟩ := List.mem_map.1 hqm
          refine hno r hr ((sure_iff (pth_nn hX1 hu1 hi1l hr)).2 ?_)
          rw [e0]; exact hsq
    · have hf0' : 0 ≤ f := by omega
      obtain ⟨a, ha, hfa, hsa, hbe⟩ := fst_spec (P := fun r : Rnk => sureF l1 r.p.l) (x := l1[i].l) (by rw [← show f = fst (fun r : Rnk => sureF l1 r.p.l) l1[i].l from hfH]; exact hf0')
      have hfa' : f = a := (show f = fst (fun r : Rnk => sureF l1 r.p.l) l1[i].l from hfH).trans hfa
      have hid3 : id < (M.set id (some (l1.map Rks.av)) ++ (some [AV.flat (.int .i64 N), AV.ms id 0 N 1 c1] :: (G ++ [some [AV.flat (.int .i64 f)]]))).length := by simp; omega
      have hM3 : (M.set id (some (l1.map Rks.av)) ++ (some [AV.flat (.int .i64 N), AV.ms id 0 N 1 c1] :: (G ++ [some [AV.flat (.int .i64 f)]])))[id]? = some (some (l1.map Rks.av)) := by
        rw [List.getElem?_append_left (by simpa using hid), List.getElem?_set_self hid]
      obtain ⟨w1, w2, w3, w4⟩ := upd_step hX1 u3 hi1 hi1l (fun j _ => f < (j : Int)) fun j hj hfj => by
        obtain ⟨t, ht, _⟩ := pathOk_shape (lok_path hok1 _ (List.getElem_mem hj))
        have haj : a < j := by omega
        refine ⟨(i : Int), by rw [ht]; rfl, by rw [at_nat, plX_get hi1l]; exact List.mem_map.2 ⟨_, List.getElem_mem hj, rfl⟩, .inr ⟨l1[i].l[a].p.l, ?_, (sure_iff (pth_nn hX1 hi1 hi1l (List.getElem_mem ha))).1 hsa⟩⟩
        rw [at_nat, plX_get hi1l]
        have := idx_bef (l := paths l1[i].l) (a := a) (b := j) (by rw [paths_len]; exact ha) (by rw [paths_len]; exact hj) haj
        rwa [paths_get, paths_get] at this
      have hkall2 := kp_all (P := fun j _ => f < (j : Int)) (x := l1[i].l) (lok_nodup hok1)
      have hkle2 := kpI_len (fun j _ => f < (j : Int)) l1[i].l l1[i].l.length
      have h105b := t105 (n := N) (c1 := c1) (fn := 112) (caps := [.mptr ((M.set id (some (l1.map Rks.av))).length + (G.length + 1)) 0]) hid3 hM3 hi1l (fun j _ => f < (j : Int)) (by omega) fun j hj X => by
        refine t112 (by simp <;> omega) ?_
        rw [List.append_assoc, List.getElem?_append_right (by omega), Nat.add_sub_cancel_left, List.cons_append, List.getElem?_cons_succ, List.append_assoc, List.getElem?_append_right (by omega)]
        simp
      rw [u1, List.set_append_left _ _ (by simpa using hid), List.set_set] at h105b
      obtain ⟨l2, hl2⟩ : ∃ l2, l2 = l1.set i (kpR (fun j _ => f < (j : Int)) l1[i]) := ⟨_, rfl⟩
      obtain ⟨n2, hn2⟩ : ∃ n2, n2 = l1[i].l.length - (kpI (fun j _ => f < (j : Int)) l1[i].l l1[i].l.length).length := ⟨_, rfl⟩
      have hn2' : (l1[i].l.length : Int) - ((kpI (fun j _ => f < (j : Int)) l1[i].l l1[i].l.length).length : Int) = (n2 : Int) := by omega
      have hn2b : n2 ≤ 70 := by omega
      rw [hn2', ← hl2] at h105b
      rw [← hl2] at w1 w2 w3 w4
      rw [← hn2] at w4 hkall2
      have hfaH : Hid (f = a) := hfa'
      clear hl2 hn2 hn2' hfa hfa' hkle2
      repeat' (first | ((with_reducible first | apply S_0 | apply S_q1 | apply S_g | apply S_c); exact sgc) | (with_reducible first | apply SO_q | apply SG_t | apply SG_f0 | apply SG_f1 | apply S_nil | apply T_n | apply W_seq | apply W_region | apply SO_x | apply SC_t | apply SC_f | apply W_block | apply W_ret | apply W_skip | apply W_exit | apply T_r | apply T_e | apply B_n | apply B_e) | (with_reducible apply B_ne; focus decide) | (with_reducible first | apply B_r | apply R_e | apply R_r | apply H_e | apply H_r | apply G_e | apply G_r) | (with_reducible apply SC_n) | ((with_reducible first | apply SC_d | apply SG_d | apply SG_n | apply SC_b | apply SG_b) <;> intro hc <;> try simp only [decide_eq_true_eq, decide_eq_false_iff_not, Classical.not_not, Bool.not_eq_true', Bool.not_eq_false'] at hc))
      have hR2 := red_trans (red_trans hR u4) w4
      refine R_n (N - (i + 1)) (by omega) ⟨i + 1, k + n1 + n2, l2, _, rfl, by omega, by omega, by exact svc, by (have hae : (k : Int) + n1 + n2 = ((k + n1 + n2 : Nat) : Int) := by omega); rw [← hae]; exact svc, rfl, ?_, ?_, by omega, by rw [← u1]; exact w2, w3, hR2, by omega, fun h0 u hu1 hu2 p hp => ?_⟩
      · intro x hx
        simp only [List.cons_append, List.nil_append, List.mem_cons] at hx
        rcases hx with h | h | h
        · exact h
        · exact h
        · exact hd x h
      · intro h; cases h
      · obtain ⟨e0, hus⟩ := keyU (by omega)
        have hn0 : n2 = 0 := by omega
        have e2 : plX l2 = plX l1 := red_zero (by rw [hn0] at w4; exact w4)
        rw [e2, e0] at hp ⊢
        rcases Nat.lt_or_ge u i with hui | hui
        · exact hnf (by omega) u hu1 hui p hp
        · obtain rfl : u = i := by omega
          refine ⟨hus p hp, ?_⟩
          rintro ⟨q, hq, hsq⟩
          rw [← e0, at_nat, plX_get hi1l] at hq
          rw [← e0] at hsq
          obtain ⟨a', b', ha', hb', h1, h2, h3⟩ := bef_idx hq
          rw [paths_len] at ha' hb'
          rw [paths_get] at h2 h3
          have hsa' : sureF l1 l1[u].l[a'].p.l := (sure_iff (pth_nn hX1 hu1 hi1l (List.getElem_mem ha'))).2 (by rw [h2]; exact hsq)
          have hge : ¬ a' < a := fun h => hbe a' h ha' hsa'
          have hfa : f = a := hfaH
          exact hkall2 hn0 b' hb' (by omega)
  · have hlt' : ¬ (i : Int) < N := by omega
    obtain rfl : i = N := by omega
    have hNF : k = 0 → NF (plX lc) := fun h0 p hg => by
      obtain ⟨v, hv, hm, hg⟩ := hg
      rw [← hlc] at hX
      obtain ⟨w, t, rfl, rfl, _⟩ := ok_at (ok_plX hX) hm hv
      rw [at_nat] at hm
      have hw : w < (plX lc).length := by
        rcases Nat.lt_or_ge w (plX lc).length with h | h
        · exact h
        · rw [getD_out h] at hm; simp at hm
      rw [plX_len, hlc] at hw
      have hw1 : 1 ≤ w := by
        rcases Nat.eq_zero_or_pos w with rfl | h
        · rw [(ok_plX hX).1] at hm; simp at hm
        · exact h
      obtain ⟨h1, h2⟩ := hnf h0 w hw1 hw _ hm
      rcases hg with hg | hg
      · exact h1 hg
      · exact h2 hg
    have hall := allI_rkss lc
    have q1 : ∀ (c : Option (List AV)) (L : MS), (M.set id c ++ L)[id]? = some c := fun c L => by rw [List.getElem?_append_left (by simpa using hid), List.getElem?_set_self hid]
    have q2 : ∀ (c : Option (List AV)) (L : MS), (M.set id c ++ L).take M.length = M.set id c := fun c L => List.take_left' (by simp)
    clear hnf
    cases hdd : d with
    | nil =>
      have hll := hdl hdd
      have hMl : M[id]? = some (some (lc.map Rks.av)) := by rw [hll]; exact hM
      clear hdl hd hM
      repeat' (first | ((with_reducible first | apply S_0 | apply S_q1 | apply S_g | apply S_c); exact sgc) | (with_reducible first | apply SO_q | apply SG_t | apply SG_f0 | apply SG_f1 | apply S_nil | apply T_n | apply W_seq | apply W_region | apply SO_x | apply SC_t | apply SC_f | apply W_block | apply W_ret | apply W_skip | apply W_exit | apply T_r | apply T_e | apply B_n | apply B_e) | (with_reducible apply B_ne; focus decide) | (with_reducible first | apply B_r | apply R_e | apply R_r | apply H_e | apply H_r | apply G_e | apply G_r) | (with_reducible apply SC_n) | ((with_reducible first | apply SC_d | apply SG_d | apply SG_n | apply SC_b | apply SG_b) <;> intro hc <;> try simp only [decide_eq_true_eq, decide_eq_false_iff_not, Classical.not_not, Bool.not_eq_true', Bool.not_eq_false'] at hc))
      refine ⟨.inr rfl, .q (.flat (.int .i64 k)), ?_, k, lc, .inl ⟨rfl, hMl⟩, hlc, hX, hS, hR, hNF⟩
      simp only [resA, rvA, tupA, fin, frzV, frzTup, frzA, frz, isI, isI.all, Option.bind_some]
      (simp (disch := first | assumption | decide | omega | exact Pth.le _ | exact Rks.le _ | exact List.getElem_mem _ | exact allI_ints _ | exact allI_rks _ | exact allI_pths _ | exact Pth.nil _ | exact Rks.nil _ | (intro hh; simp only [Pth.nil _ hh, List.take_nil, List.drop_nil]; done) | (intro hh; simp only [Rks.nil _ hh, List.take_nil, List.drop_nil]; done) | (simp only [List.length_take, List.length_drop, List.length_append, List.length_cons, List.length_nil, List.length_replicate, List.length_map, ints_len]; omega)) only [go_sem, if_pos, if_neg, Nat.reduceBEq, Nat.reduceEqDiff, ↓reduceIte, Nat.reduceSub, Nat.reduceAdd, Int.reduceToNat, reduceCtorEq, Nat.reduceLeDiff, Nat.reduceLT, Nat.reduceMul, Nat.reduceDiv, Int.reduceLT, Int.reduceLE, Int.reduceEq, Int.reduceNe, Int.reduceAdd, Int.reduceSub, Int.reduceNeg, Int.reduceGT, Int.reduceGE, Int.reduceBEq, Int.reduceBNe, Int.reduceMul, *])
    | cons x d' =>
      rw [hdd] at hd
      clear hdl hM
      repeat' (first | ((with_reducible first | apply S_0 | apply S_q1 | apply S_g | apply S_c); exact sgc) | (with_reducible first | apply SO_q | apply SG_t | apply SG_f0 | apply SG_f1 | apply S_nil | apply T_n | apply W_seq | apply W_region | apply SO_x | apply SC_t | apply SC_f | apply W_block | apply W_ret | apply W_skip | apply W_exit | apply T_r | apply T_e | apply B_n | apply B_e) | (with_reducible apply B_ne; focus decide) | (with_reducible first | apply B_r | apply R_e | apply R_r | apply H_e | apply H_r | apply G_e | apply G_r) | (with_reducible apply SC_n) | ((with_reducible first | apply SC_d | apply SG_d | apply SG_n | apply SC_b | apply SG_b) <;> intro hc <;> try simp only [decide_eq_true_eq, decide_eq_false_iff_not, Classical.not_not, Bool.not_eq_true', Bool.not_eq_false'] at hc))
      refine ⟨.inr rfl, .x (.flat (.int .i64 k)) (M.set id (some (lc.map Rks.av))) (x :: d'), ?_, k, lc, .inr ⟨x :: d', by simp, rfl, hd⟩, hlc, hX, hS, hR, hNF⟩
      simp only [resA, rvA, tupA, Option.bind_some]
      (simp (disch := first | assumption | decide | omega | exact Pth.le _ | exact Rks.le _ | exact List.getElem_mem _ | exact allI_ints _ | exact allI_rks _ | exact allI_pths _ | exact Pth.nil _ | exact Rks.nil _ | (intro hh; simp only [Pth.nil _ hh, List.take_nil, List.drop_nil]; done) | (intro hh; simp only [Rks.nil _ hh, List.take_nil, List.drop_nil]; done) | (simp only [List.length_take, List.length_drop, List.length_append, List.length_cons, List.length_nil, List.length_replicate, List.length_map, ints_len]; omega)) only [go_sem, if_pos, if_neg, Nat.reduceBEq, Nat.reduceEqDiff, ↓reduceIte, Nat.reduceSub, Nat.reduceAdd, Int.reduceToNat, reduceCtorEq, Nat.reduceLeDiff, Nat.reduceLT, Nat.reduceMul, Nat.reduceDiv, Int.reduceLT, Int.reduceLE, Int.reduceEq, Int.reduceNe, Int.reduceAdd, Int.reduceSub, Int.reduceNeg, Int.reduceGT, Int.reduceGE, Int.reduceBEq, Int.reduceBNe, Int.reduceMul, *])
      exact fin_upd hid (by simp) hd hall
end Go.Proofs.Ytopiaiibpacmlaa.Av
namespace Go.Proofs.Ytopiaiibpacmlaa.Av
open Go.RowKit
set_option linter.unusedSimpArgs false
set_option linter.unusedVariables false
set_option maxHeartbeats 10000000
theorem set3 {M : MS} {a b : Option (List AV)} {X : MS} {id : Nat} (h : M.length + 2 ≤ id) (c : Option (List AV)) : (M ++ (a :: b :: X)).set id c = M ++ (a :: b :: X.set (id - (M.length + 2)) c) := by
  rw [List.set_append_right _ _ (by omega), show id - M.length = (id - (M.length + 2)) + 1 + 1 by omega, List.set_cons_succ, List.set_cons_succ]
theorem get3 {M : MS} {a b : Option (List AV)} {X : MS} {id : Nat} (h : M.length + 2 ≤ id) : (M ++ (a :: b :: X))[id]? = X[id - (M.length + 2)]? := by
  rw [List.getElem?_append_right (by omega), show id - M.length = (id - (M.length + 2)) + 1 + 1 by omega, List.getElem?_cons_succ, List.getElem?_cons_succ]
theorem small_cp {l : List Rks} (hS : SmallX l) : SmallX (l.map cpR) := by
  refine ⟨by simpa using hS.1, fun r hr => ?_⟩
  obtain ⟨r', hr', rfl⟩ := List.mem_map.1 hr
  have h := hS.2 r' hr'
  refine ⟨by simpa [cpR] using h.1, fun q hq => ?_⟩
  obtain ⟨q', hq', rfl⟩ := List.mem_map.1 (show q ∈ r'.l.map cpQ from hq)
  exact h.2 q' hq'
theorem lok_cp {l : List Rnk} {v n : Int} (h : LOk l v n) : LOk (l.map cpQ) v n := by
  refine ⟨by simpa using h.1, fun i hi => ?_⟩
  have hi' : i < l.length := by simpa using hi
  obtain ⟨h1, h2, h3⟩ := h.2 i hi'
  refine ⟨by simpa [cpQ] using h1, by simpa [cpQ, cln] using h2, ?_⟩
  rw [← List.map_take, pl_cpQ]
  simpa [cpQ, cln] using h3
theorem may_cp {l : List Rks} {n : Int} (hX : MayX n l) : MayX n (l.map cpR) := by
  obtain ⟨h1, h2, h3, h4, h5⟩ := hX
  refine ⟨h1, h2, by simpa using h3, fun h => ?_, fun v hv hv1 => ?_⟩
  · have h' : 0 < l.length := by simpa using h
    simp [cpR, h4 h']
  · have hv' : v < l.length := by simpa using hv
    have := lok_cp (h5 v hv' hv1)
    simpa [cpR] using this
theorem fin_tr {M X : MS} {N : Nat} {k : Int} {id : Nat} {l' : List Rks} (hb : M.length ≤ id) (hi : X[id]? = some (some (l'.map Rks.av))) (hl : l'.length = N) (hall : allI (l'.map Rks.av) = true) :
    fin M.length false (.tup [.agg [.flat (.int .i64 N), .ms id 0 N 1 false], .flat (.int .i64 k), .flat (.int .i64 0)]) X [] = some (.q (.tup [.agg [.flat (.int .i64 N), .list 1 (l'.map Rks.av) false false], .flat (.int .i64 k), .flat (.int .i64 0)])) := by
  have h1 : frzAll M.length X [.flat (.int .i64 N), .ms id 0 N 1 false] = some ([.flat (.int .i64 N), .list 1 (l'.map Rks.av) false false], X.set id none) := by
    simp only [frzAll, frz, isI, if_true, hi]
    rw [if_pos ⟨hb, by simp [hl], hall⟩]
    simp only
    rw [List.drop_zero, Nat.mul_one, List.take_of_length_le (by simp [hl])]
  simp only [fin, Bool.false_eq_true, if_false, frzV, frzTup, frzA, h1, Option.map_some, frz, isI, if_true]
  exact if_pos rfl
theorem t30 (n : Int) (l : List Rks) (nl cd : Bool) (M : MS) (hS : SmallX l) : ∃ x, ev pr 30 [.agg [.flat (.int .i64 n), .list 1 (l.map Rks.av) nl cd]] M = some (.q x) ∧
    (¬ MayX n l → x = .tup [.agg [.flat (.int .i64 0), .list 1 [] true true], .flat (.int .i64 0), .flat (.int .i64 1)]) ∧
    (MayX n l → ∃ (k : Nat) (l' : List Rks), x = .tup [.agg [.flat (.int .i64 n), .list 1 (l'.map Rks.av) false false], .flat (.int .i64 k), .flat (.int .i64 0)] ∧ l'.length = l.length ∧ MayX n l' ∧ SmallX l' ∧ Red k (plX l) (plX l') ∧ NF (plX l')) := by
  have h76 := fun M => t76 n l nl cd M hS
  by_cases hX : MayX n l
  · simp only [hX, decide_true] at h76
    obtain rfl : n = l.length := hX.2.2.1.symm
    obtain ⟨out29, h29, w, G0, rfl, hO⟩ := t29 l.length l nl cd (M ++ [some [.flat (.int .i64 l.length), .list 1 (l.map Rks.av) nl cd], some [.flat (.int .i64 0), .list 1 [] true true]]) (by have := hS.1; omega) fun r hr => ⟨by have := (hS.2 r hr).1; omega, fun q hq => by have := (hS.2 r hr).2 q hq; omega⟩
    rcases hO.own with ⟨_, h0⟩ | ⟨id, i1, i2, rfl, i4⟩
    · exfalso
      rw [List.map_eq_nil_iff, List.map_eq_nil_iff] at h0
      have := hX.1
      have h00 := congrArg List.length h0
      simp only [List.length_nil] at h00
      omega
    · suffices hs : ∃ out, ev pr 30 [.agg [.flat (.int .i64 l.length), .list 1 (l.map Rks.av) nl cd]] M = some out ∧ ∃ (k : Nat) (l' : List Rks), out = .q (.tup [.agg [.flat (.int .i64 l.length), .list 1 (l'.map Rks.av) false false], .flat (.int .i64 k), .flat (.int .i64 0)]) ∧ l'.length = l.length ∧ MayX l.length l' ∧ SmallX l' ∧ Red k (plX l) (plX l') ∧ NF (plX l') by
        obtain ⟨out, h1, k, l', rfl, h2⟩ := hs
        exact ⟨_, h1, fun h => absurd hX h, fun _ => ⟨k, l', rfl, h2⟩⟩
      have hid : M.length + 2 ≤ id := by simp at i1; omega
      have i2' : id < M.length + 2 + G0.length := by simp at i2; omega
      have hlm : ((l.map cpR).map Rks.av).length / 1 = l.length := by simp
      rw [hlm] at h29
      have hml := may_cp hX
      have hms := small_cp hS
      have hmp := plX_cp l
      have h840 := tot_small hS
      obtain ⟨N, hN⟩ : ∃ N, N = l.length := ⟨_, rfl⟩
      have hNH : Hid (N = l.length) := hN
      have hN2 : (l.map cpR).length = N := by simp [hN]
      obtain ⟨lc0, hlc0⟩ : ∃ lc, lc = l.map cpR := ⟨_, rfl⟩
      rw [← hlc0] at i4 hml hms hmp hN2
      rw [← hN] at h29 hml ⊢
      rw [← hN] at h76
      have hP : M.length + 2 ≤ M.length + (G0.length + 2) := by omega
      have hPn : id ≠ M.length + (G0.length + 2) := by omega
      simp only [List.append_assoc, List.cons_append, List.nil_append] at i4
      have hnil : ∀ k : Nat, dirt M.length (M.length + k) ([] : List Nat) = [] := fun k => dirt_out (by omega)
      clear hN hlc0 hO i1 i2 hlm hX hS
      refine ev_fnE A30 ?_
      repeat' (first | ((with_reducible first | apply S_0 | apply S_q1 | apply S_g | apply S_c); exact sgc) | (with_reducible first | apply SO_q | apply SG_t | apply SG_f0 | apply SG_f1 | apply S_nil | apply T_n | apply W_seq | apply W_region | apply SO_x | apply SC_t | apply SC_f | apply W_block | apply W_ret | apply W_skip | apply W_exit | apply T_r | apply T_e | apply B_n | apply B_e) | (with_reducible apply B_ne; focus decide) | (with_reducible first | apply B_r | apply R_e | apply R_r | apply H_e | apply H_r | apply G_e | apply G_r) | (with_reducible apply SC_n) | ((with_reducible first | apply SC_d | apply SG_d | apply SG_n | apply SC_b | apply SG_b) <;> intro hc <;> try simp only [decide_eq_true_eq, decide_eq_false_iff_not, Classical.not_not, Bool.not_eq_true', Bool.not_eq_false'] at hc))
      refine W_whl (fun q e m d => ∃ (k : Nat) (lc : List Rks) (X : MS), q = tot (plX lc) ∧ e 6 = .flat (.int .i64 k) ∧ m = M ++ (some [.flat (.int .i64 N), .list 1 (l.map Rks.av) nl cd] :: some [.flat (.int .i64 0), .list 1 [] true true] :: X) ∧ d = [] ∧ (∀ a b, (M ++ (a :: b :: X))[id]? = some (some (lc.map Rks.av))) ∧ (∀ a b, (M ++ (a :: b :: X))[M.length + (G0.length + 2)]? = some (some [.flat (.int .i64 N), .ms id 0 N 1 false])) ∧ lc.length = N ∧ MayX N lc ∧ SmallX lc ∧ Red k (plX l) (plX lc)) (tot (plX lc0)) (by simp only [asg, asgO, List.append_nil, List.nil_append, List.cons_append]; rfl)
        ⟨0, lc0, G0 ++ [some [.flat (.int .i64 N), .ms id 0 N 1 false]], rfl, by exact svc, by simp, rfl, ?_, ?_, hN2, hml, hms, by rw [hmp]; exact .refl _⟩ ?_
      · intro a b
        rw [get3 hid] at i4 ⊢
        rw [List.getElem?_append_left (by omega)]; exact i4
      · intro a b
        rw [get3 hP, show M.length + (G0.length + 2) - (M.length + 2) = G0.length by omega, List.getElem?_append_right (Nat.le_refl _), Nat.sub_self]
        rfl
      rintro q e m d hk ⟨k, lc, X, rfl, e6, rfl, rfl, hXi, hXP, hlc, hXm, hXs, hR⟩
      have k5 : e 5 = .mptr (M.length + (G0.length + 2)) 0 := by rw [hk 5 rfl]; exact svc
      have k2 : e 2 = .mptr (M.length + 1) 0 := by rw [hk 2 rfl]; exact svc
      have k1 : e 1 = .mptr M.length 0 := by rw [hk 1 rfl]; exact svc
      obtain ⟨out, h77, k7, l', hU, hl', hXm', hXs', hR', hNF⟩ := t77 (l := lc) (c1 := false) (List.getElem?_eq_some_iff.1 (hXi (some [.flat (.int .i64 N), .list 1 (l.map Rks.av) nl cd]) (some [.flat (.int .i64 0), .list 1 [] true true]))).1 (hXi _ _) (by rw [hlc]; exact hXm) hXs
      rw [hlc] at h77 hl' hXm'
      have ht1 := red_tot hR'
      have ht2 := red_tot hR
      have hkk := red_trans hR hR'
      have shp : ∃ X', (out = .q (.flat (.int .i64 k7)) ∧ X' = X ∨ ∃ D, out = .x (.flat (.int .i64 k7)) (M ++ (some [.flat (.int .i64 N), .list 1 (l.map Rks.av) nl cd] :: some [.flat (.int .i64 0), .list 1 [] true true] :: X')) D ∧ List.filter (fun x => decide (x < M.length)) D = []) ∧
          (∀ a b, (M ++ (a :: b :: X'))[id]? = some (some (l'.map Rks.av))) ∧ (∀ a b, (M ++ (a :: b :: X'))[M.length + (G0.length + 2)]? = some (some [.flat (.int .i64 N), .ms id 0 N 1 false])) := by
        rcases hU with ⟨rfl, h⟩ | ⟨D, _, rfl, hD⟩
        · refine ⟨X, .inl ⟨rfl, rfl⟩, fun a b => ?_, hXP⟩
          rw [get3 hid] at h ⊢
          exact h
        · refine ⟨X.set (id - (M.length + 2)) (some (l'.map Rks.av)), .inr ⟨D, by rw [set3 hid], filter_ge (b := id) (fun x hx => by rw [hD x hx]; exact Nat.le_refl _) (by omega)⟩, fun a b => ?_, fun a b => ?_⟩
          · have := hXi a b
            rw [get3 hid] at this ⊢
            rw [List.getElem?_set_self (List.getElem?_eq_some_iff.1 this).1]
          · have := hXP a b
            rw [get3 hP] at this ⊢
            rw [List.getElem?_set_ne (by omega)]
            exact this
      obtain ⟨X', hsh, hXi', hXP'⟩ := shp
      have hall := allI_rkss l'
      have htl : List.take N (l'.map Rks.av) = l'.map Rks.av := List.take_of_length_le (by simp; omega)
      have hal : ∀ a b, aliveA (M ++ (a :: b :: X)) (M.length + (G0.length + 2)) = true := fun a b => by simp only [aliveA, hXP]
      clear hk hU i4 h29
      by_cases h70 : k7 = 0
      · have h70' : (k7 : Int) = 0 := by omega
        rcases hsh with ⟨rfl, rfl⟩ | ⟨D, rfl, hfil⟩
        · repeat' (first | ((with_reducible first | apply S_0 | apply S_q1 | apply S_g | apply S_c); exact sgc) | (with_reducible first | apply SO_q | apply SG_t | apply SG_f0 | apply SG_f1 | apply S_nil | apply T_n | apply W_seq | apply W_region | apply SO_x | apply SC_t | apply SC_f | apply W_block | apply W_ret | apply W_skip | apply W_exit | apply T_r | apply T_e | apply B_n | apply B_e) | (with_reducible apply B_ne; focus decide) | (with_reducible first | apply B_r | apply R_e | apply R_r | apply H_e | apply H_r | apply G_e | apply G_r) | (with_reducible apply SC_n) | ((with_reducible first | apply SC_d | apply SG_d | apply SG_n | apply SC_b | apply SG_b) <;> intro hc <;> try simp only [decide_eq_true_eq, decide_eq_false_iff_not, Classical.not_not, Bool.not_eq_true', Bool.not_eq_false'] at hc))
          refine ⟨.inr rfl, _, ?_, k + k7, l', rfl, hl', hXm', hXs', hkk, hNF h70⟩
          simp only [resA, rvA, tupA, Option.bind_some]
          (simp (disch := first | assumption | decide | omega | exact Pth.le _ | exact Rks.le _ | exact List.getElem_mem _ | exact allI_ints _ | exact allI_rks _ | exact allI_pths _ | exact Pth.nil _ | exact Rks.nil _ | (intro hh; simp only [Pth.nil _ hh, List.take_nil, List.drop_nil]; done) | (intro hh; simp only [Rks.nil _ hh, List.take_nil, List.drop_nil]; done) | (simp only [List.length_take, List.length_drop, List.length_append, List.length_cons, List.length_nil, List.length_replicate, List.length_map, ints_len]; omega)) only [go_sem, if_pos, if_neg, Nat.reduceBEq, Nat.reduceEqDiff, ↓reduceIte, Nat.reduceSub, Nat.reduceAdd, Int.reduceToNat, reduceCtorEq, Nat.reduceLeDiff, Nat.reduceLT, Nat.reduceMul, Nat.reduceDiv, Int.reduceLT, Int.reduceLE, Int.reduceEq, Int.reduceNe, Int.reduceAdd, Int.reduceSub, Int.reduceNeg, Int.reduceGT, Int.reduceGE, Int.reduceBEq, Int.reduceBNe, Int.reduceMul, *])
          rw [Int.add_zero]
          exact fin_tr (by omega) (hXi' _ _) hl' hall
        · repeat' (first | ((with_reducible first | apply S_0 | apply S_q1 | apply S_g | apply S_c); exact sgc) | (with_reducible first | apply SO_q | apply SG_t | apply SG_f0 | apply SG_f1 | apply S_nil | apply T_n | apply W_seq | apply W_region | apply SO_x | apply SC_t | apply SC_f | apply W_block | apply W_ret | apply W_skip | apply W_exit | apply T_r | apply T_e | apply B_n | apply B_e) | (with_reducible apply B_ne; focus decide) | (with_reducible first | apply B_r | apply R_e | apply R_r | apply H_e | apply H_r | apply G_e | apply G_r) | (with_reducible apply SC_n) | ((with_reducible first | apply SC_d | apply SG_d | apply SG_n | apply SC_b | apply SG_b) <;> intro hc <;> try simp only [decide_eq_true_eq, decide_eq_false_iff_not, Classical.not_not, Bool.not_eq_true', Bool.not_eq_false'] at hc))
          refine ⟨.inr rfl, _, ?_, k + k7, l', rfl, hl', hXm', hXs', hkk, hNF h70⟩
          simp only [resA, rvA, tupA, Option.bind_some]
          (simp (disch := first | assumption | decide | omega | exact Pth.le _ | exact Rks.le _ | exact List.getElem_mem _ | exact allI_ints _ | exact allI_rks _ | exact allI_pths _ | exact Pth.nil _ | exact Rks.nil _ | (intro hh; simp only [Pth.nil _ hh, List.take_nil, List.drop_nil]; done) | (intro hh; simp only [Rks.nil _ hh, List.take_nil, List.drop_nil]; done) | (simp only [List.length_take, List.length_drop, List.length_append, List.length_cons, List.length_nil, List.length_replicate, List.length_map, ints_len]; omega)) only [go_sem, if_pos, if_neg, Nat.reduceBEq, Nat.reduceEqDiff, ↓reduceIte, Nat.reduceSub, Nat.reduceAdd, Int.reduceToNat, reduceCtorEq, Nat.reduceLeDiff, Nat.reduceLT, Nat.reduceMul, Nat.reduceDiv, Int.reduceLT, Int.reduceLE, Int.reduceEq, Int.reduceNe, Int.reduceAdd, Int.reduceSub, Int.reduceNeg, Int.reduceGT, Int.reduceGE, Int.reduceBEq, Int.reduceBNe, Int.reduceMul, *])
          rw [Int.add_zero]
          exact fin_tr (by omega) (hXi' _ _) hl' hall
      · have h70' : ¬ (k7 : Int) = 0 := by omega
        rcases hsh with ⟨rfl, rfl⟩ | ⟨D, rfl, hfil⟩
        · repeat' (first | ((with_reducible first | apply S_0 | apply S_q1 | apply S_g | apply S_c); exact sgc) | (with_reducible first | apply SO_q | apply SG_t | apply SG_f0 | apply SG_f1 | apply S_nil | apply T_n | apply W_seq | apply W_region | apply SO_x | apply SC_t | apply SC_f | apply W_block | apply W_ret | apply W_skip | apply W_exit | apply T_r | apply T_e | apply B_n | apply B_e) | (with_reducible apply B_ne; focus decide) | (with_reducible first | apply B_r | apply R_e | apply R_r | apply H_e | apply H_r | apply G_e | apply G_r) | (with_reducible apply SC_n) | ((with_reducible first | apply SC_d | apply SG_d | apply SG_n | apply SC_b | apply SG_b) <;> intro hc <;> try simp only [decide_eq_true_eq, decide_eq_false_iff_not, Classical.not_not, Bool.not_eq_true', Bool.not_eq_false'] at hc))
          exact R_n (tot (plX l')) (by omega) ⟨k + k7, l', _, rfl, by exact svc, rfl, by exact svc, hXi', hXP', hl', hXm', hXs', hkk⟩
        · repeat' (first | ((with_reducible first | apply S_0 | apply S_q1 | apply S_g | apply S_c); exact sgc) | (with_reducible first | apply SO_q | apply SG_t | apply SG_f0 | apply SG_f1 | apply S_nil | apply T_n | apply W_seq | apply W_region | apply SO_x | apply SC_t | apply SC_f | apply W_block | apply W_ret | apply W_skip | apply W_exit | apply T_r | apply T_e | apply B_n | apply B_e) | (with_reducible apply B_ne; focus decide) | (with_reducible first | apply B_r | apply R_e | apply R_r | apply H_e | apply H_r | apply G_e | apply G_r) | (with_reducible apply SC_n) | ((with_reducible first | apply SC_d | apply SG_d | apply SG_n | apply SC_b | apply SG_b) <;> intro hc <;> try simp only [decide_eq_true_eq, decide_eq_false_iff_not, Classical.not_not, Bool.not_eq_true', Bool.not_eq_false'] at hc))
          exact R_n (tot (plX l')) (by omega) ⟨k + k7, l', _, rfl, by exact svc, rfl, by exact svc, hXi', hXP', hl', hXm', hXs', hkk⟩
  · refine ⟨_, ?_, fun _ => rfl, fun h => absurd h hX⟩
    simp only [hX, decide_false] at h76
    refine ev_fn' A30 ?_
    repeat' (first | ((with_reducible first | apply S_0 | apply S_q1 | apply S_g | apply S_c); exact sgc) | (with_reducible first | apply SO_q | apply SG_t | apply SG_f0 | apply SG_f1 | apply S_nil | apply T_n | apply W_seq | apply W_region | apply SO_x | apply SC_t | apply SC_f | apply W_block | apply W_ret | apply W_skip | apply W_exit | apply T_r | apply T_e | apply B_n | apply B_e) | (with_reducible apply B_ne; focus decide) | (with_reducible first | apply B_r | apply R_e | apply R_r | apply H_e | apply H_r | apply G_e | apply G_r) | (with_reducible apply SC_n) | ((with_reducible first | apply SC_d | apply SG_d | apply SG_n | apply SC_b | apply SG_b) <;> intro hc <;> try simp only [decide_eq_true_eq, decide_eq_false_iff_not, Classical.not_not, Bool.not_eq_true', Bool.not_eq_false'] at hc))
    (refine ⟨by first | exact .inr rfl | exact .inl rfl, ?_⟩; simp (disch := first | assumption | decide | omega | exact Pth.le _ | exact Rks.le _ | exact List.getElem_mem _ | exact allI_ints _ | exact allI_rks _ | exact allI_pths _ | exact Pth.nil _ | exact Rks.nil _ | (intro hh; simp only [Pth.nil _ hh, List.take_nil, List.drop_nil]; done) | (intro hh; simp only [Rks.nil _ hh, List.take_nil, List.drop_nil]; done) | (simp only [List.length_take, List.length_drop, List.length_append, List.length_cons, List.length_nil, List.length_replicate, List.length_map, ints_len]; omega)) only [resA, rvA, tupA, fin, frzV, frzTup, frzA, frz, isI, isI.all, Option.bind_some, go_sem, if_pos, if_neg, Nat.reduceBEq, Nat.reduceEqDiff, ↓reduceIte, Nat.reduceSub, Nat.reduceAdd, Int.reduceToNat, reduceCtorEq, Nat.reduceLeDiff, Nat.reduceLT, Nat.reduceMul, Nat.reduceDiv, Int.reduceLT, Int.reduceLE, Int.reduceEq, Int.reduceNe, Int.reduceAdd, Int.reduceSub, Int.reduceNeg, Int.reduceGT, Int.reduceGE, Int.reduceBEq, Int.reduceBNe, Int.reduceMul, *])
    rfl
end Go.Proofs.Ytopiaiibpacmlaa.Av
namespace Go.Proofs.Ytopiaiibpacmlaa.Av
open Go.RowKit
set_option linter.unusedSimpArgs false
set_option linter.unusedVariables false
set_option maxHeartbeats 10000000
section
variable {p : Pr} {base : Nat} {env : Env} {M : MS} {D : List Nat} {d : Option Nat} {r : List AOp} {R : Env → MS → List Nat → Prop}
/-- One's own row, given up into a row of one. -/
theorem S_bslO {lo sz : Nat} {x : O} {zs : List AV} {w : AV} (B G : MS) {cs : List AV} (hO : Own lo (B ++ G) w sz cs) (hlo : B.length ≤ lo) (hb : base ≤ lo) (hM : M = B ++ G) (hx : x.ev env = w) (hz : zs.length = 1)
    (h : ∀ G', WS p base 0 r (updO env d (.list 1 [lst sz cs] false true)) (B ++ G') D R) :
    WS p base 0 (⟨d, .bslice 1 1 zs [(0, 1, x)], none⟩ :: r) env M D R := by
  subst hM
  have hlen := hO.buf.len
  have hc := hO.cell
  have hf : fillA (List.replicate 1 zs).flatten (List.map (fun x => match x with | (o, n, x) => (o, n, x.ev env)) [(0, 1, x)]) = some [w] := by
    match zs, hz with
    | [z], _ => simp [fillA, hx, hc]
  obtain ⟨h0, hA, _, ⟨h1, h2⟩ | ⟨h1, i2, h2, h3, h4, h5⟩⟩ := hO
  · subst h1 h2
    have hv : evI (ev p) base env (B ++ G) D (.bslice 1 1 zs [(0, 1, x)]) = some (.q (.list 1 [lst sz []] false true)) := by
      simp only [evI, hf]
      rfl
    exact S_0 hv (SO_q (h G))
  · subst h4
    have hl : lst sz cs = .list sz cs false false := by
      cases cs with
      | nil => exact absurd rfl h1
      | cons _ _ => rfl
    have hv : evI (ev p) base env (B ++ G) D (.bslice 1 1 zs [(0, 1, x)]) = some (.x (.list 1 [lst sz cs] false true) (B ++ G.set (i2 - B.length) none) D) := by
      simp only [evI, hf, allI, isI, Bool.false_and, Bool.false_eq_true, if_false]
      simp only [frzAll, frz, h5]
      rw [if_pos ⟨Nat.zero_le _, by omega, hA⟩]
      simp only [List.drop_zero, dirts, dirt]
      rw [if_neg (by omega), hlen, List.take_length, List.set_append_right _ _ (by omega), hl]
    exact S_0 hv (SO_x (h _))
end
/-- The rows without the i-th path of v. -/
noncomputable def woK (l : List Rks) (v i : Nat) : Nat → List Rks
  | 0 => []
  | k + 1 => woK l v i k ++ (if h : k < l.length then [kpR (fun j _ => k = v ∧ j = i) l[k]] else [])
theorem woK_len (l : List Rks) (v i : Nat) : ∀ k, k ≤ l.length → (woK l v i k).length = k
  | 0, _ => rfl
  | k + 1, h => by rw [woK, dif_pos (by omega), List.length_append, woK_len l v i k (by omega)]; rfl
theorem woK_get {l : List Rks} {v i : Nat} : ∀ {k}, k ≤ l.length → ∀ u (h : u < k) (h' : u < l.length) (h2 : u < (woK l v i k).length), (woK l v i k)[u] = kpR (fun j _ => u = v ∧ j = i) l[u]
  | k + 1, hk, u, h, h', h2 => by
    have hl := woK_len l v i k (by omega)
    simp only [woK, dif_pos (show k < l.length by omega)]
    rw [List.getElem_append]
    split
    · rename_i hu
      exact woK_get (by omega) u (by omega) h' hu
    · rename_i hu
      have : u = k := by omega
      subst this
      simp
theorem sub_eq {l' l : List Pa} (h : l'.Sublist l) (hn : l.Nodup) {K : Pa → Bool} (hm : ∀ p ∈ l, p ∈ l' ↔ K p = true) : l' = l.filter K := by
  rw [← sub_filter h hn]
  exact List.filter_congr fun p hp => by rw [Bool.eq_iff_iff]; simpa using hm p hp
theorem wo_may {l : List Rks} {v i : Nat} (hX : MayX l.length l) (hS : SmallX l) (hv1 : 1 ≤ v) (hv : v < l.length) (hi : i < l[v].l.length) :
    MayX l.length (woK l v i l.length) ∧ SmallX (woK l v i l.length) ∧ plX (woK l v i l.length) = delP (plX l) l[v].l[i].p.l := by
  have hlen := woK_len l v i l.length (Nat.le_refl _)
  have hget := fun u h h' => woK_get (l := l) (v := v) (i := i) (Nat.le_refl _) u h h h'
  have hsub := fun u (h : u < l.length) => kpI_subl (fun j _ => u = v ∧ j = i) l[u].l
  obtain ⟨h1, h2, h3, h4, h5⟩ := hX
  refine ⟨⟨h1, h2, by rw [hlen], fun h => ?_, fun u hu hu1 => ?_⟩, ⟨by rw [hlen]; exact hS.1, fun q hq => ?_⟩, ?_⟩
  · have h0 : 0 < l.length := by omega
    rw [hget 0 h0]
    simp [kpR, h4 h0, kpI]
  · rw [hlen] at hu
    rw [hget u hu]
    exact lok_sub (h5 u hu hu1) (hsub u hu) (kpI_rk _ _ _)
  · obtain ⟨u, hu, rfl⟩ := List.mem_iff_getElem.1 hq
    rw [hlen] at hu
    rw [hget u hu]
    have hl := hS.2 _ (List.getElem_mem hu)
    have := (hsub u hu).length_le
    rw [paths_len, paths_len] at this
    refine ⟨by show (kpI _ _ _).length ≤ 70; omega, fun p hp => ?_⟩
    obtain ⟨p', hp', e⟩ := List.mem_map.1 ((hsub u hu).subset (List.mem_map.2 ⟨p, hp, rfl⟩))
    rw [← e]; exact hl.2 p' hp'
  · refine List.ext_getElem (by rw [plX_len, delP, keep_len, plX_len, hlen]) fun u h6 h7 => ?_
    rw [plX_len, hlen] at h6
    have e1 : (plX (woK l v i l.length))[u]'(by rw [plX_len, hlen]; exact h6) = paths (kpI (fun j _ => u = v ∧ j = i) l[u].l l[u].l.length) := by
      simp only [plX, List.getElem_map]
      rw [hget u h6]; rfl
    have e2 : (delP (plX l) l[v].l[i].p.l)[u]'h7 = (paths l[u].l).filter fun q => decide (q ≠ l[v].l[i].p.l) := by simp [delP, keepL, plX]
    rw [e1, e2]
    rcases Nat.eq_zero_or_pos u with rfl | hu1
    · rw [h4 h6]; rfl
    · have hok := h5 u h6 hu1
      refine sub_eq (hsub u h6) (lok_nodup hok) fun p hp => ?_
      obtain ⟨j, hj, rfl⟩ := List.mem_iff_getElem.1 hp
      rw [paths_len] at hj
      rw [paths_get, kpI_mem (lok_nodup hok) hj]
      simp only [ne_eq, decide_not, Bool.not_eq_true', decide_eq_false_iff_not]
      refine not_congr ⟨fun ⟨e, e'⟩ => by subst e e'; rfl, fun e => ?_⟩
      obtain ⟨t, ht, _⟩ := pathOk_shape (lok_path hok _ (List.getElem_mem hj))
      obtain ⟨t', ht', _⟩ := pathOk_shape (lok_path (h5 v hv hv1) _ (List.getElem_mem hi))
      rw [ht, ht'] at e
      simp only [List.cons.injEq] at e
      have huv : u = v := by omega
      subst huv
      refine ⟨rfl, ?_⟩
      have hne := lok_nodup hok
      rcases Nat.lt_trichotomy j i with h | h | h
      · have := List.pairwise_iff_getElem.1 hne j i (by rw [paths_len]; exact hj) (by rw [paths_len]; exact hi) h
        rw [paths_get, paths_get] at this
        exact absurd (by rw [ht, ht', e.2]) this
      · exact h
      · have := List.pairwise_iff_getElem.1 hne i j (by rw [paths_len]; exact hi) (by rw [paths_len]; exact hj) h
        rw [paths_get, paths_get] at this
        exact absurd (by rw [ht, ht', e.2]) this
theorem Own.cast {lo : Nat} {m m' : MS} {x : AV} {sz : Nat} {cs : List AV} (h : Own lo m x sz cs) (e : m = m') : Own lo m' x sz cs := e ▸ h
theorem fin_ag {b lo : Nat} {X : MS} {v : Value} {w : AV} {cs : List AV} (hO : Own lo X w 1 cs) (hb : b ≤ lo) (hne : cs ≠ []) : fin b false (.agg [.flat v, w]) X [] = some (.q (.agg [.flat v, .list 1 cs false false])) := by
  obtain ⟨_, hA, _, ⟨h1, _⟩ | ⟨_, id, h2, h3, rfl, h5⟩⟩ := hO
  · exact absurd h1 hne
  · have h1 : frzAll b X [.flat v, .ms id 0 (cs.length / 1) 1 false] = some ([.flat v, .list 1 cs false false], X.set id none) := by
      simp only [frzAll, frz, isI, if_true, h5]
      rw [if_pos ⟨by omega, by simp, hA⟩]
      simp only
      rw [List.drop_zero, Nat.mul_one, Nat.div_one, List.take_length]
    simp only [fin, Bool.false_eq_true, if_false, frzV, frzA, h1, Option.map_some]
    exact if_pos rfl
theorem t114 {l : List Rks} {rv : AV} {M : MS} {v i : Nat} (hv : Vw M rv (l.map Rks.av) l.length) (hS : SmallX l) (hn : 1 ≤ l.length) :
    ev pr 114 [.agg [.flat (.int .i64 l.length), rv], .flat (.int .i64 v), .flat (.int .i64 i)] M = some (.q (.agg [.flat (.int .i64 l.length), .list 1 ((woK l v i l.length).map Rks.av) false false])) := by
  have h12 := hS.1
  have e0 := hv.vw
  have e1 := hv.len
  have e2 := hv.cell
  clear hv
  refine ev_fn' A114 ?_
  obtain ⟨A, hA⟩ : ∃ A : MS, A = M ++ [some [.flat (.int .i64 l.length), rv], some [.flat (.int .i64 0), .list 1 [] true true]] := ⟨_, rfl⟩
  have hAl : A.length = M.length + 2 := by rw [hA]; simp
  have hAm : ∀ X : MS, A ++ X = M ++ (some [.flat (.int .i64 l.length), rv] :: some [.flat (.int .i64 0), .list 1 [] true true] :: X) := by rw [hA]; simp
  have hAg : ∀ X : MS, (A ++ X)[M.length]? = some (some [.flat (.int .i64 l.length), rv]) := fun X => by rw [hAm]; simp
  have hAv : ∀ X : MS, view (A ++ X) rv = some (l.map Rks.av) := fun X => by rw [hAm]; exact e0 _
  clear hA
  repeat' (first | ((with_reducible first | apply S_0 | apply S_q1 | apply S_g | apply S_c); exact sgc) | (with_reducible first | apply SO_q | apply SG_t | apply SG_f0 | apply SG_f1 | apply S_nil | apply T_n | apply W_seq | apply W_region | apply SO_x | apply SC_t | apply SC_f | apply W_block | apply W_ret | apply W_skip | apply W_exit | apply T_r | apply T_e | apply B_n | apply B_e) | (with_reducible apply B_ne; focus decide) | (with_reducible first | apply B_r | apply R_e | apply R_r | apply H_e | apply H_r | apply G_e | apply G_r) | (with_reducible apply SC_n) | ((with_reducible first | apply SC_d | apply SG_d | apply SG_n | apply SC_b | apply SG_b) <;> intro hc <;> try simp only [decide_eq_true_eq, decide_eq_false_iff_not, Classical.not_not, Bool.not_eq_true', Bool.not_eq_false'] at hc))
  refine W_rngM 8 0 l.length (fun u e m => ∃ w G, m = A ++ [some [.flat (.int .i64 l.length), w]] ++ G ∧ Own (A ++ [some [.flat (.int .i64 l.length), w]]).length m w 1 ((woK l v i u).map Rks.av)) (by simp only [asg, asgO, List.append_nil, List.nil_append, List.cons_append]; rfl) (by exact svc) (by omega)
    ⟨.list 1 [] true true, [], by simp [hAm], by simpa [woK] using Own.nil _ _ (by decide)⟩ ?_
  rintro u e _ _ hu hk e8 ⟨w, G, rfl, hO⟩
  have k1 : e 1 = .flat (.int .i64 v) := by rw [hk 1 rfl]; exact svc
  have k2 : e 2 = .flat (.int .i64 i) := by rw [hk 2 rfl]; exact svc
  have k3 : e 3 = .mptr M.length 0 := by rw [hk 3 rfl]; exact svc
  have k6 : e 6 = .mptr (M.length + 1) 0 := by rw [hk 6 rfl]; exact svc
  have k7 : e 7 = .mptr A.length 0 := by rw [hk 7 rfl, hAl]; exact svc
  clear hk
  have hwl := woK_len l v i u hu
  rcases Nat.lt_or_ge u l.length with hlt | hlt
  · have hlt' : (u : Int) < l.length := by omega
    have hpl := (hS.2 _ (List.getElem_mem hlt)).1
    have hAl' : M.length + 2 ≤ A.length := by omega
    obtain ⟨B, hB⟩ : ∃ B, B = A ++ (some [.flat (.int .i64 l.length), w] :: G) := ⟨_, rfl⟩
    have hBl : A.length + 1 ≤ B.length := by rw [hB]; simp
    have hB3 : ∀ X, (B ++ X)[A.length]? = some (some [.flat (.int .i64 l.length), w]) := fun X => by rw [hB]; simp
    have hBg : ∀ X : MS, (B ++ X)[M.length]? = some (some [.flat (.int .i64 l.length), rv]) := fun X => by rw [hB, List.append_assoc]; exact hAg _
    have hBv : ∀ X : MS, view (B ++ X) rv = some (l.map Rks.av) := fun X => by rw [hB, List.append_assoc]; exact hAv _
    have hBv0 : view B rv = some (l.map Rks.av) := by simpa using hBv []
    have hBg0 : B[M.length]? = some (some [.flat (.int .i64 l.length), rv]) := by simpa using hBg []
    rw [show A ++ [some [AV.flat (Value.int IntKind.i64 l.length), w]] ++ G = B by rw [hB]; simp]
    rw [show A ++ [some [AV.flat (Value.int IntKind.i64 l.length), w]] ++ G = B by rw [hB]; simp] at hO
    have hH : Hid (B = A ++ (some [.flat (.int .i64 l.length), w] :: G)) := hB
    clear hB hAl hAm hAg hAv
    obtain ⟨P, hP⟩ : ∃ P : Nat → List Int → Prop, P = fun j _ => u = v ∧ j = i := ⟨_, rfl⟩
    have hPi : ∀ j q, P j q ↔ u = v ∧ j = i := fun j q => by rw [hP]
    have hw1 : (woK l v i (u + 1)).map Rks.av = (woK l v i u).map Rks.av ++ [lst 2 (rksA (kpI P l[u].l l[u].l.length))] := by
      rw [woK, dif_pos hlt, List.map_append, ← kpR_av, hP]; rfl
    clear hP
    repeat' (first | ((with_reducible first | apply S_0 | apply S_q1 | apply S_g | apply S_c); exact sgc) | (with_reducible first | apply SO_q | apply SG_t | apply SG_f0 | apply SG_f1 | apply S_nil | apply T_n | apply W_seq | apply W_region | apply SO_x | apply SC_t | apply SC_f | apply W_block | apply W_ret | apply W_skip | apply W_exit | apply T_r | apply T_e | apply B_n | apply B_e) | (with_reducible apply B_ne; focus decide) | (with_reducible first | apply B_r | apply R_e | apply R_r | apply H_e | apply H_r | apply G_e | apply G_r) | (with_reducible apply SC_n) | ((with_reducible first | apply SC_d | apply SG_d | apply SG_n | apply SC_b | apply SG_b) <;> intro hc <;> try simp only [decide_eq_true_eq, decide_eq_false_iff_not, Classical.not_not, Bool.not_eq_true', Bool.not_eq_false'] at hc))
    refine W_rngM 10 0 l[u].l.length (fun j e' m => ∃ w9 G2, e' 9 = w9 ∧ m = B ++ G2 ∧ Own B.length (B ++ G2) w9 2 (rksA (kpI P l[u].l j))) (by simp only [asg, asgO, List.append_nil, List.nil_append, List.cons_append]; rfl) (by exact svc) (by omega)
      ⟨.list 2 [] true true, [], by exact svc, by simp, by simpa [kpI, rksA] using Own.nil _ _ (by decide)⟩ ?_
    rintro j e' _ _ hj hk e10 ⟨w9, G2, e9, rfl, hO9⟩
    have j1 : e' 1 = .flat (.int .i64 v) := by rw [hk 1 rfl]; exact svc
    have j2 : e' 2 = .flat (.int .i64 i) := by rw [hk 2 rfl]; exact svc
    have j3 : e' 3 = .mptr M.length 0 := by rw [hk 3 rfl]; exact svc
    have j6 : e' 6 = .mptr (M.length + 1) 0 := by rw [hk 6 rfl]; exact svc
    have j7 : e' 7 = .mptr A.length 0 := by rw [hk 7 rfl]; exact svc
    have j8 : e' 8 = .flat (.int .i64 u) := by rw [hk 8 rfl]; exact svc
    clear hk k1 k2 k3 k6 k7 e8
    have hkl := kpI_len P l[u].l j
    have hwl9 : lenOf w9 = some (kpI P l[u].l j).length := by have := hO9.buf.lenOf; simpa [rks_len] using this
    rcases Nat.lt_or_ge j l[u].l.length with hjl | hjl
    · have hjl' : (j : Int) < l[u].l.length := by omega
      have stay : ¬ P j l[u].l[j].p.l → rksA (kpI P l[u].l (j + 1)) = rksA (kpI P l[u].l j) ++ [.list 1 (intsA l[u].l[j].p.l) l[u].l[j].p.nl l[u].l[j].p.cd, .flat (.int .i64 (kpI P l[u].l j).length)] := fun h => by
        rw [kpI_stay hjl h, rks_app]; simp [rksA, Rnk.cs, Pth.av_eq]
      clear hO
      by_cases huv : u = v
      · subst huv
        by_cases hji : j = i
        · subst hji
          have hg := kpI_gone hjl ((hPi j l[u].l[j].p.l).2 ⟨rfl, rfl⟩)
          clear hw1 stay
          repeat' (first | ((with_reducible first | apply S_0 | apply S_q1 | apply S_g | apply S_c); exact sgc) | (with_reducible first | apply SO_q | apply SG_t | apply SG_f0 | apply SG_f1 | apply S_nil | apply T_n | apply W_seq | apply W_region | apply SO_x | apply SC_t | apply SC_f | apply W_block | apply W_ret | apply W_skip | apply W_exit | apply T_r | apply T_e | apply B_n | apply B_e) | (with_reducible apply B_ne; focus decide) | (with_reducible first | apply B_r | apply R_e | apply R_r | apply H_e | apply H_r | apply G_e | apply G_r) | (with_reducible apply SC_n) | ((with_reducible first | apply SC_d | apply SG_d | apply SG_n | apply SC_b | apply SG_b) <;> intro hc <;> try simp only [decide_eq_true_eq, decide_eq_false_iff_not, Classical.not_not, Bool.not_eq_true', Bool.not_eq_false'] at hc))
          exact G_n (by exact svc) hjl ⟨w9, G2, by exact svc, rfl, by rw [hg]; exact hO9⟩
        · have hji' : ¬ (j : Int) = i := by omega
          have hg := stay fun h => hji ((hPi _ _).1 h).2
          have hgH : Hid (rksA (kpI P l[u].l (j + 1)) = rksA (kpI P l[u].l j) ++ [.list 1 (intsA l[u].l[j].p.l) l[u].l[j].p.nl l[u].l[j].p.cd, .flat (.int .i64 (kpI P l[u].l j).length)]) := hg
          clear hg stay
          repeat' (first | ((with_reducible first | apply S_0 | apply S_q1 | apply S_g | apply S_c); exact sgc) | (with_reducible first | apply SO_q | apply SG_t | apply SG_f0 | apply SG_f1 | apply S_nil | apply T_n | apply W_seq | apply W_region | apply SO_x | apply SC_t | apply SC_f | apply W_block | apply W_ret | apply W_skip | apply W_exit | apply T_r | apply T_e | apply B_n | apply B_e) | (with_reducible apply B_ne; focus decide) | (with_reducible first | apply B_r | apply R_e | apply R_r | apply H_e | apply H_r | apply G_e | apply G_r) | (with_reducible apply SC_n) | ((with_reducible first | apply SC_d | apply SG_d | apply SG_n | apply SC_b | apply SG_b) <;> intro hc <;> try simp only [decide_eq_true_eq, decide_eq_false_iff_not, Classical.not_not, Bool.not_eq_true', Bool.not_eq_false'] at hc))
          (refine S_ownG (cs := rksA (kpI P l[u].l j)) B G2 (by assumption) (by first | rfl | simp only [List.append_assoc, List.cons_append, List.nil_append]) (by exact sgc) (by exact sgc) (by exact sgc) (by exact sgc) (by exact sgc) (by (first | assumption | omega | (simp only [ints_len, Nat.div_one, Nat.one_mul, Nat.mul_one, List.length_map, rks_len, half, List.length_cons, List.length_nil, List.length_append]; omega))) (by (first | assumption | omega | (simp only [ints_len, Nat.div_one, Nat.one_mul, Nat.mul_one, List.length_map, rks_len, half, List.length_cons, List.length_nil, List.length_append]; omega))) (by first | omega | (simp; done) | (simp; omega)) ?_)
          intro v' G' hO2
          have hg : rksA (kpI P l[u].l (j + 1)) = rksA (kpI P l[u].l j) ++ [.list 1 (intsA l[u].l[j].p.l) l[u].l[j].p.nl l[u].l[j].p.cd, .flat (.int .i64 (kpI P l[u].l j).length)] := hgH
          rw [← hg] at hO2
          clear hg hgH
          repeat' (first | ((with_reducible first | apply S_0 | apply S_q1 | apply S_g | apply S_c); exact sgc) | (with_reducible first | apply SO_q | apply SG_t | apply SG_f0 | apply SG_f1 | apply S_nil | apply T_n | apply W_seq | apply W_region | apply SO_x | apply SC_t | apply SC_f | apply W_block | apply W_ret | apply W_skip | apply W_exit | apply T_r | apply T_e | apply B_n | apply B_e) | (with_reducible apply B_ne; focus decide) | (with_reducible first | apply B_r | apply R_e | apply R_r | apply H_e | apply H_r | apply G_e | apply G_r) | (with_reducible apply SC_n) | ((with_reducible first | apply SC_d | apply SG_d | apply SG_n | apply SC_b | apply SG_b) <;> intro hc <;> try simp only [decide_eq_true_eq, decide_eq_false_iff_not, Classical.not_not, Bool.not_eq_true', Bool.not_eq_false'] at hc))
          exact G_n (by exact svc) hjl ⟨v', G', by exact svc, rfl, hO2⟩
      · have huv' : ¬ (u : Int) = v := by omega
        have hg := stay fun h => huv ((hPi _ _).1 h).1
        have hgH : Hid (rksA (kpI P l[u].l (j + 1)) = rksA (kpI P l[u].l j) ++ [.list 1 (intsA l[u].l[j].p.l) l[u].l[j].p.nl l[u].l[j].p.cd, .flat (.int .i64 (kpI P l[u].l j).length)]) := hg
        clear hg stay
        repeat' (first | ((with_reducible first | apply S_0 | apply S_q1 | apply S_g | apply S_c); exact sgc) | (with_reducible first | apply SO_q | apply SG_t | apply SG_f0 | apply SG_f1 | apply S_nil | apply T_n | apply W_seq | apply W_region | apply SO_x | apply SC_t | apply SC_f | apply W_block | apply W_ret | apply W_skip | apply W_exit | apply T_r | apply T_e | apply B_n | apply B_e) | (with_reducible apply B_ne; focus decide) | (with_reducible first | apply B_r | apply R_e | apply R_r | apply H_e | apply H_r | apply G_e | apply G_r) | (with_reducible apply SC_n) | ((with_reducible first | apply SC_d | apply SG_d | apply SG_n | apply SC_b | apply SG_b) <;> intro hc <;> try simp only [decide_eq_true_eq, decide_eq_false_iff_not, Classical.not_not, Bool.not_eq_true', Bool.not_eq_false'] at hc))
        (refine S_ownG (cs := rksA (kpI P l[u].l j)) B G2 (by assumption) (by first | rfl | simp only [List.append_assoc, List.cons_append, List.nil_append]) (by exact sgc) (by exact sgc) (by exact sgc) (by exact sgc) (by exact sgc) (by (first | assumption | omega | (simp only [ints_len, Nat.div_one, Nat.one_mul, Nat.mul_one, List.length_map, rks_len, half, List.length_cons, List.length_nil, List.length_append]; omega))) (by (first | assumption | omega | (simp only [ints_len, Nat.div_one, Nat.one_mul, Nat.mul_one, List.length_map, rks_len, half, List.length_cons, List.length_nil, List.length_append]; omega))) (by first | omega | (simp; done) | (simp; omega)) ?_)
        intro v' G' hO2
        have hg : rksA (kpI P l[u].l (j + 1)) = rksA (kpI P l[u].l j) ++ [.list 1 (intsA l[u].l[j].p.l) l[u].l[j].p.nl l[u].l[j].p.cd, .flat (.int .i64 (kpI P l[u].l j).length)] := hgH
        rw [← hg] at hO2
        clear hg hgH
        repeat' (first | ((with_reducible first | apply S_0 | apply S_q1 | apply S_g | apply S_c); exact sgc) | (with_reducible first | apply SO_q | apply SG_t | apply SG_f0 | apply SG_f1 | apply S_nil | apply T_n | apply W_seq | apply W_region | apply SO_x | apply SC_t | apply SC_f | apply W_block | apply W_ret | apply W_skip | apply W_exit | apply T_r | apply T_e | apply B_n | apply B_e) | (with_reducible apply B_ne; focus decide) | (with_reducible first | apply B_r | apply R_e | apply R_r | apply H_e | apply H_r | apply G_e | apply G_r) | (with_reducible apply SC_n) | ((with_reducible first | apply SC_d | apply SG_d | apply SG_n | apply SC_b | apply SG_b) <;> intro hc <;> try simp only [decide_eq_true_eq, decide_eq_false_iff_not, Classical.not_not, Bool.not_eq_true', Bool.not_eq_false'] at hc))
        exact G_n (by exact svc) hjl ⟨v', G', by exact svc, rfl, hO2⟩
    · have hjl' : ¬ (j : Int) < l[u].l.length := by omega
      obtain rfl : j = l[u].l.length := by omega
      repeat' (first | ((with_reducible first | apply S_0 | apply S_q1 | apply S_g | apply S_c); exact sgc) | (with_reducible first | apply SO_q | apply SG_t | apply SG_f0 | apply SG_f1 | apply S_nil | apply T_n | apply W_seq | apply W_region | apply SO_x | apply SC_t | apply SC_f | apply W_block | apply W_ret | apply W_skip | apply W_exit | apply T_r | apply T_e | apply B_n | apply B_e) | (with_reducible apply B_ne; focus decide) | (with_reducible first | apply B_r | apply R_e | apply R_r | apply H_e | apply H_r | apply G_e | apply G_r) | (with_reducible apply SC_n) | ((with_reducible first | apply SC_d | apply SG_d | apply SG_n | apply SC_b | apply SG_b) <;> intro hc <;> try simp only [decide_eq_true_eq, decide_eq_false_iff_not, Classical.not_not, Bool.not_eq_true', Bool.not_eq_false'] at hc))
      refine S_bslO B G2 hO9 (Nat.le_refl _) (by omega) rfl (by exact svc) rfl ?_
      intro G3
      have hB : B = A ++ (some [.flat (.int .i64 l.length), w] :: G) := hH
      have hwc := hO.cell
      rw [show B ++ G3 = (A ++ [some [AV.flat (Value.int IntKind.i64 l.length), w]]) ++ (G ++ G3) by rw [hB]; simp]
      replace hO : Own (List.length (A ++ [some [AV.flat (Value.int IntKind.i64 l.length), w]])) ((A ++ [some [AV.flat (Value.int IntKind.i64 l.length), w]]) ++ (G ++ G3)) w 1 ((woK l v i u).map Rks.av) := by
        refine Own.growG ?_ _
        rw [hB] at hO
        simpa using hO
      clear hB hB3 hBg hBg0 hH hBv hBv0
      repeat' (first | ((with_reducible first | apply S_0 | apply S_q1 | apply S_g | apply S_c); exact sgc) | (with_reducible first | apply SO_q | apply SG_t | apply SG_f0 | apply SG_f1 | apply S_nil | apply T_n | apply W_seq | apply W_region | apply SO_x | apply SC_t | apply SC_f | apply W_block | apply W_ret | apply W_skip | apply W_exit | apply T_r | apply T_e | apply B_n | apply B_e) | (with_reducible apply B_ne; focus decide) | (with_reducible first | apply B_r | apply R_e | apply R_r | apply H_e | apply H_r | apply G_e | apply G_r) | (with_reducible apply SC_n) | ((with_reducible first | apply SC_d | apply SG_d | apply SG_n | apply SC_b | apply SG_b) <;> intro hc <;> try simp only [decide_eq_true_eq, decide_eq_false_iff_not, Classical.not_not, Bool.not_eq_true', Bool.not_eq_false'] at hc))
      (refine S_ownG (cs := (woK l v i u).map Rks.av) (A ++ [some [.flat (.int .i64 l.length), w]]) (G ++ G3) (by assumption) (by first | rfl | simp only [List.append_assoc, List.cons_append, List.nil_append]) (by exact sgc) (by exact sgc) (by exact sgc) (by exact sgc) (by exact sgc) (by (first | assumption | omega | (simp only [ints_len, Nat.div_one, Nat.one_mul, Nat.mul_one, List.length_map, rks_len, half, List.length_cons, List.length_nil, List.length_append]; omega))) (by (first | assumption | omega | (simp only [ints_len, Nat.div_one, Nat.one_mul, Nat.mul_one, List.length_map, rks_len, half, List.length_cons, List.length_nil, List.length_append]; omega))) (by first | omega | (simp; done) | (simp; omega)) ?_)
      intro v' G' hO2
      rw [← hw1] at hO2
      have hvc := hO2.cell
      repeat' (first | ((with_reducible first | apply S_0 | apply S_q1 | apply S_g | apply S_c); exact sgc) | (with_reducible first | apply SO_q | apply SG_t | apply SG_f0 | apply SG_f1 | apply S_nil | apply T_n | apply W_seq | apply W_region | apply SO_x | apply SC_t | apply SC_f | apply W_block | apply W_ret | apply W_skip | apply W_exit | apply T_r | apply T_e | apply B_n | apply B_e) | (with_reducible apply B_ne; focus decide) | (with_reducible first | apply B_r | apply R_e | apply R_r | apply H_e | apply H_r | apply G_e | apply G_r) | (with_reducible apply SC_n) | ((with_reducible first | apply SC_d | apply SG_d | apply SG_n | apply SC_b | apply SG_b) <;> intro hc <;> try simp only [decide_eq_true_eq, decide_eq_false_iff_not, Classical.not_not, Bool.not_eq_true', Bool.not_eq_false'] at hc))
      refine G_n (by exact svc) hlt ?_
      exact ⟨v', G', by simp, by simpa using hO2.swap (B' := A ++ [some [.flat (.int .i64 l.length), v']]) (by simp) (by simp)⟩
  · have hlt' : ¬ (u : Int) < l.length := by omega
    obtain rfl : u = l.length := by omega
    repeat' (first | ((with_reducible first | apply S_0 | apply S_q1 | apply S_g | apply S_c); exact sgc) | (with_reducible first | apply SO_q | apply SG_t | apply SG_f0 | apply SG_f1 | apply S_nil | apply T_n | apply W_seq | apply W_region | apply SO_x | apply SC_t | apply SC_f | apply W_block | apply W_ret | apply W_skip | apply W_exit | apply T_r | apply T_e | apply B_n | apply B_e) | (with_reducible apply B_ne; focus decide) | (with_reducible first | apply B_r | apply R_e | apply R_r | apply H_e | apply H_r | apply G_e | apply G_r) | (with_reducible apply SC_n) | ((with_reducible first | apply SC_d | apply SG_d | apply SG_n | apply SC_b | apply SG_b) <;> intro hc <;> try simp only [decide_eq_true_eq, decide_eq_false_iff_not, Classical.not_not, Bool.not_eq_true', Bool.not_eq_false'] at hc))
    refine ⟨.inr rfl, ?_⟩
    simp only [resA, rvA, tupA, Option.bind_some]
    (simp (disch := first | assumption | decide | omega | exact Pth.le _ | exact Rks.le _ | exact List.getElem_mem _ | exact allI_ints _ | exact allI_rks _ | exact allI_pths _ | exact Pth.nil _ | exact Rks.nil _ | (intro hh; simp only [Pth.nil _ hh, List.take_nil, List.drop_nil]; done) | (intro hh; simp only [Rks.nil _ hh, List.take_nil, List.drop_nil]; done) | (simp only [List.length_take, List.length_drop, List.length_append, List.length_cons, List.length_nil, List.length_replicate, List.length_map, ints_len]; omega)) only [go_sem, if_pos, if_neg, Nat.reduceBEq, Nat.reduceEqDiff, ↓reduceIte, Nat.reduceSub, Nat.reduceAdd, Int.reduceToNat, reduceCtorEq, Nat.reduceLeDiff, Nat.reduceLT, Nat.reduceMul, Nat.reduceDiv, Int.reduceLT, Int.reduceLE, Int.reduceEq, Int.reduceNe, Int.reduceAdd, Int.reduceSub, Int.reduceNeg, Int.reduceGT, Int.reduceGE, Int.reduceBEq, Int.reduceBNe, Int.reduceMul, *])
    refine fin_ag (lo := M.length) (((hO.swap (B' := M ++ [some [.flat (.int .i64 l.length), rv], some [.flat (.int .i64 l.length), w], some [.flat (.int .i64 l.length), w]]) (by simp [hAl]) (Nat.le_refl _)).lower (lo' := M.length) (by simp [hAl]; omega)).cast (by simp)) (Nat.le_refl _) ?_
    intro h
    have := congrArg List.length h
    rw [List.length_map, woK_len _ _ _ _ (Nat.le_refl _), List.length_nil] at this
    omega
end Go.Proofs.Ytopiaiibpacmlaa.Av
namespace Go.Proofs.Ytopiaiibpacmlaa.Av
open Go.RowKit
set_option linter.unusedSimpArgs false
set_option linter.unusedVariables false
set_option maxHeartbeats 10000000
theorem place_idx {l : List Rnk} {v n : Int} (h : LOk l v n) {i : Nat} (hi : i < l.length) : place (paths l) l[i].p.l = i := by
  refine place_at (by rw [paths_len]; exact hi) (by rw [paths_get]) fun j hj hjl => ?_
  have := List.pairwise_iff_getElem.1 (lok_nodup h) j i hjl (by rw [paths_len]; exact hi) hj
  rwa [paths_get (i := i)] at this
/-- A look that isn't 0: the path goes. -/
theorem look_goes {l : List Rks} (hX : MayX l.length l) {v i : Nat} (hv1 : 1 ≤ v) (hv : v < l.length) (hi : i < l[v].l.length) : lookF l l[v].l l[v].l[i].p.l ≠ 0 ↔ goes (plX l) l[v].l[i].p.l := by
  have hok := hX.2.2.2.2 v hv hv1
  obtain ⟨t, ht, ht0, htn, _⟩ := pathOk_shape (lok_path hok _ (List.getElem_mem hi))
  have hm : l[v].l[i].p.l ∈ atL (plX l) (v : Int) := by rw [at_nat, plX_get hv]; exact List.mem_map.2 ⟨_, List.getElem_mem hi, rfl⟩
  have key : ∀ u : Int, paths (rkAt l u) = atL (plX l) u := fun u => by
    unfold rkAt atL
    split
    · rename_i hu; rw [plX_get hu]
    · rename_i hu; rw [getD_out (by rw [plX_len]; omega)]; rfl
  have hus : (l[v].l[i].p.l.getD 1 0 ≠ 0 ∧ l[v].l[i].p.l.drop 1 ∉ paths (rkAt l (l[v].l[i].p.l.getD 1 0))) ↔ usel (plX l) l[v].l[i].p.l := by rw [key]; rfl
  have hid : (∃ q ∈ l[v].l.take i, sureF l q.p.l) ↔ idle (plX l) v l[v].l[i].p.l := by
    constructor
    · rintro ⟨q, hq, hs⟩
      obtain ⟨j, hj, rfl⟩ := List.mem_take_iff_getElem.1 hq
      have hjl : j < l[v].l.length := by omega
      refine ⟨l[v].l[j].p.l, ?_, (sure_iff (pth_nn hX hv1 hv (List.getElem_mem hjl))).1 hs⟩
      rw [at_nat, plX_get hv]
      have := idx_bef (l := paths l[v].l) (a := j) (b := i) (by rw [paths_len]; exact hjl) (by rw [paths_len]; exact hi) (by omega)
      rwa [paths_get, paths_get] at this
    · rintro ⟨q, hq, hs⟩
      rw [at_nat, plX_get hv] at hq
      obtain ⟨a, b, ha, hb, h1, h2, h3⟩ := bef_idx hq
      rw [paths_len] at ha hb
      rw [paths_get] at h2 h3
      have hbi : b = i := by
        rcases Nat.lt_trichotomy b i with h | h | h
        · have := List.pairwise_iff_getElem.1 (lok_nodup hok) b i (by rw [paths_len]; exact hb) (by rw [paths_len]; exact hi) h
          rw [paths_get, paths_get] at this
          exact absurd h3 this
        · exact h
        · have := List.pairwise_iff_getElem.1 (lok_nodup hok) i b (by rw [paths_len]; exact hi) (by rw [paths_len]; exact hb) h
          rw [paths_get, paths_get] at this
          exact absurd h3.symm this
      refine ⟨l[v].l[a], List.mem_take_iff_getElem.2 ⟨a, by omega, rfl⟩, (sure_iff (pth_nn hX hv1 hv (List.getElem_mem ha))).2 (by rw [h2]; exact hs)⟩
  rw [lookF, place_idx hok hi, Int.toNat_natCast]
  constructor
  · intro h
    refine ⟨v, by rw [ht]; rfl, hm, ?_⟩
    by_cases h1 : usel (plX l) l[v].l[i].p.l
    · exact .inl h1
    · rw [if_neg fun hh => h1 (hus.1 hh), lookB] at h
      by_cases h2 : ∃ q ∈ l[v].l.take i, sureF l q.p.l
      · exact .inr (hid.1 h2)
      · rw [if_neg h2] at h; exact absurd rfl h
  · rintro ⟨w, hw, _, hg⟩
    rw [ht] at hw
    simp only [List.head?_cons, Option.some.injEq] at hw
    subst hw
    by_cases h1 : usel (plX l) l[v].l[i].p.l
    · rw [if_pos (hus.2 h1)]; decide
    · rw [if_neg fun hh => h1 (hus.1 hh), lookB]
      rcases hg with hg | hg
      · exact absurd hg h1
      · rw [if_pos (hid.2 hg)]; decide
theorem t79 {l : List Rks} {rv : AV} {M : MS} (hv : Vw M rv (l.map Rks.av) l.length) (hX : MayX l.length l) (hS : SmallX l) : ∃ out, ev pr 79 [.agg [.flat (.int .i64 l.length), rv]] M = some out ∧ ∃ x G, out = .x x (M ++ G) [] ∧
    ((NF (plX l) ∧ x = .tup [.agg [.flat (.int .i64 l.length), rv], .flat (.bool false)]) ∨
      ∃ p l', goes (plX l) p ∧ plX l' = delP (plX l) p ∧ l'.length = l.length ∧ MayX l.length l' ∧ SmallX l' ∧ x = .tup [.agg [.flat (.int .i64 l.length), .list 1 (l'.map Rks.av) false false], .flat (.bool true)]) := by
  have h12 := hS.1
  have hn1 : 1 ≤ l.length := by have := hX.1; omega
  have h41 := fun v (hvl : v < l.length) (hv1 : 1 ≤ v) i (hi : i < l[v].l.length) => t41 (M := M ++ [some [.flat (.int .i64 l.length), rv], some [.flat (.int .i64 0), .list 1 [] true true]]) (p := l[v].l[i].p.l) (np := l[v].l[i].p.nl) (cp := l[v].l[i].p.cd) (v := v) hX hS (pc_x hX hS v hvl _ (List.getElem_mem hi)) (by
    obtain ⟨t, ht, _⟩ := pathOk_shape (lok_path (hX.2.2.2.2 v hvl hv1) _ (List.getElem_mem hi)); rw [ht]; rfl) hvl l[v].l[i].p.nil (hv.ext _)
  have h114 := fun v i => t114 (v := v) (i := i) (hv.ext [some [.flat (.int .i64 l.length), rv], some [.flat (.int .i64 0), .list 1 [] true true]]) hS hn1
  have e0 := hv.vw
  have e1 := hv.len
  have e2 := hv.cell
  clear hv
  refine ev_fnE A79 ?_
  repeat' (first | ((with_reducible first | apply S_0 | apply S_q1 | apply S_g | apply S_c); exact sgc) | (with_reducible first | apply SO_q | apply SG_t | apply SG_f0 | apply SG_f1 | apply S_nil | apply T_n | apply W_seq | apply W_region | apply SO_x | apply SC_t | apply SC_f | apply W_block | apply W_ret | apply W_skip | apply W_exit | apply T_r | apply T_e | apply B_n | apply B_e) | (with_reducible apply B_ne; focus decide) | (with_reducible first | apply B_r | apply R_e | apply R_r | apply H_e | apply H_r | apply G_e | apply G_r) | (with_reducible apply SC_n) | ((with_reducible first | apply SC_d | apply SG_d | apply SG_n | apply SC_b | apply SG_b) <;> intro hc <;> try simp only [decide_eq_true_eq, decide_eq_false_iff_not, Classical.not_not, Bool.not_eq_true', Bool.not_eq_false'] at hc))
  refine W_whl (fun q e m d => ∃ v : Nat, q = v ∧ v < l.length ∧ e 4 = .flat (.int .i64 v) ∧ m = M ++ [some [.flat (.int .i64 l.length), rv], some [.flat (.int .i64 0), .list 1 [] true true]] ∧ d = [] ∧ ∀ u (hu : u < l.length), v < u → ∀ i (hi : i < l[u].l.length), ¬ goes (plX l) l[u].l[i].p.l) (l.length - 1) (by simp only [asg, asgO, List.append_nil, List.nil_append, List.cons_append]; rfl)
    ⟨l.length - 1, rfl, by omega, by (have : ((l.length - 1 : Nat) : Int) = (l.length : Int) - 1 := by omega); rw [this]; exact svc, by simp, rfl, fun u hu h => by omega⟩ ?_
  rintro q e m d hk ⟨v, hqv, hv, e4, rfl, rfl, hng⟩
  have k1 : e 1 = .mptr M.length 0 := by rw [hk 1 rfl]; exact svc
  have k2 : e 2 = .mptr (M.length + 1) 0 := by rw [hk 2 rfl]; exact svc
  clear hk
  rcases Nat.eq_zero_or_pos v with hv0 | hv1
  · subst hv0
    have hNF : NF (plX l) := fun p hg => by
      have hg' := hg
      obtain ⟨w, hw, hm, _⟩ := hg'
      obtain ⟨w, t, rfl, rfl, _⟩ := ok_at (ok_plX hX) hm hw
      rw [at_nat] at hm
      have hwl : w < l.length := by
        rcases Nat.lt_or_ge w l.length with h | h
        · exact h
        · rw [getD_out (by rw [plX_len]; exact h)] at hm; simp at hm
      rw [plX_get hwl] at hm
      obtain ⟨r, hr, e⟩ := List.mem_map.1 hm
      obtain ⟨i, hi, rfl⟩ := List.mem_iff_getElem.1 hr
      rcases Nat.eq_zero_or_pos w with rfl | h
      · rw [hX.2.2.2.1 (by omega)] at hi; simp at hi
      · exact hng w hwl h i hi (by rw [e]; exact hg)
    clear hng
    repeat' (first | ((with_reducible first | apply S_0 | apply S_q1 | apply S_g | apply S_c); exact sgc) | (with_reducible first | apply SO_q | apply SG_t | apply SG_f0 | apply SG_f1 | apply S_nil | apply T_n | apply W_seq | apply W_region | apply SO_x | apply SC_t | apply SC_f | apply W_block | apply W_ret | apply W_skip | apply W_exit | apply T_r | apply T_e | apply B_n | apply B_e) | (with_reducible apply B_ne; focus decide) | (with_reducible first | apply B_r | apply R_e | apply R_r | apply H_e | apply H_r | apply G_e | apply G_r) | (with_reducible apply SC_n) | ((with_reducible first | apply SC_d | apply SG_d | apply SG_n | apply SC_b | apply SG_b) <;> intro hc <;> try simp only [decide_eq_true_eq, decide_eq_false_iff_not, Classical.not_not, Bool.not_eq_true', Bool.not_eq_false'] at hc))
    refine ⟨.inr rfl, _, ?_, .tup [.agg [.flat (.int .i64 l.length), rv], .flat (.bool false)], [some [.flat (.int .i64 l.length), rv], some [.flat (.int .i64 l.length), rv]], rfl, .inl ⟨hNF, rfl⟩⟩
    simp only [fin, if_true, resA, rvA, tupA]
    (simp (disch := first | assumption | decide | omega | exact Pth.le _ | exact Rks.le _ | exact List.getElem_mem _ | exact allI_ints _ | exact allI_rks _ | exact allI_pths _ | exact Pth.nil _ | exact Rks.nil _ | (intro hh; simp only [Pth.nil _ hh, List.take_nil, List.drop_nil]; done) | (intro hh; simp only [Rks.nil _ hh, List.take_nil, List.drop_nil]; done) | (simp only [List.length_take, List.length_drop, List.length_append, List.length_cons, List.length_nil, List.length_replicate, List.length_map, ints_len]; omega)) only [go_sem, if_pos, if_neg, Nat.reduceBEq, Nat.reduceEqDiff, ↓reduceIte, Nat.reduceSub, Nat.reduceAdd, Int.reduceToNat, reduceCtorEq, Nat.reduceLeDiff, Nat.reduceLT, Nat.reduceMul, Nat.reduceDiv, Int.reduceLT, Int.reduceLE, Int.reduceEq, Int.reduceNe, Int.reduceAdd, Int.reduceSub, Int.reduceNeg, Int.reduceGT, Int.reduceGE, Int.reduceBEq, Int.reduceBNe, Int.reduceMul, *])
  · have hv1' : (0 : Int) < v := by omega
    have h41 := fun i hi => h41 v hv hv1 i hi
    have hlg := fun i hi => look_goes hX hv1 hv (i := i) hi
    have h70 := (hS.2 _ (List.getElem_mem hv)).1
    have hwm := fun i hi => wo_may hX hS hv1 hv (i := i) hi
    have hwn := fun i => woK_len l v i l.length (Nat.le_refl _)
    have h114 := fun i => h114 v i
    clear hX hS
    repeat' (first | ((with_reducible first | apply S_0 | apply S_q1 | apply S_g | apply S_c); exact sgc) | (with_reducible first | apply SO_q | apply SG_t | apply SG_f0 | apply SG_f1 | apply S_nil | apply T_n | apply W_seq | apply W_region | apply SO_x | apply SC_t | apply SC_f | apply W_block | apply W_ret | apply W_skip | apply W_exit | apply T_r | apply T_e | apply B_n | apply B_e) | (with_reducible apply B_ne; focus decide) | (with_reducible first | apply B_r | apply R_e | apply R_r | apply H_e | apply H_r | apply G_e | apply G_r) | (with_reducible apply SC_n) | ((with_reducible first | apply SC_d | apply SG_d | apply SG_n | apply SC_b | apply SG_b) <;> intro hc <;> try simp only [decide_eq_true_eq, decide_eq_false_iff_not, Classical.not_not, Bool.not_eq_true', Bool.not_eq_false'] at hc))
    refine W_whl (fun q' e' m d => ∃ i : Nat, q' = i ∧ i ≤ l[v].l.length ∧ e' 5 = .flat (.int .i64 ((i : Int) - 1)) ∧ m = M ++ [some [.flat (.int .i64 l.length), rv], some [.flat (.int .i64 0), .list 1 [] true true]] ∧ d = [] ∧ ∀ j (hj : j < l[v].l.length), i ≤ j → ¬ goes (plX l) l[v].l[j].p.l) l[v].l.length (by simp only [asg, asgO, List.append_nil, List.nil_append, List.cons_append]; rfl)
      ⟨l[v].l.length, rfl, Nat.le_refl _, by exact svc, by simp, rfl, fun j hj h => by omega⟩ ?_
    rintro q' e' m d hk ⟨i, hqi, hil, e5, rfl, rfl, hni⟩
    have j1 : e' 1 = .mptr M.length 0 := by rw [hk 1 rfl]; exact svc
    have j2 : e' 2 = .mptr (M.length + 1) 0 := by rw [hk 2 rfl]; exact svc
    have j4 : e' 4 = .flat (.int .i64 v) := by rw [hk 4 rfl]; exact svc
    clear hk k1 k2 e4
    cases i with
    | zero =>
      replace e5 : e' 5 = .flat (.int .i64 (-1)) := by rw [e5]; rfl
      have hvm : ((v - 1 : Nat) : Int) = (v : Int) - 1 := by omega
      repeat' (first | ((with_reducible first | apply S_0 | apply S_q1 | apply S_g | apply S_c); exact sgc) | (with_reducible first | apply SO_q | apply SG_t | apply SG_f0 | apply SG_f1 | apply S_nil | apply T_n | apply W_seq | apply W_region | apply SO_x | apply SC_t | apply SC_f | apply W_block | apply W_ret | apply W_skip | apply W_exit | apply T_r | apply T_e | apply B_n | apply B_e) | (with_reducible apply B_ne; focus decide) | (with_reducible first | apply B_r | apply R_e | apply R_r | apply H_e | apply H_r | apply G_e | apply G_r) | (with_reducible apply SC_n) | ((with_reducible first | apply SC_d | apply SG_d | apply SG_n | apply SC_b | apply SG_b) <;> intro hc <;> try simp only [decide_eq_true_eq, decide_eq_false_iff_not, Classical.not_not, Bool.not_eq_true', Bool.not_eq_false'] at hc))
      refine R_n (v - 1) (by omega) ⟨v - 1, rfl, by omega, by rw [hvm]; exact svc, by simp, rfl, fun u hu h j hj => ?_⟩
      rcases Nat.lt_or_ge v u with h1 | h1
      · exact hng u hu h1 j hj
      · obtain rfl : u = v := by omega
        exact hni j hj (Nat.zero_le _)
    | succ i =>
      have hi : i < l[v].l.length := by omega
      replace e5 : e' 5 = .flat (.int .i64 i) := by rw [e5]; simp
      have hi0 : (0 : Int) ≤ i := by omega
      have h41 := h41 i hi
      have hlg := hlg i hi
      by_cases hg : goes (plX l) l[v].l[i].p.l
      · have hlk := hlg.2 hg
        obtain ⟨w1, w2, w3⟩ := hwm i hi
        have hwn := hwn i
        have hh : Hid (∃ p l', goes (plX l) p ∧ plX l' = delP (plX l) p ∧ l'.length = l.length ∧ MayX l.length l' ∧ SmallX l' ∧ (AV.tup [.agg [.flat (.int .i64 l.length), .list 1 ((woK l v i l.length).map Rks.av) false false], .flat (.bool true)]) = .tup [.agg [.flat (.int .i64 l.length), .list 1 (l'.map Rks.av) false false], .flat (.bool true)]) := ⟨_, _, hg, w3, hwn, w1, w2, rfl⟩
        clear hng hni hlg hwm w1 w2 w3 hwn
        repeat' (first | ((with_reducible first | apply S_0 | apply S_q1 | apply S_g | apply S_c); exact sgc) | (with_reducible first | apply SO_q | apply SG_t | apply SG_f0 | apply SG_f1 | apply S_nil | apply T_n | apply W_seq | apply W_region | apply SO_x | apply SC_t | apply SC_f | apply W_block | apply W_ret | apply W_skip | apply W_exit | apply T_r | apply T_e | apply B_n | apply B_e) | (with_reducible apply B_ne; focus decide) | (with_reducible first | apply B_r | apply R_e | apply R_r | apply H_e | apply H_r | apply G_e | apply G_r) | (with_reducible apply SC_n) | ((with_reducible first | apply SC_d | apply SG_d | apply SG_n | apply SC_b | apply SG_b) <;> intro hc <;> try simp only [decide_eq_true_eq, decide_eq_false_iff_not, Classical.not_not, Bool.not_eq_true', Bool.not_eq_false'] at hc))
        refine ⟨.inr rfl, _, ?_, .tup [.agg [.flat (.int .i64 l.length), .list 1 ((woK l v i l.length).map Rks.av) false false], .flat (.bool true)], [some [.flat (.int .i64 l.length), rv], some [.flat (.int .i64 l.length), .list 1 ((woK l v i l.length).map Rks.av) false false]], rfl, .inr hh⟩
        simp only [fin, if_true, resA, rvA, tupA]
        (simp (disch := first | assumption | decide | omega | exact Pth.le _ | exact Rks.le _ | exact List.getElem_mem _ | exact allI_ints _ | exact allI_rks _ | exact allI_pths _ | exact Pth.nil _ | exact Rks.nil _ | (intro hh; simp only [Pth.nil _ hh, List.take_nil, List.drop_nil]; done) | (intro hh; simp only [Rks.nil _ hh, List.take_nil, List.drop_nil]; done) | (simp only [List.length_take, List.length_drop, List.length_append, List.length_cons, List.length_nil, List.length_replicate, List.length_map, ints_len]; omega)) only [go_sem, if_pos, if_neg, Nat.reduceBEq, Nat.reduceEqDiff, ↓reduceIte, Nat.reduceSub, Nat.reduceAdd, Int.reduceToNat, reduceCtorEq, Nat.reduceLeDiff, Nat.reduceLT, Nat.reduceMul, Nat.reduceDiv, Int.reduceLT, Int.reduceLE, Int.reduceEq, Int.reduceNe, Int.reduceAdd, Int.reduceSub, Int.reduceNeg, Int.reduceGT, Int.reduceGE, Int.reduceBEq, Int.reduceBNe, Int.reduceMul, *])
      · have hlk : lookF l l[v].l l[v].l[i].p.l = 0 := Classical.not_not.1 fun h => hg (hlg.1 h)
        clear hlg hwm
        repeat' (first | ((with_reducible first | apply S_0 | apply S_q1 | apply S_g | apply S_c); exact sgc) | (with_reducible first | apply SO_q | apply SG_t | apply SG_f0 | apply SG_f1 | apply S_nil | apply T_n | apply W_seq | apply W_region | apply SO_x | apply SC_t | apply SC_f | apply W_block | apply W_ret | apply W_skip | apply W_exit | apply T_r | apply T_e | apply B_n | apply B_e) | (with_reducible apply B_ne; focus decide) | (with_reducible first | apply B_r | apply R_e | apply R_r | apply H_e | apply H_r | apply G_e | apply G_r) | (with_reducible apply SC_n) | ((with_reducible first | apply SC_d | apply SG_d | apply SG_n | apply SC_b | apply SG_b) <;> intro hc <;> try simp only [decide_eq_true_eq, decide_eq_false_iff_not, Classical.not_not, Bool.not_eq_true', Bool.not_eq_false'] at hc))
        refine R_n i (by omega) ⟨i, rfl, by omega, by exact svc, by simp, rfl, fun j hj h => ?_⟩
        rcases Nat.lt_or_ge i j with h1 | h1
        · exact hni j hj h1
        · obtain rfl : i = j := by omega
          exact hg
end Go.Proofs.Ytopiaiibpacmlaa.Av
namespace Go.Proofs.Ytopiaiibpacmlaa.Av
open Go.RowKit
set_option linter.unusedSimpArgs false
set_option linter.unusedVariables false
set_option maxHeartbeats 10000000
theorem t32 {l : List Rks} {rv : AV} {M : MS} (hv : Vw M rv (l.map Rks.av) l.length) (hX : MayX l.length l) (hS : SmallX l) : ∃ out, ev pr 32 [.agg [.flat (.int .i64 l.length), rv]] M = some out ∧ ∃ (k : Nat) (l' : List Rks) (rc : AV) (G : MS),
    out = .x (.tup [.agg [.flat (.int .i64 l.length), rc], .flat (.int .i64 k)]) (M ++ G) [] ∧ Vw M rc (l'.map Rks.av) l'.length ∧ l'.length = l.length ∧ MayX l.length l' ∧ SmallX l' ∧ Red k (plX l) (plX l') ∧ NF (plX l') := by
  refine ev_fnE A32 ?_
  have h840 := tot_small hS
  obtain ⟨N, hN⟩ : ∃ N, N = l.length := ⟨_, rfl⟩
  have hNl : l.length = N := hN.symm
  have hNH : Hid (l.length = N) := hNl
  have e2 := hv.cell
  rw [← hN] at hX ⊢
  clear hN hNl
  repeat' (first | ((with_reducible first | apply S_0 | apply S_q1 | apply S_g | apply S_c); exact sgc) | (with_reducible first | apply SO_q | apply SG_t | apply SG_f0 | apply SG_f1 | apply S_nil | apply T_n | apply W_seq | apply W_region | apply SO_x | apply SC_t | apply SC_f | apply W_block | apply W_ret | apply W_skip | apply W_exit | apply T_r | apply T_e | apply B_n | apply B_e) | (with_reducible apply B_ne; focus decide) | (with_reducible first | apply B_r | apply R_e | apply R_r | apply H_e | apply H_r | apply G_e | apply G_r) | (with_reducible apply SC_n) | ((with_reducible first | apply SC_d | apply SG_d | apply SG_n | apply SC_b | apply SG_b) <;> intro hc <;> try simp only [decide_eq_true_eq, decide_eq_false_iff_not, Classical.not_not, Bool.not_eq_true', Bool.not_eq_false'] at hc))
  refine W_whl (fun q e m d => ∃ (k : Nat) (lc : List Rks) (rc : AV) (G : MS), q = tot (plX lc) ∧ e 4 = .flat (.int .i64 k) ∧ m = M ++ (some [.flat (.int .i64 N), rc] :: some [.flat (.int .i64 0), .list 1 [] true true] :: G) ∧ d = [] ∧ Vw M rc (lc.map Rks.av) lc.length ∧ lc.length = N ∧ MayX N lc ∧ SmallX lc ∧ Red k (plX l) (plX lc)) (tot (plX l)) (by simp only [asg, asgO, List.append_nil, List.nil_append, List.cons_append]; rfl)
    ⟨0, l, rv, [], rfl, by exact svc, by simp, rfl, hv, hNH, hX, hS, .refl _⟩ ?_
  rintro q e m d hk ⟨k, lc, rc, G, hq, e4, rfl, rfl, hrc, hlc, hXc, hSc, hR⟩
  have k1 : e 1 = .mptr M.length 0 := by rw [hk 1 rfl]; exact svc
  have k2 : e 2 = .mptr (M.length + 1) 0 := by rw [hk 2 rfl]; exact svc
  have ht := red_tot hR
  obtain ⟨out, h79, x, G', rfl, hx⟩ := t79 (l := lc) (hrc.ext (some [.flat (.int .i64 N), rc] :: some [.flat (.int .i64 0), .list 1 [] true true] :: G)) (by rw [hlc]; exact hXc) hSc
  have e2 := hrc.cell
  rw [hlc] at h79 hx
  obtain ⟨X, hX⟩ : ∃ X, X = G ++ G' := ⟨_, rfl⟩
  rw [show (M ++ (some [.flat (.int .i64 N), rc] :: some [.flat (.int .i64 0), .list 1 [] true true] :: G)) ++ G' = M ++ (some [.flat (.int .i64 N), rc] :: some [.flat (.int .i64 0), .list 1 [] true true] :: X) by rw [hX]; simp] at h79
  clear hk hX hS hv
  rcases hx with ⟨hNF, rfl⟩ | ⟨p, l', hg, hp, hl', hX', hS', rfl⟩
  · repeat' (first | ((with_reducible first | apply S_0 | apply S_q1 | apply S_g | apply S_c); exact sgc) | (with_reducible first | apply SO_q | apply SG_t | apply SG_f0 | apply SG_f1 | apply S_nil | apply T_n | apply W_seq | apply W_region | apply SO_x | apply SC_t | apply SC_f | apply W_block | apply W_ret | apply W_skip | apply W_exit | apply T_r | apply T_e | apply B_n | apply B_e) | (with_reducible apply B_ne; focus decide) | (with_reducible first | apply B_r | apply R_e | apply R_r | apply H_e | apply H_r | apply G_e | apply G_r) | (with_reducible apply SC_n) | ((with_reducible first | apply SC_d | apply SG_d | apply SG_n | apply SC_b | apply SG_b) <;> intro hc <;> try simp only [decide_eq_true_eq, decide_eq_false_iff_not, Classical.not_not, Bool.not_eq_true', Bool.not_eq_false'] at hc))
    refine ⟨.inr rfl, .x (.tup [.agg [.flat (.int .i64 N), rc], .flat (.int .i64 k)]) (M ++ (some [.flat (.int .i64 N), rc] :: some [.flat (.int .i64 N), rc] :: (X ++ [some [.flat (.int .i64 N), rc]]))) [], ?_, k, lc, rc, _, rfl, hrc, hlc, hXc, hSc, hR, hNF⟩
    simp only [fin, if_true, resA, rvA, tupA]
    (simp (disch := first | assumption | decide | omega | exact Pth.le _ | exact Rks.le _ | exact List.getElem_mem _ | exact allI_ints _ | exact allI_rks _ | exact allI_pths _ | exact Pth.nil _ | exact Rks.nil _ | (intro hh; simp only [Pth.nil _ hh, List.take_nil, List.drop_nil]; done) | (intro hh; simp only [Rks.nil _ hh, List.take_nil, List.drop_nil]; done) | (simp only [List.length_take, List.length_drop, List.length_append, List.length_cons, List.length_nil, List.length_replicate, List.length_map, ints_len]; omega)) only [go_sem, if_pos, if_neg, Nat.reduceBEq, Nat.reduceEqDiff, ↓reduceIte, Nat.reduceSub, Nat.reduceAdd, Int.reduceToNat, reduceCtorEq, Nat.reduceLeDiff, Nat.reduceLT, Nat.reduceMul, Nat.reduceDiv, Int.reduceLT, Int.reduceLE, Int.reduceEq, Int.reduceNe, Int.reduceAdd, Int.reduceSub, Int.reduceNeg, Int.reduceGT, Int.reduceGE, Int.reduceBEq, Int.reduceBNe, Int.reduceMul, *])
  · have ht2 := tot_del (at_mem (L := plX lc) (p := p) (u := p.head?.getD 0) (by obtain ⟨v, h1, h2, _⟩ := hg; rw [h1]; exact h2)).2
    have hR2 : Red (k + 1) (plX l) (plX l') := red_trans hR (.step hg (by rw [hp]; exact .refl _))
    have ht3 := red_tot hR2
    rw [← hp] at ht2
    repeat' (first | ((with_reducible first | apply S_0 | apply S_q1 | apply S_g | apply S_c); exact sgc) | (with_reducible first | apply SO_q | apply SG_t | apply SG_f0 | apply SG_f1 | apply S_nil | apply T_n | apply W_seq | apply W_region | apply SO_x | apply SC_t | apply SC_f | apply W_block | apply W_ret | apply W_skip | apply W_exit | apply T_r | apply T_e | apply B_n | apply B_e) | (with_reducible apply B_ne; focus decide) | (with_reducible first | apply B_r | apply R_e | apply R_r | apply H_e | apply H_r | apply G_e | apply G_r) | (with_reducible apply SC_n) | ((with_reducible first | apply SC_d | apply SG_d | apply SG_n | apply SC_b | apply SG_b) <;> intro hc <;> try simp only [decide_eq_true_eq, decide_eq_false_iff_not, Classical.not_not, Bool.not_eq_true', Bool.not_eq_false'] at hc))
    exact R_n (tot (plX l')) (by omega) ⟨k + 1, l', .list 1 (l'.map Rks.av) false false, _, rfl, by exact svc, by simp; rfl, rfl, Vw.list _ _ _ _ _, hl', hX', hS', hR2⟩
/-- An instance's ranks, as plain lists. -/
def rkR (x : List Rnk) : List (Int × List Int) := x.map fun q => (q.r, q.p.l)
def rkv (x : List Rks) : List (List (Int × List Int)) := x.map fun r => rkR r.l
theorem rkR_len (x : List Rnk) : (rkR x).length = x.length := by simp [rkR]
theorem rkv_len (x : List Rks) : (rkv x).length = x.length := by simp [rkv]
theorem rkR_get {x : List Rnk} {i : Nat} (h : i < (rkR x).length) : (rkR x)[i] = ((x[i]'(by simpa [rkR] using h)).r, (x[i]'(by simpa [rkR] using h)).p.l) := by simp [rkR]
theorem rkv_get {x : List Rks} {i : Nat} (h : i < (rkv x).length) : (rkv x)[i] = rkR (x[i]'(by simpa [rkv] using h)).l := by simp [rkv]
/-- Of instances that may be, the paths tell all. -/
theorem rkv_pl {x y : List Rks} {n m : Int} (hx : MayX n x) (hy : MayX m y) (h : plX x = plX y) : rkv x = rkv y := by
  have hl : x.length = y.length := by have := congrArg List.length h; rwa [plX_len, plX_len] at this
  refine List.ext_getElem (by rw [rkv_len, rkv_len, hl]) fun i h1 h2 => ?_
  rw [rkv_len] at h1 h2
  rw [rkv_get, rkv_get]
  have hp : paths x[i].l = paths y[i].l := by rw [← plX_get h1, ← plX_get h2, h]
  rcases Nat.eq_zero_or_pos i with rfl | hi
  · rw [hx.2.2.2.1 h1, hy.2.2.2.1 h2]
  · have hlen : x[i].l.length = y[i].l.length := by have := congrArg List.length hp; rwa [paths_len, paths_len] at this
    refine List.ext_getElem (by rw [rkR_len, rkR_len, hlen]) fun j h3 h4 => ?_
    rw [rkR_len] at h3 h4
    rw [rkR_get, rkR_get, ((hx.2.2.2.2 i h1 hi).2 j h3).1, ((hy.2.2.2.2 i h2 hi).2 j h4).1, ← paths_get x[i].l j (by rw [paths_len]; exact h3), ← paths_get y[i].l j (by rw [paths_len]; exact h4)]
    simp only [hp]
theorem rkv_cp (l : List Rks) : rkv (l.map cpR) = rkv l := by
  simp only [rkv, List.map_map]
  refine List.map_congr_left fun r _ => ?_
  simp [rkR, cpR, cpQ, cln, Function.comp_def]
theorem t33 {n m : Int} {x y : List Rks} {rx ry : AV} {M : MS} (hvx : Vw M rx (x.map Rks.av) x.length) (hvy : Vw M ry (y.map Rks.av) y.length) (hx : x.length ≤ 1000) (hxl : ∀ r ∈ x, r.l.length ≤ 1000 ∧ ∀ q ∈ r.l, q.p.l.length ≤ 1000) :
    ev pr 33 [.agg [.flat (.int .i64 n), rx], .agg [.flat (.int .i64 m), ry]] M = some (.q (.flat (.bool (decide (n = m ∧ rkv x = rkv y))))) := by
  have e0 := hvx.vw
  have e1 := hvx.len
  have e2 := hvx.cell
  have f0 := hvy.vw
  have f1 := hvy.len
  have f2 := hvy.cell
  clear hvx hvy
  refine ev_fn' A33 ?_
  by_cases hnm : n = m
  · subst hnm
    by_cases hl : x.length = y.length
    · have hlZ : (x.length : Int) = y.length := by omega
      have hlH : Hid (x.length = y.length) := hl
      clear hl
      repeat' (first | ((with_reducible first | apply S_0 | apply S_q1 | apply S_g | apply S_c); exact sgc) | (with_reducible first | apply SO_q | apply SG_t | apply SG_f0 | apply SG_f1 | apply S_nil | apply T_n | apply W_seq | apply W_region | apply SO_x | apply SC_t | apply SC_f | apply W_block | apply W_ret | apply W_skip | apply W_exit | apply T_r | apply T_e | apply B_n | apply B_e) | (with_reducible apply B_ne; focus decide) | (with_reducible first | apply B_r | apply R_e | apply R_r | apply H_e | apply H_r | apply G_e | apply G_r) | (with_reducible apply SC_n) | ((with_reducible first | apply SC_d | apply SG_d | apply SG_n | apply SC_b | apply SG_b) <;> intro hc <;> try simp only [decide_eq_true_eq, decide_eq_false_iff_not, Classical.not_not, Bool.not_eq_true', Bool.not_eq_false'] at hc))
      refine W_rng 5 0 x.length (fun i _ => (rkv x).take i = (rkv y).take i) (by simp only [asg, asgO, List.append_nil, List.nil_append, List.cons_append]; rfl) (by exact svc) (by omega) (by simp) ?_
      rintro i e _ hi hk e5 hlx
      have k2 : e 2 = .mptr M.length 0 := by rw [hk 2 rfl]; exact svc
      have k3 : e 3 = .mptr (M.length + 1) 0 := by rw [hk 3 rfl]; exact svc
      clear hk
      have hl : x.length = y.length := hlH
      rcases Nat.lt_or_ge i x.length with hlt | hlt
      · have hlt' : (i : Int) < x.length := by omega
        have hiy : i < y.length := by omega
        have hiy' : (i : Int) < y.length := by omega
        obtain ⟨hxi, hxq⟩ := hxl _ (List.getElem_mem hlt)
        have hget : rkv x = rkv y → rkR x[i].l = rkR y[i].l := fun h => by
          rw [← rkv_get (by rw [rkv_len]; exact hlt), ← rkv_get (by rw [rkv_len]; exact hiy)]; simp only [h]
        clear hl
        by_cases hli : x[i].l.length = y[i].l.length
        · have hli' : (x[i].l.length : Int) = y[i].l.length := by omega
          have hliH : Hid (x[i].l.length = y[i].l.length) := hli
          clear hli
          repeat' (first | ((with_reducible first | apply S_0 | apply S_q1 | apply S_g | apply S_c); exact sgc) | (with_reducible first | apply SO_q | apply SG_t | apply SG_f0 | apply SG_f1 | apply S_nil | apply T_n | apply W_seq | apply W_region | apply SO_x | apply SC_t | apply SC_f | apply W_block | apply W_ret | apply W_skip | apply W_exit | apply T_r | apply T_e | apply B_n | apply B_e) | (with_reducible apply B_ne; focus decide) | (with_reducible first | apply B_r | apply R_e | apply R_r | apply H_e | apply H_r | apply G_e | apply G_r) | (with_reducible apply SC_n) | ((with_reducible first | apply SC_d | apply SG_d | apply SG_n | apply SC_b | apply SG_b) <;> intro hc <;> try simp only [decide_eq_true_eq, decide_eq_false_iff_not, Classical.not_not, Bool.not_eq_true', Bool.not_eq_false'] at hc))
          refine W_rng 6 0 x[i].l.length (fun j _ => (rkR x[i].l).take j = (rkR y[i].l).take j) (by simp only [asg, asgO, List.append_nil, List.nil_append, List.cons_append]; rfl) (by exact svc) (by omega) (by simp) ?_
          rintro j e' _ hj hk e6 hlj
          have j2 : e' 2 = .mptr M.length 0 := by rw [hk 2 rfl]; exact svc
          have j3 : e' 3 = .mptr (M.length + 1) 0 := by rw [hk 3 rfl]; exact svc
          have j5 : e' 5 = .flat (.int .i64 i) := by rw [hk 5 rfl]; exact svc
          clear hk k2 k3 e5
          have hli : x[i].l.length = y[i].l.length := hliH
          have hl : x.length = y.length := hlH
          rcases Nat.lt_or_ge j x[i].l.length with hjl | hjl
          · have hjl' : (j : Int) < x[i].l.length := by omega
            have hjy : j < y[i].l.length := by omega
            have hjy' : (j : Int) < y[i].l.length := by omega
            have hpl := hxq _ (List.getElem_mem hjl)
            have h22 := fun M => t22 x[i].l[j].p.l y[i].l[j].p.l x[i].l[j].p.nl x[i].l[j].p.cd y[i].l[j].p.nl y[i].l[j].p.cd M (by omega)
            have hg2 : rkR x[i].l = rkR y[i].l → x[i].l[j].r = y[i].l[j].r ∧ x[i].l[j].p.l = y[i].l[j].p.l := fun h => by
              have h1 := rkR_get (x := x[i].l) (i := j) (by rw [rkR_len]; exact hjl)
              have h2 := rkR_get (x := y[i].l) (i := j) (by rw [rkR_len]; exact hjy)
              simp only [h] at h1
              rw [h1] at h2
              exact ⟨congrArg Prod.fst h2, congrArg Prod.snd h2⟩
            clear hli hl
            by_cases hr : x[i].l[j].r = y[i].l[j].r
            · by_cases hp : x[i].l[j].p.l = y[i].l[j].p.l
              · replace h22 := fun M => (h22 M).trans (congrArg (fun b => some (Out.q (.flat (.bool b)))) (decide_eq_true hp))
                have hrH : Hid (x[i].l[j].r = y[i].l[j].r) := hr
                have hpH : Hid (x[i].l[j].p.l = y[i].l[j].p.l) := hp
                clear hg2 hget hp
                repeat' (first | ((with_reducible first | apply S_0 | apply S_q1 | apply S_g | apply S_c); exact sgc) | (with_reducible first | apply SO_q | apply SG_t | apply SG_f0 | apply SG_f1 | apply S_nil | apply T_n | apply W_seq | apply W_region | apply SO_x | apply SC_t | apply SC_f | apply W_block | apply W_ret | apply W_skip | apply W_exit | apply T_r | apply T_e | apply B_n | apply B_e) | (with_reducible apply B_ne; focus decide) | (with_reducible first | apply B_r | apply R_e | apply R_r | apply H_e | apply H_r | apply G_e | apply G_r) | (with_reducible apply SC_n) | ((with_reducible first | apply SC_d | apply SG_d | apply SG_n | apply SC_b | apply SG_b) <;> intro hc <;> try simp only [decide_eq_true_eq, decide_eq_false_iff_not, Classical.not_not, Bool.not_eq_true', Bool.not_eq_false'] at hc))
                refine H_n (by exact svc) hjl (takes_ext hlj (by rw [rkR_len]; exact hjl) (by rw [rkR_len]; exact hjy) ?_)
                rw [rkR_get, rkR_get, hr, show x[i].l[j].p.l = y[i].l[j].p.l from hpH]
              · have : ¬ rkv x = rkv y := fun h => hp (hg2 (hget h)).2
                replace h22 := fun M => (h22 M).trans (congrArg (fun b => some (Out.q (.flat (.bool b)))) (decide_eq_false hp))
                simp only [this, and_false, decide_false]
                clear hg2 hget
                repeat' (first | ((with_reducible first | apply S_0 | apply S_q1 | apply S_g | apply S_c); exact sgc) | (with_reducible first | apply SO_q | apply SG_t | apply SG_f0 | apply SG_f1 | apply S_nil | apply T_n | apply W_seq | apply W_region | apply SO_x | apply SC_t | apply SC_f | apply W_block | apply W_ret | apply W_skip | apply W_exit | apply T_r | apply T_e | apply B_n | apply B_e) | (with_reducible apply B_ne; focus decide) | (with_reducible first | apply B_r | apply R_e | apply R_r | apply H_e | apply H_r | apply G_e | apply G_r) | (with_reducible apply SC_n) | ((with_reducible first | apply SC_d | apply SG_d | apply SG_n | apply SC_b | apply SG_b) <;> intro hc <;> try simp only [decide_eq_true_eq, decide_eq_false_iff_not, Classical.not_not, Bool.not_eq_true', Bool.not_eq_false'] at hc))
                (first | exact fincR | exact fincN)
            · have : ¬ rkv x = rkv y := fun h => hr (hg2 (hget h)).1
              simp only [this, and_false, decide_false]
              clear hg2 hget h22
              repeat' (first | ((with_reducible first | apply S_0 | apply S_q1 | apply S_g | apply S_c); exact sgc) | (with_reducible first | apply SO_q | apply SG_t | apply SG_f0 | apply SG_f1 | apply S_nil | apply T_n | apply W_seq | apply W_region | apply SO_x | apply SC_t | apply SC_f | apply W_block | apply W_ret | apply W_skip | apply W_exit | apply T_r | apply T_e | apply B_n | apply B_e) | (with_reducible apply B_ne; focus decide) | (with_reducible first | apply B_r | apply R_e | apply R_r | apply H_e | apply H_r | apply G_e | apply G_r) | (with_reducible apply SC_n) | ((with_reducible first | apply SC_d | apply SG_d | apply SG_n | apply SC_b | apply SG_b) <;> intro hc <;> try simp only [decide_eq_true_eq, decide_eq_false_iff_not, Classical.not_not, Bool.not_eq_true', Bool.not_eq_false'] at hc))
              (first | exact fincR | exact fincN)
          · have hjl' : ¬ (j : Int) < x[i].l.length := by omega
            have hjy' : ¬ (x[i].l.length : Int) < y[i].l.length := by omega
            have hjy2 : ¬ (y[i].l.length : Int) < y[i].l.length := by omega
            obtain rfl : j = x[i].l.length := by omega
            have hrr := eq_of_takes hlj (by rw [rkR_len]; omega) (by rw [rkR_len]; omega)
            clear hget hli hl
            repeat' (first | ((with_reducible first | apply S_0 | apply S_q1 | apply S_g | apply S_c); exact sgc) | (with_reducible first | apply SO_q | apply SG_t | apply SG_f0 | apply SG_f1 | apply S_nil | apply T_n | apply W_seq | apply W_region | apply SO_x | apply SC_t | apply SC_f | apply W_block | apply W_ret | apply W_skip | apply W_exit | apply T_r | apply T_e | apply B_n | apply B_e) | (with_reducible apply B_ne; focus decide) | (with_reducible first | apply B_r | apply R_e | apply R_r | apply H_e | apply H_r | apply G_e | apply G_r) | (with_reducible apply SC_n) | ((with_reducible first | apply SC_d | apply SG_d | apply SG_n | apply SC_b | apply SG_b) <;> intro hc <;> try simp only [decide_eq_true_eq, decide_eq_false_iff_not, Classical.not_not, Bool.not_eq_true', Bool.not_eq_false'] at hc))
            refine H_n (by exact svc) hlt (takes_ext hlx (by rw [rkv_len]; exact hlt) (by rw [rkv_len]; exact hiy) ?_)
            rw [rkv_get, rkv_get, hrr]
        · have hli' : ¬ (x[i].l.length : Int) = y[i].l.length := by omega
          have : ¬ rkv x = rkv y := fun h => hli (by have := congrArg List.length (hget h); rwa [rkR_len, rkR_len] at this)
          simp only [this, and_false, decide_false]
          clear hget
          repeat' (first | ((with_reducible first | apply S_0 | apply S_q1 | apply S_g | apply S_c); exact sgc) | (with_reducible first | apply SO_q | apply SG_t | apply SG_f0 | apply SG_f1 | apply S_nil | apply T_n | apply W_seq | apply W_region | apply SO_x | apply SC_t | apply SC_f | apply W_block | apply W_ret | apply W_skip | apply W_exit | apply T_r | apply T_e | apply B_n | apply B_e) | (with_reducible apply B_ne; focus decide) | (with_reducible first | apply B_r | apply R_e | apply R_r | apply H_e | apply H_r | apply G_e | apply G_r) | (with_reducible apply SC_n) | ((with_reducible first | apply SC_d | apply SG_d | apply SG_n | apply SC_b | apply SG_b) <;> intro hc <;> try simp only [decide_eq_true_eq, decide_eq_false_iff_not, Classical.not_not, Bool.not_eq_true', Bool.not_eq_false'] at hc))
          (first | exact fincR | exact fincN)
      · have hlt' : ¬ (i : Int) < x.length := by omega
        have hly : ¬ (x.length : Int) < y.length := by omega
        have hly2 : ¬ (y.length : Int) < y.length := by omega
        obtain rfl : i = x.length := by omega
        have := eq_of_takes hlx (by rw [rkv_len]; omega) (by rw [rkv_len]; omega)
        simp only [this, and_true, decide_true]
        clear hlx this hl
        repeat' (first | ((with_reducible first | apply S_0 | apply S_q1 | apply S_g | apply S_c); exact sgc) | (with_reducible first | apply SO_q | apply SG_t | apply SG_f0 | apply SG_f1 | apply S_nil | apply T_n | apply W_seq | apply W_region | apply SO_x | apply SC_t | apply SC_f | apply W_block | apply W_ret | apply W_skip | apply W_exit | apply T_r | apply T_e | apply B_n | apply B_e) | (with_reducible apply B_ne; focus decide) | (with_reducible first | apply B_r | apply R_e | apply R_r | apply H_e | apply H_r | apply G_e | apply G_r) | (with_reducible apply SC_n) | ((with_reducible first | apply SC_d | apply SG_d | apply SG_n | apply SC_b | apply SG_b) <;> intro hc <;> try simp only [decide_eq_true_eq, decide_eq_false_iff_not, Classical.not_not, Bool.not_eq_true', Bool.not_eq_false'] at hc))
        (first | exact fincR | exact fincN)
    · have hlZ : ¬ (x.length : Int) = y.length := by omega
      have : ¬ rkv x = rkv y := by intro h; have := congrArg List.length h; simp only [rkv_len] at this; omega
      simp only [this, and_false, decide_false]
      repeat' (first | ((with_reducible first | apply S_0 | apply S_q1 | apply S_g | apply S_c); exact sgc) | (with_reducible first | apply SO_q | apply SG_t | apply SG_f0 | apply SG_f1 | apply S_nil | apply T_n | apply W_seq | apply W_region | apply SO_x | apply SC_t | apply SC_f | apply W_block | apply W_ret | apply W_skip | apply W_exit | apply T_r | apply T_e | apply B_n | apply B_e) | (with_reducible apply B_ne; focus decide) | (with_reducible first | apply B_r | apply R_e | apply R_r | apply H_e | apply H_r | apply G_e | apply G_r) | (with_reducible apply SC_n) | ((with_reducible first | apply SC_d | apply SG_d | apply SG_n | apply SC_b | apply SG_b) <;> intro hc <;> try simp only [decide_eq_true_eq, decide_eq_false_iff_not, Classical.not_not, Bool.not_eq_true', Bool.not_eq_false'] at hc))
      (first | exact fincR | exact fincN)
  · simp only [hnm, false_and, decide_false]
    repeat' (first | ((with_reducible first | apply S_0 | apply S_q1 | apply S_g | apply S_c); exact sgc) | (with_reducible first | apply SO_q | apply SG_t | apply SG_f0 | apply SG_f1 | apply S_nil | apply T_n | apply W_seq | apply W_region | apply SO_x | apply SC_t | apply SC_f | apply W_block | apply W_ret | apply W_skip | apply W_exit | apply T_r | apply T_e | apply B_n | apply B_e) | (with_reducible apply B_ne; focus decide) | (with_reducible first | apply B_r | apply R_e | apply R_r | apply H_e | apply H_r | apply G_e | apply G_r) | (with_reducible apply SC_n) | ((with_reducible first | apply SC_d | apply SG_d | apply SG_n | apply SC_b | apply SG_b) <;> intro hc <;> try simp only [decide_eq_true_eq, decide_eq_false_iff_not, Classical.not_not, Bool.not_eq_true', Bool.not_eq_false'] at hc))
    (first | exact fincR | exact fincN)
end Go.Proofs.Ytopiaiibpacmlaa.Av
