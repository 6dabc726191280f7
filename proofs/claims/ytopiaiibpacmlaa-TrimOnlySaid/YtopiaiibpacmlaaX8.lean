/- What trimming asks of paths: has, useless, sure, settled. -/
import Derived.Test.YtopiaiibpacmlaaX7
import Derived.Test.YtopiaiibpacmlaaX4
import Derived.Test.YtopiaiibpacmlaaX6
namespace Go.Proofs.Ytopiaiibpacmlaa.Av
open Go.RowKit
set_option linter.unusedSimpArgs false
set_option linter.unusedVariables false
set_option maxHeartbeats 10000000
theorem t133 (r : Rnk) (y : List Int) (ny cy : Bool) (id : Nat) (M : MS) (hid : id < M.length) (hM : M[id]? = some (some [.list 1 (intsA y) ny cy])) : ev pr 133 [.agg [.list 1 (intsA r.p.l) r.p.nl r.p.cd, .flat (.int .i64 r.r)], .mptr id 0] M = some (.q (.flat (.bool (decide (r.p.l = y))))) := by
  have hM' : (M ++ [some [.list 1 (intsA r.p.l) r.p.nl r.p.cd, .flat (.int .i64 r.r)]])[id]? = some (some [.list 1 (intsA y) ny cy]) := by rw [List.getElem?_append_left hid, hM]
  refine ev_fn' A133 ?_
  repeat' (first | ((with_reducible first | apply S_0 | apply S_q1 | apply S_g | apply S_c); exact sgc) | (with_reducible first | apply SO_q | apply SG_t | apply SG_f0 | apply SG_f1 | apply S_nil | apply T_n | apply W_seq | apply W_region | apply SO_x | apply SC_t | apply SC_f | apply W_block | apply W_ret | apply W_skip | apply W_exit | apply T_r | apply T_e | apply B_n | apply B_e) | (with_reducible apply B_ne; focus decide) | (with_reducible first | apply B_r | apply R_e | apply R_r | apply H_e | apply H_r | apply G_e | apply G_r) | (with_reducible apply SC_n) | ((with_reducible first | apply SC_d | apply SG_d | apply SG_n | apply SC_b | apply SG_b) <;> intro hc <;> try simp only [decide_eq_true_eq, decide_eq_false_iff_not, Classical.not_not, Bool.not_eq_true', Bool.not_eq_false'] at hc))
  (first | exact fincR | exact fincN)
theorem t132 {P : Rnk → Prop} [DecidablePred P] {x : List Rnk} {nx cx : Bool} {fn : Nat} {caps : List AV} {M : MS} (hx : x.length ≤ 9223372036854775807)
    (h : ∀ r ∈ x, ev pr fn (.agg [.list 1 (intsA r.p.l) r.p.nl r.p.cd, .flat (.int .i64 r.r)] :: caps) M = some (.q (.flat (.bool (decide (P r)))))) : ev pr 132 [.list 2 (rksA x) nx cx, .clo fn caps] M = some (.q (.flat (.bool (decide (0 ≤ fst P x))))) := by
  have h1 := @t110 P _ x nx cx fn caps M hx h
  refine ev_fn' A132 ?_
  repeat' (first | ((with_reducible first | apply S_0 | apply S_q1 | apply S_g | apply S_c); exact sgc) | (with_reducible first | apply SO_q | apply SG_t | apply SG_f0 | apply SG_f1 | apply S_nil | apply T_n | apply W_seq | apply W_region | apply SO_x | apply SC_t | apply SC_f | apply W_block | apply W_ret | apply W_skip | apply W_exit | apply T_r | apply T_e | apply B_n | apply B_e) | (with_reducible apply B_ne; focus decide) | (with_reducible first | apply B_r | apply R_e | apply R_r | apply H_e | apply H_r | apply G_e | apply G_r) | (with_reducible apply SC_n) | ((with_reducible first | apply SC_d | apply SG_d | apply SG_n | apply SC_b | apply SG_b) <;> intro hc <;> try simp only [decide_eq_true_eq, decide_eq_false_iff_not, Classical.not_not, Bool.not_eq_true', Bool.not_eq_false'] at hc))
  (first | exact fincR | exact fincN)
/-- An instance whose ranks may be the call's own row. -/
theorem t116 {n : Int} {l : List Rks} {rv : AV} {M : MS} {p : List Int} {np cp : Bool} {u : Nat} (hv : Vw M rv (l.map Rks.av) l.length) (hp : 0 < p.length) (hu : p[0] = u) (hul : u < l.length) (hlp : p.length ≤ 9223372036854775807) :
    ev pr 116 [.agg [.flat (.int .i64 n), rv], .list 1 (intsA p) np cp] M = some (.q (.flat (.bool (decide (p ∈ paths l[u].l))))) := by
  have h1 := @t132 (fun r => r.p.l = p) _ l[u].l l[u].nl l[u].cd 133 [.mptr (M.length + 1) 0] (M ++ [some [.flat (.int .i64 n), rv], some [.list 1 (intsA p) np cp]]) l[u].le (fun r hr => t133 r p np cp _ _ (by simp) (by simp))
  have h2 : decide (0 ≤ fst (fun r : Rnk => r.p.l = p) l[u].l) = decide (p ∈ paths l[u].l) := decide_eq_decide.2 (by rw [fst_place, place_ge])
  rw [h2] at h1
  have e0 := hv.vw
  have e1 := hv.len
  have e2 := hv.cell
  clear hv h2
  refine ev_fn' A116 ?_
  repeat' (first | ((with_reducible first | apply S_0 | apply S_q1 | apply S_g | apply S_c); exact sgc) | (with_reducible first | apply SO_q | apply SG_t | apply SG_f0 | apply SG_f1 | apply S_nil | apply T_n | apply W_seq | apply W_region | apply SO_x | apply SC_t | apply SC_f | apply W_block | apply W_ret | apply W_skip | apply W_exit | apply T_r | apply T_e | apply B_n | apply B_e) | (with_reducible apply B_ne; focus decide) | (with_reducible first | apply B_r | apply R_e | apply R_r | apply H_e | apply H_r | apply G_e | apply G_r) | (with_reducible apply SC_n) | ((with_reducible first | apply SC_d | apply SG_d | apply SG_n | apply SC_b | apply SG_b) <;> intro hc <;> try simp only [decide_eq_true_eq, decide_eq_false_iff_not, Classical.not_not, Bool.not_eq_true', Bool.not_eq_false'] at hc))
  (first | exact fincR | exact fincN)
theorem t83 {n : Int} {l : List Rks} {rv : AV} {M : MS} {p : List Int} {np cp : Bool} {u : Nat} (hv : Vw M rv (l.map Rks.av) l.length) (hp : 1 < p.length) (hu : p[1] = u) (hul : u < l.length) (hlp : p.length ≤ 1000) (hnp : np = true → p = []) :
    ev pr 83 [.agg [.flat (.int .i64 n), rv], .list 1 (intsA p) np cp] M = some (.q (.flat (.bool (decide (p[1] ≠ 0 ∧ p.drop 1 ∉ paths l[u].l))))) := by
  have h116 := fun (cq : Bool) => t116 (n := n) (np := np) (cp := cq) (hv.ext [some [.flat (.int .i64 n), rv]]) (p := p.drop 1) (u := u) (by simp; omega) (by simpa using hu) hul (by simp; omega)
  have e2 := hv.cell
  clear hv
  refine ev_fn' A83 ?_
  by_cases h0 : (u : Int) = 0
  · have h1 : decide (p[1] ≠ 0 ∧ p.drop 1 ∉ paths l[u].l) = false := by simp [hu, h0]
    rw [h1]
    repeat' (first | ((with_reducible first | apply S_0 | apply S_q1 | apply S_g | apply S_c); exact sgc) | (with_reducible first | apply SO_q | apply SG_t | apply SG_f0 | apply SG_f1 | apply S_nil | apply T_n | apply W_seq | apply W_region | apply SO_x | apply SC_t | apply SC_f | apply W_block | apply W_ret | apply W_skip | apply W_exit | apply T_r | apply T_e | apply B_n | apply B_e) | (with_reducible apply B_ne; focus decide) | (with_reducible first | apply B_r | apply R_e | apply R_r | apply H_e | apply H_r | apply G_e | apply G_r) | (with_reducible apply SC_n) | ((with_reducible first | apply SC_d | apply SG_d | apply SG_n | apply SC_b | apply SG_b) <;> intro hc <;> try simp only [decide_eq_true_eq, decide_eq_false_iff_not, Classical.not_not, Bool.not_eq_true', Bool.not_eq_false'] at hc))
    (first | exact fincR | exact fincN)
  · have h0' : ¬ u = 0 := by omega
    have h1 : decide (p[1] ≠ 0 ∧ p.drop 1 ∉ paths l[u].l) = !decide (p.drop 1 ∈ paths l[u].l) := by simp [hu, h0']
    rw [h1]
    repeat' (first | ((with_reducible first | apply S_0 | apply S_q1 | apply S_g | apply S_c); exact sgc) | (with_reducible first | apply SO_q | apply SG_t | apply SG_f0 | apply SG_f1 | apply S_nil | apply T_n | apply W_seq | apply W_region | apply SO_x | apply SC_t | apply SC_f | apply W_block | apply W_ret | apply W_skip | apply W_exit | apply T_r | apply T_e | apply B_n | apply B_e) | (with_reducible apply B_ne; focus decide) | (with_reducible first | apply B_r | apply R_e | apply R_r | apply H_e | apply H_r | apply G_e | apply G_r) | (with_reducible apply SC_n) | ((with_reducible first | apply SC_d | apply SG_d | apply SG_n | apply SC_b | apply SG_b) <;> intro hc <;> try simp only [decide_eq_true_eq, decide_eq_false_iff_not, Classical.not_not, Bool.not_eq_true', Bool.not_eq_false'] at hc))
    (first | exact fincR | exact fincN)
end Go.Proofs.Ytopiaiibpacmlaa.Av
namespace Go.Proofs.Ytopiaiibpacmlaa.Av
open Go.RowKit
set_option linter.unusedSimpArgs false
set_option linter.unusedVariables false
set_option maxHeartbeats 10000000
def rkAt (l : List Rks) (u : Int) : List Rnk := if h : u.toNat < l.length then l[u.toNat].l else []
def sureF (l : List Rks) : List Int → Prop
  | [] => False
  | _ :: r => r.head? = some 0 ∨ (∃ u, r.head? = some u ∧ paths (rkAt l u) = [r] ∧ sureF l r)
def settledF (l : List Rks) (v : Int) : Prop := rkAt l v = [] ∨ ∃ p, paths (rkAt l v) = [p] ∧ sureF l p
noncomputable instance (l : List Rks) (p : List Int) : Decidable (sureF l p) := Classical.propDecidable _
noncomputable instance (l : List Rks) (v : Int) : Decidable (settledF l v) := Classical.propDecidable _
def PC (l : List Rks) (p : List Int) : Prop := 2 ≤ p.length ∧ p.length ≤ 1000 ∧ ∀ a ∈ p, 0 ≤ a ∧ a < (l.length : Int)
theorem t85 {n : Int} {l : List Rks} {rv : AV} {M : MS} {v : Nat} (hv : Vw M rv (l.map Rks.av) l.length) (hvl : v < l.length)
    (hs : ∀ r, l[v].l = [r] → ∀ G, ev pr 84 [.agg [.flat (.int .i64 n), rv], .list 1 (intsA r.p.l) r.p.nl r.p.cd] (M ++ G) = some (.q (.flat (.bool (decide (sureF l r.p.l)))))) :
    ev pr 85 [.agg [.flat (.int .i64 n), rv], .flat (.int .i64 v)] M = some (.q (.flat (.bool (decide (settledF l v))))) := by
  have hr : rkAt l v = l[v].l := by simp [rkAt, hvl]
  have e0 := hv.vw
  have e1 := hv.len
  have e2 := hv.cell
  have hle := l[v].le
  clear hv
  refine ev_fn' A85 ?_
  match hl : l[v].l with
  | [] =>
    have h1 : decide (settledF l v) = true := decide_eq_true (.inl (hr.trans hl))
    rw [h1]
    repeat' (first | ((with_reducible first | apply S_0 | apply S_q1 | apply S_g | apply S_c); exact sgc) | (with_reducible first | apply SO_q | apply SG_t | apply SG_f0 | apply SG_f1 | apply S_nil | apply T_n | apply W_seq | apply W_region | apply SO_x | apply SC_t | apply SC_f | apply W_block | apply W_ret | apply W_skip | apply W_exit | apply T_r | apply T_e | apply B_n | apply B_e) | (with_reducible apply B_ne; focus decide) | (with_reducible first | apply B_r | apply R_e | apply R_r | apply H_e | apply H_r | apply G_e | apply G_r) | (with_reducible apply SC_n) | ((with_reducible first | apply SC_d | apply SG_d | apply SG_n | apply SC_b | apply SG_b) <;> intro hc <;> try simp only [decide_eq_true_eq, decide_eq_false_iff_not, Classical.not_not, Bool.not_eq_true', Bool.not_eq_false'] at hc))
    (first | exact fincR | exact fincN)
  | [r] =>
    have h1 : decide (settledF l v) = decide (sureF l r.p.l) := decide_eq_decide.2 (by
      rw [settledF, hr, hl]
      simp [paths])
    have hs' := hs r hl
    rw [h1]
    clear hs
    repeat' (first | ((with_reducible first | apply S_0 | apply S_q1 | apply S_g | apply S_c); exact sgc) | (with_reducible first | apply SO_q | apply SG_t | apply SG_f0 | apply SG_f1 | apply S_nil | apply T_n | apply W_seq | apply W_region | apply SO_x | apply SC_t | apply SC_f | apply W_block | apply W_ret | apply W_skip | apply W_exit | apply T_r | apply T_e | apply B_n | apply B_e) | (with_reducible apply B_ne; focus decide) | (with_reducible first | apply B_r | apply R_e | apply R_r | apply H_e | apply H_r | apply G_e | apply G_r) | (with_reducible apply SC_n) | ((with_reducible first | apply SC_d | apply SG_d | apply SG_n | apply SC_b | apply SG_b) <;> intro hc <;> try simp only [decide_eq_true_eq, decide_eq_false_iff_not, Classical.not_not, Bool.not_eq_true', Bool.not_eq_false'] at hc))
    (first | exact fincR | exact fincN)
  | r :: r' :: t =>
    have h1 : decide (settledF l v) = false := decide_eq_false (by
      rw [settledF, hr, hl]
      simp [paths])
    rw [h1]
    have hlz : ¬ ((t.length : Int) + 2 = 0) := by omega
    have hlz1 : ¬ ((t.length : Int) + 2 = 1) := by omega
    rw [hl] at hle
    simp only [List.length_cons] at hle
    clear hs
    repeat' (first | ((with_reducible first | apply S_0 | apply S_q1 | apply S_g | apply S_c); exact sgc) | (with_reducible first | apply SO_q | apply SG_t | apply SG_f0 | apply SG_f1 | apply S_nil | apply T_n | apply W_seq | apply W_region | apply SO_x | apply SC_t | apply SC_f | apply W_block | apply W_ret | apply W_skip | apply W_exit | apply T_r | apply T_e | apply B_n | apply B_e) | (with_reducible apply B_ne; focus decide) | (with_reducible first | apply B_r | apply R_e | apply R_r | apply H_e | apply H_r | apply G_e | apply G_r) | (with_reducible apply SC_n) | ((with_reducible first | apply SC_d | apply SG_d | apply SG_n | apply SC_b | apply SG_b) <;> intro hc <;> try simp only [decide_eq_true_eq, decide_eq_false_iff_not, Classical.not_not, Bool.not_eq_true', Bool.not_eq_false'] at hc))
    (first | exact fincR | exact fincN)
theorem t84 {n : Int} {l : List Rks} (hX : ∀ v (h : v < l.length), ∀ q ∈ l[v].l, PC l q.p.l) : ∀ (k : Nat) {rv : AV} {M : MS} {p : List Int} {np cp : Bool}, p.length ≤ k → (np = true → p = []) → Vw M rv (l.map Rks.av) l.length → PC l p →
    ev pr 84 [.agg [.flat (.int .i64 n), rv], .list 1 (intsA p) np cp] M = some (.q (.flat (.bool (decide (sureF l p)))))
  | 0, _, _, _, _, _, hk, _, _, hp => absurd hp.1 (by omega)
  | k + 1, rv, M, p, np, cp, hk, hnp, hv, hp => by
    obtain ⟨a, u, r, rfl⟩ : ∃ a u r, p = a :: u :: r := by
      match p, hp.1 with
      | a :: u :: r, _ => exact ⟨a, u, r, rfl⟩
    obtain ⟨hu0, hul⟩ := hp.2.2 u (by simp)
    obtain ⟨u, rfl⟩ : ∃ w : Nat, u = w := ⟨u.toNat, by omega⟩
    have hul' : u < l.length := by omega
    have hle := hp.2.1
    simp only [List.length_cons] at hle hk
    have h116 := fun (cq : Bool) => t116 (n := n) (np := np) (cp := cq) (hv.ext [some [.flat (.int .i64 n), rv]]) (p := ((u : Int) :: r)) (u := u) (by simp) rfl hul' (by simp; omega)
    have e2 := hv.cell
    have hr : rkAt l u = l[u].l := by simp [rkAt, hul']
    have htk : List.take (r.length + 2 - 1) ((u : Int) :: r) = (u : Int) :: r := List.take_of_length_le (by simp)
    have hsf : sureF l (a :: (u : Int) :: r) ↔ ((u : Int) = 0 ∨ ∃ w, (u : Int) = w ∧ paths (rkAt l w) = [(u : Int) :: r] ∧ sureF l ((u : Int) :: r)) := by
      rw [sureF]; simp only [List.head?_cons, Option.some.injEq]
    by_cases h0 : (u : Int) = 0
    · have h1 : decide (sureF l (a :: (u : Int) :: r)) = true := decide_eq_true (hsf.2 (.inl h0))
      rw [h1]
      clear hv
      refine ev_fn' A84 ?_
      repeat' (first | ((with_reducible first | apply S_0 | apply S_q1 | apply S_g | apply S_c); exact sgc) | (with_reducible first | apply SO_q | apply SG_t | apply SG_f0 | apply SG_f1 | apply S_nil | apply T_n | apply W_seq | apply W_region | apply SO_x | apply SC_t | apply SC_f | apply W_block | apply W_ret | apply W_skip | apply W_exit | apply T_r | apply T_e | apply B_n | apply B_e) | (with_reducible apply B_ne; focus decide) | (with_reducible first | apply B_r | apply R_e | apply R_r | apply H_e | apply H_r | apply G_e | apply G_r) | (with_reducible apply SC_n) | ((with_reducible first | apply SC_d | apply SG_d | apply SG_n | apply SC_b | apply SG_b) <;> intro hc <;> try simp only [decide_eq_true_eq, decide_eq_false_iff_not, Classical.not_not, Bool.not_eq_true', Bool.not_eq_false'] at hc))
      (first | exact fincR | exact fincN)
    · by_cases hm : ((u : Int) :: r) ∈ paths l[u].l
      · have h85 := t85 (n := n) (v := u) (hv.ext [some [.flat (.int .i64 n), rv]]) hul' (fun q hq G => by
          have hq' : q.p.l = (u : Int) :: r := by
            rw [hq] at hm; simp only [paths, List.map_cons, List.map_nil, List.mem_singleton] at hm; exact hm.symm
          refine t84 hX k (by rw [hq']; simp; omega) (fun h => (q.p.ok h).1) ((hv.ext _).ext _) ?_
          exact hX u hul' q (by rw [hq]; simp))
        have h1 : decide (sureF l (a :: (u : Int) :: r)) = decide (settledF l u) := decide_eq_decide.2 (by
          have h0' : ¬ u = 0 := by omega
          rw [hsf, settledF, hr]; simp only [h0, false_or]
          constructor
          · rintro ⟨w, rfl, h2, h3⟩
            rw [hr] at h2
            exact .inr ⟨_, h2, h3⟩
          · rintro (h | ⟨p, h2, h3⟩)
            · rw [h] at hm; simp [paths] at hm
            · rw [h2] at hm
              simp only [List.mem_singleton] at hm
              exact ⟨_, rfl, by rw [hr, h2, hm], by rw [hm]; exact h3⟩)
        rw [h1]
        simp only [hm, decide_true] at h116
        clear hv
        refine ev_fn' A84 ?_
        repeat' (first | ((with_reducible first | apply S_0 | apply S_q1 | apply S_g | apply S_c); exact sgc) | (with_reducible first | apply SO_q | apply SG_t | apply SG_f0 | apply SG_f1 | apply S_nil | apply T_n | apply W_seq | apply W_region | apply SO_x | apply SC_t | apply SC_f | apply W_block | apply W_ret | apply W_skip | apply W_exit | apply T_r | apply T_e | apply B_n | apply B_e) | (with_reducible apply B_ne; focus decide) | (with_reducible first | apply B_r | apply R_e | apply R_r | apply H_e | apply H_r | apply G_e | apply G_r) | (with_reducible apply SC_n) | ((with_reducible first | apply SC_d | apply SG_d | apply SG_n | apply SC_b | apply SG_b) <;> intro hc <;> try simp only [decide_eq_true_eq, decide_eq_false_iff_not, Classical.not_not, Bool.not_eq_true', Bool.not_eq_false'] at hc))
        (first | exact fincR | exact fincN)
      · have h1 : decide (sureF l (a :: (u : Int) :: r)) = false := decide_eq_false (by
          rw [hsf]; simp only [h0, false_or]
          rintro ⟨w, rfl, h2, h3⟩
          rw [hr] at h2
          exact hm (by rw [h2]; simp))
        rw [h1]
        simp only [hm, decide_false] at h116
        clear hv
        refine ev_fn' A84 ?_
        repeat' (first | ((with_reducible first | apply S_0 | apply S_q1 | apply S_g | apply S_c); exact sgc) | (with_reducible first | apply SO_q | apply SG_t | apply SG_f0 | apply SG_f1 | apply S_nil | apply T_n | apply W_seq | apply W_region | apply SO_x | apply SC_t | apply SC_f | apply W_block | apply W_ret | apply W_skip | apply W_exit | apply T_r | apply T_e | apply B_n | apply B_e) | (with_reducible apply B_ne; focus decide) | (with_reducible first | apply B_r | apply R_e | apply R_r | apply H_e | apply H_r | apply G_e | apply G_r) | (with_reducible apply SC_n) | ((with_reducible first | apply SC_d | apply SG_d | apply SG_n | apply SC_b | apply SG_b) <;> intro hc <;> try simp only [decide_eq_true_eq, decide_eq_false_iff_not, Classical.not_not, Bool.not_eq_true', Bool.not_eq_false'] at hc))
        (first | exact fincR | exact fincN)
end Go.Proofs.Ytopiaiibpacmlaa.Av
namespace Go.Proofs.Ytopiaiibpacmlaa.Av
open Go.RowKit
set_option linter.unusedSimpArgs false
set_option linter.unusedVariables false
set_option maxHeartbeats 10000000
noncomputable def stl (l : List Rks) : Nat → List Int
  | 0 => []
  | k + 1 => stl l k ++ (if 1 ≤ k ∧ settledF l k then [(k : Int)] else [])
theorem stl_len (l : List Rks) : ∀ k, (stl l k).length ≤ k
  | 0 => by simp [stl]
  | k + 1 => by have := stl_len l k; simp only [stl, List.length_append]; split <;> simp <;> omega
theorem pc_x {l : List Rks} (hX : MayX l.length l) (hS : SmallX l) (v : Nat) (h : v < l.length) : ∀ q ∈ l[v].l, PC l q.p.l := fun q hq => by
  have h20 := (hS.2 _ (List.getElem_mem h)).2 q hq
  by_cases hv1 : 1 ≤ v
  · obtain ⟨h1, _, _, _, h5⟩ := lok_path (hX.2.2.2.2 v h hv1) q hq
    exact ⟨h1, by omega, h5⟩
  · obtain rfl : v = 0 := by omega
    have := hX.2.2.2.1 h
    rw [this] at hq; simp at hq
theorem t85x {l : List Rks} {rv : AV} {M : MS} {v : Nat} (hX : MayX l.length l) (hS : SmallX l) (hv : Vw M rv (l.map Rks.av) l.length) (hvl : v < l.length) :
    ev pr 85 [.agg [.flat (.int .i64 l.length), rv], .flat (.int .i64 v)] M = some (.q (.flat (.bool (decide (settledF l v))))) :=
  t85 hv hvl (fun q hq G => t84 (pc_x hX hS) _ (Nat.le_refl _) (fun h => (q.p.ok h).1) (hv.ext G) (pc_x hX hS v hvl q (by rw [hq]; simp)))
theorem t38 {n : Int} {l : List Rks} {nl cd : Bool} {M : MS} (hS : SmallX l) :
    ev pr 38 [.agg [.flat (.int .i64 n), .list 1 (l.map Rks.av) nl cd]] M = some (.q (lst 1 (intsA (if MayX n l then stl l l.length else [])))) := by
  have h76 := fun M => t76 n l nl cd M hS
  by_cases hX : MayX n l
  · obtain rfl : n = l.length := hX.2.2.1.symm
    simp only [hX, decide_true] at h76
    have h85 := fun G v hvl => t85x (rv := .list 1 (l.map Rks.av) nl cd) (M := M ++ (some [AV.flat (.int .i64 l.length), AV.list 1 (l.map Rks.av) nl cd] :: G)) (v := v) hX hS (Vw.list _ _ _ _ _) hvl
    have hx1 : 1 ≤ l.length := by have := hX.1; omega
    have hl12 := hS.1
    rw [if_pos hX]
    clear hX hS
    refine ev_fn' A38 ?_
    repeat' (first | ((with_reducible first | apply S_0 | apply S_q1 | apply S_g | apply S_c); exact sgc) | (with_reducible first | apply SO_q | apply SG_t | apply SG_f0 | apply SG_f1 | apply S_nil | apply T_n | apply W_seq | apply W_region | apply SO_x | apply SC_t | apply SC_f | apply W_block | apply W_ret | apply W_skip | apply W_exit | apply T_r | apply T_e | apply B_n | apply B_e) | (with_reducible apply B_ne; focus decide) | (with_reducible first | apply B_r | apply R_e | apply R_r | apply H_e | apply H_r | apply G_e | apply G_r) | (with_reducible apply SC_n) | ((with_reducible first | apply SC_d | apply SG_d | apply SG_n | apply SC_b | apply SG_b) <;> intro hc <;> try simp only [decide_eq_true_eq, decide_eq_false_iff_not, Classical.not_not, Bool.not_eq_true', Bool.not_eq_false'] at hc))
    refine W_rngM 4 1 l.length (fun i e m => ∃ v G, e 3 = v ∧ m = M ++ [some [AV.flat (.int .i64 l.length), AV.list 1 (l.map Rks.av) nl cd]] ++ G ∧ Own (M ++ [some [AV.flat (.int .i64 l.length), AV.list 1 (l.map Rks.av) nl cd]]).length (M ++ [some [AV.flat (.int .i64 l.length), AV.list 1 (l.map Rks.av) nl cd]] ++ G) v 1 (intsA (stl l i))) (by simp only [asg, asgO, List.append_nil, List.nil_append, List.cons_append]; rfl) (by exact svc) (by omega)
      ⟨.list 1 [] true true, [], by exact svc, by simp, by simpa [stl, intsA] using Own.nil _ _ (by decide)⟩ ?_
    rintro i e _ hi1 hi hk e4 ⟨w, G, e3, rfl, hO⟩
    rcases Nat.lt_or_ge i l.length with hlt | hlt
    · have hlt' : (i : Int) < l.length := by omega
      have h85 := h85 G i hlt
      have hml := stl_len l i
      by_cases hc : settledF l i
      · simp only [hc, decide_true] at h85
        repeat' (first | ((with_reducible first | apply S_0 | apply S_q1 | apply S_g | apply S_c); exact sgc) | (with_reducible first | apply SO_q | apply SG_t | apply SG_f0 | apply SG_f1 | apply S_nil | apply T_n | apply W_seq | apply W_region | apply SO_x | apply SC_t | apply SC_f | apply W_block | apply W_ret | apply W_skip | apply W_exit | apply T_r | apply T_e | apply B_n | apply B_e) | (with_reducible apply B_ne; focus decide) | (with_reducible first | apply B_r | apply R_e | apply R_r | apply H_e | apply H_r | apply G_e | apply G_r) | (with_reducible apply SC_n) | ((with_reducible first | apply SC_d | apply SG_d | apply SG_n | apply SC_b | apply SG_b) <;> intro hc <;> try simp only [decide_eq_true_eq, decide_eq_false_iff_not, Classical.not_not, Bool.not_eq_true', Bool.not_eq_false'] at hc))
        (refine S_ownG (cs := intsA (stl l i)) (M ++ [some [AV.flat (.int .i64 l.length), AV.list 1 (l.map Rks.av) nl cd]]) G (by assumption) (by first | rfl | simp only [List.append_assoc, List.cons_append, List.nil_append]) (by exact sgc) (by exact sgc) (by exact sgc) (by exact sgc) (by exact sgc) (by (first | assumption | omega | (simp only [ints_len, Nat.div_one, Nat.one_mul, Nat.mul_one, List.length_map, rks_len, half, List.length_cons, List.length_nil, List.length_append]; omega))) (by (first | assumption | omega | (simp only [ints_len, Nat.div_one, Nat.one_mul, Nat.mul_one, List.length_map, rks_len, half, List.length_cons, List.length_nil, List.length_append]; omega))) (by first | omega | (simp; done) | (simp; omega)) ?_)
        intro v' G' hO'
        repeat' (first | ((with_reducible first | apply S_0 | apply S_q1 | apply S_g | apply S_c); exact sgc) | (with_reducible first | apply SO_q | apply SG_t | apply SG_f0 | apply SG_f1 | apply S_nil | apply T_n | apply W_seq | apply W_region | apply SO_x | apply SC_t | apply SC_f | apply W_block | apply W_ret | apply W_skip | apply W_exit | apply T_r | apply T_e | apply B_n | apply B_e) | (with_reducible apply B_ne; focus decide) | (with_reducible first | apply B_r | apply R_e | apply R_r | apply H_e | apply H_r | apply G_e | apply G_r) | (with_reducible apply SC_n) | ((with_reducible first | apply SC_d | apply SG_d | apply SG_n | apply SC_b | apply SG_b) <;> intro hc <;> try simp only [decide_eq_true_eq, decide_eq_false_iff_not, Classical.not_not, Bool.not_eq_true', Bool.not_eq_false'] at hc))
        refine G_n (by exact svc) hlt ⟨v', G', by exact svc, rfl, ?_⟩
        rw [stl, if_pos ⟨hi1, hc⟩]
        simpa [intsA] using hO'
      · simp only [hc, decide_false] at h85
        repeat' (first | ((with_reducible first | apply S_0 | apply S_q1 | apply S_g | apply S_c); exact sgc) | (with_reducible first | apply SO_q | apply SG_t | apply SG_f0 | apply SG_f1 | apply S_nil | apply T_n | apply W_seq | apply W_region | apply SO_x | apply SC_t | apply SC_f | apply W_block | apply W_ret | apply W_skip | apply W_exit | apply T_r | apply T_e | apply B_n | apply B_e) | (with_reducible apply B_ne; focus decide) | (with_reducible first | apply B_r | apply R_e | apply R_r | apply H_e | apply H_r | apply G_e | apply G_r) | (with_reducible apply SC_n) | ((with_reducible first | apply SC_d | apply SG_d | apply SG_n | apply SC_b | apply SG_b) <;> intro hc <;> try simp only [decide_eq_true_eq, decide_eq_false_iff_not, Classical.not_not, Bool.not_eq_true', Bool.not_eq_false'] at hc))
        refine G_n (by exact svc) hlt ⟨w, G, by exact svc, by simp, ?_⟩
        rw [stl, if_neg fun h => hc h.2, List.append_nil]; exact hO
    · have hlt' : ¬ (i : Int) < l.length := by omega
      have hil : i = l.length := by omega
      subst hil
      repeat' (first | ((with_reducible first | apply S_0 | apply S_q1 | apply S_g | apply S_c); exact sgc) | (with_reducible first | apply SO_q | apply SG_t | apply SG_f0 | apply SG_f1 | apply S_nil | apply T_n | apply W_seq | apply W_region | apply SO_x | apply SC_t | apply SC_f | apply W_block | apply W_ret | apply W_skip | apply W_exit | apply T_r | apply T_e | apply B_n | apply B_e) | (with_reducible apply B_ne; focus decide) | (with_reducible first | apply B_r | apply R_e | apply R_r | apply H_e | apply H_r | apply G_e | apply G_r) | (with_reducible apply SC_n) | ((with_reducible first | apply SC_d | apply SG_d | apply SG_n | apply SC_b | apply SG_b) <;> intro hc <;> try simp only [decide_eq_true_eq, decide_eq_false_iff_not, Classical.not_not, Bool.not_eq_true', Bool.not_eq_false'] at hc))
      have hf := hO.finG (base := M.length) (by simp)
      simp only [List.append_assoc, List.cons_append, List.nil_append] at hf
      (refine ⟨by first | exact .inr rfl | exact .inl rfl, ?_⟩; simp (disch := first | assumption | decide | omega | exact Pth.le _ | exact Rks.le _ | exact List.getElem_mem _ | exact allI_ints _ | exact allI_rks _ | exact allI_pths _ | exact Pth.nil _ | exact Rks.nil _ | (intro hh; simp only [Pth.nil _ hh, List.take_nil, List.drop_nil]; done) | (intro hh; simp only [Rks.nil _ hh, List.take_nil, List.drop_nil]; done) | (simp only [List.length_take, List.length_drop, List.length_append, List.length_cons, List.length_nil, List.length_replicate, List.length_map, ints_len]; omega)) only [resA, rvA, tupA, Option.bind_some, go_sem, if_pos, if_neg, Nat.reduceBEq, Nat.reduceEqDiff, ↓reduceIte, Nat.reduceSub, Nat.reduceAdd, Int.reduceToNat, reduceCtorEq, Nat.reduceLeDiff, Nat.reduceLT, Nat.reduceMul, Nat.reduceDiv, Int.reduceLT, Int.reduceLE, Int.reduceEq, Int.reduceNe, Int.reduceAdd, Int.reduceSub, Int.reduceNeg, Int.reduceGT, Int.reduceGE, Int.reduceBEq, Int.reduceBNe, Int.reduceMul, *])
  · simp only [hX, decide_false] at h76
    rw [if_neg hX]
    refine ev_fn' A38 ?_
    repeat' (first | ((with_reducible first | apply S_0 | apply S_q1 | apply S_g | apply S_c); exact sgc) | (with_reducible first | apply SO_q | apply SG_t | apply SG_f0 | apply SG_f1 | apply S_nil | apply T_n | apply W_seq | apply W_region | apply SO_x | apply SC_t | apply SC_f | apply W_block | apply W_ret | apply W_skip | apply W_exit | apply T_r | apply T_e | apply B_n | apply B_e) | (with_reducible apply B_ne; focus decide) | (with_reducible first | apply B_r | apply R_e | apply R_r | apply H_e | apply H_r | apply G_e | apply G_r) | (with_reducible apply SC_n) | ((with_reducible first | apply SC_d | apply SG_d | apply SG_n | apply SC_b | apply SG_b) <;> intro hc <;> try simp only [decide_eq_true_eq, decide_eq_false_iff_not, Classical.not_not, Bool.not_eq_true', Bool.not_eq_false'] at hc))
    (refine ⟨by first | exact .inr rfl | exact .inl rfl, ?_⟩; simp (disch := first | assumption | decide | omega | exact Pth.le _ | exact Rks.le _ | exact List.getElem_mem _ | exact allI_ints _ | exact allI_rks _ | exact allI_pths _ | exact Pth.nil _ | exact Rks.nil _ | (intro hh; simp only [Pth.nil _ hh, List.take_nil, List.drop_nil]; done) | (intro hh; simp only [Rks.nil _ hh, List.take_nil, List.drop_nil]; done) | (simp only [List.length_take, List.length_drop, List.length_append, List.length_cons, List.length_nil, List.length_replicate, List.length_map, ints_len]; omega)) only [resA, rvA, tupA, fin, frzV, frzTup, frzA, frz, isI, isI.all, Option.bind_some, go_sem, if_pos, if_neg, Nat.reduceBEq, Nat.reduceEqDiff, ↓reduceIte, Nat.reduceSub, Nat.reduceAdd, Int.reduceToNat, reduceCtorEq, Nat.reduceLeDiff, Nat.reduceLT, Nat.reduceMul, Nat.reduceDiv, Int.reduceLT, Int.reduceLE, Int.reduceEq, Int.reduceNe, Int.reduceAdd, Int.reduceSub, Int.reduceNeg, Int.reduceGT, Int.reduceGE, Int.reduceBEq, Int.reduceBNe, Int.reduceMul, *])
    rfl
end Go.Proofs.Ytopiaiibpacmlaa.Av
namespace Go.Proofs.Ytopiaiibpacmlaa.Av
open Go.RowKit
set_option linter.unusedSimpArgs false
set_option linter.unusedVariables false
set_option maxHeartbeats 10000000
theorem t39 {n : Int} {l : List Rks} {rv : AV} {M : MS} {v : Nat} (hv : Vw M rv (l.map Rks.av) l.length) (hvl : v < l.length)
    (hs : ∀ r, l[v].l = [r] → ∀ G, ev pr 86 [.agg [.flat (.int .i64 n), rv], .list 1 (intsA r.p.l) r.p.nl r.p.cd] (M ++ G) = some (.q (.flat (.bool (decide (sureF l r.p.l)))))) :
    ev pr 39 [.agg [.flat (.int .i64 n), rv], .flat (.int .i64 v)] M = some (.q (.flat (.bool (decide (settledF l v))))) := by
  have hr : rkAt l v = l[v].l := by simp [rkAt, hvl]
  have hle := l[v].le
  have e0 := hv.vw
  have e1 := hv.len
  have e2 := hv.cell
  clear hv
  refine ev_fn' A39 ?_
  match hl : l[v].l with
  | [] =>
    have h1 : decide (settledF l v) = true := decide_eq_true (.inl (hr.trans hl))
    rw [h1]
    repeat' (first | ((with_reducible first | apply S_0 | apply S_q1 | apply S_g | apply S_c); exact sgc) | (with_reducible first | apply SO_q | apply SG_t | apply SG_f0 | apply SG_f1 | apply S_nil | apply T_n | apply W_seq | apply W_region | apply SO_x | apply SC_t | apply SC_f | apply W_block | apply W_ret | apply W_skip | apply W_exit | apply T_r | apply T_e | apply B_n | apply B_e) | (with_reducible apply B_ne; focus decide) | (with_reducible first | apply B_r | apply R_e | apply R_r | apply H_e | apply H_r | apply G_e | apply G_r) | (with_reducible apply SC_n) | ((with_reducible first | apply SC_d | apply SG_d | apply SG_n | apply SC_b | apply SG_b) <;> intro hc <;> try simp only [decide_eq_true_eq, decide_eq_false_iff_not, Classical.not_not, Bool.not_eq_true', Bool.not_eq_false'] at hc))
    (first | exact fincR | exact fincN)
  | [r] =>
    have h1 : decide (settledF l v) = decide (sureF l r.p.l) := decide_eq_decide.2 (by
      rw [settledF, hr, hl]
      simp [paths])
    have hs' := hs r hl
    rw [h1]
    clear hs
    repeat' (first | ((with_reducible first | apply S_0 | apply S_q1 | apply S_g | apply S_c); exact sgc) | (with_reducible first | apply SO_q | apply SG_t | apply SG_f0 | apply SG_f1 | apply S_nil | apply T_n | apply W_seq | apply W_region | apply SO_x | apply SC_t | apply SC_f | apply W_block | apply W_ret | apply W_skip | apply W_exit | apply T_r | apply T_e | apply B_n | apply B_e) | (with_reducible apply B_ne; focus decide) | (with_reducible first | apply B_r | apply R_e | apply R_r | apply H_e | apply H_r | apply G_e | apply G_r) | (with_reducible apply SC_n) | ((with_reducible first | apply SC_d | apply SG_d | apply SG_n | apply SC_b | apply SG_b) <;> intro hc <;> try simp only [decide_eq_true_eq, decide_eq_false_iff_not, Classical.not_not, Bool.not_eq_true', Bool.not_eq_false'] at hc))
    (first | exact fincR | exact fincN)
  | r :: r' :: t =>
    have h1 : decide (settledF l v) = false := decide_eq_false (by
      rw [settledF, hr, hl]
      simp [paths])
    rw [h1]
    have hlz : ¬ ((t.length : Int) + 2 = 0) := by omega
    have hlz1 : ¬ ((t.length : Int) + 2 = 1) := by omega
    rw [hl] at hle
    simp only [List.length_cons] at hle
    clear hs
    repeat' (first | ((with_reducible first | apply S_0 | apply S_q1 | apply S_g | apply S_c); exact sgc) | (with_reducible first | apply SO_q | apply SG_t | apply SG_f0 | apply SG_f1 | apply S_nil | apply T_n | apply W_seq | apply W_region | apply SO_x | apply SC_t | apply SC_f | apply W_block | apply W_ret | apply W_skip | apply W_exit | apply T_r | apply T_e | apply B_n | apply B_e) | (with_reducible apply B_ne; focus decide) | (with_reducible first | apply B_r | apply R_e | apply R_r | apply H_e | apply H_r | apply G_e | apply G_r) | (with_reducible apply SC_n) | ((with_reducible first | apply SC_d | apply SG_d | apply SG_n | apply SC_b | apply SG_b) <;> intro hc <;> try simp only [decide_eq_true_eq, decide_eq_false_iff_not, Classical.not_not, Bool.not_eq_true', Bool.not_eq_false'] at hc))
    (first | exact fincR | exact fincN)
theorem t86 {n : Int} {l : List Rks} (hX : ∀ v (h : v < l.length), ∀ q ∈ l[v].l, PC l q.p.l) : ∀ (k : Nat) {rv : AV} {M : MS} {p : List Int} {np cp : Bool}, p.length ≤ k → (np = true → p = []) → Vw M rv (l.map Rks.av) l.length → PC l p →
    ev pr 86 [.agg [.flat (.int .i64 n), rv], .list 1 (intsA p) np cp] M = some (.q (.flat (.bool (decide (sureF l p)))))
  | 0, _, _, _, _, _, hk, _, _, hp => absurd hp.1 (by omega)
  | k + 1, rv, M, p, np, cp, hk, hnp, hv, hp => by
    obtain ⟨a, u, r, rfl⟩ : ∃ a u r, p = a :: u :: r := by
      match p, hp.1 with
      | a :: u :: r, _ => exact ⟨a, u, r, rfl⟩
    obtain ⟨hu0, hul⟩ := hp.2.2 u (by simp)
    obtain ⟨u, rfl⟩ : ∃ w : Nat, u = w := ⟨u.toNat, by omega⟩
    have hul' : u < l.length := by omega
    have hle := hp.2.1
    simp only [List.length_cons] at hle hk
    have h40 := fun (cq : Bool) M => t40 l[u].l l[u].nl l[u].cd ((u : Int) :: r) np cq M l[u].le
    have hr : rkAt l u = l[u].l := by simp [rkAt, hul']
    have htk : List.take (r.length + 2 - 1) ((u : Int) :: r) = (u : Int) :: r := List.take_of_length_le (by simp)
    have hsf : sureF l (a :: (u : Int) :: r) ↔ ((u : Int) = 0 ∨ ∃ w, (u : Int) = w ∧ paths (rkAt l w) = [(u : Int) :: r] ∧ sureF l ((u : Int) :: r)) := by
      rw [sureF]; simp only [List.head?_cons, Option.some.injEq]
    have e0 := hv.vw
    have e1 := hv.len
    have e2 := hv.cell
    by_cases h0 : (u : Int) = 0
    · clear hv
      have h1 : decide (sureF l (a :: (u : Int) :: r)) = true := decide_eq_true (hsf.2 (.inl h0))
      rw [h1]
      refine ev_fn' A86 ?_
      repeat' (first | ((with_reducible first | apply S_0 | apply S_q1 | apply S_g | apply S_c); exact sgc) | (with_reducible first | apply SO_q | apply SG_t | apply SG_f0 | apply SG_f1 | apply S_nil | apply T_n | apply W_seq | apply W_region | apply SO_x | apply SC_t | apply SC_f | apply W_block | apply W_ret | apply W_skip | apply W_exit | apply T_r | apply T_e | apply B_n | apply B_e) | (with_reducible apply B_ne; focus decide) | (with_reducible first | apply B_r | apply R_e | apply R_r | apply H_e | apply H_r | apply G_e | apply G_r) | (with_reducible apply SC_n) | ((with_reducible first | apply SC_d | apply SG_d | apply SG_n | apply SC_b | apply SG_b) <;> intro hc <;> try simp only [decide_eq_true_eq, decide_eq_false_iff_not, Classical.not_not, Bool.not_eq_true', Bool.not_eq_false'] at hc))
      (first | exact fincR | exact fincN)
    · have hg : 0 ≤ place (paths l[u].l) ((u : Int) :: r) ↔ ((u : Int) :: r) ∈ paths l[u].l := place_ge
      by_cases hm : ((u : Int) :: r) ∈ paths l[u].l
      · have h85 := t39 (n := n) (v := u) (hv.ext [some [.flat (.int .i64 n), rv]]) hul' (fun q hq G => by
          have hq' : q.p.l = (u : Int) :: r := by
            rw [hq] at hm; simp only [paths, List.map_cons, List.map_nil, List.mem_singleton] at hm; exact hm.symm
          refine t86 hX k (by rw [hq']; simp; omega) (fun h => (q.p.ok h).1) ((hv.ext _).ext _) ?_
          exact hX u hul' q (by rw [hq]; simp))
        have h1 : decide (sureF l (a :: (u : Int) :: r)) = decide (settledF l u) := decide_eq_decide.2 (by
          have h0' : ¬ u = 0 := by omega
          rw [hsf, settledF, hr]; simp only [h0, false_or]
          constructor
          · rintro ⟨w, rfl, h2, h3⟩
            rw [hr] at h2
            exact .inr ⟨_, h2, h3⟩
          · rintro (h | ⟨p, h2, h3⟩)
            · rw [h] at hm; simp [paths] at hm
            · rw [h2] at hm
              simp only [List.mem_singleton] at hm
              exact ⟨_, rfl, by rw [hr, h2, hm], by rw [hm]; exact h3⟩)
        have hg' := hg.2 hm
        rw [h1]
        clear hg
        refine ev_fn' A86 ?_
        repeat' (first | ((with_reducible first | apply S_0 | apply S_q1 | apply S_g | apply S_c); exact sgc) | (with_reducible first | apply SO_q | apply SG_t | apply SG_f0 | apply SG_f1 | apply S_nil | apply T_n | apply W_seq | apply W_region | apply SO_x | apply SC_t | apply SC_f | apply W_block | apply W_ret | apply W_skip | apply W_exit | apply T_r | apply T_e | apply B_n | apply B_e) | (with_reducible apply B_ne; focus decide) | (with_reducible first | apply B_r | apply R_e | apply R_r | apply H_e | apply H_r | apply G_e | apply G_r) | (with_reducible apply SC_n) | ((with_reducible first | apply SC_d | apply SG_d | apply SG_n | apply SC_b | apply SG_b) <;> intro hc <;> try simp only [decide_eq_true_eq, decide_eq_false_iff_not, Classical.not_not, Bool.not_eq_true', Bool.not_eq_false'] at hc))
        (first | exact fincR | exact fincN)
      · have h1 : decide (sureF l (a :: (u : Int) :: r)) = false := decide_eq_false (by
          rw [hsf]; simp only [h0, false_or]
          rintro ⟨w, rfl, h2, h3⟩
          rw [hr] at h2
          exact hm (by rw [h2]; simp))
        have hg' : ¬ 0 ≤ place (paths l[u].l) ((u : Int) :: r) := fun h => hm (hg.1 h)
        rw [h1]
        clear hg
        refine ev_fn' A86 ?_
        repeat' (first | ((with_reducible first | apply S_0 | apply S_q1 | apply S_g | apply S_c); exact sgc) | (with_reducible first | apply SO_q | apply SG_t | apply SG_f0 | apply SG_f1 | apply S_nil | apply T_n | apply W_seq | apply W_region | apply SO_x | apply SC_t | apply SC_f | apply W_block | apply W_ret | apply W_skip | apply W_exit | apply T_r | apply T_e | apply B_n | apply B_e) | (with_reducible apply B_ne; focus decide) | (with_reducible first | apply B_r | apply R_e | apply R_r | apply H_e | apply H_r | apply G_e | apply G_r) | (with_reducible apply SC_n) | ((with_reducible first | apply SC_d | apply SG_d | apply SG_n | apply SC_b | apply SG_b) <;> intro hc <;> try simp only [decide_eq_true_eq, decide_eq_false_iff_not, Classical.not_not, Bool.not_eq_true', Bool.not_eq_false'] at hc))
        (first | exact fincR | exact fincN)
end Go.Proofs.Ytopiaiibpacmlaa.Av
namespace Go.Proofs.Ytopiaiibpacmlaa.Av
open Go.RowKit
set_option linter.unusedSimpArgs false
set_option linter.unusedVariables false
set_option maxHeartbeats 10000000
theorem t87 {n : Int} {l : List Rks} {rv : AV} {M : MS} {p : List Int} {np cp : Bool} {u : Nat} (hv : Vw M rv (l.map Rks.av) l.length) (hp : 1 < p.length) (hu : p[1] = u) (hul : u < l.length) (hlp : p.length ≤ 1000) (hnp : np = true → p = []) :
    ev pr 87 [.agg [.flat (.int .i64 n), rv], .list 1 (intsA p) np cp] M = some (.q (.flat (.bool (decide (p[1] ≠ 0 ∧ p.drop 1 ∉ paths l[u].l))))) := by
  have h40 := fun (cq : Bool) M => t40 l[u].l l[u].nl l[u].cd (p.drop 1) np cq M l[u].le
  have hg : 0 ≤ place (paths l[u].l) (p.drop 1) ↔ p.drop 1 ∈ paths l[u].l := place_ge
  have e0 := hv.vw
  have e1 := hv.len
  have e2 := hv.cell
  clear hv
  refine ev_fn' A87 ?_
  by_cases h0 : (u : Int) = 0
  · have h1 : decide (p[1] ≠ 0 ∧ p.drop 1 ∉ paths l[u].l) = false := by simp [hu, h0]
    rw [h1]
    repeat' (first | ((with_reducible first | apply S_0 | apply S_q1 | apply S_g | apply S_c); exact sgc) | (with_reducible first | apply SO_q | apply SG_t | apply SG_f0 | apply SG_f1 | apply S_nil | apply T_n | apply W_seq | apply W_region | apply SO_x | apply SC_t | apply SC_f | apply W_block | apply W_ret | apply W_skip | apply W_exit | apply T_r | apply T_e | apply B_n | apply B_e) | (with_reducible apply B_ne; focus decide) | (with_reducible first | apply B_r | apply R_e | apply R_r | apply H_e | apply H_r | apply G_e | apply G_r) | (with_reducible apply SC_n) | ((with_reducible first | apply SC_d | apply SG_d | apply SG_n | apply SC_b | apply SG_b) <;> intro hc <;> try simp only [decide_eq_true_eq, decide_eq_false_iff_not, Classical.not_not, Bool.not_eq_true', Bool.not_eq_false'] at hc))
    (first | exact fincR | exact fincN)
  · have h0' : ¬ u = 0 := by omega
    have h1 : decide (p[1] ≠ 0 ∧ p.drop 1 ∉ paths l[u].l) = decide (place (paths l[u].l) (p.drop 1) < 0) := decide_eq_decide.2 (by
      rw [← hg]; constructor
      · rintro ⟨_, h⟩; omega
      · intro h; exact ⟨by omega, by omega⟩)
    rw [h1]
    clear hg
    repeat' (first | ((with_reducible first | apply S_0 | apply S_q1 | apply S_g | apply S_c); exact sgc) | (with_reducible first | apply SO_q | apply SG_t | apply SG_f0 | apply SG_f1 | apply S_nil | apply T_n | apply W_seq | apply W_region | apply SO_x | apply SC_t | apply SC_f | apply W_block | apply W_ret | apply W_skip | apply W_exit | apply T_r | apply T_e | apply B_n | apply B_e) | (with_reducible apply B_ne; focus decide) | (with_reducible first | apply B_r | apply R_e | apply R_r | apply H_e | apply H_r | apply G_e | apply G_r) | (with_reducible apply SC_n) | ((with_reducible first | apply SC_d | apply SG_d | apply SG_n | apply SC_b | apply SG_b) <;> intro hc <;> try simp only [decide_eq_true_eq, decide_eq_false_iff_not, Classical.not_not, Bool.not_eq_true', Bool.not_eq_false'] at hc))
    (first | exact fincR | exact fincN)
/-- The look of a path that is there: 1 useless, 2 idle, 0 neither. -/
noncomputable def lookB (l : List Rks) (L : List Rnk) (N : Nat) : Int := open Classical in if ∃ q ∈ L.take N, sureF l q.p.l then 2 else 0
noncomputable def lookF (l : List Rks) (L : List Rnk) (p : List Int) : Int := open Classical in
  if p.getD 1 0 ≠ 0 ∧ p.drop 1 ∉ paths (rkAt l (p.getD 1 0)) then 1 else lookB l L (place (paths L) p).toNat
theorem t41 {l : List Rks} {rv : AV} {M : MS} {p : List Int} {np cp : Bool} {v : Nat} (hX : MayX l.length l) (hS : SmallX l) (hpc : PC l p) (hv : p.head? = some (v : Int)) (hvl : v < l.length) (hnp : np = true → p = []) (hw : Vw M rv (l.map Rks.av) l.length) :
    ev pr 41 [.agg [.flat (.int .i64 l.length), rv], .list 1 (intsA p) np cp] M = some (.q (.flat (.int .i64 (lookF l l[v].l p)))) := by
  obtain ⟨a, u, r, rfl⟩ : ∃ a u r, p = a :: u :: r := by
    match p, hpc.1 with
    | a :: u :: r, _ => exact ⟨a, u, r, rfl⟩
  simp only [List.head?_cons, Option.some.injEq] at hv
  subst hv
  obtain ⟨hu0, hul⟩ := hpc.2.2 u (by simp)
  obtain ⟨u, rfl⟩ : ∃ w : Nat, u = w := ⟨u.toNat, by omega⟩
  have hul' : u < l.length := by omega
  have hle := hpc.2.1
  have hr : rkAt l u = l[u].l := by simp [rkAt, hul']
  have hl70 := (hS.2 _ (List.getElem_mem hvl)).1
  have h87 := t87 (n := l.length) (hw.ext [some [.flat (.int .i64 l.length), rv]]) (np := np) (cp := cp) (p := (v : Int) :: (u : Int) :: r) (u := u) (by simp) rfl hul' hle hnp
  have h40 := fun M => t40 l[v].l l[v].nl l[v].cd ((v : Int) :: (u : Int) :: r) np cp M l[v].le
  have h86 := fun (i : Nat) (h : i < l[v].l.length) => t86 (n := l.length) (l := l) (pc_x hX hS) _ (p := l[v].l[i].p.l) (np := l[v].l[i].p.nl) (cp := l[v].l[i].p.cd) (Nat.le_refl _) (fun h => (l[v].l[i].p.ok h).1) (hw.ext [some [.flat (.int .i64 l.length), rv]]) (pc_x hX hS v hvl _ (List.getElem_mem h))
  have hpl : place (paths l[v].l) ((v : Int) :: (u : Int) :: r) ≤ l[v].l.length := by
    rw [place]; split
    · rename_i h
      have := List.idxOf_lt_length_of_mem h
      have h2 : (paths l[v].l).length = l[v].l.length := by simp [paths]
      omega
    · omega
  have e0 := hw.vw
  have e1 := hw.len
  have e2 := hw.cell
  clear hw
  by_cases hus : (u : Int) ≠ 0 ∧ ((u : Int) :: r) ∉ paths l[u].l
  · have hlk : lookF l l[v].l ((v : Int) :: (u : Int) :: r) = 1 := by
      rw [lookF]; exact if_pos (by simpa [hr] using hus)
    replace h87 := h87.trans (congrArg (fun b => some (Out.q (.flat (.bool b)))) (decide_eq_true hus))
    rw [hlk]
    clear hlk hX hS hpc h40 h86
    refine ev_fn' A41 ?_
    repeat' (first | ((with_reducible first | apply S_0 | apply S_q1 | apply S_g | apply S_c); exact sgc) | (with_reducible first | apply SO_q | apply SG_t | apply SG_f0 | apply SG_f1 | apply S_nil | apply T_n | apply W_seq | apply W_region | apply SO_x | apply SC_t | apply SC_f | apply W_block | apply W_ret | apply W_skip | apply W_exit | apply T_r | apply T_e | apply B_n | apply B_e) | (with_reducible apply B_ne; focus decide) | (with_reducible first | apply B_r | apply R_e | apply R_r | apply H_e | apply H_r | apply G_e | apply G_r) | (with_reducible apply SC_n) | ((with_reducible first | apply SC_d | apply SG_d | apply SG_n | apply SC_b | apply SG_b) <;> intro hc <;> try simp only [decide_eq_true_eq, decide_eq_false_iff_not, Classical.not_not, Bool.not_eq_true', Bool.not_eq_false'] at hc))
    (first | exact fincR | exact fincN)
  · replace h87 := h87.trans (congrArg (fun b => some (Out.q (.flat (.bool b)))) (decide_eq_false hus))
    obtain ⟨N, hN⟩ : ∃ N, N = (place (paths l[v].l) ((v : Int) :: (u : Int) :: r)).toNat := ⟨_, rfl⟩
    generalize hP : place (paths l[v].l) ((v : Int) :: (u : Int) :: r) = P at *
    have hlk : lookF l l[v].l ((v : Int) :: (u : Int) :: r) = lookB l l[v].l N := by
      rw [lookF, hP, ← hN]; refine if_neg ?_; intro h; exact hus ⟨by simpa using h.1, by simpa [hr] using h.2⟩
    rw [hlk]
    clear hlk hX hS hpc hus
    refine ev_fn' A41 ?_
    repeat' (first | ((with_reducible first | apply S_0 | apply S_q1 | apply S_g | apply S_c); exact sgc) | (with_reducible first | apply SO_q | apply SG_t | apply SG_f0 | apply SG_f1 | apply S_nil | apply T_n | apply W_seq | apply W_region | apply SO_x | apply SC_t | apply SC_f | apply W_block | apply W_ret | apply W_skip | apply W_exit | apply T_r | apply T_e | apply B_n | apply B_e) | (with_reducible apply B_ne; focus decide) | (with_reducible first | apply B_r | apply R_e | apply R_r | apply H_e | apply H_r | apply G_e | apply G_r) | (with_reducible apply SC_n) | ((with_reducible first | apply SC_d | apply SG_d | apply SG_n | apply SC_b | apply SG_b) <;> intro hc <;> try simp only [decide_eq_true_eq, decide_eq_false_iff_not, Classical.not_not, Bool.not_eq_true', Bool.not_eq_false'] at hc))
    refine W_rng 6 0 N (fun i _ => ∀ j, j < i → ∀ h : j < l[v].l.length, ¬ sureF l l[v].l[j].p.l) (by simp only [asg, asgO, List.append_nil, List.nil_append, List.cons_append]; rfl) (by exact svc) (by omega) (fun j hj _ => by omega) ?_
    rintro i e _ hi hk e6 hl
    have k5 : e 5 = .list 2 (rksA l[v].l) l[v].nl l[v].cd := by rw [hk 5 rfl]; exact svc
    rcases Nat.lt_or_ge i N with hlt | hlt
    · have hlt' : (i : Int) < P := by omega
      have hil : i < l[v].l.length := by omega
      have h86 := h86 i hil
      by_cases hc : sureF l l[v].l[i].p.l
      · simp only [hc, decide_true] at h86
        repeat' (first | ((with_reducible first | apply S_0 | apply S_q1 | apply S_g | apply S_c); exact sgc) | (with_reducible first | apply SO_q | apply SG_t | apply SG_f0 | apply SG_f1 | apply S_nil | apply T_n | apply W_seq | apply W_region | apply SO_x | apply SC_t | apply SC_f | apply W_block | apply W_ret | apply W_skip | apply W_exit | apply T_r | apply T_e | apply B_n | apply B_e) | (with_reducible apply B_ne; focus decide) | (with_reducible first | apply B_r | apply R_e | apply R_r | apply H_e | apply H_r | apply G_e | apply G_r) | (with_reducible apply SC_n) | ((with_reducible first | apply SC_d | apply SG_d | apply SG_n | apply SC_b | apply SG_b) <;> intro hc <;> try simp only [decide_eq_true_eq, decide_eq_false_iff_not, Classical.not_not, Bool.not_eq_true', Bool.not_eq_false'] at hc))
        (refine ⟨by first | exact .inr rfl | exact .inl rfl, ?_⟩; simp (disch := first | assumption | decide | omega | exact Pth.le _ | exact Rks.le _ | exact List.getElem_mem _ | exact allI_ints _ | exact allI_rks _ | exact allI_pths _ | exact Pth.nil _ | exact Rks.nil _ | (intro hh; simp only [Pth.nil _ hh, List.take_nil, List.drop_nil]; done) | (intro hh; simp only [Rks.nil _ hh, List.take_nil, List.drop_nil]; done) | (simp only [List.length_take, List.length_drop, List.length_append, List.length_cons, List.length_nil, List.length_replicate, List.length_map, ints_len]; omega)) only [resA, rvA, tupA, fin, frzV, frzTup, frzA, frz, isI, isI.all, Option.bind_some, go_sem, if_pos, if_neg, Nat.reduceBEq, Nat.reduceEqDiff, ↓reduceIte, Nat.reduceSub, Nat.reduceAdd, Int.reduceToNat, reduceCtorEq, Nat.reduceLeDiff, Nat.reduceLT, Nat.reduceMul, Nat.reduceDiv, Int.reduceLT, Int.reduceLE, Int.reduceEq, Int.reduceNe, Int.reduceAdd, Int.reduceSub, Int.reduceNeg, Int.reduceGT, Int.reduceGE, Int.reduceBEq, Int.reduceBNe, Int.reduceMul, *])
        rw [lookB, if_pos ⟨l[v].l[i], by rw [List.mem_take_iff_getElem]; exact ⟨i, by omega, rfl⟩, hc⟩]
      · simp only [hc, decide_false] at h86
        repeat' (first | ((with_reducible first | apply S_0 | apply S_q1 | apply S_g | apply S_c); exact sgc) | (with_reducible first | apply SO_q | apply SG_t | apply SG_f0 | apply SG_f1 | apply S_nil | apply T_n | apply W_seq | apply W_region | apply SO_x | apply SC_t | apply SC_f | apply W_block | apply W_ret | apply W_skip | apply W_exit | apply T_r | apply T_e | apply B_n | apply B_e) | (with_reducible apply B_ne; focus decide) | (with_reducible first | apply B_r | apply R_e | apply R_r | apply H_e | apply H_r | apply G_e | apply G_r) | (with_reducible apply SC_n) | ((with_reducible first | apply SC_d | apply SG_d | apply SG_n | apply SC_b | apply SG_b) <;> intro hc <;> try simp only [decide_eq_true_eq, decide_eq_false_iff_not, Classical.not_not, Bool.not_eq_true', Bool.not_eq_false'] at hc))
        exact H_n (by exact svc) (by omega) (ext1 hl fun _ => hc)
    · have hlt' : ¬ (i : Int) < P := by omega
      repeat' (first | ((with_reducible first | apply S_0 | apply S_q1 | apply S_g | apply S_c); exact sgc) | (with_reducible first | apply SO_q | apply SG_t | apply SG_f0 | apply SG_f1 | apply S_nil | apply T_n | apply W_seq | apply W_region | apply SO_x | apply SC_t | apply SC_f | apply W_block | apply W_ret | apply W_skip | apply W_exit | apply T_r | apply T_e | apply B_n | apply B_e) | (with_reducible apply B_ne; focus decide) | (with_reducible first | apply B_r | apply R_e | apply R_r | apply H_e | apply H_r | apply G_e | apply G_r) | (with_reducible apply SC_n) | ((with_reducible first | apply SC_d | apply SG_d | apply SG_n | apply SC_b | apply SG_b) <;> intro hc <;> try simp only [decide_eq_true_eq, decide_eq_false_iff_not, Classical.not_not, Bool.not_eq_true', Bool.not_eq_false'] at hc))
      (refine ⟨by first | exact .inr rfl | exact .inl rfl, ?_⟩; simp (disch := first | assumption | decide | omega | exact Pth.le _ | exact Rks.le _ | exact List.getElem_mem _ | exact allI_ints _ | exact allI_rks _ | exact allI_pths _ | exact Pth.nil _ | exact Rks.nil _ | (intro hh; simp only [Pth.nil _ hh, List.take_nil, List.drop_nil]; done) | (intro hh; simp only [Rks.nil _ hh, List.take_nil, List.drop_nil]; done) | (simp only [List.length_take, List.length_drop, List.length_append, List.length_cons, List.length_nil, List.length_replicate, List.length_map, ints_len]; omega)) only [resA, rvA, tupA, fin, frzV, frzTup, frzA, frz, isI, isI.all, Option.bind_some, go_sem, if_pos, if_neg, Nat.reduceBEq, Nat.reduceEqDiff, ↓reduceIte, Nat.reduceSub, Nat.reduceAdd, Int.reduceToNat, reduceCtorEq, Nat.reduceLeDiff, Nat.reduceLT, Nat.reduceMul, Nat.reduceDiv, Int.reduceLT, Int.reduceLE, Int.reduceEq, Int.reduceNe, Int.reduceAdd, Int.reduceSub, Int.reduceNeg, Int.reduceGT, Int.reduceGE, Int.reduceBEq, Int.reduceBNe, Int.reduceMul, *])
      rw [lookB, if_neg]
      rintro ⟨q, hq, hs⟩
      obtain ⟨j, hj, rfl⟩ := List.mem_take_iff_getElem.1 hq
      exact hl j (by omega) (by omega) hs
end Go.Proofs.Ytopiaiibpacmlaa.Av
namespace Go.Proofs.Ytopiaiibpacmlaa.Av
open Go.RowKit
set_option linter.unusedSimpArgs false
set_option linter.unusedVariables false
set_option maxHeartbeats 10000000
theorem t37 {n : Int} {l : List Rks} {nl cd : Bool} {M : MS} {p : List Int} {np cp : Bool} (hS : SmallX l) (hnp : np = true → p = []) (hlp : p.length ≤ 1000) :
    ev pr 37 [.agg [.flat (.int .i64 n), .list 1 (l.map Rks.av) nl cd], .list 1 (intsA p) np cp] M = some (.q (.tup [.flat (.int .i64 (if RkOk n l p then lookF l (rkAt l (p.getD 0 0)) p else 0)), .flat (.bool (decide (RkOk n l p)))])) := by
  have h82 := fun M => t82 n l nl cd p np cp M hS
  by_cases hR : RkOk n l p
  · obtain ⟨hX, hm⟩ := hR
    have hR : RkOk n l p := ⟨hX, hm⟩
    obtain rfl : n = l.length := hX.2.2.1.symm
    have hp0 : ∃ v : Nat, ∃ r, p = (v : Int) :: r ∧ v < l.length := by
      match p, hm with
      | a :: r, hm =>
        rw [at0] at hm
        split at hm
        · rename_i ha
          rcases Nat.lt_or_ge a.toNat l.length with h | h
          · exact ⟨a.toNat, r, by rw [Int.toNat_of_nonneg ha], h⟩
          · rw [List.getElem?_eq_none h] at hm; simp at hm
        · simp at hm
    obtain ⟨v, r, rfl, hvl⟩ := hp0
    have hat : at0 l ((v : Int) :: r) = paths l[v].l := at0_of (by simp) (by simp) (by simpa using hvl)
    rw [hat] at hm
    have hpc : PC l ((v : Int) :: r) := by
      obtain ⟨q, hq, h⟩ := List.mem_map.1 hm
      exact h ▸ pc_x hX hS v hvl q hq
    obtain ⟨u, r, rfl⟩ : ∃ u r', r = u :: r' := by
      match r, hpc.1 with
      | u :: r', _ => exact ⟨u, r', rfl⟩
    obtain ⟨hu0, hul⟩ := hpc.2.2 u (by simp)
    obtain ⟨u, rfl⟩ : ∃ w : Nat, u = w := ⟨u.toNat, by omega⟩
    have hul' : u < l.length := by omega
    have hru : rkAt l u = l[u].l := by simp [rkAt, hul']
    have hrv : rkAt l v = l[v].l := by simp [rkAt, hvl]
    have hl70 := (hS.2 _ (List.getElem_mem hvl)).1
    have h83 := fun M => t83 (n := l.length) (M := M) (rv := .list 1 (l.map Rks.av) nl cd) (np := np) (cp := cp) (p := (v : Int) :: (u : Int) :: r) (u := u) (Vw.list _ _ _ _ _) (by simp) rfl hul' hlp hnp
    simp only [hR, decide_true, if_true, hat] at h82
    rw [if_pos hR, decide_eq_true hR, List.getD_cons_zero, hrv]
    have hP0 := place_ge.2 hm
    have hpl : place (paths l[v].l) ((v : Int) :: (u : Int) :: r) < l[v].l.length := by
      rw [place, if_pos hm]
      have := List.idxOf_lt_length_of_mem hm
      have h2 : (paths l[v].l).length = l[v].l.length := by simp [paths]
      omega
    by_cases hus : (u : Int) ≠ 0 ∧ ((u : Int) :: r) ∉ paths l[u].l
    · have hlk : lookF l l[v].l ((v : Int) :: (u : Int) :: r) = 1 := by
        rw [lookF]; exact if_pos (by simpa [hru] using hus)
      replace h83 := fun M => (h83 M).trans (congrArg (fun b => some (Out.q (.flat (.bool b)))) (decide_eq_true hus))
      rw [hlk]
      clear hlk hX hS hpc hP0 hpl hR
      refine ev_fn' A37 ?_
      repeat' (first | ((with_reducible first | apply S_0 | apply S_q1 | apply S_g | apply S_c); exact sgc) | (with_reducible first | apply SO_q | apply SG_t | apply SG_f0 | apply SG_f1 | apply S_nil | apply T_n | apply W_seq | apply W_region | apply SO_x | apply SC_t | apply SC_f | apply W_block | apply W_ret | apply W_skip | apply W_exit | apply T_r | apply T_e | apply B_n | apply B_e) | (with_reducible apply B_ne; focus decide) | (with_reducible first | apply B_r | apply R_e | apply R_r | apply H_e | apply H_r | apply G_e | apply G_r) | (with_reducible apply SC_n) | ((with_reducible first | apply SC_d | apply SG_d | apply SG_n | apply SC_b | apply SG_b) <;> intro hc <;> try simp only [decide_eq_true_eq, decide_eq_false_iff_not, Classical.not_not, Bool.not_eq_true', Bool.not_eq_false'] at hc))
      (first | exact fincR | exact fincN)
    · replace h83 := fun M => (h83 M).trans (congrArg (fun b => some (Out.q (.flat (.bool b)))) (decide_eq_false hus))
      obtain ⟨N, hN⟩ : ∃ N, N = (place (paths l[v].l) ((v : Int) :: (u : Int) :: r)).toNat := ⟨_, rfl⟩
      have hlk : lookF l l[v].l ((v : Int) :: (u : Int) :: r) = lookB l l[v].l N := by
        rw [lookF, ← hN]; refine if_neg ?_; intro h; exact hus ⟨by simpa using h.1, by simpa [hru] using h.2⟩
      have hNp : place (paths l[v].l) ((v : Int) :: (u : Int) :: r) = N := by omega
      rw [hNp] at h82 hpl
      rw [hlk]
      have hpx := pc_x hX hS
      clear hlk hX hpc hus hP0 hR hN hNp hm
      refine ev_fn' A37 ?_
      have hmin : min N l[v].l.length = N := by omega
      have h84 := fun M (q : Rnk) (h : q ∈ l[v].l) => t84 (n := l.length) (l := l) (rv := .list 1 (l.map Rks.av) nl cd) hpx _ (M := M) (p := q.p.l) (np := q.p.nl) (cp := q.p.cd) (Nat.le_refl _) (fun h => (q.p.ok h).1) (Vw.list _ _ _ _ _) (hpx v hvl _ h)
      clear hpx
      repeat' (first | ((with_reducible first | apply S_0 | apply S_q1 | apply S_g | apply S_c); exact sgc) | (with_reducible first | apply SO_q | apply SG_t | apply SG_f0 | apply SG_f1 | apply S_nil | apply T_n | apply W_seq | apply W_region | apply SO_x | apply SC_t | apply SC_f | apply W_block | apply W_ret | apply W_skip | apply W_exit | apply T_r | apply T_e | apply B_n | apply B_e) | (with_reducible apply B_ne; focus decide) | (with_reducible first | apply B_r | apply R_e | apply R_r | apply H_e | apply H_r | apply G_e | apply G_r) | (with_reducible apply SC_n) | ((with_reducible first | apply SC_d | apply SG_d | apply SG_n | apply SC_b | apply SG_b) <;> intro hc <;> try simp only [decide_eq_true_eq, decide_eq_false_iff_not, Classical.not_not, Bool.not_eq_true', Bool.not_eq_false'] at hc))
      refine W_rngM 33 0 N (fun i e m => (∃ G, m = M ++ [some [AV.flat (.int .i64 l.length), AV.list 1 (l.map Rks.av) nl cd]] ++ G) ∧ ∀ j, j < i → ∀ h : j < l[v].l.length, ¬ sureF l l[v].l[j].p.l) (by simp only [asg, asgO, List.append_nil, List.nil_append, List.cons_append]; rfl) (by exact svc) (by omega) ⟨⟨[], by simp⟩, fun j hj _ => by omega⟩ ?_
      rintro i e _ _ hi hk e33 ⟨⟨G, rfl⟩, hl⟩
      have k31 : e 31 = .list 2 (rksA (l[v].l.take N)) l[v].nl (if l[v].nl = true then l[v].cd else l[v].cd && decide (N = l[v].l.length)) := by rw [hk 31 rfl]; exact svc
      have k32 : e 32 = .flat (.int .i64 N) := by rw [hk 32 rfl]; exact svc
      have k2 : e 2 = .mptr M.length 0 := by rw [hk 2 rfl]; exact svc
      clear hk
      rcases Nat.lt_or_ge i N with hlt | hlt
      · have hlt' : (i : Int) < N := by omega
        have hil : i < l[v].l.length := by omega
        have hit : i < (List.take N l[v].l).length := by simp; omega
        have hti : (List.take N l[v].l)[i] = l[v].l[i] := List.getElem_take ..
        replace h84 := fun M => h84 M (List.take N l[v].l)[i] (by rw [hti]; exact List.getElem_mem hil)
        by_cases hc : sureF l (List.take N l[v].l)[i].p.l
        · simp only [hc, decide_true] at h84
          have hc' : sureF l l[v].l[i].p.l := hti ▸ hc
          clear hti
          repeat' (first | ((with_reducible first | apply S_0 | apply S_q1 | apply S_g | apply S_c); exact sgc) | (with_reducible first | apply SO_q | apply SG_t | apply SG_f0 | apply SG_f1 | apply S_nil | apply T_n | apply W_seq | apply W_region | apply SO_x | apply SC_t | apply SC_f | apply W_block | apply W_ret | apply W_skip | apply W_exit | apply T_r | apply T_e | apply B_n | apply B_e) | (with_reducible apply B_ne; focus decide) | (with_reducible first | apply B_r | apply R_e | apply R_r | apply H_e | apply H_r | apply G_e | apply G_r) | (with_reducible apply SC_n) | ((with_reducible first | apply SC_d | apply SG_d | apply SG_n | apply SC_b | apply SG_b) <;> intro hc <;> try simp only [decide_eq_true_eq, decide_eq_false_iff_not, Classical.not_not, Bool.not_eq_true', Bool.not_eq_false'] at hc))
          (refine ⟨by first | exact .inr rfl | exact .inl rfl, ?_⟩; simp (disch := first | assumption | decide | omega | exact Pth.le _ | exact Rks.le _ | exact List.getElem_mem _ | exact allI_ints _ | exact allI_rks _ | exact allI_pths _ | exact Pth.nil _ | exact Rks.nil _ | (intro hh; simp only [Pth.nil _ hh, List.take_nil, List.drop_nil]; done) | (intro hh; simp only [Rks.nil _ hh, List.take_nil, List.drop_nil]; done) | (simp only [List.length_take, List.length_drop, List.length_append, List.length_cons, List.length_nil, List.length_replicate, List.length_map, ints_len]; omega)) only [resA, rvA, tupA, fin, frzV, frzTup, frzA, frz, isI, isI.all, Option.bind_some, go_sem, if_pos, if_neg, Nat.reduceBEq, Nat.reduceEqDiff, ↓reduceIte, Nat.reduceSub, Nat.reduceAdd, Int.reduceToNat, reduceCtorEq, Nat.reduceLeDiff, Nat.reduceLT, Nat.reduceMul, Nat.reduceDiv, Int.reduceLT, Int.reduceLE, Int.reduceEq, Int.reduceNe, Int.reduceAdd, Int.reduceSub, Int.reduceNeg, Int.reduceGT, Int.reduceGE, Int.reduceBEq, Int.reduceBNe, Int.reduceMul, *])
          rw [lookB, if_pos ⟨l[v].l[i], by rw [List.mem_take_iff_getElem]; exact ⟨i, by omega, rfl⟩, hc'⟩]
        · simp only [hc, decide_false] at h84
          have hc' : ¬ sureF l l[v].l[i].p.l := hti ▸ hc
          clear hti
          repeat' (first | ((with_reducible first | apply S_0 | apply S_q1 | apply S_g | apply S_c); exact sgc) | (with_reducible first | apply SO_q | apply SG_t | apply SG_f0 | apply SG_f1 | apply S_nil | apply T_n | apply W_seq | apply W_region | apply SO_x | apply SC_t | apply SC_f | apply W_block | apply W_ret | apply W_skip | apply W_exit | apply T_r | apply T_e | apply B_n | apply B_e) | (with_reducible apply B_ne; focus decide) | (with_reducible first | apply B_r | apply R_e | apply R_r | apply H_e | apply H_r | apply G_e | apply G_r) | (with_reducible apply SC_n) | ((with_reducible first | apply SC_d | apply SG_d | apply SG_n | apply SC_b | apply SG_b) <;> intro hc <;> try simp only [decide_eq_true_eq, decide_eq_false_iff_not, Classical.not_not, Bool.not_eq_true', Bool.not_eq_false'] at hc))
          refine G_n (by exact svc) hlt ⟨⟨_, by simp; rfl⟩, ext1 hl fun _ => hc'⟩
      · have hlt' : ¬ (i : Int) < N := by omega
        repeat' (first | ((with_reducible first | apply S_0 | apply S_q1 | apply S_g | apply S_c); exact sgc) | (with_reducible first | apply SO_q | apply SG_t | apply SG_f0 | apply SG_f1 | apply S_nil | apply T_n | apply W_seq | apply W_region | apply SO_x | apply SC_t | apply SC_f | apply W_block | apply W_ret | apply W_skip | apply W_exit | apply T_r | apply T_e | apply B_n | apply B_e) | (with_reducible apply B_ne; focus decide) | (with_reducible first | apply B_r | apply R_e | apply R_r | apply H_e | apply H_r | apply G_e | apply G_r) | (with_reducible apply SC_n) | ((with_reducible first | apply SC_d | apply SG_d | apply SG_n | apply SC_b | apply SG_b) <;> intro hc <;> try simp only [decide_eq_true_eq, decide_eq_false_iff_not, Classical.not_not, Bool.not_eq_true', Bool.not_eq_false'] at hc))
        (refine ⟨by first | exact .inr rfl | exact .inl rfl, ?_⟩; simp (disch := first | assumption | decide | omega | exact Pth.le _ | exact Rks.le _ | exact List.getElem_mem _ | exact allI_ints _ | exact allI_rks _ | exact allI_pths _ | exact Pth.nil _ | exact Rks.nil _ | (intro hh; simp only [Pth.nil _ hh, List.take_nil, List.drop_nil]; done) | (intro hh; simp only [Rks.nil _ hh, List.take_nil, List.drop_nil]; done) | (simp only [List.length_take, List.length_drop, List.length_append, List.length_cons, List.length_nil, List.length_replicate, List.length_map, ints_len]; omega)) only [resA, rvA, tupA, fin, frzV, frzTup, frzA, frz, isI, isI.all, Option.bind_some, go_sem, if_pos, if_neg, Nat.reduceBEq, Nat.reduceEqDiff, ↓reduceIte, Nat.reduceSub, Nat.reduceAdd, Int.reduceToNat, reduceCtorEq, Nat.reduceLeDiff, Nat.reduceLT, Nat.reduceMul, Nat.reduceDiv, Int.reduceLT, Int.reduceLE, Int.reduceEq, Int.reduceNe, Int.reduceAdd, Int.reduceSub, Int.reduceNeg, Int.reduceGT, Int.reduceGE, Int.reduceBEq, Int.reduceBNe, Int.reduceMul, *])
        rw [lookB, if_neg]
        rintro ⟨q, hq, hs⟩
        obtain ⟨j, hj, rfl⟩ := List.mem_take_iff_getElem.1 hq
        exact hl j (by omega) (by omega) hs
  · simp only [hR, decide_false, if_false] at h82
    rw [if_neg hR, decide_eq_false hR]
    refine ev_fn' A37 ?_
    repeat' (first | ((with_reducible first | apply S_0 | apply S_q1 | apply S_g | apply S_c); exact sgc) | (with_reducible first | apply SO_q | apply SG_t | apply SG_f0 | apply SG_f1 | apply S_nil | apply T_n | apply W_seq | apply W_region | apply SO_x | apply SC_t | apply SC_f | apply W_block | apply W_ret | apply W_skip | apply W_exit | apply T_r | apply T_e | apply B_n | apply B_e) | (with_reducible apply B_ne; focus decide) | (with_reducible first | apply B_r | apply R_e | apply R_r | apply H_e | apply H_r | apply G_e | apply G_r) | (with_reducible apply SC_n) | ((with_reducible first | apply SC_d | apply SG_d | apply SG_n | apply SC_b | apply SG_b) <;> intro hc <;> try simp only [decide_eq_true_eq, decide_eq_false_iff_not, Classical.not_not, Bool.not_eq_true', Bool.not_eq_false'] at hc))
    (first | exact fincR | exact fincN)
end Go.Proofs.Ytopiaiibpacmlaa.Av
namespace Go.Proofs.Ytopiaiibpacmlaa.Av
open Go.RowKit
set_option linter.unusedSimpArgs false
set_option linter.unusedVariables false
theorem stl_pre (l : List Rks) (i : Nat) : ∀ k, ∃ t, stl l (i + k) = stl l i ++ t
  | 0 => ⟨[], by simp⟩
  | k + 1 => by
    obtain ⟨t, h⟩ := stl_pre l i k
    refine ⟨t ++ (if 1 ≤ i + k ∧ settledF l ((i + k : Nat) : Int) then [((i + k : Nat) : Int)] else []), ?_⟩
    rw [← Nat.add_assoc, stl, h, List.append_assoc]
theorem stl_at {l : List Rks} {i N : Nat} (h1 : 1 ≤ i) (h : i < N) (hs : settledF l i) : ∃ h : (stl l i).length < (stl l N).length, (stl l N)[(stl l i).length] = (i : Int) := by
  obtain ⟨t, ht⟩ := stl_pre l (i + 1) (N - (i + 1))
  rw [show i + 1 + (N - (i + 1)) = N by omega, stl, if_pos ⟨h1, hs⟩] at ht
  have hl : (stl l i).length < (stl l N).length := by rw [ht]; simp
  refine ⟨hl, ?_⟩
  have : (stl l N)[(stl l i).length]? = some (i : Int) := by rw [ht]; simp
  exact (List.getElem?_eq_some_iff.1 this).2
end Go.Proofs.Ytopiaiibpacmlaa.Av
namespace Go.Proofs.Ytopiaiibpacmlaa.Av
set_option linter.unusedSimpArgs false
set_option linter.unusedVariables false
abbrev Pa := List Int
abbrev In := List (List Pa)
def atL (L : In) (u : Int) : List Pa := L.getD u.toNat []
def sureP (L : In) : Pa → Prop
  | [] => False
  | _ :: r => r.head? = some 0 ∨ (∃ u, r.head? = some u ∧ atL L u = [r] ∧ sureP L r)
def usel (L : In) (p : Pa) : Prop := p.getD 1 0 ≠ 0 ∧ p.drop 1 ∉ atL L (p.getD 1 0)
def idle (L : In) (v : Int) (p : Pa) : Prop := ∃ q, [q, p].Sublist (atL L v) ∧ sureP L q
def goes (L : In) (p : Pa) : Prop := ∃ v, p.head? = some v ∧ p ∈ atL L v ∧ (usel L p ∨ idle L v p)
def InOk (L : In) : Prop := L.getD 0 [] = [] ∧ ∀ u : Nat, (L.getD u []).Nodup ∧ ∀ p ∈ L.getD u [], ∃ t, p = (u : Int) :: t ∧ t ≠ [] ∧ (∀ a ∈ t, 0 ≤ a) ∧ (t.head? = some 0 → t = [0])
def keepL (L : In) (K : Pa → Bool) : In := L.map (·.filter K)
def delP (L : In) (p : Pa) : In := keepL L fun q => decide (q ≠ p)
theorem getD_keep (L : In) (K : Pa → Bool) (u : Nat) : (keepL L K).getD u [] = (L.getD u []).filter K := by
  simp only [keepL, List.getD, List.getElem?_map]
  cases L[u]? <;> rfl
theorem at_keep (L : In) (K : Pa → Bool) (u : Int) : atL (keepL L K) u = (atL L u).filter K := getD_keep ..
theorem at_del (L : In) (p : Pa) (u : Int) : atL (delP L p) u = (atL L u).filter fun q => decide (q ≠ p) := at_keep ..
theorem keep_len (L : In) (K : Pa → Bool) : (keepL L K).length = L.length := by simp [keepL]
theorem keep_keep (L : In) (K K' : Pa → Bool) : keepL (keepL L K) K' = keepL L fun q => K q && K' q := by
  simp only [keepL, List.map_map]
  refine List.map_congr_left fun l _ => ?_
  simp [Function.comp_def, List.filter_filter, Bool.and_comm]
theorem keep_congr {L : In} {K K' : Pa → Bool} (h : ∀ l ∈ L, ∀ p ∈ l, K p = K' p) : keepL L K = keepL L K' :=
  List.map_congr_left fun l hl => List.filter_congr (h l hl)
theorem keep_true {L : In} {K : Pa → Bool} (h : ∀ l ∈ L, ∀ p ∈ l, K p = true) : keepL L K = L := by
  rw [keep_congr (K' := fun _ => true) h]
  have : (fun x : List Pa => List.filter (fun _ => true) x) = id := by funext x; simp
  rw [keepL, this, List.map_id]
theorem ok_keep {L : In} (h : InOk L) (K : Pa → Bool) : InOk (keepL L K) := by
  refine ⟨by rw [getD_keep, h.1]; rfl, fun u => ?_⟩
  rw [getD_keep]
  exact ⟨(h.2 u).1.filter _, fun p hp => (h.2 u).2 p (List.mem_filter.1 hp).1⟩
theorem ok_at {L : In} (h : InOk L) {u : Int} {p : Pa} (hp : p ∈ atL L u) (hu : p.head? = some u) : ∃ (w : Nat) (t : Pa), u = w ∧ p = (w : Int) :: t ∧ t ≠ [] ∧ (∀ a ∈ t, 0 ≤ a) ∧ (t.head? = some 0 → t = [0]) := by
  obtain ⟨t, h1, h2⟩ := (h.2 u.toNat).2 p hp
  subst h1
  simp only [List.head?_cons, Option.some.injEq] at hu
  exact ⟨u.toNat, t, hu.symm, rfl, h2⟩
theorem sure_not_usel {L : In} {p : Pa} (h : sureP L p) : ¬ usel L p := by
  match p, h with
  | a :: t, h =>
    rintro ⟨h1, h2⟩
    have e : (a :: t).getD 1 0 = t.head?.getD 0 := by cases t <;> rfl
    rw [e] at h1 h2
    rcases h with h | ⟨u, h3, h4, _⟩
    · rw [h] at h1; exact h1 rfl
    · rw [h3] at h2
      simp only [Option.getD_some, List.drop_succ_cons, List.drop_zero] at h2
      exact h2 (by rw [h4]; simp)
theorem bef_trans {a b c : Pa} : ∀ {l : List Pa}, l.Nodup → [a, b].Sublist l → [b, c].Sublist l → [a, c].Sublist l
  | [], _, h, _ => by cases h
  | x :: l, hn, h1, h2 => by
    obtain ⟨hx, hn⟩ := List.nodup_cons.1 hn
    have hc : ∀ h : [b, c].Sublist l, c ∈ l := fun h => h.subset (by simp)
    cases h1 with
    | cons _ h1 =>
      have hb : b ∈ l := h1.subset (by simp)
      cases h2 with
      | cons _ h2 => exact (bef_trans hn h1 h2).cons _
      | cons_cons _ h2 => exact absurd hb hx
    | cons_cons _ h1 =>
      have hb : b ∈ l := h1.subset (by simp)
      cases h2 with
      | cons _ h2 => exact .cons_cons _ (List.singleton_sublist.2 (hc h2))
      | cons_cons _ h2 => exact absurd hb hx
theorem bef_irr {a : Pa} {l : List Pa} (hn : l.Nodup) : ¬ [a, a].Sublist l := fun h => by
  have := hn.sublist h
  simp at this
theorem sure_del {L : In} {r : Pa} (hr : goes L r) : ∀ {q : Pa}, sureP L q → sureP (delP L r) q
  | [], h => h
  | a :: t, h => by
    rcases h with h | ⟨u, h1, h2, h3⟩
    · exact .inl h
    · refine .inr ⟨u, h1, ?_, sure_del hr h3⟩
      have hne : t ≠ r := by
        intro e
        subst e
        obtain ⟨v, hv, hm, hg⟩ := hr
        rw [h1] at hv
        cases hv
        rcases hg with hg | ⟨q, hq, _⟩
        · exact sure_not_usel h3 hg
        · rw [h2] at hq
          have := hq.length_le
          simp at this
      rw [at_del, h2]
      simp [hne]
theorem goes_del {L : In} (hO : InOk L) {p r : Pa} (hp : goes L p) (hr : goes L r) (hne : p ≠ r) : goes (delP L r) p := by
  obtain ⟨v, hv, hm, hg⟩ := hp
  refine ⟨v, hv, by rw [at_del]; exact List.mem_filter.2 ⟨hm, by simpa using hne⟩, ?_⟩
  rcases hg with ⟨h1, h2⟩ | ⟨q, hq, hs⟩
  · refine .inl ⟨h1, fun h => h2 ?_⟩
    rw [at_del] at h
    exact (List.mem_filter.1 h).1
  · have key : ∀ q', [q', p].Sublist (atL L v) → q' ≠ r → sureP L q' → idle (delP L r) v p := fun q' h1 h2 h3 => by
      refine ⟨q', ?_, sure_del hr h3⟩
      rw [at_del]
      have := h1.filter fun q => decide (q ≠ r)
      simpa [h2, hne] using this
    by_cases hqr : q = r
    · subst hqr
      obtain ⟨v', hv', hm', hg'⟩ := hr
      have hqm : q ∈ atL L v := hq.subset (by simp)
      have hvv : v' = v := by
        obtain ⟨t, ht, _⟩ := (hO.2 v.toNat).2 q hqm
        obtain ⟨t', ht', _⟩ := (hO.2 v.toNat).2 p hm
        rw [ht] at hv'
        rw [ht'] at hv
        simp only [List.head?_cons, Option.some.injEq] at hv hv'
        omega
      subst hvv
      rcases hg' with hg' | ⟨q2, hq2, hs2⟩
      · exact absurd hg' (sure_not_usel hs)
      · refine .inr (key q2 (bef_trans (hO.2 _).1 hq2 hq) ?_ hs2)
        intro e
        subst e
        exact bef_irr (hO.2 _).1 hq2
    · exact .inr (key q hq hqr hs)
theorem del_comm (L : In) (p r : Pa) : delP (delP L p) r = delP (delP L r) p := by
  simp only [delP, keep_keep, Bool.and_comm]
inductive Red : Nat → In → In → Prop
  | refl (L : In) : Red 0 L L
  | step {k : Nat} {L N : In} {p : Pa} (h : goes L p) (r : Red k (delP L p) N) : Red (k + 1) L N
def NF (L : In) : Prop := ∀ p, ¬ goes L p
theorem red_first {k : Nat} {L N : In} (h : Red k L N) : InOk L → NF N → ∀ {p}, goes L p → ∃ k', k = k' + 1 ∧ Red k' (delP L p) N := by
  induction h with
  | refl L => intro _ hN p hp; exact absurd hp (hN p)
  | @step k L N q hq r ih =>
    intro hO hN p hp
    by_cases e : p = q
    · subst e; exact ⟨k, rfl, r⟩
    · obtain ⟨k', rfl, h⟩ := ih (ok_keep hO _) hN (goes_del hO hp hq e)
      refine ⟨k' + 1, rfl, .step (goes_del hO hq hp (Ne.symm e)) ?_⟩
      rwa [del_comm]
theorem red_uniq {k : Nat} {L N : In} (h : Red k L N) : InOk L → NF N → ∀ {m N'}, Red m L N' → NF N' → k = m ∧ N = N' := by
  induction h with
  | refl L =>
    intro _ hN m N' h' _
    cases h' with
    | refl => exact ⟨rfl, rfl⟩
    | step h _ => exact absurd h (hN _)
  | @step k L N q hq r ih =>
    intro hO hN m N' h' hN'
    obtain ⟨m', rfl, h⟩ := red_first h' hO hN' hq
    obtain ⟨h1, h2⟩ := ih (ok_keep hO _) hN h hN'
    exact ⟨by omega, h2⟩
theorem red_trans {k m : Nat} {L M N : In} (h : Red k L M) (h' : Red m M N) : Red (k + m) L N := by
  induction h with
  | refl => simpa using h'
  | step h _ ih => rw [show ∀ k, k + 1 + m = (k + m) + 1 by intro k; omega]; exact .step h (ih h')
theorem red_ok {k : Nat} {L N : In} (h : Red k L N) : InOk L → InOk N := by
  induction h with
  | refl => exact id
  | step _ _ ih => exact fun hO => ih (ok_keep hO _)
theorem red_len {k : Nat} {L N : In} (h : Red k L N) : N.length = L.length := by
  induction h with
  | refl => rfl
  | step _ _ ih => rw [ih, delP, keep_len]
theorem red_batch : ∀ {S : List Pa} {L : In}, InOk L → S.Nodup → (∀ p ∈ S, goes L p) → Red S.length L (keepL L fun q => decide (q ∉ S))
  | [], L, _, _, _ => by rw [keep_true (by simp)]; exact .refl L
  | p :: S, L, hO, hn, h => by
    obtain ⟨hx, hn⟩ := List.nodup_cons.1 hn
    refine .step (h p (by simp)) ?_
    have := red_batch (S := S) (ok_keep hO fun q => decide (q ≠ p)) hn fun q hq => goes_del hO (h q (by simp [hq])) (h p (by simp)) (fun e => hx (e ▸ hq))
    rw [keep_keep] at this
    rwa [keep_congr (K' := fun q => decide (q ≠ p) && decide (q ∉ S)) (fun l _ q _ => by simp [not_or])]
theorem sub_filter {l' l : List Pa} (h : l'.Sublist l) : l.Nodup → l.filter (fun p => decide (p ∈ l')) = l' := by
  induction h with
  | slnil => intro _; rfl
  | @cons l1 l2 a h ih =>
    intro hn
    obtain ⟨hx, hn⟩ := List.nodup_cons.1 hn
    rw [List.filter_cons, if_neg (by simpa using fun h' => hx (h.subset h')), ih hn]
  | @cons_cons l1 l2 a h ih =>
    intro hn
    obtain ⟨hx, hn⟩ := List.nodup_cons.1 hn
    rw [List.filter_cons, if_pos (by simp)]
    have : l2.filter (fun p => decide (p ∈ a :: l1)) = l2.filter (fun p => decide (p ∈ l1)) := List.filter_congr fun q hq => by
      have : q ≠ a := fun e => hx (e ▸ hq)
      simp [this]
    rw [this, ih hn]
theorem len_split (l : List Pa) (K : Pa → Bool) : (l.filter fun p => !K p).length + (l.filter K).length = l.length := by
  induction l with
  | nil => rfl
  | cons a l ih => cases h : K a <;> simp [h] <;> omega
/-- Paths of one node go. -/
theorem cut_red {L : In} (hO : InOk L) (v : Nat) {l' : List Pa} (hl : l'.Sublist (L.getD v [])) (h : ∀ p ∈ L.getD v [], p ∉ l' → goes L p) : Red ((L.getD v []).length - l'.length) L (L.set v l') := by
  have hn := (hO.2 v).1
  have hf := sub_filter hl hn
  have hS := red_batch (S := (L.getD v []).filter fun p => !decide (p ∈ l')) hO (hn.filter _) fun p hp => by
    obtain ⟨h1, h2⟩ := List.mem_filter.1 hp
    exact h p h1 (by simpa using h2)
  have hlen := len_split (L.getD v []) fun p => decide (p ∈ l')
  rw [hf] at hlen
  rw [show (L.getD v []).length - l'.length = ((L.getD v []).filter fun p => !decide (p ∈ l')).length by omega]
  have : (keepL L fun q => decide (q ∉ (L.getD v []).filter fun p => !decide (p ∈ l'))) = L.set v l' := by
    obtain ⟨S, hSe⟩ : ∃ S, S = (L.getD v []).filter fun p => !decide (p ∈ l') := ⟨_, rfl⟩
    rw [← hSe]
    refine List.ext_getElem (by simp [keepL]) fun i h1 h2 => ?_
    have hi : i < L.length := by simpa [keepL] using h1
    have hLi : L.getD i [] = L[i] := by simp [List.getD, hi]
    have e1 : (keepL L fun q => decide (q ∉ S))[i] = L[i].filter fun q => decide (q ∉ S) := by simp [keepL]
    rw [e1, List.getElem_set]
    split
    · rename_i e
      subst e
      rw [hLi] at hf hSe
      refine Eq.trans (List.filter_congr fun q hq => ?_) hf
      rw [hSe]
      simp [hq]
    · rename_i hne
      refine List.filter_eq_self.2 fun q hq => ?_
      have hq' : q ∉ L.getD v [] := fun hv => by
        obtain ⟨t, ht, _⟩ := (hO.2 v).2 q hv
        obtain ⟨t', ht', _⟩ := (hO.2 i).2 q (by rw [hLi]; exact hq)
        rw [ht] at ht'
        simp only [List.cons.injEq] at ht'
        omega
      have : q ∉ S := fun h => hq' (by rw [hSe] at h; exact (List.mem_filter.1 h).1)
      simpa using this
  rw [← this]
  exact hS
end Go.Proofs.Ytopiaiibpacmlaa.Av
namespace Go.Proofs.Ytopiaiibpacmlaa.Av
set_option linter.unusedSimpArgs false
set_option linter.unusedVariables false
def prodL : List (List Pa) → List (List Pa)
  | [] => [[]]
  | l :: r => (l ++ [[]]).flatMap fun p => (prodL r).map (p :: ·)
def sts (L : In) : List (List Pa) := (prodL (L.drop 1)).map ([0] :: ·)
noncomputable def evF (L : In) : List (List Pa) := open Classical in (sts L).filter fun s => decide (StabP L s)
theorem prodL_mem : ∀ {R : List (List Pa)} {s : List Pa}, s ∈ prodL R ↔ s.length = R.length ∧ ∀ i, i < R.length → s.getD i [] = [] ∨ s.getD i [] ∈ R.getD i []
  | [], s => by simp [prodL]
  | l :: R, s => by
    simp only [prodL, List.mem_flatMap, List.mem_map, List.mem_append, List.mem_singleton]
    constructor
    · rintro ⟨p, hp, t, ht, rfl⟩
      obtain ⟨h1, h2⟩ := prodL_mem.1 ht
      refine ⟨by simp [h1], fun i hi => ?_⟩
      cases i with
      | zero => simp only [List.getD_cons_zero]; exact hp.symm
      | succ i => simp only [List.getD_cons_succ]; exact h2 i (by simpa using hi)
    · rintro ⟨h1, h2⟩
      match s, h1 with
      | p :: t, h1 =>
        refine ⟨p, by have := h2 0 (by simp); simp only [List.getD_cons_zero] at this; exact this.symm, t, prodL_mem.2 ⟨by simpa using h1, fun i hi => ?_⟩, rfl⟩
        have := h2 (i + 1) (by simpa using hi)
        simpa only [List.getD_cons_succ] using this
theorem prodL_nodup : ∀ {R : List (List Pa)}, (∀ l ∈ R, l.Nodup ∧ [] ∉ l) → (prodL R).Nodup
  | [], _ => by simp [prodL]
  | l :: R, h => by
    have ih := prodL_nodup (R := R) fun l hl => h l (by simp [hl])
    obtain ⟨h1, h2⟩ := h l (by simp)
    have hn : (l ++ [[]]).Nodup := by
      rw [List.nodup_append]
      exact ⟨h1, by simp, fun a ha b hb => by simp only [List.mem_singleton] at hb; subst hb; rintro rfl; exact h2 ha⟩
    simp only [prodL]
    generalize l ++ [[]] = l' at hn
    induction l' with
    | nil => simp
    | cons a l' ih' =>
      obtain ⟨h3, h4⟩ := List.nodup_cons.1 hn
      rw [List.flatMap_cons, List.nodup_append]
      refine ⟨List.Pairwise.map _ (fun x y hxy => by simpa using hxy) ih, ih' h4, ?_⟩
      intro x hx y hy
      obtain ⟨t, _, rfl⟩ := List.mem_map.1 hx
      obtain ⟨b, hb, hy⟩ := List.mem_flatMap.1 hy
      obtain ⟨t', _, rfl⟩ := List.mem_map.1 hy
      intro e
      simp only [List.cons.injEq] at e
      exact h3 (e.1 ▸ hb)
theorem prodL_keep (K : Pa → Bool) (hK : K [] = true) : ∀ R : List (List Pa), prodL (R.map (·.filter K)) = (prodL R).filter fun s => s.all K
  | [] => by simp [prodL]; rfl
  | l :: R => by
    simp only [List.map_cons, prodL, prodL_keep K hK R]
    have h1 : l.filter K ++ [[]] = (l ++ [[]]).filter K := by simp [hK]
    rw [h1]
    generalize l ++ [[]] = l'
    induction l' with
    | nil => rfl
    | cons a l' ih =>
      rw [List.flatMap_cons, List.filter_append, ← ih, List.filter_map]
      by_cases h : K a = true
      · rw [List.filter_cons, if_pos h, List.flatMap_cons]
        have : (fun s => List.all s K) ∘ (fun x => a :: x) = fun s : List Pa => s.all K := by funext s; simp [h]
        rw [this]
      · rw [List.filter_cons, if_neg h]
        have : ((fun s => List.all s K) ∘ (fun x => a :: x)) = fun s : List Pa => false := by funext s; simp [h]
        rw [this]
        simp
theorem sts_mem {L : In} (hL : L ≠ []) {s : List Pa} : s ∈ sts L ↔ s.length = L.length ∧ s.getD 0 [] = [0] ∧ ∀ v, 1 ≤ v → v < L.length → s.getD v [] = [] ∨ s.getD v [] ∈ L.getD v [] := by
  match L, hL with
  | l :: R, _ =>
    simp only [sts, List.mem_map, List.drop_succ_cons, List.drop_zero]
    constructor
    · rintro ⟨t, ht, rfl⟩
      obtain ⟨h1, h2⟩ := prodL_mem.1 ht
      refine ⟨by simp [h1], rfl, fun v hv1 hv2 => ?_⟩
      obtain ⟨k, rfl⟩ : ∃ k, v = k + 1 := ⟨v - 1, by omega⟩
      simp only [List.getD_cons_succ]
      exact h2 k (by simpa using hv2)
    · rintro ⟨h1, h2, h3⟩
      match s, h1, h2 with
      | p :: t, h1, h2 =>
        simp only [List.getD_cons_zero] at h2
        subst h2
        refine ⟨t, prodL_mem.2 ⟨by simpa using h1, fun i hi => ?_⟩, rfl⟩
        have := h3 (i + 1) (by omega) (by simpa using hi)
        simpa only [List.getD_cons_succ] using this
theorem sts_nodup {L : In} (hO : InOk L) : (sts L).Nodup := by
  refine List.Pairwise.map _ (fun x y hxy => by simpa using hxy) (prodL_nodup fun l hl => ?_)
  obtain ⟨i, hi, rfl⟩ := List.mem_iff_getElem.1 (List.mem_of_mem_drop hl)
  have := hO.2 i
  rw [show L.getD i [] = L[i] by simp [List.getD, hi]] at this
  exact ⟨this.1, fun h => by obtain ⟨t, ht, _⟩ := this.2 _ h; cases ht⟩
theorem opn_cons {s : List Pa} {a : Int} {t : Pa} : opn s (a :: t) ↔ ∃ u : Nat, t.head? = some (u : Int) ∧ s[u]? = some t := by
  unfold opn
  constructor
  · rintro ⟨u, h1, h2⟩
    refine ⟨u, ?_, by simpa using h2⟩
    cases t with
    | nil => simp at h1
    | cons b t => simpa using h1
  · rintro ⟨u, h1, h2⟩
    refine ⟨u, ?_, by simpa using h2⟩
    cases t with
    | nil => simp at h1
    | cons b t => simpa using h1
theorem getD_out {α : Type} {l : List α} {i : Nat} {d : α} (h : l.length ≤ i) : l.getD i d = d := by simp [List.getD, h]
theorem getD_of {α : Type} {s : List α} {u : Nat} {x d : α} (h : s[u]? = some x) : s.getD u d = x := by simp [List.getD, h]
theorem get_of' {s : List Pa} {u : Nat} {t : Pa} (h : s.getD u [] = t) (ht : t ≠ []) : s[u]? = some t := by
  simp only [List.getD] at h
  cases hs : s[u]? with
  | none => rw [hs] at h; exact absurd h.symm ht
  | some x => rw [hs] at h; simpa using h
/-- A sure path is open in each stable state. -/
theorem sure_opn {M : In} (hO : InOk M) {s : List Pa} (h0 : s.getD 0 [] = [0]) (hst : StabP M s) : ∀ {q : Pa} (v : Nat), q ∈ M.getD v [] → sureP M q → opn s q
  | [], _, _, h => h.elim
  | a :: t, v, hm, h => by
    obtain ⟨t', e, h1, h2, h3⟩ := (hO.2 v).2 _ hm
    obtain rfl : t = t' := by simp only [List.cons.injEq] at e; exact e.2
    rcases h with h | ⟨u, h4, h5, h6⟩
    · refine opn_cons.2 ⟨0, h, ?_⟩
      rw [h3 h]
      exact get_of' h0 (by simp)
    · have hu : 0 ≤ u := h2 u (by cases t <;> simp_all)
      have hm' : t ∈ M.getD u.toNat [] := by rw [show M.getD u.toNat [] = [t] from h5]; simp
      have ih := sure_opn hO h0 hst u.toNat hm' h6
      have hu0 : u.toNat ≠ 0 := fun e => by rw [e, hO.1] at hm'; simp at hm'
      have hul : u.toNat < M.length := by
        rcases Nat.lt_or_ge u.toNat M.length with h | h
        · exact h
        · rw [getD_out h] at hm'; simp at hm'
      have hs := hst u.toNat (by omega) hul
      rw [show M.getD u.toNat [] = [t] from h5] at hs
      have : resp s [t] = t := by simp [resp, List.find?, ih]
      rw [this] at hs
      exact opn_cons.2 ⟨u.toNat, by rw [h4, Int.toNat_of_nonneg hu], get_of' hs h1⟩
theorem resp_mem' (s : List Pa) (l : List Pa) : resp s l = [] ∨ resp s l ∈ l ∧ opn s (resp s l) := by
  unfold resp
  cases h : l.find? fun p => decide (opn s p) with
  | none => exact .inl rfl
  | some p => exact .inr ⟨List.mem_of_find?_eq_some h, by simpa using List.find?_some h⟩
/-- Something before a path that is open: the path is not chosen. -/
theorem resp_bef {s : List Pa} {l : List Pa} {q p : Pa} (hn : l.Nodup) (hp0 : p ≠ []) (hq : [q, p].Sublist l) (ho : opn s q) : resp s l ≠ p := by
  induction l with
  | nil => cases hq
  | cons x l ih =>
    obtain ⟨hx, hn⟩ := List.nodup_cons.1 hn
    unfold resp at ih ⊢
    rw [List.find?_cons]
    cases hq with
    | cons _ hq =>
      have hp : p ∈ l := hq.subset (by simp)
      split
      · intro e
        simp only [Option.getD_some] at e
        exact hx (e ▸ hp)
      · exact ih hn hq
    | cons_cons _ hq =>
      have hp : p ∈ l := hq.subset (by simp)
      simp only [ho, decide_true, Option.getD_some]
      rintro rfl
      exact hx hp
/-- A path that isn't chosen may go. -/
theorem resp_del {s : List Pa} {l : List Pa} {p : Pa} (hp0 : p ≠ []) (h : resp s l ≠ p ∨ ¬ opn s p) : resp s (l.filter fun q => decide (q ≠ p)) = resp s l := by
  induction l with
  | nil => rfl
  | cons x l ih =>
    unfold resp at ih h ⊢
    rw [List.find?_cons] at h ⊢
    by_cases hx : x = p
    · subst hx
      rw [List.filter_cons, if_neg (by simp)]
      by_cases ho : opn s x
      · simp [ho] at h
      · simp only [ho, decide_false] at h ⊢
        exact ih (.inr ho)
    · rw [List.filter_cons, if_pos (by simpa using hx), List.find?_cons]
      by_cases ho : opn s x
      · simp [ho]
      · simp only [ho, decide_false] at h ⊢
        exact ih h
theorem resp_del' {s : List Pa} {l : List Pa} {p : Pa} (hp0 : p ≠ []) (h : ¬ opn s p ∨ ∃ q, [q, p].Sublist l ∧ opn s q) (hn : l.Nodup) : resp s (l.filter fun q => decide (q ≠ p)) = resp s l :=
  resp_del hp0 (h.elim .inr fun ⟨_, h1, h2⟩ => .inl (resp_bef hn hp0 h1 h2))
/-- What goes isn't chosen in a stable state, of the one or of the other. -/
theorem goes_no {L M : In} (hO : InOk L) (hOM : InOk M) (hsub : ∀ u, (M.getD u []).Sublist (L.getD u [])) (hlen : M.length = L.length) {p : Pa} (hg : goes L p) (hsm : ∀ q, sureP L q → sureP M q) (hbef : ∀ q v, [q, p].Sublist (L.getD v []) → sureP L q → q ∈ M.getD v [])
    {s : List Pa} (h0 : s.getD 0 [] = [0]) (hl : s.length = M.length) (hst : StabP M s) : ¬ opn s p ∨ ∃ v : Nat, p.head? = some (v : Int) ∧ ∃ q, [q, p].Sublist (L.getD v []) ∧ opn s q := by
  obtain ⟨v, hv, hm, hg⟩ := hg
  obtain ⟨w, t, rfl, rfl, h1, h2, h3⟩ := ok_at hO hm hv
  rcases hg with ⟨hg1, hg2⟩ | ⟨q, hq, hs⟩
  · left
    intro ho
    obtain ⟨u, h4, h5⟩ := opn_cons.1 ho
    have e : ((w : Int) :: t).getD 1 0 = u := by cases t <;> simp_all
    rw [e] at hg1 hg2
    have hu : u < M.length := by rw [← hl]; exact (List.getElem?_eq_some_iff.1 h5).1
    have hsu := hst u (by omega) hu
    rw [getD_of h5] at hsu
    rcases resp_mem' s (M.getD u []) with h | ⟨h, _⟩
    · rw [h] at hsu; exact h1 hsu
    · rw [← hsu] at h
      exact hg2 ((hsub u).subset h)
  · right
    exact ⟨w, rfl, q, hq, sure_opn hOM h0 hst w (hbef q w hq hs) (hsm q hs)⟩
theorem stab_del {L : In} (hO : InOk L) {p : Pa} (hg : goes L p) {s : List Pa} (h0 : s.getD 0 [] = [0]) (hl : s.length = L.length) : StabP L s ↔ StabP (delP L p) s ∧ p ∉ s.drop 1 := by
  have hp0 : p ≠ [] := by obtain ⟨v, hv, _⟩ := hg; rintro rfl; simp at hv
  have hp := hg
  obtain ⟨v, hv, hm, _⟩ := hp
  obtain ⟨w, t, rfl, ept, _⟩ := ok_at hO hm hv
  have other : ∀ u, u ≠ w → p ∉ L.getD u [] := fun u hu hh => by
    obtain ⟨t', ht', _⟩ := (hO.2 u).2 p hh
    rw [ept] at ht'
    simp only [List.cons.injEq] at ht'
    omega
  have eqr : ∀ M, (M = L ∨ M = delP L p) → StabP M s → ∀ u, resp s ((delP L p).getD u []) = resp s (L.getD u []) := by
    intro M hM hst u
    have h1 : InOk M := by
      rcases hM with e | e
      · rw [e]; exact hO
      · rw [e]; exact ok_keep hO _
    have h2 : ∀ u, (M.getD u []).Sublist (L.getD u []) := by
      rcases hM with e | e
      · rw [e]; exact fun u => List.Sublist.refl _
      · rw [e]; exact fun u => by rw [delP, getD_keep]; exact List.filter_sublist
    have h3 : M.length = L.length := by
      rcases hM with e | e
      · rw [e]
      · rw [e]; exact keep_len _ _
    have h4 : ∀ q, sureP L q → sureP M q := by
      rcases hM with e | e
      · rw [e]; exact fun q h => h
      · rw [e]; exact fun q h => sure_del hg h
    have h5 : ∀ q v, [q, p].Sublist (L.getD v []) → sureP L q → q ∈ M.getD v [] := by
      rcases hM with e | e
      · rw [e]; exact fun q v h _ => h.subset (by simp)
      · rw [e]
        intro q v h _
        rw [delP, getD_keep]
        refine List.mem_filter.2 ⟨h.subset (by simp), ?_⟩
        simp only [ne_eq, decide_not, Bool.not_eq_true', decide_eq_false_iff_not]
        rintro rfl
        exact bef_irr (hO.2 v).1 h
    have hno := goes_no (M := M) hO h1 h2 h3 hg h4 h5 h0 (by omega) hst
    rw [delP, getD_keep]
    rcases hno with h | ⟨v, hv', q, h1, h2⟩
    · exact resp_del hp0 (.inr h)
    · have hvw : v = w := by rw [hv'] at hv; simp only [Option.some.injEq] at hv; omega
      subst hvw
      by_cases hu : u = v
      · subst hu; exact resp_del' hp0 (.inr ⟨q, h1, h2⟩) (hO.2 u).1
      · refine resp_del hp0 (.inl fun e => ?_)
        rcases resp_mem' s (L.getD u []) with h | ⟨h, _⟩
        · rw [h] at e; exact hp0 e.symm
        · rw [e] at h; exact other u hu h
  have hdl : (delP L p).length = L.length := keep_len _ _
  constructor
  · intro hst
    refine ⟨fun v h1 h2 => by rw [eqr L (.inl rfl) hst v]; exact hst v h1 (by omega), fun hmem => ?_⟩
    obtain ⟨i, hi, he⟩ := List.mem_iff_getElem.1 hmem
    rw [List.length_drop] at hi
    have hs1 := hst (1 + i) (by omega) (by omega)
    have he' : s.getD (1 + i) [] = p := by
      rw [← he, List.getElem_drop]
      have : 1 + i < s.length := by omega
      simp [List.getD, this]
    rw [he'] at hs1
    have := eqr L (.inl rfl) hst (1 + i)
    rw [← hs1, delP, getD_keep] at this
    rcases resp_mem' s ((L.getD (1 + i) []).filter fun q => decide (q ≠ p)) with h | ⟨h, _⟩
    · rw [h] at this; exact hp0 this.symm
    · rw [this] at h
      have := (List.mem_filter.1 h).2
      simp at this
  · rintro ⟨hst, _⟩ v h1 h2
    rw [← eqr _ (.inr rfl) hst v]
    exact hst v h1 (by omega)
theorem evF_del {L : In} (hO : InOk L) {p : Pa} (hg : goes L p) : evF (delP L p) = evF L := by
  have hp0 : p ≠ [] := by obtain ⟨v, hv, _⟩ := hg; rintro rfl; simp at hv
  have hL : L ≠ [] := by rintro rfl; obtain ⟨v, hv, hm, _⟩ := hg; simp [atL] at hm
  unfold evF sts
  have h1 : (delP L p).drop 1 = (L.drop 1).map (·.filter fun q => decide (q ≠ p)) := by simp [delP, keepL, List.map_drop]
  rw [h1, prodL_keep _ (by simpa using Ne.symm hp0), List.filter_map, List.filter_map, List.filter_filter]
  refine congrArg (List.map _) (List.filter_congr fun t ht => ?_)
  have hs : ([0] :: t) ∈ sts L := List.mem_map.2 ⟨t, ht, rfl⟩
  obtain ⟨h2, h3, _⟩ := (sts_mem hL).1 hs
  have := stab_del hO hg h3 h2
  simp only [Function.comp_apply]
  rw [Bool.eq_iff_iff]
  simp only [Bool.and_eq_true, decide_eq_true_eq, List.all_eq_true]
  rw [this]
  simp only [List.drop_succ_cons, List.drop_zero]
  exact and_congr_right fun _ => ⟨fun h hm => (h p hm) rfl, fun h q hq e => h (e ▸ hq)⟩
/-- A trimmed instance has the same stable states. -/
theorem evF_red {k : Nat} {L N : In} (h : Red k L N) : InOk L → evF N = evF L := by
  induction h with
  | refl => intro _; rfl
  | step hg _ ih => intro hO; rw [ih (ok_keep hO _), evF_del hO hg]
theorem filter_one {α : Type} {P : α → Bool} {x : α} : ∀ {l : List α}, l.Nodup → x ∈ l → (∀ y ∈ l, P y = true ↔ y = x) → l.filter P = [x]
  | [], _, h, _ => by simp at h
  | a :: l, hn, hm, h => by
    obtain ⟨ha, hn⟩ := List.nodup_cons.1 hn
    by_cases e : a = x
    · subst e
      rw [List.filter_cons, if_pos ((h a (by simp)).2 rfl)]
      have : l.filter P = [] := List.filter_eq_nil_iff.2 fun y hy hP => ha (((h y (by simp [hy])).1 hP) ▸ hy)
      rw [this]
    · rw [List.filter_cons, if_neg fun hP => e ((h a (by simp)).1 hP)]
      exact filter_one hn ((List.mem_cons.1 hm).resolve_left fun h => e h.symm) fun y hy => h y (by simp [hy])
theorem ext_getD {s t : List Pa} (hl : s.length = t.length) (h : ∀ i, i < s.length → s.getD i [] = t.getD i []) : s = t := by
  refine List.ext_getElem hl fun i h1 h2 => ?_
  have := h i h1
  simpa [List.getD, h1, h2] using this
/-- One state that is told by its paths. -/
theorem evF_one {L : In} (hO : InOk L) (hL : L ≠ []) {s : List Pa} (hs : s ∈ sts L) (hst : StabP L s) (hu : ∀ t ∈ sts L, StabP L t → ∀ v, 1 ≤ v → v < L.length → t.getD v [] = s.getD v []) : evF L = [s] := by
  refine filter_one (sts_nodup hO) hs fun t ht => ?_
  rw [decide_eq_true_eq]
  refine ⟨fun h => ?_, fun e => e ▸ hst⟩
  obtain ⟨h1, h2, _⟩ := (sts_mem hL).1 hs
  obtain ⟨h3, h4, _⟩ := (sts_mem hL).1 ht
  refine ext_getD (by omega) fun i hi => ?_
  rcases Nat.eq_zero_or_pos i with rfl | h0
  · rw [h2, h4]
  · exact hu t ht h i h0 (by omega)
def sol (L : In) : List Pa := [0] :: (L.drop 1).map (·.headD [])
theorem sol_getD {L : In} {v : Nat} (hv : 1 ≤ v) : (sol L).getD v [] = (L.getD v []).headD [] := by
  obtain ⟨k, rfl⟩ : ∃ k, v = k + 1 := ⟨v - 1, by omega⟩
  simp only [sol, List.getD_cons_succ]
  simp only [List.getD, List.getElem?_map, List.getElem?_drop, Nat.add_comm 1 k]
  cases L[k + 1]? <;> rfl
/-- All nodes settled: one stable state. -/
theorem evF_sol {L : In} (hO : InOk L) (hL : L ≠ []) (h : ∀ v, 1 ≤ v → v < L.length → L.getD v [] = [] ∨ ∃ p, L.getD v [] = [p] ∧ sureP L p) : evF L = [sol L] := by
  have hlen : (sol L).length = L.length := by
    cases L with
    | nil => exact absurd rfl hL
    | cons a l => simp [sol]
  have hmem : sol L ∈ sts L := (sts_mem hL).2 ⟨hlen, rfl, fun v h1 h2 => by
    rw [sol_getD h1]
    rcases h v h1 h2 with h | ⟨p, h, _⟩ <;> rw [h] <;> simp⟩
  have hop : ∀ v, 1 ≤ v → ∀ p, L.getD v [] = [p] → sureP L p → opn (sol L) p := by
    intro v h1 p hp hs
    obtain ⟨t, rfl, h3, h4, h5⟩ := (hO.2 v).2 p (by rw [hp]; simp)
    rcases hs with hs | ⟨u, h6, h7, _⟩
    · exact opn_cons.2 ⟨0, hs, by rw [h5 hs]; rfl⟩
    · have hu : 0 ≤ u := h4 u (by cases t <;> simp_all)
      have hu0 : u.toNat ≠ 0 := fun e => by unfold atL at h7; rw [e, hO.1] at h7; simp at h7
      refine opn_cons.2 ⟨u.toNat, by rw [h6, Int.toNat_of_nonneg hu], get_of' ?_ h3⟩
      rw [sol_getD (by omega), show L.getD u.toNat [] = [t] from h7]; rfl
  refine evF_one hO hL hmem (fun v h1 h2 => ?_) fun t ht hst v h1 h2 => ?_
  · rw [sol_getD h1]
    rcases h v h1 h2 with hh | ⟨p, hh, hs⟩
    · rw [hh]; rfl
    · have := hop v h1 p hh hs
      rw [hh]
      simp [resp, List.find?, this]
  · rw [hst v h1 h2, sol_getD h1]
    rcases h v h1 h2 with hh | ⟨p, hh, hs⟩
    · rw [hh]; rfl
    · have := sure_opn hO ((sts_mem hL).1 ht).2.1 hst v (by rw [hh]; simp) hs
      rw [hh]
      simp [resp, List.find?, this]
/-- The paths of a state alone. -/
def oneL (p : Pa) : List Pa := if p = [] then [] else [p]
def onl (s : List Pa) : In := [] :: (s.drop 1).map oneL
theorem onl_getD {s : List Pa} {v : Nat} (hv : 1 ≤ v) : (onl s).getD v [] = oneL (s.getD v []) := by
  obtain ⟨k, rfl⟩ : ∃ k, v = k + 1 := ⟨v - 1, by omega⟩
  simp only [onl, List.getD_cons_succ]
  simp only [List.getD, List.getElem?_map, List.getElem?_drop, Nat.add_comm 1 k]
  cases s[k + 1]? <;> rfl
theorem evF_onl {L : In} {s : List Pa} (hO : InOk L) (hL : L ≠ []) (hs : s ∈ sts L) (hst : StabP L s) : StabP (onl s) s ∧ evF (onl s) = [s] := by
  obtain ⟨hl, h0, hm⟩ := (sts_mem hL).1 hs
  have hs0 : 0 < s.length := by rw [hl]; exact List.length_pos_iff.2 hL
  have hlen : (onl s).length = s.length := by simp [onl]; omega
  have hsh : ∀ v, 1 ≤ v → v < s.length → s.getD v [] ≠ [] → opn s (s.getD v []) ∧ ∃ t, s.getD v [] = (v : Int) :: t ∧ t ≠ [] ∧ (∀ a ∈ t, 0 ≤ a) ∧ (t.head? = some 0 → t = [0]) := by
    intro v h1 h2 h3
    have := hst v h1 (by omega)
    rcases resp_mem' s (L.getD v []) with h | ⟨h4, h5⟩
    · rw [h] at this; exact absurd this h3
    · rw [← this] at h4 h5
      exact ⟨h5, (hO.2 v).2 _ h4⟩
  have hOO : InOk (onl s) := by
    refine ⟨rfl, fun u => ?_⟩
    rcases Nat.eq_zero_or_pos u with rfl | hu
    · exact ⟨by simp [onl], fun p hp => by simp [onl] at hp⟩
    · rw [onl_getD hu, oneL]
      split
      · exact ⟨by simp, fun p hp => by simp at hp⟩
      · rename_i hne
        refine ⟨by simp, fun p hp => ?_⟩
        simp only [List.mem_singleton] at hp
        subst hp
        have hus : u < s.length := by
          rcases Nat.lt_or_ge u s.length with h | h
          · exact h
          · exact absurd (getD_out h) hne
        exact (hsh u hu hus hne).2
  have hne : onl s ≠ [] := by simp [onl]
  have hmem : s ∈ sts (onl s) := (sts_mem hne).2 ⟨hlen.symm, h0, fun v h1 h2 => by
    rw [onl_getD h1, oneL]
    by_cases h : s.getD v [] = []
    · exact .inl h
    · right; rw [if_neg h]; simp⟩
  have hstab : StabP (onl s) s := fun v h1 h2 => by
    rw [onl_getD h1, oneL]
    by_cases h : s.getD v [] = []
    · rw [if_pos h, h]; rfl
    · rw [if_neg h]
      have := (hsh v h1 (by omega) h).1
      simp only [resp, List.find?, this, decide_true, Option.getD_some]
  refine ⟨hstab, evF_one hOO hne hmem hstab fun t ht htst => ?_⟩
  obtain ⟨ht1, ht0, _⟩ := (sts_mem hne).1 ht
  have : ∀ k v, 1 ≤ v → v < (onl s).length → (s.getD v []).length ≤ k → t.getD v [] = s.getD v [] := by
    intro k
    induction k with
    | zero =>
      intro v h1 h2 hk
      have h : s.getD v [] = [] := List.eq_nil_of_length_eq_zero (by omega)
      have := htst v h1 h2
      rw [onl_getD h1, oneL, if_pos h] at this
      rw [this, h]; rfl
    | succ k ih =>
      intro v h1 h2 hk
      have hv := htst v h1 h2
      rw [onl_getD h1, oneL] at hv
      by_cases h : s.getD v [] = []
      · rw [if_pos h] at hv
        rw [hv, h]; rfl
      · rw [if_neg h] at hv
        obtain ⟨ho, r, e, hr, hr2, hr3⟩ := hsh v h1 (by omega) h
        rw [e] at ho hk
        obtain ⟨u, hu1, hu2⟩ := opn_cons.1 ho
        have : opn t (s.getD v []) := by
          rw [e]
          refine opn_cons.2 ⟨u, hu1, ?_⟩
          rcases Nat.eq_zero_or_pos u with rfl | hu
          · rw [hr3 hu1]; exact get_of' ht0 (by simp)
          · have hul := (List.getElem?_eq_some_iff.1 hu2).1
            refine get_of' ?_ hr
            rw [ih u hu (by omega) (by rw [getD_of hu2]; simp only [List.length_cons] at hk; omega), getD_of hu2]
        rw [hv]
        simp only [resp, List.find?, this, decide_true, Option.getD_some]
  exact fun v h1 h2 => this _ v h1 h2 (Nat.le_refl _)
end Go.Proofs.Ytopiaiibpacmlaa.Av
namespace Go.Proofs.Ytopiaiibpacmlaa.Av
open Go.RowKit
set_option linter.unusedSimpArgs false
set_option linter.unusedVariables false
def tot (L : In) : Nat := (L.map List.length).sum
theorem tot_keep (K : Pa → Bool) : ∀ L : In, tot (keepL L K) ≤ tot L
  | [] => by simp [tot, keepL]
  | l :: L => by
    have := tot_keep K L
    have h2 := List.length_filter_le K l
    simp only [tot, keepL, List.map_cons, List.sum_cons] at this ⊢
    omega
theorem tot_del {p : Pa} : ∀ {L : In}, (∃ l ∈ L, p ∈ l) → tot (delP L p) + 1 ≤ tot L
  | [], h => by obtain ⟨l, hl, _⟩ := h; simp at hl
  | l :: L, h => by
    have hk := tot_keep (fun q => decide (q ≠ p)) L
    have h2 := List.length_filter_le (fun q => decide (q ≠ p)) l
    simp only [tot, delP, keepL, List.map_cons, List.sum_cons] at hk ⊢
    by_cases hp : p ∈ l
    · have h3 : (l.filter fun q => decide (q ≠ p)).length < l.length := by
        have := len_split l fun q => decide (q ≠ p)
        have h4 : 0 < (l.filter fun q => !decide (q ≠ p)).length := List.length_pos_of_mem (a := p) (List.mem_filter.2 ⟨hp, by simp⟩)
        omega
      omega
    · obtain ⟨l', hl', hp'⟩ := h
      rcases List.mem_cons.1 hl' with rfl | hl'
      · exact absurd hp' hp
      · have := tot_del ⟨l', hl', hp'⟩
        simp only [tot, delP, keepL] at this
        omega
theorem at_mem {L : In} {u : Int} {p : Pa} (h : p ∈ atL L u) : u.toNat < L.length ∧ ∃ l ∈ L, p ∈ l := by
  unfold atL at h
  rcases Nat.lt_or_ge u.toNat L.length with hl | hl
  · rw [show L.getD u.toNat [] = L[u.toNat] by simp [List.getD, hl]] at h
    exact ⟨hl, _, List.getElem_mem hl, h⟩
  · rw [getD_out hl] at h; simp at h
theorem red_tot {k : Nat} {L N : In} (h : Red k L N) : k + tot N ≤ tot L := by
  induction h with
  | refl => omega
  | step hg _ ih =>
    obtain ⟨v, _, hm, _⟩ := hg
    have := tot_del (at_mem hm).2
    omega
theorem red_zero {L N : In} (h : Red 0 L N) : N = L := by cases h; rfl
theorem tot_small {l : List Rks} (hS : SmallX l) : tot (plX l) ≤ 840 := by
  have : ∀ (l : List Rks), (∀ r ∈ l, r.l.length ≤ 70) → tot (plX l) ≤ 70 * l.length := by
    intro l
    induction l with
    | nil => intro _; simp [tot, plX]
    | cons a l ih =>
      intro h
      have h1 := ih fun r hr => h r (by simp [hr])
      have h2 := h a (by simp)
      simp only [tot, plX, List.map_cons, List.sum_cons, paths_len, List.length_cons] at h1 ⊢
      omega
  have h1 := this l fun r hr => (hS.2 r hr).1
  have h2 := hS.1
  omega
theorem pathOk_shape {p : List Int} {v : Nat} {n : Int} (h : PathOk p v n) : ∃ t, p = (v : Int) :: t ∧ t ≠ [] ∧ (∀ a ∈ t, 0 ≤ a) ∧ (t.head? = some 0 → t = [0]) := by
  obtain ⟨h1, h2, h3, h4, h5⟩ := h
  match p, h1 with
  | a :: b :: t, h1 =>
    simp only [List.getElem?_cons_zero, Option.some.injEq] at h2
    subst h2
    refine ⟨b :: t, rfl, by simp, fun x hx => (h5 x (by simp only [List.mem_cons] at hx ⊢; exact .inr hx)).1, fun hb => ?_⟩
    simp only [List.head?_cons, Option.some.injEq] at hb
    subst hb
    cases t with
    | nil => rfl
    | cons c t =>
      exfalso
      simp only [List.length_cons] at h3
      rw [show t.length + 1 + 1 + 1 - 1 = t.length + 1 + 1 by omega, List.getElem?_cons_succ, List.getElem?_cons_succ] at h3
      have hm : (0 : Int) ∈ c :: t := List.mem_of_getElem? h3
      have := (List.nodup_cons.1 (List.nodup_cons.1 h4).2).1
      exact this hm
theorem lok_nodup {l : List Rnk} {v n : Int} (h : LOk l v n) : (paths l).Nodup := by
  refine List.pairwise_iff_getElem.2 fun i j hi hj hij => ?_
  rw [paths_len] at hi hj
  obtain ⟨_, _, h3⟩ := h.2 j hj
  rw [paths_get _ _ (by rw [paths_len]; exact hi), paths_get _ _ (by rw [paths_len]; exact hj)]
  intro e
  refine h3 ?_
  rw [← e]
  refine List.mem_map.2 ⟨l[i], ?_, rfl⟩
  rw [List.mem_take_iff_getElem]
  exact ⟨i, by omega, rfl⟩
theorem ok_plX {l : List Rks} (hX : MayX l.length l) : InOk (plX l) := by
  have h1 : 0 < l.length := by have := hX.1; omega
  refine ⟨by rw [plX_get h1, hX.2.2.2.1 h1]; rfl, fun u => ?_⟩
  rcases Nat.lt_or_ge u l.length with hu | hu
  · rw [plX_get hu]
    rcases Nat.eq_zero_or_pos u with rfl | h0
    · rw [hX.2.2.2.1 h1]
      exact ⟨by simp [paths], fun p hp => by simp [paths] at hp⟩
    · have hok := hX.2.2.2.2 u hu h0
      refine ⟨lok_nodup hok, fun p hp => ?_⟩
      obtain ⟨q, hq, rfl⟩ := List.mem_map.1 hp
      exact pathOk_shape (lok_path hok q hq)
  · rw [getD_out (by rw [plX_len]; exact hu)]
    exact ⟨by simp, fun p hp => by simp at hp⟩
theorem sure_iff {l : List Rks} : ∀ {p : List Int}, (∀ a ∈ p, 0 ≤ a) → (sureF l p ↔ sureP (plX l) p)
  | [], _ => Iff.rfl
  | a :: t, h => by
    have ih := sure_iff (l := l) (p := t) fun a ha => h a (by simp [ha])
    unfold sureF sureP
    rw [ih]
    have key : ∀ u : Int, paths (rkAt l u) = atL (plX l) u := fun u => by
      unfold rkAt atL
      split
      · rename_i hu; rw [plX_get hu]
      · rename_i hu; rw [getD_out (by rw [plX_len]; omega)]; rfl
    simp only [key]
/-- Ranks told anew. -/
def IsRk (x : List Rnk) : Prop := ∀ i (h : i < x.length), x[i].r = i
theorem lok_sub {l x : List Rnk} {v n : Int} (h : LOk l v n) (hs : (paths x).Sublist (paths l)) (hr : IsRk x) : LOk x v n := by
  have hlen : x.length ≤ l.length := by have := hs.length_le; rwa [paths_len, paths_len] at this
  have hn := (lok_nodup h).sublist hs
  refine ⟨by have := h.1; omega, fun i hi => ⟨hr i hi, ?_, fun hm => ?_⟩⟩
  · have : x[i].p.l ∈ paths l := hs.subset (List.mem_map.2 ⟨_, List.getElem_mem hi, rfl⟩)
    obtain ⟨q, hq, e⟩ := List.mem_map.1 this
    exact e ▸ lok_path h q hq
  · obtain ⟨q, hq, e⟩ := List.mem_map.1 hm
    obtain ⟨j, hj, rfl⟩ := List.mem_take_iff_getElem.1 hq
    have := List.pairwise_iff_getElem.1 hn j i (by rw [paths_len]; omega) (by rw [paths_len]; exact hi) (by omega)
    rw [paths_get _ _ (by rw [paths_len]; omega), paths_get _ _ (by rw [paths_len]; exact hi)] at this
    exact this e
theorem mayX_setR {l : List Rks} {n : Int} {v : Nat} {r : Rks} (hX : MayX n l) (hv1 : 1 ≤ v) (hv : v < l.length) (hs : (paths r.l).Sublist (paths l[v].l)) (hr : IsRk r.l) : MayX n (l.set v r) := by
  obtain ⟨h1, h2, h3, h4, h5⟩ := hX
  refine ⟨h1, h2, by rw [List.length_set]; exact h3, fun h => ?_, fun u hu hu1 => ?_⟩
  · rw [List.length_set] at h
    rw [List.getElem_set, if_neg (by omega)]; exact h4 h
  · rw [List.length_set] at hu
    rw [List.getElem_set]
    split
    · rename_i e; subst e; exact lok_sub (h5 v hv hv1) hs hr
    · exact h5 u hu hu1
theorem small_setR {l : List Rks} {v : Nat} {r : Rks} (hS : SmallX l) (hv : v < l.length) (hs : (paths r.l).Sublist (paths l[v].l)) : SmallX (l.set v r) := by
  refine ⟨by rw [List.length_set]; exact hS.1, fun q hq => ?_⟩
  rcases List.mem_or_eq_of_mem_set hq with h | rfl
  · exact hS.2 q h
  · have hl := hS.2 _ (List.getElem_mem hv)
    have := hs.length_le
    rw [paths_len, paths_len] at this
    refine ⟨by omega, fun p hp => ?_⟩
    obtain ⟨p', hp', e⟩ := List.mem_map.1 (hs.subset (List.mem_map.2 ⟨p, hp, rfl⟩))
    rw [← e]; exact hl.2 p' hp'
theorem plX_set (l : List Rks) (v : Nat) (r : Rks) : plX (l.set v r) = (plX l).set v (paths r.l) := by simp [plX, List.map_set]
end Go.Proofs.Ytopiaiibpacmlaa.Av
