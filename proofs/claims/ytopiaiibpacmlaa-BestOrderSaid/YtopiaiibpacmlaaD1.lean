/- Data of the layers 20 to 24: paths, ranks, instances, states. -/
import Derived.Test.YtopiaiibpacmlaaPr0
import Derived.Test.YtopiaiibpacmlaaAv26
namespace Go.Proofs.Ytopiaiibpacmlaa.Av
open Go.RowKit
set_option linter.unusedSimpArgs false
/-- A list of whole numbers, as a slice. -/
structure Pth where
  l : List Int
  nl : Bool
  cd : Bool
  ok : nl = true → l = [] ∧ cd = true
  le : l.length ≤ 9223372036854775807
def Pth.av (p : Pth) : AV := .list 1 (intsA p.l) p.nl p.cd
/-- A path and its rank. -/
structure Rnk where
  p : Pth
  r : Int
def Rnk.cs (r : Rnk) : List AV := [r.p.av, .flat (.int .i64 r.r)]
def rksA (l : List Rnk) : List AV := (l.map Rnk.cs).flatten
structure Rks where
  l : List Rnk
  nl : Bool
  cd : Bool
  ok : nl = true → l = [] ∧ cd = true
  le : l.length ≤ 9223372036854775807
def Rks.av (p : Rks) : AV := .list 2 (rksA p.l) p.nl p.cd
theorem Pth.av_eq (p : Pth) : p.av = .list 1 (intsA p.l) p.nl p.cd := rfl
theorem Rks.av_eq (p : Rks) : p.av = .list 2 (rksA p.l) p.nl p.cd := rfl
theorem Pth.nil (p : Pth) (h : p.nl = true) : p.l = [] := (p.ok h).1
theorem Rks.nil (p : Rks) (h : p.nl = true) : p.l = [] := (p.ok h).1
theorem slice_rks {l : List Rnk} {nl cd : Bool} {lo hi mx : Option AV} (hn : nl = true → l = []) : sliceA 2 (.list 2 (rksA l) nl cd) lo hi mx = sliceC 2 (rksA l) nl cd lo hi mx := slice_eq fun h => by rw [hn h]; rfl
attribute [go_sem] slice_rks
theorem isI_pth (p : Pth) : isI p.av = true := rfl
theorem isI_rks (p : Rks) : isI p.av = true := rfl
theorem oc_pth (p : Pth) : cellsOf p.av = some [p.av] := rfl
theorem oc_rks (p : Rks) : cellsOf p.av = some [p.av] := rfl
theorem rks_len (l : List Rnk) : (rksA l).length = l.length * 2 := by
  induction l with
  | nil => rfl
  | cons a l ih => simp only [rksA, List.map_cons, List.flatten_cons, List.length_append, List.length_cons] at ih ⊢; rw [ih]; simp [Rnk.cs]; omega
theorem rks_drop (l : List Rnk) (k : Nat) : (rksA l).drop (k * 2) = rksA (l.drop k) := by
  induction l generalizing k with
  | nil => simp [rksA]
  | cons a l ih =>
    cases k with
    | zero => rfl
    | succ k =>
      have := ih k
      simp only [rksA, List.map_cons, List.flatten_cons, Rnk.cs, List.cons_append, List.nil_append, Nat.add_mul, Nat.one_mul, List.drop_succ_cons] at this ⊢
      exact this
theorem rks_take (l : List Rnk) (k : Nat) : (rksA l).take (k * 2) = rksA (l.take k) := by
  induction l generalizing k with
  | nil => simp [rksA]
  | cons a l ih =>
    cases k with
    | zero => rfl
    | succ k =>
      have := ih k
      simp only [rksA, List.map_cons, List.flatten_cons, Rnk.cs, List.cons_append, List.nil_append, Nat.add_mul, Nat.one_mul, List.take_succ_cons] at this ⊢
      rw [this]
theorem rks_cons (a : Rnk) (l : List Rnk) : rksA (a :: l) = a.p.av :: .flat (.int .i64 a.r) :: rksA l := rfl
/-- The cells from an element on. -/
theorem rks_at (l : List Rnk) (k : Nat) (h : k < l.length) : (rksA l).drop (k * 2) = l[k].p.av :: .flat (.int .i64 l[k].r) :: rksA (l.drop (k + 1)) := by
  rw [rks_drop, List.drop_eq_getElem_cons h, rks_cons]
theorem rks_at1 (l : List Rnk) (k : Nat) (h : k < l.length) : (rksA l).drop (k * 2 + 1) = .flat (.int .i64 l[k].r) :: rksA (l.drop (k + 1)) := by
  rw [← List.drop_drop, rks_at l k h]; rfl
theorem rks_at' (l : List Rnk) (k : Nat) (h : k < l.length) : (rksA l)[k * 2]? = some l[k].p.av := by
  have := congrArg List.head? (rks_at l k h)
  rwa [List.head?_drop] at this
theorem rks_at1' (l : List Rnk) (k : Nat) (h : k < l.length) : (rksA l)[k * 2 + 1]? = some (.flat (.int .i64 l[k].r)) := by
  have := congrArg List.head? (rks_at1 l k h)
  rwa [List.head?_drop] at this
theorem allI_rks : ∀ l : List Rnk, allI (rksA l) = true
  | [] => rfl
  | a :: l => by rw [rks_cons]; simp only [allI, isI_pth, isI, allI_rks l, Bool.and_self]
theorem allI_map {α : Type} {f : α → AV} (hf : ∀ a, isI (f a) = true) : ∀ l : List α, allI (l.map f) = true
  | [] => rfl
  | a :: l => by simp only [List.map_cons, allI, hf a, allI_map hf l, Bool.and_self]
theorem allI_pths (l : List Pth) : allI (l.map Pth.av) = true := allI_map isI_pth l
theorem allI_rkss (l : List Rks) : allI (l.map Rks.av) = true := allI_map isI_rks l
theorem half (n : Nat) : n * 2 / 2 = n := Nat.mul_div_cancel n (by decide)
attribute [go_sem] Pth.av_eq Rks.av_eq rks_len rks_take rks_at rks_at1 rks_at' rks_at1' allI_rks allI_pths allI_rkss half List.length_map List.getElem?_map List.getElem_map List.length_drop List.length_take
theorem map_drop' {α : Type} (f : α → AV) (l : List α) (k : Nat) : (l.map f).drop k = (l.drop k).map f := List.map_drop.symm
theorem map_take' {α : Type} (f : α → AV) (l : List α) (k : Nat) : (l.map f).take k = (l.take k).map f := List.map_take.symm
attribute [go_sem] map_drop' map_take' List.head?_map
/-! ### What is said of them -/
def pl (s : List Pth) : List (List Int) := s.map Pth.l
def paths (l : List Rnk) : List (List Int) := l.map (·.p.l)
def SmallX (l : List Rks) : Prop := l.length ≤ 12 ∧ ∀ r ∈ l, r.l.length ≤ 70 ∧ ∀ q ∈ r.l, q.p.l.length ≤ 20
def SmallS (s : List Pth) : Prop := s.length ≤ 12 ∧ ∀ p ∈ s, p.l.length ≤ 20
/-- The place of a path; -1: it isn't there. -/
def place (L : List (List Int)) (p : List Int) : Int := if p ∈ L then (L.idxOf p : Int) else -1
def PathOk (p : List Int) (v n : Int) : Prop := 2 ≤ p.length ∧ p[0]? = some v ∧ p[p.length - 1]? = some 0 ∧ p.Nodup ∧ ∀ a ∈ p, 0 ≤ a ∧ a < n
def LOk (l : List Rnk) (v n : Int) : Prop := l.length ≤ 64 ∧ ∀ i (h : i < l.length), l[i].r = i ∧ PathOk l[i].p.l v n ∧ l[i].p.l ∉ paths (l.take i)
def MayX (n : Int) (l : List Rks) : Prop := 1 ≤ n ∧ n ≤ 9 ∧ (l.length : Int) = n ∧ (∀ h : 0 < l.length, l[0].l = []) ∧ ∀ v (h : v < l.length), 1 ≤ v → LOk l[v].l v n
def MayS (n : Int) (l : List Rks) (s : List Pth) : Prop := MayX n l ∧ (s.length : Int) = n ∧ (∀ h : 0 < s.length, s[0].l = [0]) ∧ ∀ v (h : v < s.length) (h' : v < l.length), 1 ≤ v → s[v].l = [] ∨ s[v].l ∈ paths l[v].l
noncomputable instance (l : List Rks) : Decidable (SmallX l) := Classical.propDecidable _
noncomputable instance (l : List Pth) : Decidable (SmallS l) := Classical.propDecidable _
noncomputable instance (p : List Int) (v n : Int) : Decidable (PathOk p v n) := Classical.propDecidable _
noncomputable instance (l : List Rnk) (v n : Int) : Decidable (LOk l v n) := Classical.propDecidable _
noncomputable instance (n : Int) (l : List Rks) : Decidable (MayX n l) := Classical.propDecidable _
noncomputable instance (n : Int) (l : List Rks) (s : List Pth) : Decidable (MayS n l s) := Classical.propDecidable _
theorem place_at {L : List (List Int)} {p : List Int} {i : Nat} (h : i < L.length) (h1 : L[i] = p) (h2 : ∀ j, j < i → ∀ h : j < L.length, L[j] ≠ p) : place L p = i := by
  have hm : p ∈ L := h1 ▸ List.getElem_mem h
  rw [place, if_pos hm]
  have h3 : L.idxOf p < L.length := List.idxOf_lt_length_of_mem hm
  have h4 : L[L.idxOf p] = p := List.getElem_idxOf h3
  rcases Nat.lt_trichotomy (L.idxOf p) i with h5 | h5 | h5
  · exact absurd h4 (h2 _ h5 h3)
  · rw [h5]
  · have h6 : (List.findIdx (· == p) L) > i := h5
    have := List.not_of_lt_findIdx h6
    simp [h1] at this
theorem place_no {L : List (List Int)} {p : List Int} (h : p ∉ L) : place L p = -1 := if_neg h
theorem place_ge {L : List (List Int)} {p : List Int} : 0 ≤ place L p ↔ p ∈ L := by
  unfold place; split <;> simp_all
theorem place_lt {L : List (List Int)} {p : List Int} : place L p < 0 ↔ p ∉ L := by
  unfold place; split <;> simp_all <;> omega
theorem place_le (L : List (List Int)) (p : List Int) : place L p < L.length ∨ L = [] ∧ place L p = -1 := by
  unfold place
  split
  · rename_i h; left; have := List.idxOf_lt_length_of_mem h; omega
  · cases L with
    | nil => exact .inr ⟨rfl, rfl⟩
    | cons a l => left; simp only [List.length_cons]; omega
end Go.Proofs.Ytopiaiibpacmlaa.Av
