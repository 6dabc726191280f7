/- The program of this seat, as the evaluator has it. -/
import Derived.Test.YtlcdafidoddefaaX4
import Derived.Test.YtlcdafidoddefaaX5
namespace Go.Proofs.Ytlcdafidoddefaa.Av
open Go.RowKit
def pr : Pr := ⟨prA, orC (extS 109) (orC (extS0 109) (extS2 71 72)), yOf []⟩
instance tieI : Inhabited TieT := ⟨tieOf Try.prog []⟩
theorem pr_Y (y : Nat) (ay : AY) (h : pr.Y y = some ay) : ay.assign.shut = true ∧ ay.body.shut = true := by
  have h2 : yOf [] y = some ay := h
  unfold yOf at h2
  split at h2
  · simp at h2
  · cases h2
theorem pr_shut (f : Nat) (af : AF) (h : pr.A f = some af) : af.body.shut = true := by
  have h1 : (afs.all fun x => x.2.body.shut) = true := by kernel_rfl
  have h2 : (afs.find? fun x => x.1 == f).map (·.2) = some af := h
  rw [Option.map_eq_some_iff] at h2
  obtain ⟨x, hx, rfl⟩ := h2
  exact List.all_eq_true.1 h1 x (List.mem_of_find?_eq_some hx)
theorem cells2_sh (s : Nat) (l : List I2) : shL s (cells2 l) = cells2 l := by
  induction l with
  | nil => rfl
  | cons p l ih =>
    have : cells2 (p :: l) = .flat (.int .i64 p.1) :: .flat (.int .i64 p.2) :: cells2 l := rfl
    rw [this]
    simp only [shL, List.map_cons, sh_flat] at ih ⊢
    rw [ih]
theorem of2_sh (s : Nat) {cs : List AV} {l : List I2} (h : of2 cs = some l) : of2 (shL s cs) = some l := by
  rw [of2_inv h, cells2_sh, of2_cells]
theorem extS2_sh (sf g : Nat) : CSh (extS2 sf g) := by
  intro f args M out Pre s hs h
  unfold extS2 at h ⊢
  split at h
  · rename_i hf
    rw [if_pos hf]
    unfold sortA2 at h
    split at h
    · rename_i id off len sz cd hg
      split at h
      · rename_i cs hM
        split at h
        · rename_i hh
          split at h
          · rename_i l hl
            cases h
            simp only [List.map_cons, List.map_nil, sh_ms, sh_clo, shL, sortA2]
            rw [shM_some hs hM]
            simp only [shL_len]
            rw [if_pos hh]
            have := of2_sh s hl
            rw [← shL_take, ← shL_drop] at this
            rw [this]
            have h2 := shM_set (M := M) hs id (some (splice cs off (cells2 (sorted2 l))))
            simp only [Option.map_some, ← splice_sh, cells2_sh] at h2
            simp only [h2, shO, sh_flat, List.map_cons, List.map_nil]
          · cases h
        · cases h
      · cases h
    · cases h
      simp only [List.map_cons, List.map_nil, sh_list, sh_clo, shL, sortA2, shO, sh_flat]
    · cases h
  · cases h
theorem pr_sh : CSh pr.ext := by
  refine orC_sh (extS_sh 109) (orC_sh (extS0_sh 109) (extS2_sh 71 72) ?_) ?_
  · intro f args M out Pre s hs h1 h2
    unfold extS2 at h2
    by_cases hf : f = 109
    · subst hf; simp at h2
    · simp [extS0, hf]
  · intro f args M out Pre s hs h1 h2
    by_cases hf : f = 109
    · subst hf
      simp only [orC, extS0, extS2, if_true] at h2
      have : ∃ sz nl cd, args = [.list sz [] nl cd] := by
        split at h2
        · rename_i r hr
          split at hr
          · exact ⟨_, _, _, rfl⟩
          · cases hr
        · simp at h2
      obtain ⟨sz, nl, cd, rfl⟩ := this
      simp only [extS, if_true, List.map_cons, List.map_nil, sh_list, sortA]
    · simp [extS, hf]
/-- What comes of values that name no places comes of them in any memory. -/
theorem any {f : Nat} {args : List AV} {v : AV} (ha : shut.all args = true) (hv : shut v = true) (h : ev pr f args [] = some (.q v)) (M : MS) : ev pr f args M = some (.q v) := ev_any pr_shut pr_sh pr_Y ha hv h M
end Go.Proofs.Ytlcdafidoddefaa.Av
namespace Go.Proofs.Ytlcdafidoddefaa.Av
open Go.RowKit
set_option linter.unusedSimpArgs false
/-- A list of whole numbers, as a slice. -/
structure Pth where
  l : List Int
  nl : Bool
  cd : Bool
  ok : nl = true → l = [] ∧ cd = true
  le : l.length ≤ 9223372036854775807
def Pth.av (p : Pth) : AV := .list 1 (intsA p.l) p.nl p.cd
/-- A path and its rank. -/
structure Rnk where
  p : Pth
  r : Int
def Rnk.cs (r : Rnk) : List AV := [r.p.av, .flat (.int .i64 r.r)]
def rksA (l : List Rnk) : List AV := (l.map Rnk.cs).flatten
structure Rks where
  l : List Rnk
  nl : Bool
  cd : Bool
  ok : nl = true → l = [] ∧ cd = true
  le : l.length ≤ 9223372036854775807
def Rks.av (p : Rks) : AV := .list 2 (rksA p.l) p.nl p.cd
theorem Pth.av_eq (p : Pth) : p.av = .list 1 (intsA p.l) p.nl p.cd := rfl
theorem Rks.av_eq (p : Rks) : p.av = .list 2 (rksA p.l) p.nl p.cd := rfl
theorem Pth.nil (p : Pth) (h : p.nl = true) : p.l = [] := (p.ok h).1
theorem Rks.nil (p : Rks) (h : p.nl = true) : p.l = [] := (p.ok h).1
theorem slice_rks {l : List Rnk} {nl cd : Bool} {lo hi mx : Option AV} (hn : nl = true → l = []) : sliceA 2 (.list 2 (rksA l) nl cd) lo hi mx = sliceC 2 (rksA l) nl cd lo hi mx := slice_eq fun h => by rw [hn h]; rfl
attribute [go_sem] slice_rks
theorem isI_pth (p : Pth) : isI p.av = true := rfl
theorem isI_rks (p : Rks) : isI p.av = true := rfl
theorem oc_pth (p : Pth) : cellsOf p.av = some [p.av] := rfl
theorem oc_rks (p : Rks) : cellsOf p.av = some [p.av] := rfl
theorem rks_len (l : List Rnk) : (rksA l).length = l.length * 2 := by
  induction l with
  | nil => rfl
  | cons a l ih => simp only [rksA, List.map_cons, List.flatten_cons, List.length_append, List.length_cons] at ih ⊢; rw [ih]; simp [Rnk.cs]; omega
theorem rks_drop (l : List Rnk) (k : Nat) : (rksA l).drop (k * 2) = rksA (l.drop k) := by
  induction l generalizing k with
  | nil => simp [rksA]
  | cons a l ih =>
    cases k with
    | zero => rfl
    | succ k =>
      have := ih k
      simp only [rksA, List.map_cons, List.flatten_cons, Rnk.cs, List.cons_append, List.nil_append, Nat.add_mul, Nat.one_mul, List.drop_succ_cons] at this ⊢
      exact this
theorem rks_take (l : List Rnk) (k : Nat) : (rksA l).take (k * 2) = rksA (l.take k) := by
  induction l generalizing k with
  | nil => simp [rksA]
  | cons a l ih =>
    cases k with
    | zero => rfl
    | succ k =>
      have := ih k
      simp only [rksA, List.map_cons, List.flatten_cons, Rnk.cs, List.cons_append, List.nil_append, Nat.add_mul, Nat.one_mul, List.take_succ_cons] at this ⊢
      rw [this]
theorem rks_cons (a : Rnk) (l : List Rnk) : rksA (a :: l) = a.p.av :: .flat (.int .i64 a.r) :: rksA l := rfl
/-- The cells from an element on. -/
theorem rks_at (l : List Rnk) (k : Nat) (h : k < l.length) : (rksA l).drop (k * 2) = l[k].p.av :: .flat (.int .i64 l[k].r) :: rksA (l.drop (k + 1)) := by
  rw [rks_drop, List.drop_eq_getElem_cons h, rks_cons]
theorem rks_at1 (l : List Rnk) (k : Nat) (h : k < l.length) : (rksA l).drop (k * 2 + 1) = .flat (.int .i64 l[k].r) :: rksA (l.drop (k + 1)) := by
  rw [← List.drop_drop, rks_at l k h]; rfl
theorem rks_at' (l : List Rnk) (k : Nat) (h : k < l.length) : (rksA l)[k * 2]? = some l[k].p.av := by
  have := congrArg List.head? (rks_at l k h)
  rwa [List.head?_drop] at this
theorem rks_at1' (l : List Rnk) (k : Nat) (h : k < l.length) : (rksA l)[k * 2 + 1]? = some (.flat (.int .i64 l[k].r)) := by
  have := congrArg List.head? (rks_at1 l k h)
  rwa [List.head?_drop] at this
theorem allI_rks : ∀ l : List Rnk, allI (rksA l) = true
  | [] => rfl
  | a :: l => by rw [rks_cons]; simp only [allI, isI_pth, isI, allI_rks l, Bool.and_self]
theorem allI_map {α : Type} {f : α → AV} (hf : ∀ a, isI (f a) = true) : ∀ l : List α, allI (l.map f) = true
  | [] => rfl
  | a :: l => by simp only [List.map_cons, allI, hf a, allI_map hf l, Bool.and_self]
theorem allI_pths (l : List Pth) : allI (l.map Pth.av) = true := allI_map isI_pth l
theorem allI_rkss (l : List Rks) : allI (l.map Rks.av) = true := allI_map isI_rks l
theorem half (n : Nat) : n * 2 / 2 = n := Nat.mul_div_cancel n (by decide)
attribute [go_sem] Pth.av_eq Rks.av_eq rks_len rks_take rks_at rks_at1 rks_at' rks_at1' allI_rks allI_pths allI_rkss half List.length_map List.getElem?_map List.getElem_map List.length_drop List.length_take
theorem map_drop' {α : Type} (f : α → AV) (l : List α) (k : Nat) : (l.map f).drop k = (l.drop k).map f := List.map_drop.symm
theorem map_take' {α : Type} (f : α → AV) (l : List α) (k : Nat) : (l.map f).take k = (l.take k).map f := List.map_take.symm
attribute [go_sem] map_drop' map_take' List.head?_map
/-! ### What is said of them -/
def pl (s : List Pth) : List (List Int) := s.map Pth.l
def paths (l : List Rnk) : List (List Int) := l.map (·.p.l)
def SmallX (l : List Rks) : Prop := l.length ≤ 12 ∧ ∀ r ∈ l, r.l.length ≤ 70 ∧ ∀ q ∈ r.l, q.p.l.length ≤ 20
def SmallS (s : List Pth) : Prop := s.length ≤ 12 ∧ ∀ p ∈ s, p.l.length ≤ 20
/-- The place of a path; -1: it isn't there. -/
def place (L : List (List Int)) (p : List Int) : Int := if p ∈ L then (L.idxOf p : Int) else -1
def PathOk (p : List Int) (v n : Int) : Prop := 2 ≤ p.length ∧ p[0]? = some v ∧ p[p.length - 1]? = some 0 ∧ p.Nodup ∧ ∀ a ∈ p, 0 ≤ a ∧ a < n
def LOk (l : List Rnk) (v n : Int) : Prop := l.length ≤ 64 ∧ ∀ i (h : i < l.length), l[i].r = i ∧ PathOk l[i].p.l v n ∧ l[i].p.l ∉ paths (l.take i)
def MayX (n : Int) (l : List Rks) : Prop := 1 ≤ n ∧ n ≤ 9 ∧ (l.length : Int) = n ∧ (∀ h : 0 < l.length, l[0].l = []) ∧ ∀ v (h : v < l.length), 1 ≤ v → LOk l[v].l v n
def MayS (n : Int) (l : List Rks) (s : List Pth) : Prop := MayX n l ∧ (s.length : Int) = n ∧ (∀ h : 0 < s.length, s[0].l = [0]) ∧ ∀ v (h : v < s.length) (h' : v < l.length), 1 ≤ v → s[v].l = [] ∨ s[v].l ∈ paths l[v].l
noncomputable instance (l : List Rks) : Decidable (SmallX l) := Classical.propDecidable _
noncomputable instance (l : List Pth) : Decidable (SmallS l) := Classical.propDecidable _
noncomputable instance (p : List Int) (v n : Int) : Decidable (PathOk p v n) := Classical.propDecidable _
noncomputable instance (l : List Rnk) (v n : Int) : Decidable (LOk l v n) := Classical.propDecidable _
noncomputable instance (n : Int) (l : List Rks) : Decidable (MayX n l) := Classical.propDecidable _
noncomputable instance (n : Int) (l : List Rks) (s : List Pth) : Decidable (MayS n l s) := Classical.propDecidable _
theorem place_at {L : List (List Int)} {p : List Int} {i : Nat} (h : i < L.length) (h1 : L[i] = p) (h2 : ∀ j, j < i → ∀ h : j < L.length, L[j] ≠ p) : place L p = i := by
  have hm : p ∈ L := h1 ▸ List.getElem_mem h
  rw [place, if_pos hm]
  have h3 : L.idxOf p < L.length := List.idxOf_lt_length_of_mem hm
  have h4 : L[L.idxOf p] = p := List.getElem_idxOf h3
  rcases Nat.lt_trichotomy (L.idxOf p) i with h5 | h5 | h5
  · exact absurd h4 (h2 _ h5 h3)
  · rw [h5]
  · have h6 : (List.findIdx (· == p) L) > i := h5
    have := List.not_of_lt_findIdx h6
    simp [h1] at this
theorem place_no {L : List (List Int)} {p : List Int} (h : p ∉ L) : place L p = -1 := if_neg h
theorem place_ge {L : List (List Int)} {p : List Int} : 0 ≤ place L p ↔ p ∈ L := by
  unfold place; split <;> simp_all
theorem place_lt {L : List (List Int)} {p : List Int} : place L p < 0 ↔ p ∉ L := by
  unfold place; split <;> simp_all <;> omega
theorem place_le (L : List (List Int)) (p : List Int) : place L p < L.length ∨ L = [] ∧ place L p = -1 := by
  unfold place
  split
  · rename_i h; left; have := List.idxOf_lt_length_of_mem h; omega
  · cases L with
    | nil => exact .inr ⟨rfl, rfl⟩
    | cons a l => left; simp only [List.length_cons]; omega
end Go.Proofs.Ytlcdafidoddefaa.Av
namespace Go.Proofs.Ytlcdafidoddefaa.Av
open Go.RowKit
set_option linter.unusedSimpArgs false
abbrev dtRank : DT := .pair (.sl 1 (.int .i64)) (.pair (.int .i64) .unit)
abbrev dtInst : DT := .pair (.int .i64) (.pair (.sl 1 (.sl 2 dtRank)) .unit)
abbrev dtState : DT := .sl 1 (.sl 1 (.int .i64))
theorem maxLen_eq : maxLen = 9223372036854775807 := by decide
theorem pth_has {x : AV} (h : (DT.sl 1 (.int .i64)).Has [x]) : ∃ p : Pth, x = p.av := by
  obtain ⟨rows, nl, cd, h1, h2, h3, h4, h5⟩ := h
  simp only [List.cons.injEq, and_true] at h1
  obtain ⟨l, h6, h7, h8⟩ := ints_has h5
  rw [maxLen_eq] at h3
  refine ⟨⟨l, nl, cd, fun hn => ?_, by omega⟩, by rw [h1, h6]; rfl⟩
  obtain ⟨h9, h10⟩ := h2 hn
  subst h9
  exact ⟨List.eq_nil_of_length_eq_zero (by simpa using h7), h10⟩
theorem pths_has : ∀ {rows : List (List AV)}, (∀ r ∈ rows, (DT.sl 1 (.int .i64)).Has r ∧ r.length = 1) → ∃ s : List Pth, rows.flatten = s.map Pth.av ∧ s.length = rows.length
  | [], _ => ⟨[], rfl, rfl⟩
  | r :: rows, h => by
    obtain ⟨h1, h2⟩ := h r (by simp)
    obtain ⟨s, h3, h4⟩ := pths_has (rows := rows) fun r hr => h r (by simp [hr])
    match r, h2, h1 with
    | [x], _, h1 =>
      obtain ⟨p, rfl⟩ := pth_has h1
      exact ⟨p :: s, by rw [List.flatten_cons, h3]; rfl, by simp [h4]⟩
theorem state_arg {x : AV} (h : dtState.Arg x) : ∃ (s : List Pth) (ns cs : Bool), x = .list 1 (s.map Pth.av) ns cs ∧ s.length ≤ 9223372036854775807 := by
  obtain ⟨rows, nl, cd, h1, h2, h3, h4, h5⟩ := h
  simp only [List.cons.injEq, and_true] at h1
  obtain ⟨s, h6, h7⟩ := pths_has h5
  rw [maxLen_eq] at h3
  exact ⟨s, nl, cd, by rw [h1, h6], by omega⟩
theorem rank_has {r : List AV} (h : dtRank.Has r) : ∃ q : Rnk, r = q.cs := by
  obtain ⟨x, y, rfl, h1, a, b, rfl, h2, h3⟩ := h
  obtain ⟨n, rfl, _⟩ := h2
  have h3' : b = [] := h3
  subst h3'
  obtain ⟨rows, nl, cd, h4, _⟩ := id h1
  subst h4
  obtain ⟨p, hp⟩ := pth_has h1
  exact ⟨⟨p, n⟩, by simp only [Rnk.cs, ← hp]; rfl⟩
theorem ranks_has : ∀ {rows : List (List AV)}, (∀ r ∈ rows, dtRank.Has r ∧ r.length = 2) → ∃ s : List Rnk, rows.flatten = rksA s ∧ s.length = rows.length
  | [], _ => ⟨[], rfl, rfl⟩
  | r :: rows, h => by
    obtain ⟨q, rfl⟩ := rank_has (h r (by simp)).1
    obtain ⟨s, h3, h4⟩ := ranks_has (rows := rows) fun r hr => h r (by simp [hr])
    exact ⟨q :: s, by rw [List.flatten_cons, h3]; rfl, by simp [h4]⟩
theorem rks_has {x : AV} (h : (DT.sl 2 dtRank).Has [x]) : ∃ p : Rks, x = p.av := by
  obtain ⟨rows, nl, cd, h1, h2, h3, h4, h5⟩ := h
  simp only [List.cons.injEq, and_true] at h1
  obtain ⟨l, h6, h7⟩ := ranks_has h5
  rw [maxLen_eq] at h3
  refine ⟨⟨l, nl, cd, fun hn => ?_, by omega⟩, by rw [h1, h6]; rfl⟩
  obtain ⟨h9, h10⟩ := h2 hn
  subst h9
  exact ⟨List.eq_nil_of_length_eq_zero (by simpa using h7), h10⟩
theorem rkss_has : ∀ {rows : List (List AV)}, (∀ r ∈ rows, (DT.sl 2 dtRank).Has r ∧ r.length = 1) → ∃ s : List Rks, rows.flatten = s.map Rks.av ∧ s.length = rows.length
  | [], _ => ⟨[], rfl, rfl⟩
  | r :: rows, h => by
    obtain ⟨h1, h2⟩ := h r (by simp)
    obtain ⟨s, h3, h4⟩ := rkss_has (rows := rows) fun r hr => h r (by simp [hr])
    match r, h2, h1 with
    | [x], _, h1 =>
      obtain ⟨p, rfl⟩ := rks_has h1
      exact ⟨p :: s, by rw [List.flatten_cons, h3]; rfl, by simp [h4]⟩
theorem inst_arg {x : AV} (h : dtInst.Arg x) : ∃ (n : Int) (l : List Rks) (nl cd : Bool), x = .agg [.flat (.int .i64 n), .list 1 (l.map Rks.av) nl cd] ∧ l.length ≤ 9223372036854775807 := by
  obtain ⟨xs, rfl, a, b, rfl, ⟨n, rfl, _⟩, c, d, rfl, ⟨rows, nl, cd, rfl, h2, h3, h4, h5⟩, h6⟩ := h
  have h6' : d = [] := h6
  subst h6'
  obtain ⟨s, h7, h8⟩ := rkss_has h5
  rw [maxLen_eq] at h3
  exact ⟨n, s, nl, cd, by rw [h7]; rfl, by omega⟩
end Go.Proofs.Ytlcdafidoddefaa.Av
namespace Go.Proofs.Ytlcdafidoddefaa.Av
open Go.RowKit
theorem sgc {P : Prop} (h : P := by focus (simp (disch := first | assumption | decide | omega | exact Pth.le _ | exact Rks.le _ | exact List.getElem_mem _ | exact allI_ints _ | exact allI_rks _ | exact allI_pths _ | exact Pth.nil _ | exact Rks.nil _ | (intro hh; simp only [Pth.nil _ hh, List.take_nil, List.drop_nil]; done) | (intro hh; simp only [Rks.nil _ hh, List.take_nil, List.drop_nil]; done) | (simp only [List.length_take, List.length_drop, List.length_append, List.length_cons, List.length_nil, List.length_replicate, List.length_map, ints_len]; omega)) only [↓wantA, undef, go_sem, if_pos, if_neg, Nat.reduceBEq, Nat.reduceEqDiff, ↓reduceIte, Nat.reduceSub, Nat.reduceAdd, Int.reduceToNat, reduceCtorEq, Nat.reduceLeDiff, Nat.reduceLT, Nat.reduceMul, Nat.reduceDiv, Int.reduceLT, Int.reduceLE, Int.reduceEq, Int.reduceNe, Int.reduceAdd, Int.reduceSub, Int.reduceNeg, Int.reduceGT, Int.reduceGE, Int.reduceBEq, Int.reduceBNe, Int.reduceMul, *]; first | done | rfl)) : P := h
theorem svc {P : Prop} (h : P := by (simp (disch := first | assumption | decide | omega | exact Pth.le _ | exact Rks.le _ | exact List.getElem_mem _ | exact allI_ints _ | exact allI_rks _ | exact allI_pths _ | exact Pth.nil _ | exact Rks.nil _ | (intro hh; simp only [Pth.nil _ hh, List.take_nil, List.drop_nil]; done) | (intro hh; simp only [Rks.nil _ hh, List.take_nil, List.drop_nil]; done) | (simp only [List.length_take, List.length_drop, List.length_append, List.length_cons, List.length_nil, List.length_replicate, List.length_map, ints_len]; omega)) only [go_sem, if_pos, if_neg, Nat.reduceBEq, Nat.reduceEqDiff, ↓reduceIte, Nat.reduceSub, Nat.reduceAdd, Int.reduceToNat, reduceCtorEq, Nat.reduceLeDiff, Nat.reduceLT, Nat.reduceMul, Nat.reduceDiv, Int.reduceLT, Int.reduceLE, Int.reduceEq, Int.reduceNe, Int.reduceAdd, Int.reduceSub, Int.reduceNeg, Int.reduceGT, Int.reduceGE, Int.reduceBEq, Int.reduceBNe, Int.reduceMul, *])) : P := h
theorem fincR {P : Prop} (h : P := by (simp (disch := first | assumption | decide | omega | exact Pth.le _ | exact Rks.le _ | exact List.getElem_mem _ | exact allI_ints _ | exact allI_rks _ | exact allI_pths _ | exact Pth.nil _ | exact Rks.nil _ | (intro hh; simp only [Pth.nil _ hh, List.take_nil, List.drop_nil]; done) | (intro hh; simp only [Rks.nil _ hh, List.take_nil, List.drop_nil]; done) | (simp only [List.length_take, List.length_drop, List.length_append, List.length_cons, List.length_nil, List.length_replicate, List.length_map, ints_len]; omega)) only [resA, rvA, tupA, fin, frzV, frzTup, frzA, frz, isI, isI.all, Option.bind_some, go_sem, if_pos, if_neg, Nat.reduceBEq, Nat.reduceEqDiff, ↓reduceIte, Nat.reduceSub, Nat.reduceAdd, Int.reduceToNat, reduceCtorEq, Nat.reduceLeDiff, Nat.reduceLT, Nat.reduceMul, Nat.reduceDiv, Int.reduceLT, Int.reduceLE, Int.reduceEq, Int.reduceNe, Int.reduceAdd, Int.reduceSub, Int.reduceNeg, Int.reduceGT, Int.reduceGE, Int.reduceBEq, Int.reduceBNe, Int.reduceMul, *])) : (Ex.ret = Ex.nrm ∨ Ex.ret = Ex.ret) ∧ P := ⟨.inr rfl, h⟩
theorem fincN {P : Prop} (h : P := by (simp (disch := first | assumption | decide | omega | exact Pth.le _ | exact Rks.le _ | exact List.getElem_mem _ | exact allI_ints _ | exact allI_rks _ | exact allI_pths _ | exact Pth.nil _ | exact Rks.nil _ | (intro hh; simp only [Pth.nil _ hh, List.take_nil, List.drop_nil]; done) | (intro hh; simp only [Rks.nil _ hh, List.take_nil, List.drop_nil]; done) | (simp only [List.length_take, List.length_drop, List.length_append, List.length_cons, List.length_nil, List.length_replicate, List.length_map, ints_len]; omega)) only [resA, rvA, tupA, fin, frzV, frzTup, frzA, frz, isI, isI.all, Option.bind_some, go_sem, if_pos, if_neg, Nat.reduceBEq, Nat.reduceEqDiff, ↓reduceIte, Nat.reduceSub, Nat.reduceAdd, Int.reduceToNat, reduceCtorEq, Nat.reduceLeDiff, Nat.reduceLT, Nat.reduceMul, Nat.reduceDiv, Int.reduceLT, Int.reduceLE, Int.reduceEq, Int.reduceNe, Int.reduceAdd, Int.reduceSub, Int.reduceNeg, Int.reduceGT, Int.reduceGE, Int.reduceBEq, Int.reduceBNe, Int.reduceMul, *])) : (Ex.nrm = Ex.nrm ∨ Ex.nrm = Ex.ret) ∧ P := ⟨.inl rfl, h⟩
/-- A step that is forced. -/
class Stp (P : Prop) (Q : outParam Prop) : Prop where
  h : Q → P
section
variable {p : Pr} {base k j : Nat} {env : Env} {M M' : MS} {D D' : List Nat} {Q : Post} {d : Option Nat} {i : I} {r : List AOp} {v : AV} {R : Env → MS → List Nat → Prop} {a b : AC} {c : Bool} {ops : List AOp}
instance : Stp (SO p base r d env M D R (.q v)) (WS p base 0 r (updO env d v) M D R) := ⟨SO_q⟩
instance : Stp (SO p base r d env M D R (.x v M' D')) (WS p base 0 r (updO env d v) M' D' R) := ⟨SO_x⟩
instance : Stp (SG p base k d i r env M D R true) (WS p base k (⟨d, i, none⟩ :: r) env M D R) := ⟨SG_t⟩
instance : Stp (SG p base 0 d i r env M D R false) (WS p base 0 r (updO env d (.flat undef)) M D R) := ⟨SG_f0⟩
instance : Stp (SG p base (k + 1) d i r env M D R false) (WS p base k r (updO env d (.flat undef)) M D R) := ⟨SG_f1⟩
instance : Stp (WS p base k [] env M D R) (R env M D) := ⟨S_nil⟩
instance : Stp (thenW p base b Q .nrm env M D) (W p base b env M D Q) := ⟨T_n⟩
instance : Stp (thenW p base b Q (.exit j) env M D) (Q (.exit j) env M D) := ⟨T_e⟩
instance : Stp (thenW p base b Q .ret env M D) (Q .ret env M D) := ⟨T_r⟩
instance : Stp (W p base (.seq a b) env M D Q) (W p base a env M D (thenW p base b Q)) := ⟨W_seq⟩
instance : Stp (W p base (.region k ops) env M D Q) (WS p base k ops env M D (Q .nrm)) := ⟨W_region⟩
instance : Stp (W p base (.block j a) env M D Q) (W p base a env M D (blkW j Q)) := ⟨W_block⟩
instance : Stp (W p base .ret env M D Q) (Q .ret env M D) := ⟨W_ret⟩
instance : Stp (W p base .skip env M D Q) (Q .nrm env M D) := ⟨W_skip⟩
instance : Stp (W p base (.exit j) env M D Q) (Q (.exit j) env M D) := ⟨W_exit⟩
instance : Stp (SC p base a b env M D Q true) (W p base a env M D Q) := ⟨SC_t⟩
instance : Stp (SC p base a b env M D Q false) (W p base b env M D Q) := ⟨SC_f⟩
instance : Stp (SC p base a b env M D Q (!c)) (SC p base b a env M D Q c) := ⟨SC_n⟩
end
section
variable {j : Nat} {env : Env} {M : MS} {D : List Nat} {Q : Post}
instance : Stp (blkW j Q .nrm env M D) (Q .nrm env M D) := ⟨B_n⟩
instance : Stp (blkW j Q (.exit j) env M D) (Q .nrm env M D) := ⟨B_e⟩
instance : Stp (blkW j Q .ret env M D) (Q .ret env M D) := ⟨B_r⟩
end
section
variable {J : Nat → Env → MS → List Nat → Prop} {m j : Nat} {env : Env} {M : MS} {D : List Nat} {Q : Post}
instance : Stp (roundW J m Q (.exit j) env M D) (Q (.exit j) env M D) := ⟨R_e⟩
instance : Stp (roundW J m Q .ret env M D) (Q .ret env M D) := ⟨R_r⟩
end
section
variable {ix i N j : Nat} {I : Nat → Env → MS → Prop} {D d : List Nat} {Q : Post} {e : Env} {m : MS}
instance : Stp (rngW ix i N I D Q (.exit j) e m d) (Q (.exit j) e m d) := ⟨G_e⟩
instance : Stp (rngW ix i N I D Q .ret e m d) (Q .ret e m d) := ⟨G_r⟩
end
section
variable {ix i N j : Nat} {I : Nat → Env → Prop} {D d : List Nat} {Q : Post} {e : Env} {M m : MS}
instance : Stp (rng0 ix i N I M D Q (.exit j) e m d) (Q (.exit j) e m d) := ⟨H_e⟩
instance : Stp (rng0 ix i N I M D Q .ret e m d) (Q .ret e m d) := ⟨H_r⟩
end
theorem dq1 {c : Prop} [Decidable c] : (decide c = true) = c := decide_eq_true_eq
theorem dq2 {c : Prop} [Decidable c] : (decide c = false) ↔ ¬ c := decide_eq_false_iff_not
theorem dq3 {c : Prop} : ¬ ¬ c ↔ c := Classical.not_not
theorem dq4 {c : Bool} : ((!c) = true) = (c = false) := Bool.not_eq_true' c
theorem dq5 {c : Bool} : ((!c) = false) = (c = true) := Bool.not_eq_false' c
end Go.Proofs.Ytlcdafidoddefaa.Av
