/- Arguments as instances and states. -/
import Derived.Test.YtopiaiibpacmlaaD1
namespace Go.Proofs.Ytopiaiibpacmlaa.Av
open Go.RowKit
set_option linter.unusedSimpArgs false
abbrev dtRank : DT := .pair (.sl 1 (.int .i64)) (.pair (.int .i64) .unit)
abbrev dtInst : DT := .pair (.int .i64) (.pair (.sl 1 (.sl 2 dtRank)) .unit)
abbrev dtState : DT := .sl 1 (.sl 1 (.int .i64))
theorem maxLen_eq : maxLen = 9223372036854775807 := by decide
theorem pth_has {x : AV} (h : (DT.sl 1 (.int .i64)).Has [x]) : ∃ p : Pth, x = p.av := by
  obtain ⟨rows, nl, cd, h1, h2, h3, h4, h5⟩ := h
  simp only [List.cons.injEq, and_true] at h1
  obtain ⟨l, h6, h7, h8⟩ := ints_has h5
  rw [maxLen_eq] at h3
  refine ⟨⟨l, nl, cd, fun hn => ?_, by omega⟩, by rw [h1, h6]; rfl⟩
  obtain ⟨h9, h10⟩ := h2 hn
  subst h9
  exact ⟨List.eq_nil_of_length_eq_zero (by simpa using h7), h10⟩
theorem pths_has : ∀ {rows : List (List AV)}, (∀ r ∈ rows, (DT.sl 1 (.int .i64)).Has r ∧ r.length = 1) → ∃ s : List Pth, rows.flatten = s.map Pth.av ∧ s.length = rows.length
  | [], _ => ⟨[], rfl, rfl⟩
  | r :: rows, h => by
    obtain ⟨h1, h2⟩ := h r (by simp)
    obtain ⟨s, h3, h4⟩ := pths_has (rows := rows) fun r hr => h r (by simp [hr])
    match r, h2, h1 with
    | [x], _, h1 =>
      obtain ⟨p, rfl⟩ := pth_has h1
      exact ⟨p :: s, by rw [List.flatten_cons, h3]; rfl, by simp [h4]⟩
theorem state_arg {x : AV} (h : dtState.Arg x) : ∃ (s : List Pth) (ns cs : Bool), x = .list 1 (s.map Pth.av) ns cs ∧ s.length ≤ 9223372036854775807 := by
  obtain ⟨rows, nl, cd, h1, h2, h3, h4, h5⟩ := h
  simp only [List.cons.injEq, and_true] at h1
  obtain ⟨s, h6, h7⟩ := pths_has h5
  rw [maxLen_eq] at h3
  exact ⟨s, nl, cd, by rw [h1, h6], by omega⟩
theorem rank_has {r : List AV} (h : dtRank.Has r) : ∃ q : Rnk, r = q.cs := by
  obtain ⟨x, y, rfl, h1, a, b, rfl, h2, h3⟩ := h
  obtain ⟨n, rfl, _⟩ := h2
  have h3' : b = [] := h3
  subst h3'
  obtain ⟨rows, nl, cd, h4, _⟩ := id h1
  subst h4
  obtain ⟨p, hp⟩ := pth_has h1
  exact ⟨⟨p, n⟩, by simp only [Rnk.cs, ← hp]; rfl⟩
theorem ranks_has : ∀ {rows : List (List AV)}, (∀ r ∈ rows, dtRank.Has r ∧ r.length = 2) → ∃ s : List Rnk, rows.flatten = rksA s ∧ s.length = rows.length
  | [], _ => ⟨[], rfl, rfl⟩
  | r :: rows, h => by
    obtain ⟨q, rfl⟩ := rank_has (h r (by simp)).1
    obtain ⟨s, h3, h4⟩ := ranks_has (rows := rows) fun r hr => h r (by simp [hr])
    exact ⟨q :: s, by rw [List.flatten_cons, h3]; rfl, by simp [h4]⟩
theorem rks_has {x : AV} (h : (DT.sl 2 dtRank).Has [x]) : ∃ p : Rks, x = p.av := by
  obtain ⟨rows, nl, cd, h1, h2, h3, h4, h5⟩ := h
  simp only [List.cons.injEq, and_true] at h1
  obtain ⟨l, h6, h7⟩ := ranks_has h5
  rw [maxLen_eq] at h3
  refine ⟨⟨l, nl, cd, fun hn => ?_, by omega⟩, by rw [h1, h6]; rfl⟩
  obtain ⟨h9, h10⟩ := h2 hn
  subst h9
  exact ⟨List.eq_nil_of_length_eq_zero (by simpa using h7), h10⟩
theorem rkss_has : ∀ {rows : List (List AV)}, (∀ r ∈ rows, (DT.sl 2 dtRank).Has r ∧ r.length = 1) → ∃ s : List Rks, rows.flatten = s.map Rks.av ∧ s.length = rows.length
  | [], _ => ⟨[], rfl, rfl⟩
  | r :: rows, h => by
    obtain ⟨h1, h2⟩ := h r (by simp)
    obtain ⟨s, h3, h4⟩ := rkss_has (rows := rows) fun r hr => h r (by simp [hr])
    match r, h2, h1 with
    | [x], _, h1 =>
      obtain ⟨p, rfl⟩ := rks_has h1
      exact ⟨p :: s, by rw [List.flatten_cons, h3]; rfl, by simp [h4]⟩
theorem inst_arg {x : AV} (h : dtInst.Arg x) : ∃ (n : Int) (l : List Rks) (nl cd : Bool), x = .agg [.flat (.int .i64 n), .list 1 (l.map Rks.av) nl cd] ∧ l.length ≤ 9223372036854775807 := by
  obtain ⟨xs, rfl, a, b, rfl, ⟨n, rfl, _⟩, c, d, rfl, ⟨rows, nl, cd, rfl, h2, h3, h4, h5⟩, h6⟩ := h
  have h6' : d = [] := h6
  subst h6'
  obtain ⟨s, h7, h8⟩ := rkss_has h5
  rw [maxLen_eq] at h3
  exact ⟨n, s, nl, cd, by rw [h7]; rfl, by omega⟩
end Go.Proofs.Ytopiaiibpacmlaa.Av
