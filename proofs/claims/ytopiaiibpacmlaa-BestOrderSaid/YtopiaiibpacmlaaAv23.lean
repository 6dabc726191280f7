/- Arguments of common kinds. -/
import Derived.Test.YtopiaiibpacmlaaAv22
namespace Go.Proofs.Ytopiaiibpacmlaa.Av
open Go.RowKit
set_option linter.unusedSimpArgs false
def I64 (n : Int) : Prop := -9223372036854775808 ≤ n ∧ n ≤ 9223372036854775807
theorem i64_wf {n : Int} (h : (Lit.int .i64 n).wf = true) : I64 n := by
  simp only [Lit.wf, Bool.and_eq_true, decide_eq_true_eq] at h
  exact ⟨h.1, h.2⟩
theorem int_arg {x : AV} (h : (DT.int .i64).Arg x) : ∃ n, x = .flat (.int .i64 n) ∧ I64 n := by
  obtain ⟨n, h1, h2⟩ := h
  simp only [List.cons.injEq, and_true] at h1
  exact ⟨n, h1, i64_wf h2⟩
theorem bool_arg {x : AV} (h : DT.bool.Arg x) : ∃ n, x = .flat (.bool n) := by
  obtain ⟨n, h1⟩ := h
  simp only [List.cons.injEq, and_true] at h1
  exact ⟨n, h1⟩
theorem ints_has : ∀ {rows : List (List AV)}, (∀ r ∈ rows, (DT.int .i64).Has r ∧ r.length = 1) → ∃ l, rows.flatten = intsA l ∧ l.length = rows.length ∧ ∀ n ∈ l, I64 n
  | [], _ => ⟨[], rfl, rfl, fun n h => by simp at h⟩
  | r :: rows, h => by
    obtain ⟨⟨n, h1, h2⟩, _⟩ := h r (by simp)
    obtain ⟨l, h3, h4, h5⟩ := ints_has (rows := rows) fun r hr => h r (by simp [hr])
    refine ⟨n :: l, by rw [List.flatten_cons, h3, h1]; rfl, by simp [h4], fun m hm => ?_⟩
    rcases List.mem_cons.1 hm with rfl | hm
    · exact i64_wf h2
    · exact h5 m hm
/-- A slice of whole numbers. -/
def IsInts (x : AV) (l : List Int) : Prop := ∃ nl cd, x = .list 1 (intsA l) nl cd ∧ (nl = true → l = [] ∧ cd = true)
theorem ints_arg' {x : AV} (h : (DT.sl 1 (.int .i64)).Has [x]) : ∃ l, IsInts x l ∧ (∀ n ∈ l, I64 n) ∧ l.length ≤ maxLen := by
  obtain ⟨rows, nl, cd, h1, h2, h3, h4, h5⟩ := h
  simp only [List.cons.injEq, and_true] at h1
  obtain ⟨l, h6, h7, h8⟩ := ints_has h5
  refine ⟨l, ⟨nl, cd, by rw [h1, h6], fun hn => ?_⟩, h8, by omega⟩
  obtain ⟨h9, h10⟩ := h2 hn
  subst h9
  exact ⟨List.eq_nil_of_length_eq_zero (by simpa using h7), h10⟩
theorem ints_arg {x : AV} (h : (DT.sl 1 (.int .i64)).Arg x) : ∃ l, IsInts x l ∧ (∀ n ∈ l, I64 n) ∧ l.length ≤ maxLen := ints_arg' h
end Go.Proofs.Ytopiaiibpacmlaa.Av
