/- From the evaluator's word on a law to the machine's. -/
import Derived.Test.YtopiaiibpacmlaaAv19
namespace Go.Proofs.Ytopiaiibpacmlaa.Av
open Go.RowKit Go.WideShapes
set_option linter.unusedSimpArgs false

/-- An argument of a kind of data. -/
def DT.Arg : DT → AV → Prop
  | .unit, x => ∃ xs, x = .agg xs ∧ DT.unit.Has xs
  | .pair a b, x => ∃ xs, x = .agg xs ∧ (DT.pair a b).Has xs
  | .rep n e, x => ∃ xs, x = .agg xs ∧ (DT.rep n e).Has xs
  | d, x => d.Has [x]
section
variable {H : Type} {enc : TypeId × Value → H} {P : Program} {W : World} {base : Nat} {sp : Nat → Bool} {held : Bool} {r : Reach} {b0 : Nat}
theorem agg_R {xs : List AV} {cs : Array Value} (h : CR (G0 W) xs cs.toList) : R (G0 W) (.agg xs) (.agg cs) := by
  have hl := h.len
  rw [Array.length_toList] at hl
  exact .agg _ _ hl (fun j hj => by simpa [List.getD, Array.getD_eq_getD_getElem?] using (h.get j hj).1) (fun j hj => by simpa [List.getD, Array.getD_eq_getD_getElem?] using (h.get j hj).2)
theorem one_R {x : AV} {v : Value} (h : CR (G0 W) [x] [v]) : R (G0 W) x v := (h.get 0 (by simp)).1
theorem shapeFs_agg {F : TypeId → Option DT} {total : Nat} : ∀ {fs : List Field} {off : Nat} {dt : DT}, shapeFs P F total off fs = some dt → dt = .unit ∨ ∃ a b, dt = .pair a b
  | [], off, dt, h => by
    simp only [shapeFs] at h
    split at h
    · cases h; exact .inl rfl
    · cases h
  | f :: fs, off, dt, h => by
    simp only [shapeFs] at h
    split at h
    · split at h
      · cases h; exact .inr ⟨_, _, rfl⟩
      · cases h
    · cases h
/-- What is handed in reads as the evaluator's value. -/
theorem arg_reads {n : Nat} {t : TypeId} {dt : DT} {v : Value} {d : DataW H} {ps : List MemPlace} (hs : shapeOf P n t = some dt) (hv : Value.okWide P W r b0 t v) (hd : DataW.Trod enc P W base sp held t v d ps) :
    ∃ x, dt.Arg x ∧ R (G0 W) x v := by
  obtain ⟨fuel, hf⟩ := hd
  have hs0 := hs
  cases n with
  | zero => simp [shapeOf] at hs
  | succ n =>
    simp only [shapeOf] at hs
    have flat : (∀ xs, dt.Has xs → ∃ x, xs = [x]) → (∀ x, dt.Has [x] → dt.Arg x) → v.cells.toList = [v] → ∃ x, dt.Arg x ∧ R (G0 W) x v := by
      intro h1 h2 h3
      rw [h3] at hf
      obtain ⟨xs, k1, k2⟩ := shape_reads (W := W) _ _ _ hs0 _ _ _ _ hf
      obtain ⟨x, rfl⟩ := h1 xs k1
      exact ⟨x, h2 x k1, one_R k2⟩
    split at hs
    · rename_i hu; cases hs
      obtain ⟨b, rfl⟩ := okWide_bool hu hv
      exact flat (fun xs ⟨b, h⟩ => ⟨_, h⟩) (fun x h => h) (by simp [Value.cells])
    · rename_i k hu; cases hs
      obtain ⟨m, rfl⟩ := okWide_int hu hv
      exact flat (fun xs ⟨b, h, _⟩ => ⟨_, h⟩) (fun x h => h) (by simp [Value.cells])
    · rename_i hu; cases hs
      obtain ⟨s, rfl⟩ := okWide_string hu hv
      exact flat (fun xs ⟨b, h, _⟩ => ⟨_, h⟩) (fun x h => h) (by simp [Value.cells])
    · rename_i e hu
      obtain ⟨a, l, c, rfl⟩ := okWide_slice hu hv
      split at hs
      · rw [Option.map_eq_some_iff] at hs
        obtain ⟨de, _, rfl⟩ := hs
        exact flat (fun xs ⟨_, _, _, h, _⟩ => ⟨_, h⟩) (fun x h => h) (by simp [Value.cells])
      · cases hs
    · rename_i fs hu
      obtain ⟨cs, rfl, _⟩ := okWide_struct hu hv
      obtain ⟨xs, k1, k2⟩ := shape_reads (W := W) _ _ _ hs0 _ _ _ _ hf
      simp only [Value.cells] at k2
      refine ⟨.agg xs, ?_, agg_R k2⟩
      rcases shapeFs_agg hs with rfl | ⟨a, b, rfl⟩
      · exact ⟨xs, rfl, k1⟩
      · exact ⟨xs, rfl, k1⟩
    · rename_i k e hu
      have hv' : ∃ cs, v = .agg cs := by
        simp only [Value.okWide, hu] at hv
        obtain ⟨cs, h1, _⟩ := hv
        exact ⟨cs, h1⟩
      obtain ⟨cs, rfl⟩ := hv'
      obtain ⟨xs, k1, k2⟩ := shape_reads (W := W) _ _ _ hs0 _ _ _ _ hf
      simp only [Value.cells] at k2
      split at hs
      · rw [Option.map_eq_some_iff] at hs
        obtain ⟨de, _, rfl⟩ := hs
        exact ⟨.agg xs, ⟨xs, rfl, k1⟩, agg_R k2⟩
      · cases hs
    · cases hs
/-- Arguments, one by one. -/
inductive AR (W : World) : List AV → List Value → Prop
  | nil : AR W [] []
  | cons {x : AV} {v : Value} {xs : List AV} {vs : List Value} (h : R (G0 W) x v) (t : AR W xs vs) : AR W (x :: xs) (v :: vs)
theorem AR.get {xs : List AV} {vs : List Value} (h : AR W xs vs) : vs.length = xs.length ∧ ∀ (j : Nat) (hj : j < xs.length), R (G0 W) xs[j] (vs.getD j undef) := by
  induction h with
  | nil => exact ⟨rfl, fun j hj => by simp at hj⟩
  | cons h t ih =>
    refine ⟨by simp [ih.1], fun j hj => ?_⟩
    cases j with
    | zero => exact h
    | succ j => simpa using ih.2 j (by simpa using hj)
/-- A law that the evaluator finds true is true on the machine; memory stays. -/
theorem calls_of_ev {p : Pr} (HP : PrOk P p) {f : Nat} {args : List AV} {vals : List Value} (h : ev p f args [] = some (.q (.flat (.bool true)))) (hR : AR W args vals) :
    Calls P f vals.toArray W fun e W' => e = .returned (.bool true) ∧ Below W.heap.size W W' := by
  refine ((ev_ok HP).snd _ _ _ _ h W W (G0 W) vals.toArray (G0_inv W) (by simpa using hR.get.1) (fun j hj => ?_)).mono ?_
  · simpa [List.getD, Array.getD_eq_getD_getElem?] using hR.get.2 j hj
  rintro e w' ⟨v, G', rfl, hG, hO⟩
  exact ⟨by rw [hO.1.flat_inv], hO.2.below⟩
end
end Go.Proofs.Ytopiaiibpacmlaa.Av
