/- What the machine's operations do where the evaluator's instructions come to something: those that write nothing. -/
import Derived.Test.YtopiaiibpacmlaaAv3
import Derived.Laws.Cover3
import Derived.ChangeKeysEq
namespace Go.Proofs.Ytopiaiibpacmlaa.Av
open Go.RowKit
set_option linter.unusedSimpArgs false

def OutR (w0 : World) (G : Gh) (M : MS) (out : Out) (v : Value) (w : World) : Prop :=
  match out with
  | .q x => R G x v ∧ Inv w0 G M w
  | .x x M' _ => R G x v ∧ Inv w0 G M' w
/-- The machine's operation ends with a value, and what the evaluator says is so. -/
def Does (w0 : World) (G : Gh) (M : MS) (out : Out) (r : Result Next) : Prop :=
  ∃ v w' G', (r = .ok (.value v) w' ∨ (r = .ok .skip w' ∧ v = undef)) ∧ Gle G G' ∧ OutR w0 G' M out v w'
theorem Does.val {w0 w : World} {G : Gh} {M : MS} {x : AV} {r : Result Next} {v : Value} (HI : Inv w0 G M w) (hr : r = .ok (.value v) w) (hx : R G x v) : Does w0 G M (.q x) r :=
  ⟨v, w, G, .inl hr, Gle.refl G, hx, HI⟩
theorem Does.flat {w0 w : World} {G : Gh} {M : MS} {r : Result Next} {v : Value} (HI : Inv w0 G M w) (hr : r = .ok (.value v) w) : Does w0 G M (.q (.flat v)) r :=
  .val HI hr (.imm _ _ (.flat v))

section
variable {P : Program} {w0 w : World} {G : Gh} {M : MS} {env : Env} {a : Act}

theorem asBool_inv {x : AV} {b : Bool} (h : asBool x = some b) : x = .flat (.bool b) := by
  unfold asBool at h
  split at h
  · cases h; rfl
  · cases h
theorem asInt_inv {x : AV} {n : Int} (h : asInt x = some n) : ∃ k, x = .flat (.int k n) := by
  unfold asInt at h
  split at h
  · cases h; exact ⟨_, rfl⟩
  · cases h
theorem does_intBin {op : BinOp} {k : IntKind} {x y : Int} {v : Value} {t : TypeId} {ox oy : Operand} (h : intBin op k x y = some v) :
    ((do eqGuard op t ox oy (.int k x) (.int k y); binOp op t (.int k x) (.int k y) : Sem Value)).run P w = .ok v w := by
  have hg := eqGuard_at_int op t ox oy (.int k y) k x
  rw [hg]
  cases op <;> simp only [intBin] at h <;> (try split at h) <;> (first | (cases h; done) | cases h) <;>
    simp_all [binOp, Op.intArith, Op.intDiv, Op.intCmp, Op.intBits, bne]
theorem does_strBin {op : BinOp} {x y : ByteArray} {v : Value} {t : TypeId} {ox oy : Operand} (h : strBin op x y = some v) :
    ((do eqGuard op t ox oy (.string x) (.string y); binOp op t (.string x) (.string y) : Sem Value)).run P w = .ok v w := by
  have hg := eqGuard_at_string op t ox oy (.string y) x
  rw [hg]
  cases op <;> simp only [strBin] at h <;> (try split at h) <;> (first | (cases h; done) | cases h) <;>
    simp_all [binOp, Op.stringOp]
  omega
theorem eqKind_bool {t : TypeId} (h : eqKind P t = .bool) : P.underlying t = some .bool := by
  unfold eqKind at h
  split at h <;> first | assumption | (cases h; done) | (split at h <;> first | (cases h; done) | (split at h <;> cases h))
theorem eqKind_slice {t : TypeId} (h : eqKind P t = .slice) : ∃ e, P.underlying t = some (.slice e) := by
  unfold eqKind at h
  split at h <;> first | exact ⟨_, by assumption⟩ | (cases h; done) | (split at h <;> first | (cases h; done) | (split at h <;> cases h))
theorem eqKind_arr {t : TypeId} {n : Nat} {k : IntKind} (h : eqKind P t = .arr n k) : ∃ e, P.underlying t = some (.array n e) ∧ P.underlying e = some (.int k) ∧ sizeT P e = some 1 ∧ P.eqGuardType P.depth t = false := by
  unfold eqKind at h
  split at h
  · cases h
  · cases h
  · rename_i n' e he
    split at h
    · rename_i k' hk
      split at h
      · rename_i hh
        cases h
        exact ⟨e, he, hk, hh⟩
      · cases h
    · cases h
  · cases h
theorem eqV_inv {op : BinOp} {b : Bool} {x : AV} (h : eqV op b = some x) : (op = .eql ∧ x = .flat (.bool b)) ∨ (op = .neq ∧ x = .flat (.bool !b)) := by
  unfold eqV at h
  split at h
  · cases h; exact .inl ⟨rfl, rfl⟩
  · cases h; exact .inr ⟨rfl, rfl⟩
  · cases h
theorem asInts_inv {k : IntKind} : ∀ {cs : List AV} {l : List Int}, asInts k cs = some l → cs = l.map fun n => .flat (.int k n)
  | [], l, h => by simp [asInts] at h; subst h; rfl
  | c :: cs, l, h => by
    cases c with
    | flat v =>
      cases v with
      | int k' n =>
        simp only [asInts] at h
        split at h
        · rename_i hk; subst hk
          rw [Option.map_eq_some_iff] at h
          obtain ⟨l', hl, rfl⟩ := h
          simp [asInts_inv hl]
        · cases h
      | _ => simp [asInts] at h
    | _ => simp [asInts] at h
theorem agg_ints {k : IntKind} {l : List Int} {v : Value} (h : R G (.agg (l.map fun n => .flat (.int k n))) v) : v = .agg (l.map fun n => Value.int k n).toArray := by
  obtain ⟨vs, rfl, hs, hv, _⟩ := h.agg_inv
  congr 1
  simp only [List.length_map] at hs
  apply Array.ext
  · simpa using hs
  · intro i h1 h2
    have := hv i (by simpa using by omega)
    simp only [List.getElem_map] at this
    have := this.flat_inv
    simp only [Array.getD, h1, dif_pos] at this
    simpa using this
theorem range_all_eq : ∀ (xs ys : List Int), xs.length = ys.length → (List.range xs.length).all (fun i => xs.getD i 0 == ys.getD i 0) = (xs == ys)
  | [], [], _ => rfl
  | x :: xs, y :: ys, h => by
    have ih := range_all_eq xs ys (by simpa using h)
    simp only [List.length_cons, List.range_succ_eq_map, List.all_cons, List.all_map, Function.comp_def, List.getD_cons_zero, List.getD_cons_succ, List.cons_beq_cons]
    rw [← ih]
theorem run_eqItems_ints (d : Nat) {e : TypeId} {k : IntKind} (he : P.underlying e = some (.int k)) (xs ys : List Int) : ∀ (is : List Nat), (∀ i ∈ is, i < xs.length ∧ i < ys.length) →
    (Op.eqItems (d + 1) e 1 (xs.map fun z => Value.int k z).toArray (ys.map fun z => Value.int k z).toArray is).run P w = .ok (is.all fun i => xs.getD i 0 == ys.getD i 0) w
  | [], _ => by simp [Op.eqItems]
  | i :: is, h => by
    obtain ⟨h1, h2⟩ := h i (by simp)
    have ih := run_eqItems_ints d he xs ys is (fun j hj => h j (by simp [hj]))
    have hag : ∀ w : World, (isAgg e).run P w = .ok false w := fun w => by simp [isAgg, run_underlying he]
    have p1 : ∀ (zs : List Int), i < zs.length → ∀ w : World, (part e (zs.map fun z => Value.int k z).toArray (i * 1)).run P w = .ok (.int k (zs.getD i 0)) w := fun zs hz w => by
      simp [part, hag, hz]
    simp only [Op.eqItems, Sem.run_bind, p1 xs h1, p1 ys h2, Result.andThen_ok, run_equalIn_int w d e k k _ _ he, List.all_cons]
    cases hb : (xs.getD i 0 == ys.getD i 0)
    · simp
    · simpa using ih
theorem does_bin {op : BinOp} {t : TypeId} {ox oy : Operand} {x y z : AV} {u v : Value} (hx : R G x u) (hy : R G y v) (h : bin op (eqKind P t) x y = some z) :
    ∃ r, ((do eqGuard op t ox oy u v; binOp op t u v : Sem Value)).run P w = .ok r w ∧ R G z r := by
  unfold bin at h
  split at h
  · rename_i k a k' b
    have e1 := hx.flat_inv; have e2 := hy.flat_inv
    subst e1; subst e2
    split at h
    · rename_i hk; subst hk
      rw [Option.map_eq_some_iff] at h
      obtain ⟨r, hr, rfl⟩ := h
      exact ⟨r, does_intBin hr, .imm _ _ (.flat r)⟩
    · cases h
  · rename_i a b
    have e1 := hx.flat_inv; have e2 := hy.flat_inv
    subst e1; subst e2
    rw [Option.map_eq_some_iff] at h
    obtain ⟨r, hr, rfl⟩ := h
    exact ⟨r, does_strBin hr, .imm _ _ (.flat r)⟩
  · rename_i a b
    have e1 := hx.flat_inv; have e2 := hy.flat_inv
    subst e1; subst e2
    split at h
    · rename_i hk
      have ht := eqKind_bool hk
      have hg := eqGuard_at_bool op t ox oy (.bool b) a
      have he := run_equal_bool (P := P) w t a b ht
      rw [hg]
      rcases eqV_inv h with ⟨rfl, rfl⟩ | ⟨rfl, rfl⟩
      · exact ⟨.bool (a == b), by simp [binOp, he], .imm _ _ (.flat _)⟩
      · exact ⟨.bool !(a == b), by simp [binOp, he], .imm _ _ (.flat _)⟩
    · cases h
  · rename_i sz cs nl cd sz' cd'
    split at h
    · rename_i hk
      obtain ⟨e, ht⟩ := eqKind_slice hk
      rcases RI.list_cases hy.list_inv with ⟨_, _, _, rfl⟩ | ⟨hf, _⟩
      · have hn : ∃ A n c, u = .slice A n c ∧ A.isNone = nl := by
          rcases RI.list_cases hx.list_inv with ⟨rfl, _, _, rfl⟩ | ⟨rfl, a, n, c, _, rfl, _⟩
          · exact ⟨none, 0, 0, rfl, rfl⟩
          · exact ⟨some a, n, c, rfl, rfl⟩
        obtain ⟨A, n, c, rfl, hA⟩ := hn
        have hg := eqGuard_at_slice op t ox oy (.slice none 0 0) A n c
        have he := run_equal_slice_nil (P := P) w t e A n c ht
        rw [hg]
        rcases eqV_inv h with ⟨rfl, rfl⟩ | ⟨rfl, rfl⟩
        · exact ⟨.bool nl, by simp [binOp, he, hA], .imm _ _ (.flat _)⟩
        · exact ⟨.bool !nl, by simp [binOp, he, hA], .imm _ _ (.flat _)⟩
      · cases hf
    · cases h
  · cases h
  · rename_i xs ys
    split at h
    · rename_i n k hk
      split at h
      · rename_i la lb h1 h2
        split at h
        · rename_i hl
          obtain ⟨e, ht, he, hs, hgt⟩ := eqKind_arr hk
          have e1 := asInts_inv h1; have e2 := asInts_inv h2
          subst e1; subst e2
          have f1 := agg_ints hx; have f2 := agg_ints hy
          subst f1; subst f2
          obtain ⟨i, hi, his⟩ : ∃ i, P.info? e = some i ∧ i.size = 1 := by
            unfold sizeT at hs
            rw [Option.map_eq_some_iff] at hs
            exact hs
          have hc : P.cellsOf e = 1 := by simp [Program.cellsOf, hi, his]
          have hq : (Op.equal t (.agg (la.map fun n => Value.int k n).toArray) (.agg (lb.map fun n => Value.int k n).toArray)).run P w = .ok (la == lb) w := by
            have h3 := run_eqItems_ints (P := P) (w := w) 9998 he la lb (List.range la.length) (fun i hi => by simp at hi; omega)
            rw [range_all_eq la lb (by omega)] at h3
            rw [hl.1] at h3
            have := run_equalIn_array (P := P) w 9999 (la.map fun n => Value.int k n).toArray (lb.map fun n => Value.int k n).toArray ht hi
            rw [hc, h3] at this
            exact this
          have hg : (op = .eql ∨ op = .neq) → (eqGuard op t ox oy (.agg (la.map fun n => Value.int k n).toArray) (.agg (lb.map fun n => Value.int k n).toArray)).run P w = .ok () w := by
            rintro (rfl | rfl) <;> simp [eqGuard, hgt]
          rcases eqV_inv h with ⟨rfl, rfl⟩ | ⟨rfl, rfl⟩
          · exact ⟨.bool (la == lb), by simp [binOp, hg, hq], .imm _ _ (.flat _)⟩
          · exact ⟨.bool !(la == lb), by simp [binOp, hg, hq], .imm _ _ (.flat _)⟩
        · cases h
      · cases h
    · cases h
  · cases h
theorem does_unop {op : UnOp} {x z : AV} {u : Value} (hx : R G x u) (h : unop op x = some z) : ∃ r, (Op.unary op u).run P w = .ok r w ∧ R G z r := by
  unfold unop at h
  split at h
  · have := hx.flat_inv; subst this
    split at h
    · cases h; exact ⟨_, rfl, .imm _ _ (.flat _)⟩
    · cases h
  · have := hx.flat_inv; subst this
    split at h
    · cases h; exact ⟨_, rfl, .imm _ _ (.flat _)⟩
    · cases h
  · cases h
theorem isAggT_run {t : TypeId} {b : Bool} (h : isAggT P t = some b) (w : World) : (isAgg t).run P w = .ok b w := by
  unfold isAggT at h
  split at h <;> first | (cases h; done) | cases h
  all_goals rename_i hu
  · simp [isAgg, run_underlying hu]
  · simp [isAgg, run_underlying hu]
  · rename_i d hn1 hn2
    simp only [isAgg, Sem.run_bind, run_underlying hu, Result.andThen_ok]
    cases d <;> first | rfl | (exact absurd rfl (hn1 _)) | (exact absurd rfl (hn2 _ _))
theorem sizeT_run {t : TypeId} {n : Nat} (h : sizeT P t = some n) (w : World) : (sizeOf t).run P w = .ok n w := by
  unfold sizeT at h
  rw [Option.map_eq_some_iff] at h
  obtain ⟨i, hi, rfl⟩ := h
  simp [sizeOf, typeInfo, hi]
/-- Cells that are read one after the other. -/
theorem agg_of_cells {cs : List AV} {vs : Nat → Value} {n : Nat} (hn : n ≤ cs.length) (h : ∀ (j : Nat) (h : j < cs.length), R G cs[j] (vs j) ∧ (vs j).oneCell' = true) :
    R G (.agg (cs.take n)) (.agg ((List.range n).map vs).toArray) := by
  have hl : (cs.take n).length = n := by simp; omega
  refine .agg _ _ (by simp [hl]) (fun j hj => ?_) (fun j hj => ?_)
  · rw [hl] at hj
    simpa [Array.getD, hj] using (h j (by omega)).1
  · rw [hl] at hj
    simpa [Array.getD, hj] using (h j (by omega)).2
theorem does_load {t : TypeId} {ag : Bool} {n : Nat} {x : AV} {u : Value} {cs : List AV} {z : AV} (hag : isAggT P t = some ag) (hn : sizeT P t = some n) (HI : Inv w0 G M w) (hx : R G x u) (hv : aview M x = some cs)
    (hz : ldA ag n cs = some z) :
    ∃ r, (Instr.loadAt t u).run P w = .ok r w ∧ R G z r := by
  obtain ⟨ad, vs, rfl, hc⟩ := aview_cells HI hx hv
  unfold ldA at hz
  cases ag with
  | true =>
    simp only [if_true] at hz
    split at hz
    · rename_i hle
      cases hz
      refine ⟨_, ?_, agg_of_cells hle fun j hj => (hc j hj).2⟩
      have hl := run_loadCells (P := P) w ad n vs (fun j hj => (hc j (by omega)).1)
      simp [Instr.loadAt, Instr.sureAddr, loadVar, isAggT_run hag, sizeT_run hn, hl]
    · cases hz
  | false =>
    simp only [Bool.false_eq_true, if_false] at hz
    cases cs with
    | nil => cases hz
    | cons c cs =>
      cases hz
      obtain ⟨h1, h2, h3⟩ := hc 0 (by simp)
      rw [Addr.add_zero'] at h1
      exact ⟨vs 0, by simp [Instr.loadAt, Instr.sureAddr, loadVar, isAggT_run hag, h1], h2⟩
theorem cellsOf_R {x : AV} {v : Value} (hx : R G x v) {cs : List AV} (h : cellsOf x = some cs) :
    v.cells.size = cs.length ∧ (∀ (j : Nat) (h : j < cs.length), R G cs[j] (v.cells.getD j undef)) ∧ ∀ j, j < cs.length → (v.cells.getD j undef).oneCell' = true := by
  have one : v.oneCell' = true → cs = [x] → v.cells.size = cs.length ∧ (∀ (j : Nat) (h : j < cs.length), R G cs[j] (v.cells.getD j undef)) ∧ ∀ j, j < cs.length → (v.cells.getD j undef).oneCell' = true := by
    intro h1 he
    subst he
    have hc : v.cells = #[v] := by cases v <;> first | rfl | (simp [Value.oneCell'] at h1)
    rw [hc]
    refine ⟨rfl, fun j hj => ?_, fun j hj => ?_⟩
    · have : j = 0 := by simpa using hj
      subst this; exact hx
    · have : j = 0 := by simpa using hj
      subst this; exact h1
  cases x with
  | agg cs' =>
    simp only [cellsOf, Option.some.injEq] at h
    subst h
    obtain ⟨vs, rfl, hs, hv, h1⟩ := hx.agg_inv
    exact ⟨hs, hv, h1⟩
  | tup vs => simp [cellsOf] at h
  | flat u =>
    simp only [cellsOf] at h
    split at h
    · rename_i h1
      have := hx.flat_inv; subst this
      cases h
      exact one h1 rfl
    · cases h
  | list sz cs' nl cd =>
    simp only [cellsOf, Option.some.injEq] at h
    exact one (by rcases RI.list_cases hx.list_inv with ⟨_, _, _, rfl⟩ | ⟨_, _, _, _, _, rfl, _⟩ <;> rfl) h.symm
  | elem x k =>
    simp only [cellsOf, Option.some.injEq] at h
    exact one (by obtain ⟨_, _, _, _, rfl⟩ := hx.elem_inv; rfl) h.symm
  | mptr id off => simp only [cellsOf, Option.some.injEq] at h; exact one hx.mptr_inv.2.1 h.symm
  | ms id off len sz cd => simp only [cellsOf, Option.some.injEq] at h; exact one hx.ms_inv.2.1 h.symm
  | clo fn caps =>
    simp only [cellsOf, Option.some.injEq] at h
    exact one (by obtain ⟨_, rfl, _⟩ := hx.clo_inv; rfl) h.symm
theorem lenS_R0 {x : AV} {v : Value} (hx : R G x v) {n : Nat} (h : lenOf x = some n) : ∃ A c, v = .slice A n c := by
  cases x with
  | list sz cs nl cd =>
    simp only [lenOf, Option.some.injEq] at h
    rcases RI.list_cases hx.list_inv with ⟨rfl, rfl, rfl, rfl⟩ | ⟨rfl, a, m, c, vs, rfl, h0, h1, h2, h3, h4, h5, h6⟩
    · simp at h; subst h; exact ⟨none, 0, rfl⟩
    · rw [h1, Nat.mul_div_cancel m h0] at h; subst h; exact ⟨some a, c, rfl⟩
  | ms id off len sz cd =>
    simp only [lenOf, Option.some.injEq] at h
    subst h
    obtain ⟨A, c, h⟩ := hx.ms_len
    exact ⟨some A, c, h⟩
  | _ => simp [lenOf] at h
theorem lenS_R {x : AV} {v : Value} (hx : R G x v) {n : Nat} (h : lenOf x = some n) (hlive : ∀ id off len sz cd, x = .ms id off len sz cd → ∃ b k, G.m[id]? = some (some (b, k))) :
    ∃ A c, v = .slice A n c ∧ (A = none → n = 0) ∧ n ≤ c := by
  cases x with
  | list sz cs nl cd =>
    simp only [lenOf, Option.some.injEq] at h
    rcases RI.list_cases hx.list_inv with ⟨rfl, rfl, rfl, rfl⟩ | ⟨rfl, a, m, c, vs, rfl, h0, h1, h2, h3, h4, h5, h6⟩
    · simp at h; subst h; exact ⟨none, 0, rfl, fun _ => rfl, Nat.le_refl _⟩
    · rw [h1, Nat.mul_div_cancel m h0] at h; subst h; exact ⟨some a, c, rfl, fun h => (by cases h), h2⟩
  | ms id off len sz cd =>
    simp only [lenOf, Option.some.injEq] at h
    subst h
    obtain ⟨b, k, hm⟩ := hlive _ _ _ _ _ rfl
    obtain ⟨_, _, _, hh⟩ := hx.ms_inv
    obtain ⟨c, rfl, h2, _⟩ := hh b k hm
    exact ⟨_, c, rfl, fun h => (by cases h), h2⟩
  | _ => simp [lenOf] at h
end
end Go.Proofs.Ytopiaiibpacmlaa.Av
