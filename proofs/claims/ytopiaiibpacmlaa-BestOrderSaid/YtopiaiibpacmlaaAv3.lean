/- The reading of the loaded code as the evaluator's instructions; what a slice, an address is in the machine's memory. -/
import Derived.Test.YtopiaiibpacmlaaAv2
import Derived.Laws.Slices
import Derived.Laws.StructEq
namespace Go.Proofs.Ytopiaiibpacmlaa.Av
open Go.RowKit

def avC1 : Value → AV
  | .slice none 0 0 => .list 1 [] true true
  | v => .flat v
def avC : Value → AV
  | .agg cs => if cs.toList.all (·.oneCell') then .agg (cs.toList.map avC1) else .flat (.agg cs)
  | v => avC1 v
def trO : Operand → Option O
  | .tmp t => some (.t t)
  | .const v => some (.k (avC v))
  | .func f => some (.k (.clo f []))
  | .global _ => none
def trOs : List Operand → Option (List O)
  | [] => some []
  | x :: r => match trO x, trOs r with
    | some x, some r => some (x :: r)
    | _, _ => none
def trOo : Option Operand → Option (Option O)
  | none => some none
  | some x => (trO x).map some
/-- Of an element's type: cells, bytes, zero. -/
def elInfo (P : Program) (e : TypeId) : Option (Nat × Nat × List Value) :=
  match P.info? e with
  | some i => match i.zero with
    | some z => if z.cells.size = i.size ∧ 0 < i.size ∧ z.cells.toList.all (·.oneCell') = true then some (i.size, i.bytes, z.cells.toList) else none
    | none => none
  | none => none
def isAggT (P : Program) (t : TypeId) : Option Bool :=
  match P.underlying t with
  | some (.struct _) => some true
  | some (.array _ _) => some true
  | some _ => some false
  | none => none
def sizeT (P : Program) (t : TypeId) : Option Nat := (P.info? t).map (·.size)
def eqKind (P : Program) (t : TypeId) : EqK :=
  match P.underlying t with
  | some .bool => .bool
  | some (.slice _) => .slice
  | some (.array n e) => match P.underlying e with
    | some (.int k) => if sizeT P e = some 1 ∧ P.eqGuardType P.depth t = false then .arr n k else .no
    | _ => .no
  | _ => .no
def placesF (P : Program) : List Field → Option (List (Nat × Nat))
  | [] => some []
  | f :: r => match sizeT P f.type, placesF P r with
    | some n, some r => some ((f.offset, n) :: r)
    | _, _ => none
def trParts (pl : Nat → Option (Nat × Nat)) : List (Nat × Operand) → Option (List (Nat × Nat × O))
  | [] => some []
  | (i, x) :: r => match pl i, trO x, trParts pl r with
    | some (o, n), some x, some r => some ((o, n, x) :: r)
    | _, _, _ => none
def trI (P : Program) : Op → Option I
  | .move x => (trO x).map .mov
  | .assign x => (trO x).map .mov
  | .pick c a b => match trO c, trO a, trO b with
    | some c, some a, some b => some (.pick c a b)
    | _, _, _ => none
  | .binOp op t x y _ => match trO x, trO y with
    | some x, some y => some (.bin op (eqKind P t) x y)
    | _, _ => none
  | .unOp op _ x => (trO x).map (.un op)
  | .convert s d x => match P.underlying s, P.underlying d, trO x with
    | some (.int _), some (.int k), some x => some (.convI k x)
    | some .string, some .string, some x => some (.convS x)
    | some .string, some (.slice e), some x => match P.underlying e with
      | some (.int .u8) => some (.bytesOf x)
      | _ => none
    | some (.slice e), some .string, some x => match P.underlying e, sizeT P e with
      | some (.int .u8), some 1 => some (.strOf x)
      | _, _ => none
    | _, _, _ => none
  | .load t a => match isAggT P t, sizeT P t, trO a with
    | some ag, some n, some a => some (.load ag n a)
    | _, _, _ => none
  | .store t a x => match sizeT P t, trO a, trO x with
    | some n, some a, some x => some (.store n a x)
    | _, _, _ => none
  | .alloc e => match elInfo P e with
    | some (_, _, zs) => some (.alloc (zs.map avC1))
    | none => none
  | .box e x => match sizeT P e, trO x with
    | some n, some x => some (.box n x)
    | _, _ => none
  | .build t parts => match P.underlying t, elInfo P t with
    | some (.struct fs), some (_, _, zs) => match placesF P fs.toList with
      | some pl => (trParts (fun i => pl[i]?) parts.toList).map (.build (zs.map avC1))
      | none => none
    | some (.array _ e), some (_, _, zs) => match sizeT P e with
      | some n => (trParts (fun i => some (i * n, n)) parts.toList).map (.build (zs.map avC1))
      | none => none
    | _, _ => none
  | .buildSlice t len parts => match P.underlying t with
    | some (.slice e) => match elInfo P e with
      | some (n, _, zs) => if len * n ≤ 2 ^ 24 then (trParts (fun i => some (i * n, n)) parts.toList).map (.bslice n len (zs.map avC1)) else none
      | none => none
    | _ => none
  | .makeSlice t l c => match P.underlying t, trO l, trO c with
    | some (.slice e), some l, some c => match elInfo P e with
      | some (n, b, zs) => some (.mslice n b (zs.map avC1) l c)
      | none => none
    | _, _, _ => none
  | .slice t x lo hi mx => match P.underlying t, trO x, trOo lo, trOo hi, trOo mx with
    | some (.slice e), some x, some lo, some hi, some mx => (sizeT P e).map fun n => .slice n x lo hi mx
    | some .string, some x, some lo, some hi, some none => some (.sstr x lo hi)
    | _, _, _, _, _ => none
  | .fieldAddr s x f => match P.underlying s, trO x with
    | some (.struct fs), some x => match fs[f]? with
      | some fd => match sizeT P fd.type with
        | some n => if n = 0 then none else some (.fad fd.offset x)
        | none => none
      | none => none
    | _, _ => none
  | .field s x f => match P.underlying s, trO x with
    | some (.struct fs), some x => match fs[f]? with
      | some fd => match isAggT P fd.type, sizeT P fd.type with
        | some ag, some n => if ag ∨ n = 1 then some (.fld ag fd.offset n x) else none
        | _, _ => none
      | none => none
    | _, _ => none
  | .indexAddr t x i => match P.underlying t, trO x, trO i with
    | some (.slice e), some x, some i => (sizeT P e).map fun n => .idx n x i
    | some (.array len e), some x, some i => (sizeT P e).map fun n => .aidx len n x i
    | _, _, _ => none
  | .index t x i => match P.underlying t, trO x, trO i with
    | some .string, some x, some i => some (.istr x i)
    | _, _, _ => none
  | .extract x i => (trO x).map (.ext i)
  | .makeFunc fn first caps => match fn with
    | .func f => if first.isEmpty then (trOs caps.toList).map (.clo f) else none
    | _ => none
  | .nilCheck x => (trO x).map .nilck
  | .call c => match trOs c.args.toList with
    | some args => match c.callee with
      | .value (.func f) => some (.call f args)
      | .value x => (trO x).map fun x => .calld x args
      | .builtin .len => match args, (c.argTypes[0]?).bind P.underlying with
        | [x], some (.slice _) => some (.lenS x)
        | [x], some .string => some (.lenStr x)
        | _, _ => none
      | .builtin .append => match args, c.argTypes[0]?, c.argTypes[1]?, (c.argTypes[0]?).bind P.underlying with
        | [s, x], some t, some u, some (.slice e) => if t = u then match elInfo P e with
            | some (n, b, _) => some (.app n b s x)
            | none => none
          else none
        | _, _, _, _ => none
      | .builtin .copy => match args, (c.argTypes[0]?).bind P.underlying with
        | [d, s], some (.slice e) => match sizeT P e with
          | some n => if 0 < n then some (.copy n d s) else none
          | none => none
        | _, _ => none
      | .builtin .clear => match args, (c.argTypes[0]?).bind P.underlying with
        | [x], some (.slice e) => match elInfo P e with
          | some (n, _, zs) => some (.clear n (zs.map avC1) x)
          | none => none
        | _, _ => none
      | .builtin .min => match args with
        | [x, y] => some (.min x y)
        | _ => none
      | .builtin .max => match args with
        | [x, y] => some (.max x y)
        | _ => none
      | _ => none
    | none => none
  | _ => none

/-! ### Operands -/
theorem avC1_R (g : Addr → Option Value) (v : Value) : RI g (avC1 v) v := by
  unfold avC1
  split
  · exact .nil 1
  · exact .flat v
theorem avC_R (g : Addr → Option Value) (v : Value) : RI g (avC v) v := by
  unfold avC
  split
  · rename_i cs
    split
    · rename_i h
      refine .agg _ _ (by simp) (fun j hj => ?_) fun j hj => ?_
      · simp only [List.length_map, Array.length_toList] at hj
        simpa [Array.getD, hj] using avC1_R g cs[j]
      · simp only [List.length_map, Array.length_toList] at hj
        have := List.all_eq_true.1 h cs[j] (by simp)
        simpa [Array.getD, hj] using this
    · exact .flat _
  · exact avC1_R g _
structure EnvR (G : Gh) (env : Env) (a : Act) : Prop where
  t : ∀ t : Nat, R G (env t) (a.tmps.getD t undef)
  d : a.defers = []
theorem EnvR.mono {G G' : Gh} {env : Env} {a : Act} (h : EnvR G env a) (hG : Gle G G') : EnvR G' env a := ⟨fun t => (h.t t).mono hG, h.d⟩
theorem trO_R {G : Gh} {env : Env} {a : Act} (HE : EnvR G env a) {x : Operand} {o : O} (h : trO x = some o) : R G (o.ev env) (a.eval x) := by
  cases x with
  | tmp t => simp [trO] at h; subst h; exact HE.t t
  | const v => simp [trO] at h; subst h; exact .imm _ _ (avC_R _ v)
  | func f => simp [trO] at h; subst h; exact .imm _ _ (.clo f [] #[] rfl (fun j hj => by simp at hj))
  | global n => simp [trO] at h
theorem trOs_R {G : Gh} {env : Env} {a : Act} (HE : EnvR G env a) : ∀ {xs : List Operand} {os : List O}, trOs xs = some os →
    (os.map (·.ev env)).length = xs.length ∧ ∀ (j : Nat) (h : j < (os.map (·.ev env)).length), R G ((os.map (·.ev env))[j]) ((xs.map a.eval).getD j undef)
  | [], os, h => by simp [trOs] at h; subst h; exact ⟨rfl, fun j hj => by simp at hj⟩
  | x :: xs, os, h => by
    simp only [trOs] at h
    split at h
    · rename_i o r h1 h2
      simp at h; subst h
      obtain ⟨hl, hr⟩ := trOs_R HE h2
      refine ⟨by simpa using hl, fun j hj => ?_⟩
      cases j with
      | zero => simpa using trO_R HE h1
      | succ j => have h3 := hr j (by simpa using hj); simp only [List.getElem_map] at h3; simpa using h3
    · cases h

theorem EnvR.put {G : Gh} {env : Env} {a : Act} (HE : EnvR G env a) {x : AV} {v : Value} (h : R G x v) (d : Option Nat) (hd : ∀ t, d = some t → t < a.tmps.size) : EnvR G (updO env d x) (a.put d v) := by
  cases d with
  | none => exact HE
  | some d =>
    have hd := hd d rfl
    refine ⟨fun t => ?_, HE.d⟩
    simp only [updO, upd, Act.put]
    by_cases ht : t = d
    · subst ht; simpa [Array.getD, hd] using h
    · have := HE.t t
      simp only [ht, if_false]
      simpa [Array.getD_eq_getD_getElem?, Array.getElem?_setIfInBounds_ne (Ne.symm ht)] using this

/-! ### Slices and addresses in memory -/
theorem addr_add_add (a : Addr) (i j : Nat) : (a.add i).add j = a.add (i + j) := by
  unfold Addr.add
  by_cases hi : i = 0
  · simp [hi]
  · by_cases hj : j = 0
    · simp [hj, hi]
    · simp [hi, hj, Nat.add_assoc]
theorem addr_add0 (b o j : Nat) : (⟨b, o, none⟩ : Addr).add j = ⟨b, o + j, none⟩ := by
  unfold Addr.add
  split <;> simp_all
theorem Inv.row {w0 w : World} {G : Gh} {M : MS} (HI : Inv w0 G M w) {id : Nat} {cs : List AV} (hM : M[id]? = some (some cs)) :
    ∃ (b n : Nat) (cur : Array Value) (T : TypeId), G.m[id]? = some (some (b, n)) ∧ w0.heap.size ≤ b ∧ w.heap[b]? = some (.cells cur T (0, 0)) ∧ cur.size = n ∧ cs.length ≤ n ∧
      ∀ (j : Nat) (h : j < cs.length), R G cs[j] (cur.getD j undef) ∧ (cur.getD j undef).oneCell' = true := by
  obtain ⟨b, n, hm⟩ := HI.live id cs hM
  obtain ⟨hB, cs', hM', cur, T, hh, hs, hl, hr⟩ := HI.blk id b n hm
  rw [hM] at hM'; cases hM'
  exact ⟨b, n, cur, T, hm, hB, hh, hs, hl, hr⟩
/-- A slice in memory. -/
theorem view_cells {w0 w : World} {G : Gh} {M : MS} (HI : Inv w0 G M w) {x : AV} {v : Value} (hx : R G x v) {cs : List AV} (hv : view M x = some cs) :
    ∃ (A : Option Addr) (n c sz : Nat), v = .slice A n c ∧ lenOf x = some n ∧ cs.length = n * sz ∧ (A = none → n = 0) ∧ n ≤ c ∧ c ≤ maxLen ∧
      (∀ a, A = some a → 0 < sz ∧ ∃ vs : Nat → Value, ∀ (j : Nat) (h : j < cs.length), w.cell? (a.add j) = some (vs j) ∧ R G cs[j] (vs j) ∧ (vs j).oneCell' = true) := by
  cases x with
  | list sz cs' nil capd =>
    simp only [view, Option.some.injEq] at hv
    subst hv
    rcases RI.list_cases hx.list_inv with ⟨rfl, rfl, rfl, rfl⟩ | ⟨rfl, a, n, c, vs, rfl, h0, h1, h2, h3, h4, h5, h6⟩
    · exact ⟨none, 0, 0, 0, rfl, by simp [lenOf], by simp, fun _ => rfl, Nat.le_refl _, by simp [maxLen], fun a h => by cases h⟩
    · refine ⟨some a, n, c, sz, rfl, by simp [lenOf, h1, Nat.mul_div_cancel n h0], h1, fun h => (by cases h), h2, h3, fun a' ha => ?_⟩
      cases ha
      exact ⟨h0, vs, fun j hj => ⟨(HI.imm _ _ (h5 j hj)).1, .imm _ _ (h6 j hj), (HI.imm _ _ (h5 j hj)).2⟩⟩
  | ms id off len sz capd =>
    simp only [view] at hv
    split at hv
    · rename_i cs0 hM
      split at hv
      · rename_i hfit
        simp only [Option.some.injEq] at hv
        subst hv
        obtain ⟨b, n, cur, T, hm, hB, hh, hs, hl, hr⟩ := HI.row hM
        obtain ⟨h0, h1, hsz, hcl⟩ := hx.ms_inv
        obtain ⟨c, rfl, h2, h3, h4, h5⟩ := hcl b n hm
        have hlen : ((cs0.drop off).take (len * sz)).length = len * sz := by simp; omega
        refine ⟨_, len, c, sz, rfl, rfl, hlen, fun h => (by cases h), h2, h3, fun a ha => ?_⟩
        cases ha
        refine ⟨hsz, fun j => cur.getD (off + j) undef, fun j hj => ?_⟩
        rw [hlen] at hj
        obtain ⟨r1, r2⟩ := hr (off + j) (by omega)
        refine ⟨by rw [addr_add0, cell_of_row' hh]; exact getD_some (by omega), by simpa using r1, r2⟩
      · cases hv
    · cases hv
  | _ => simp [view] at hv
/-- An address in memory. -/
theorem aview_cells {w0 w : World} {G : Gh} {M : MS} (HI : Inv w0 G M w) {x : AV} {v : Value} (hx : R G x v) {cs : List AV} (hv : aview M x = some cs) :
    ∃ (a : Addr) (vs : Nat → Value), v = .pointer (some a) ∧ ∀ (j : Nat) (h : j < cs.length), w.cell? (a.add j) = some (vs j) ∧ R G cs[j] (vs j) ∧ (vs j).oneCell' = true := by
  cases x with
  | elem x k =>
    simp only [aview, Option.map_eq_some_iff] at hv
    obtain ⟨cs', hv, rfl⟩ := hv
    obtain ⟨a, n, c, hx', rfl⟩ := hx.elem_inv
    obtain ⟨A, n', c', sz, he, _, _, _, _, _, hc⟩ := view_cells HI hx' hv
    cases he
    obtain ⟨_, vs, hvs⟩ := hc a rfl
    refine ⟨a.add k, fun j => vs (k + j), rfl, fun j hj => ?_⟩
    simp only [List.length_drop] at hj
    obtain ⟨r1, r2, r3⟩ := hvs (k + j) (by omega)
    exact ⟨by rw [addr_add_add]; exact r1, by simpa using r2, r3⟩
  | mptr id off =>
    simp only [aview] at hv
    split at hv
    · rename_i cs0 hM
      simp only [Option.some.injEq] at hv
      subst hv
      obtain ⟨b, n, cur, T, hm, hB, hh, hs, hl, hr⟩ := HI.row hM
      obtain ⟨h0, h1, hp⟩ := hx.mptr_inv
      refine ⟨⟨b, off, none⟩, fun j => cur.getD (off + j) undef, hp b n hm, fun j hj => ?_⟩
      simp only [List.length_drop] at hj
      obtain ⟨r1, r2⟩ := hr (off + j) (by omega)
      exact ⟨by rw [addr_add0, cell_of_row' hh]; exact getD_some (by omega), by simpa using r1, r2⟩
    · cases hv
  | _ => simp [aview] at hv
end Go.Proofs.Ytopiaiibpacmlaa.Av
