/- What the machine's operations do that make or write memory. -/
import Derived.Test.YtopiaiibpacmlaaAv5
import Derived.Laws.MakeOwn
import Derived.Laws.Tables
namespace Go.Proofs.Ytopiaiibpacmlaa.Av
open Go.RowKit
set_option linter.unusedSimpArgs false

inductive CR (G : Gh) : List AV → List Value → Prop
  | nil : CR G [] []
  | cons {c : AV} {v : Value} {cs : List AV} {vs : List Value} (h : R G c v) (h1 : v.oneCell' = true) (t : CR G cs vs) : CR G (c :: cs) (v :: vs)
section
variable {P : Program} {w0 w : World} {G : Gh} {M : MS}
theorem CR.len {cs : List AV} {vs : List Value} (h : CR G cs vs) : vs.length = cs.length := by
  induction h with
  | nil => rfl
  | cons _ _ _ ih => simp [ih]
theorem CR.get {cs : List AV} {vs : List Value} (h : CR G cs vs) : ∀ (j : Nat) (hj : j < cs.length), R G cs[j] (vs.getD j undef) ∧ (vs.getD j undef).oneCell' = true := by
  induction h with
  | nil => intro j hj; simp at hj
  | cons h h1 t ih =>
    intro j hj
    cases j with
    | zero => exact ⟨h, h1⟩
    | succ j => simpa using ih j (by simpa using hj)
theorem CR.of : ∀ {cs : List AV} {vs : List Value}, vs.length = cs.length → (∀ (j : Nat) (hj : j < cs.length), R G cs[j] (vs.getD j undef) ∧ (vs.getD j undef).oneCell' = true) → CR G cs vs
  | [], [], _, _ => .nil
  | c :: cs, v :: vs, hl, h => .cons (h 0 (by simp)).1 (h 0 (by simp)).2 (CR.of (by simpa using hl) fun j hj => h (j + 1) (by simpa using hj))
theorem CR.mono {G' : Gh} (hG : Gle G G') {cs : List AV} {vs : List Value} (h : CR G cs vs) : CR G' cs vs := by
  induction h with
  | nil => exact .nil
  | cons h h1 _ ih => exact .cons (h.mono hG) h1 ih
theorem CR.append {cs cs' : List AV} {vs vs' : List Value} (h : CR G cs vs) (h' : CR G cs' vs') : CR G (cs ++ cs') (vs ++ vs') := by
  induction h with
  | nil => exact h'
  | cons h h1 _ ih => exact .cons h h1 ih
theorem CR.take {cs : List AV} {vs : List Value} (h : CR G cs vs) : ∀ n, CR G (cs.take n) (vs.take n) := by
  induction h with
  | nil => intro n; simpa using CR.nil
  | cons h h1 _ ih => intro n; cases n with
    | zero => exact .nil
    | succ n => exact .cons h h1 (ih n)
theorem CR.drop {cs : List AV} {vs : List Value} (h : CR G cs vs) : ∀ n, CR G (cs.drop n) (vs.drop n) := by
  induction h with
  | nil => intro n; simpa using CR.nil
  | cons h h1 t ih => intro n; cases n with
    | zero => exact .cons h h1 t
    | succ n => exact ih n
theorem CR.one {cs : List AV} {vs : List Value} (h : CR G cs vs) : ∀ v ∈ vs, v.oneCell' = true := by
  induction h with
  | nil => intro v hv; cases hv
  | cons h h1 _ ih => intro v hv; rcases List.mem_cons.1 hv with rfl | hv; exact h1; exact ih v hv
theorem CR.rep {cs : List AV} {vs : List Value} (h : CR G cs vs) : ∀ n, CR G (List.replicate n cs).flatten (List.replicate n vs).flatten
  | 0 => .nil
  | n + 1 => by simp only [List.replicate_succ, List.flatten_cons]; exact h.append (h.rep n)
theorem CR.zs {vs : List Value} (h : vs.all (·.oneCell') = true) : CR G (vs.map avC1) vs := by
  induction vs with
  | nil => exact .nil
  | cons v vs ih =>
    simp only [List.all_cons, Bool.and_eq_true] at h
    exact .cons (.imm _ _ (avC1_R _ v)) h.1 (ih h.2)
theorem cellsOf_CR {x : AV} {v : Value} (hx : R G x v) {cs : List AV} (h : cellsOf x = some cs) : CR G cs v.cells.toList := by
  obtain ⟨h1, h2, h3⟩ := cellsOf_R hx h
  refine CR.of (by simpa using h1) fun j hj => ?_
  have e : v.cells.toList.getD j undef = v.cells.getD j undef := by simp [Array.getD_eq_getD_getElem?, List.getD]
  rw [e]
  exact ⟨h2 j hj, h3 j hj⟩
theorem CR.arr {cs : List AV} {vs : List Value} (h : CR G cs vs) : ∀ (j : Nat) (hj : j < cs.length), R G cs[j] (vs.toArray.getD j undef) ∧ (vs.toArray.getD j undef).oneCell' = true := by
  intro j hj
  have e : vs.toArray.getD j undef = vs.getD j undef := by simp [Array.getD_eq_getD_getElem?, List.getD]
  rw [e]; exact h.get j hj
theorem row_CR (HI : Inv w0 G M w) {id : Nat} {cs : List AV} (hM : M[id]? = some (some cs)) :
    ∃ (b n : Nat) (cur : Array Value) (T : TypeId), G.m[id]? = some (some (b, n)) ∧ w0.heap.size ≤ b ∧ w.heap[b]? = some (.cells cur T (0, 0)) ∧ cur.size = n ∧ cs.length ≤ n ∧ CR G cs (cur.toList.take cs.length) := by
  obtain ⟨b, n, cur, T, hm, hB, hh, hs, hl, hr⟩ := HI.row hM
  refine ⟨b, n, cur, T, hm, hB, hh, hs, hl, CR.of (by simp; omega) fun j hj => ?_⟩
  have e : (cur.toList.take cs.length).getD j undef = cur.getD j undef := by
    simp [List.getD, hj, Array.getD_eq_getD_getElem?]
  rw [e]; exact hr j hj
theorem view_CR (HI : Inv w0 G M w) {x : AV} {v : Value} (hx : R G x v) {cs : List AV} (hv : view M x = some cs) :
    ∃ (A : Option Addr) (n c sz : Nat) (vs : List Value), v = .slice A n c ∧ lenOf x = some n ∧ cs.length = n * sz ∧ (A = none → n = 0) ∧ n ≤ c ∧ c ≤ maxLen ∧ CR G cs vs ∧ (∀ a, A = some a → 0 < sz ∧ ∀ j u, vs[j]? = some u → w.cell? (a.add j) = some u) := by
  obtain ⟨A, n, c, sz, rfl, hl, hlen, hA, hnc, hcm, hc⟩ := view_cells HI hx hv
  cases A with
  | none =>
    have h0 := hA rfl
    subst h0
    have : cs = [] := List.eq_nil_of_length_eq_zero (by simpa using hlen)
    subst this
    exact ⟨none, 0, c, sz, [], rfl, hl, hlen, hA, hnc, hcm, .nil, fun a h => by cases h⟩
  | some ad =>
    obtain ⟨hsz, vs, hvs⟩ := hc ad rfl
    refine ⟨some ad, n, c, sz, (List.range cs.length).map vs, rfl, hl, hlen, hA, hnc, hcm, CR.of (by simp) fun j hj => ?_, fun a ha => ?_⟩
    · simpa [List.getD, hj] using (hvs j hj).2
    · cases ha
      refine ⟨hsz, fun j u hu => ?_⟩
      have hj : j < cs.length := by
        have := (List.getElem?_eq_some_iff.1 hu).1
        simpa using this
      simp [hj] at hu
      rw [← hu]; exact (hvs j hj).1
theorem RI_of_CR {g : Addr → Option Value} {m : List (Option (Nat × Nat))} {cs : List AV} {vs : List Value} (h : CR ⟨g, m⟩ cs vs) (hI : allI cs = true) : ∀ (j : Nat) (hj : j < cs.length), RI g cs[j] (vs.getD j undef) :=
  fun j hj => ((h.get j hj).1).toI (allI_get hI j hj)

/-! ### Building -/
theorem foldl_fill : ∀ (vs : List Value) (k : Nat) (cells : Array Value), k + vs.length ≤ cells.size →
    ((vs.zipIdx k).foldl (fun cs (c, j) => cs.setIfInBounds j c) cells).toList = cells.toList.take k ++ vs ++ cells.toList.drop (k + vs.length)
  | [], k, cells, _ => by simp
  | v :: vs, k, cells, h => by
    simp only [List.length_cons] at h
    simp only [List.zipIdx_cons, List.foldl_cons]
    rw [foldl_fill vs (k + 1) _ (by simp; omega)]
    simpa [Array.toList_setIfInBounds] using list_seg_step cells.toList k v vs (by simp; omega)
theorem fill_step (v : Value) (off : Nat) (cells : Array Value) (h : off + v.cells.size ≤ cells.size) :
    (v.cells.zipIdx.foldl (fun cs (c, j) => cs.setIfInBounds (off + j) c) cells).toList = cells.toList.take off ++ v.cells.toList ++ cells.toList.drop (off + v.cells.size) := by
  rw [← Array.foldl_toList, Array.toList_zipIdx]
  have := foldl_fill v.cells.toList off cells (by simpa using h)
  simp only [Array.length_toList] at this
  rw [← this]
  congr 1
  generalize v.cells.toList = vs
  have : ∀ (vs : List Value) (k : Nat) (cs : Array Value), List.foldl (fun cs (x : Value × Nat) => cs.setIfInBounds (off + x.2) x.1) cs (vs.zipIdx k) = List.foldl (fun cs (x : Value × Nat) => cs.setIfInBounds x.2 x.1) cs (vs.zipIdx (off + k)) := by
    intro vs
    induction vs with
    | nil => intro k cs; rfl
    | cons v vs ih => intro k cs; simp only [List.zipIdx_cons, List.foldl_cons]; rw [ih]; rfl
  exact this vs 0 cells
theorem fill_CR (pl : Nat → Option (Nat × Nat)) : ∀ {parts : List (Nat × Value)} {aparts : List (Nat × Nat × AV)} {cells : Array Value} {cs cs' : List AV},
    aparts.length = parts.length → (∀ (j : Nat) (i : Nat) (v : Value) (o n : Nat) (x : AV), parts[j]? = some (i, v) → aparts[j]? = some (o, n, x) → pl i = some (o, n) ∧ R G x v) →
    CR G cs cells.toList → fillA cs aparts = some cs' → ∃ cells', Instr.fill pl cells parts = some cells' ∧ CR G cs' cells'.toList
  | [], [], cells, cs, cs', _, _, hc, h => by simp [fillA] at h; subst h; exact ⟨cells, rfl, hc⟩
  | (i, v) :: parts, (o, n, x) :: aparts, cells, cs, cs', hl, hp, hc, h => by
    obtain ⟨hpl, hx⟩ := hp 0 i v o n x rfl rfl
    simp only [fillA] at h
    split at h
    · rename_i xs hxs
      split at h
      · rename_i hfit
        have hv := cellsOf_CR hx hxs
        have hvl := hv.len
        simp only [Array.length_toList] at hvl
        have hcl := hc.len
        simp only [Array.length_toList] at hcl
        have hst := fill_step v o cells (by omega)
        have hc' : CR G (cs.take o ++ xs ++ cs.drop (o + n)) (v.cells.zipIdx.foldl (fun cs (c, j) => cs.setIfInBounds (o + j) c) cells).toList := by
          rw [hst, show o + v.cells.size = o + n by omega]
          exact ((hc.take o).append hv).append (hc.drop (o + n))
        obtain ⟨cells', hf, hr⟩ := fill_CR pl (by simpa using hl) (fun j i v o n x h1 h2 => hp (j + 1) i v o n x (by simpa using h1) (by simpa using h2)) hc' h
        refine ⟨cells', ?_, hr⟩
        simp only [Instr.fill, hpl]
        rw [if_neg (by simp; omega)]
        exact hf
      · cases h
    · cases h
theorem elInfo_inv {e : TypeId} {sz by' : Nat} {zs : List Value} (h : elInfo P e = some (sz, by', zs)) :
    ∃ (i : TypeInfo) (z : Value), P.info? e = some i ∧ i.zero = some z ∧ i.size = sz ∧ i.bytes = by' ∧ z.cells.toList = zs ∧ z.cells.size = sz ∧ 0 < sz ∧ zs.all (·.oneCell') = true := by
  unfold elInfo at h
  split at h
  · rename_i i hi
    split at h
    · rename_i z hz
      split at h
      · rename_i hh
        cases h
        exact ⟨i, z, hi, hz, rfl, rfl, rfl, hh.1, hh.2.1, hh.2.2⟩
      · cases h
    · cases h
  · cases h
theorem trParts_inv {pl : Nat → Option (Nat × Nat)} {env : Env} {a : Act} (HE : EnvR G env a) : ∀ {parts : List (Nat × Operand)} {ps : List (Nat × Nat × O)}, trParts pl parts = some ps →
    (ps.map fun (o, n, x) => (o, n, x.ev env)).length = (parts.map fun (i, x) => (i, a.eval x)).length ∧
    ∀ (j i : Nat) (v : Value) (o n : Nat) (x : AV), (parts.map fun (i, x) => (i, a.eval x))[j]? = some (i, v) → (ps.map fun (o, n, x) => (o, n, x.ev env))[j]? = some (o, n, x) → pl i = some (o, n) ∧ R G x v
  | [], ps, h => by simp [trParts] at h; subst h; exact ⟨rfl, fun j i v o n x h => by simp at h⟩
  | (i, x) :: parts, ps, h => by
    simp only [trParts] at h
    split at h
    · rename_i o n ox r h1 h2 h3
      cases h
      obtain ⟨hl, hr⟩ := trParts_inv HE h3
      refine ⟨by simpa using hl, fun j i' v o' n' x' e1 e2 => ?_⟩
      cases j with
      | zero =>
        simp at e1 e2
        obtain ⟨rfl, rfl⟩ := e1
        obtain ⟨rfl, rfl, rfl⟩ := e2
        exact ⟨h1, trO_R HE h2⟩
      | succ j => exact hr j i' v o' n' x' (by simpa using e1) (by simpa using e2)
    · cases h
theorem made_eq (z : Array Value) (hz : 0 < z.size) : ∀ (n : Nat), ((Array.range (n * z.size)).map (z[· % z.size]!)).toList = (List.replicate n z.toList).flatten := by
  intro n
  apply List.ext_getElem
  · simp [List.length_flatten]
  · intro i h1 h2
    have hi : i < n * z.size := by simpa using h1
    have hm : i % z.size < z.size := Nat.mod_lt _ hz
    have key : ∀ (m i : Nat) (h : i < (List.replicate m z.toList).flatten.length), (List.replicate m z.toList).flatten[i] = z[i % z.size]'(Nat.mod_lt _ hz) := by
      intro m
      induction m with
      | zero => intro i h; simp at h
      | succ m ih =>
        intro i h
        simp only [List.replicate_succ, List.flatten_cons]
        by_cases hlt : i < z.size
        · rw [List.getElem_append_left (by simpa using hlt)]
          simp [Nat.mod_eq_of_lt hlt]
        · have hge : z.size ≤ i := by omega
          rw [List.getElem_append_right (by simpa using hge), ih]
          congr 1
          simp [Nat.mod_eq_sub_mod hge]
    rw [key]
    simp [hm]
/-- A new block of the call's own. -/
theorem new_blk (HI : Inv w0 G M w) {T : TypeId} {cur : List Value} {cs : List AV} (h : CR G cs (cur.take cs.length)) (hl : cs.length ≤ cur.length) :
    Gle G (G.withBlk w.heap.size cur.length) ∧ Inv w0 (G.withBlk w.heap.size cur.length) (M ++ [some cs]) (w.alloc (.cells cur.toArray T)) ∧ (G.withBlk w.heap.size cur.length).m[M.length]? = some (some (w.heap.size, cur.length)) := by
  have := HI.withBlk (w' := w.alloc (.cells cur.toArray T)) ((Below.refl _ _).alloc (Nat.le_refl _) _) (b := w.heap.size) (cur := cur.toArray) (T := T) (cs := cs) (Nat.le_refl _) (heap_alloc_new w _) (by simpa using hl) (fun j hj => by
    have := h.get j hj
    have e : (cur.take cs.length).getD j undef = cur.toArray.getD j undef := by simp [List.getD, hj, Array.getD_eq_getD_getElem?]
    rw [e] at this; exact this)
  simpa using this
theorem new_row (HI : Inv w0 G M w) {T : TypeId} {cur : List Value} {cs : List AV} (h : CR G cs cur) (hI : allI cs = true) :
    ∃ G', Gle G G' ∧ Inv w0 G' M (w.alloc (.cells cur.toArray T)) ∧ (∀ j, j < cs.length → G'.g ((⟨w.heap.size, 0, none⟩ : Addr).add j) = some (cur.getD j undef)) ∧ ∀ (j : Nat) (hj : j < cs.length), RI G'.g cs[j] (cur.getD j undef) := by
  have hl := h.len
  obtain ⟨h1, h2, h3⟩ := HI.withRow (w' := w.alloc (.cells cur.toArray T)) ((Below.refl _ _).alloc (Nat.le_refl _) _) (b := w.heap.size) (k := cs.length) (vs := fun j => cur.getD j undef) (Nat.le_refl _) (fun j hj => by
    refine ⟨?_, (h.get j hj).2⟩
    rw [World.cell?_alloc_new]
    simp [List.getD, show j < cur.length by omega])
  exact ⟨_, h1, h2, h3, fun j hj => ((h.get j hj).1.toI (allI_get hI j hj)).mono h1.g⟩
end
end Go.Proofs.Ytopiaiibpacmlaa.Av
