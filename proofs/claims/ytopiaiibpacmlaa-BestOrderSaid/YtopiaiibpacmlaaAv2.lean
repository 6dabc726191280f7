/- The relation between the evaluator's values and the machine's, and what is kept of the machine's memory. -/
import Derived.Test.YtopiaiibpacmlaaAv1
namespace Go.Proofs.Ytopiaiibpacmlaa.Av
open Go.RowKit

/-- What is known of memory: cells that never change; the call's own blocks (number, size), by their places. -/
structure Gh where
  g : Addr → Option Value
  m : List (Option (Nat × Nat))

inductive RI (g : Addr → Option Value) : AV → Value → Prop
  | flat (v : Value) : RI g (.flat v) v
  | nil (sz : Nat) : RI g (.list sz [] true true) (.slice none 0 0)
  | list (sz : Nat) (cs : List AV) (capd : Bool) (a : Addr) (n c : Nat) (vs : Nat → Value) (h0 : 0 < sz) (h1 : cs.length = n * sz) (h2 : n ≤ c) (h3 : c ≤ maxLen) (h4 : capd = true → c = n)
      (h5 : ∀ j, j < cs.length → g (a.add j) = some (vs j)) (h6 : ∀ (j : Nat) (h : j < cs.length), RI g cs[j] (vs j)) : RI g (.list sz cs false capd) (.slice (some a) n c)
  | agg (cs : List AV) (vs : Array Value) (h : vs.size = cs.length) (h6 : ∀ (j : Nat) (h : j < cs.length), RI g cs[j] (vs.getD j undef)) (h7 : ∀ j, j < cs.length → (vs.getD j undef).oneCell' = true) : RI g (.agg cs) (.agg vs)
  | elem (x : AV) (k : Nat) (a : Addr) (n c : Nat) (h : RI g x (.slice (some a) n c)) : RI g (.elem x k) (.pointer (some (a.add k)))
  | clo (fn : Nat) (cs : List AV) (vs : Array Value) (h : vs.size = cs.length) (h6 : ∀ (j : Nat) (h : j < cs.length), RI g cs[j] (vs.getD j undef)) : RI g (.clo fn cs) (.func (.func fn) #[] vs)
  | tup (cs : List AV) (vs : Array Value) (h : vs.size = cs.length) (h6 : ∀ (j : Nat) (h : j < cs.length), RI g cs[j] (vs.getD j undef)) : RI g (.tup cs) (.tuple vs)

inductive R (G : Gh) : AV → Value → Prop
  | imm (x : AV) (v : Value) (h : RI G.g x v) : R G x v
  | agg (cs : List AV) (vs : Array Value) (h : vs.size = cs.length) (h6 : ∀ (j : Nat) (h : j < cs.length), R G cs[j] (vs.getD j undef)) (h7 : ∀ j, j < cs.length → (vs.getD j undef).oneCell' = true) : R G (.agg cs) (.agg vs)
  | elem (x : AV) (k : Nat) (a : Addr) (n c : Nat) (h : R G x (.slice (some a) n c)) : R G (.elem x k) (.pointer (some (a.add k)))
  | mptr (id off : Nat) (v : Value) (h0 : id < G.m.length) (h1 : v.oneCell' = true) (h : ∀ b n : Nat, G.m[id]? = some (some (b, n)) → v = .pointer (some ⟨b, off, none⟩)) : R G (.mptr id off) v
  | ms (id off len sz : Nat) (capd : Bool) (v : Value) (h0 : id < G.m.length) (h1 : ∃ (A : Addr) (c : Nat), v = .slice (some A) len c) (hsz : 0 < sz)
      (h : ∀ b n : Nat, G.m[id]? = some (some (b, n)) → ∃ c, v = .slice (some ⟨b, off, none⟩) len c ∧ len ≤ c ∧ c ≤ maxLen ∧ off + c * sz ≤ n ∧ (capd = true → c = len)) : R G (.ms id off len sz capd) v
  | clo (fn : Nat) (cs : List AV) (vs : Array Value) (h : vs.size = cs.length) (h6 : ∀ (j : Nat) (h : j < cs.length), R G cs[j] (vs.getD j undef)) : R G (.clo fn cs) (.func (.func fn) #[] vs)
  | tup (cs : List AV) (vs : Array Value) (h : vs.size = cs.length) (h6 : ∀ (j : Nat) (h : j < cs.length), R G cs[j] (vs.getD j undef)) : R G (.tup cs) (.tuple vs)

structure Gle (G G' : Gh) : Prop where
  g : ∀ a v, G.g a = some v → G'.g a = some v
  len : G.m.length ≤ G'.m.length
  m : ∀ (id : Nat) (b : Nat × Nat), id < G.m.length → G'.m[id]? = some (some b) → G.m[id]? = some (some b)
theorem Gle.refl (G : Gh) : Gle G G := ⟨fun _ _ h => h, Nat.le_refl _, fun _ _ _ h => h⟩
theorem Gle.trans {G G' G'' : Gh} (h : Gle G G') (k : Gle G' G'') : Gle G G'' :=
  ⟨fun a v x => k.g a v (h.g a v x), Nat.le_trans h.len k.len, fun id b hid hb => h.m id b hid (k.m id b (Nat.lt_of_lt_of_le hid h.len) hb)⟩

theorem RI.mono {g g' : Addr → Option Value} (hg : ∀ a v, g a = some v → g' a = some v) {x : AV} {v : Value} (h : RI g x v) : RI g' x v := by
  induction h with
  | flat v => exact .flat v
  | nil sz => exact .nil sz
  | list sz cs capd a n c vs h0 h1 h2 h3 h4 h5 h6 ih => exact .list sz cs capd a n c vs h0 h1 h2 h3 h4 (fun j hj => hg _ _ (h5 j hj)) ih
  | agg cs vs h h6 h7 ih => exact .agg cs vs h ih h7
  | elem x k a n c h ih => exact .elem x k a n c ih
  | clo fn cs vs h h6 ih => exact .clo fn cs vs h ih
  | tup cs vs h h6 ih => exact .tup cs vs h ih
theorem R.mono {G G' : Gh} (hG : Gle G G') {x : AV} {v : Value} (h : R G x v) : R G' x v := by
  induction h with
  | imm x v h => exact .imm x v (h.mono hG.g)
  | agg cs vs h h6 h7 ih => exact .agg cs vs h ih h7
  | elem x k a n c h ih => exact .elem x k a n c ih
  | mptr id off v h0 h1 h => exact .mptr id off v (Nat.lt_of_lt_of_le h0 hG.len) h1 fun b n hb => h b n (hG.m id _ h0 hb)
  | ms id off len sz capd v h0 h1 hsz h => exact .ms id off len sz capd v (Nat.lt_of_lt_of_le h0 hG.len) h1 hsz fun b n hb => h b n (hG.m id _ h0 hb)
  | clo fn cs vs h h6 ih => exact .clo fn cs vs h ih
  | tup cs vs h h6 ih => exact .tup cs vs h ih

/-! ### Inversions -/
theorem R.flat_inv {G : Gh} {u v : Value} (h : R G (.flat u) v) : v = u := by
  cases h with
  | imm _ _ h => cases h; rfl
theorem RI.list_cases {g : Addr → Option Value} {sz : Nat} {cs : List AV} {nil capd : Bool} {v : Value} (h : RI g (.list sz cs nil capd) v) :
    (nil = true ∧ capd = true ∧ cs = [] ∧ v = .slice none 0 0) ∨
    (nil = false ∧ ∃ (a : Addr) (n c : Nat) (vs : Nat → Value), v = .slice (some a) n c ∧ 0 < sz ∧ cs.length = n * sz ∧ n ≤ c ∧ c ≤ maxLen ∧ (capd = true → c = n) ∧
      (∀ j, j < cs.length → g (a.add j) = some (vs j)) ∧ ∀ (j : Nat) (h : j < cs.length), RI g cs[j] (vs j)) := by
  cases h with
  | nil => exact .inl ⟨rfl, rfl, rfl, rfl⟩
  | list _ _ _ a n c vs h0 h1 h2 h3 h4 h5 h6 => exact .inr ⟨rfl, a, n, c, vs, rfl, h0, h1, h2, h3, h4, h5, h6⟩
theorem R.list_inv {G : Gh} {sz : Nat} {cs : List AV} {nil capd : Bool} {v : Value} (h : R G (.list sz cs nil capd) v) : RI G.g (.list sz cs nil capd) v := by
  cases h with
  | imm _ _ h => exact h
theorem R.agg_inv {G : Gh} {cs : List AV} {v : Value} (h : R G (.agg cs) v) :
    ∃ vs : Array Value, v = .agg vs ∧ vs.size = cs.length ∧ (∀ (j : Nat) (h : j < cs.length), R G cs[j] (vs.getD j undef)) ∧ ∀ j, j < cs.length → (vs.getD j undef).oneCell' = true := by
  cases h with
  | imm _ _ h => cases h with
    | agg _ vs h h6 h7 => exact ⟨vs, rfl, h, fun j hj => .imm _ _ (h6 j hj), h7⟩
  | agg _ vs h h6 h7 => exact ⟨vs, rfl, h, h6, h7⟩
theorem R.tup_inv {G : Gh} {cs : List AV} {v : Value} (h : R G (.tup cs) v) :
    ∃ vs : Array Value, v = .tuple vs ∧ vs.size = cs.length ∧ (∀ (j : Nat) (h : j < cs.length), R G cs[j] (vs.getD j undef)) := by
  cases h with
  | imm _ _ h => cases h with
    | tup _ vs h h6 => exact ⟨vs, rfl, h, fun j hj => .imm _ _ (h6 j hj)⟩
  | tup _ vs h h6 => exact ⟨vs, rfl, h, h6⟩
theorem R.clo_inv {G : Gh} {fn : Nat} {cs : List AV} {v : Value} (h : R G (.clo fn cs) v) :
    ∃ vs : Array Value, v = .func (.func fn) #[] vs ∧ vs.size = cs.length ∧ (∀ (j : Nat) (h : j < cs.length), R G cs[j] (vs.getD j undef)) := by
  cases h with
  | imm _ _ h => cases h with
    | clo _ _ vs h h6 => exact ⟨vs, rfl, h, fun j hj => .imm _ _ (h6 j hj)⟩
  | clo _ _ vs h h6 => exact ⟨vs, rfl, h, h6⟩
theorem R.elem_inv {G : Gh} {x : AV} {k : Nat} {v : Value} (h : R G (.elem x k) v) : ∃ a n c, R G x (.slice (some a) n c) ∧ v = .pointer (some (a.add k)) := by
  cases h with
  | imm _ _ h => cases h with
    | elem _ _ a n c h => exact ⟨a, n, c, .imm _ _ h, rfl⟩
  | elem _ _ a n c h => exact ⟨a, n, c, h, rfl⟩
theorem R.ms_inv {G : Gh} {id off len sz : Nat} {capd : Bool} {v : Value} (h : R G (.ms id off len sz capd) v) :
    id < G.m.length ∧ v.oneCell' = true ∧ 0 < sz ∧ ∀ b n : Nat, G.m[id]? = some (some (b, n)) → ∃ c, v = .slice (some ⟨b, off, none⟩) len c ∧ len ≤ c ∧ c ≤ maxLen ∧ off + c * sz ≤ n ∧ (capd = true → c = len) := by
  cases h with
  | imm _ _ h => cases h
  | ms _ _ _ _ _ _ h0 h1 hsz h => exact ⟨h0, by obtain ⟨_, _, rfl⟩ := h1; rfl, hsz, h⟩
theorem R.ms_len {G : Gh} {id off len sz : Nat} {capd : Bool} {v : Value} (h : R G (.ms id off len sz capd) v) : ∃ (A : Addr) (c : Nat), v = .slice (some A) len c := by
  cases h with
  | imm _ _ h => cases h
  | ms _ _ _ _ _ _ h0 h1 hsz h => exact h1
theorem R.mptr_inv {G : Gh} {id off : Nat} {v : Value} (h : R G (.mptr id off) v) :
    id < G.m.length ∧ v.oneCell' = true ∧ ∀ b n : Nat, G.m[id]? = some (some (b, n)) → v = .pointer (some ⟨b, off, none⟩) := by
  cases h with
  | imm _ _ h => cases h
  | mptr _ _ _ h0 h1 h => exact ⟨h0, h1, h⟩

theorem allI_get : ∀ {cs : List AV}, allI cs = true → ∀ (j : Nat) (h : j < cs.length), isI cs[j] = true
  | _ :: cs, h, 0, _ => by simp [allI] at h; simpa using h.1
  | _ :: cs, h, j + 1, hj => by simp [allI] at h; simpa using allI_get h.2 j (by simpa using hj)
theorem allI_of : ∀ {cs : List AV}, (∀ (j : Nat) (h : j < cs.length), isI cs[j] = true) → allI cs = true
  | [], _ => rfl
  | _ :: cs, h => by
    simp only [allI, Bool.and_eq_true]
    exact ⟨h 0 (by simp), allI_of fun j hj => h (j + 1) (by simpa using hj)⟩
theorem isI_all_eq : ∀ cs : List AV, isI.all cs = allI cs
  | [] => by simp [isI.all, allI]
  | c :: cs => by simp [isI.all, allI, isI_all_eq cs]

theorem R.toI {G : Gh} {x : AV} {v : Value} (h : R G x v) (hi : isI x = true) : RI G.g x v := by
  induction h with
  | imm x v h => exact h
  | agg cs vs h h6 h7 ih => simp only [isI, isI_all_eq] at hi; exact .agg cs vs h (fun j hj => ih j hj (allI_get hi j hj)) h7
  | elem x k a n c h ih => simp only [isI] at hi; exact .elem x k a n c (ih hi)
  | mptr id off v h0 h1 h => simp [isI] at hi
  | ms id off len sz capd v h0 h1 hsz h => simp [isI] at hi
  | clo fn cs vs h h6 ih => simp only [isI, isI_all_eq] at hi; exact .clo fn cs vs h fun j hj => ih j hj (allI_get hi j hj)
  | tup cs vs h h6 ih => simp only [isI, isI_all_eq] at hi; exact .tup cs vs h fun j hj => ih j hj (allI_get hi j hj)

/-- What is kept. -/
structure Inv (w0 : World) (G : Gh) (M : MS) (w : World) : Prop where
  below : Below w0.heap.size w0 w
  len : G.m.length = M.length
  imm : ∀ a v, G.g a = some v → w.cell? a = some v ∧ v.oneCell' = true
  blk : ∀ (id b n : Nat), G.m[id]? = some (some (b, n)) → w0.heap.size ≤ b ∧ ∃ cs : List AV, M[id]? = some (some cs) ∧ ∃ (cur : Array Value) (T : TypeId), w.heap[b]? = some (.cells cur T (0, 0)) ∧ cur.size = n ∧ cs.length ≤ n ∧
    ∀ (j : Nat) (h : j < cs.length), R G cs[j] (cur.getD j undef) ∧ (cur.getD j undef).oneCell' = true
  sep : ∀ (id b n : Nat), G.m[id]? = some (some (b, n)) → ∀ a, a.block = b → G.g a = none
  inj : ∀ (i j b n n' : Nat), G.m[i]? = some (some (b, n)) → G.m[j]? = some (some (b, n')) → i = j
  live : ∀ (id : Nat) (cs : List AV), M[id]? = some (some cs) → ∃ b n : Nat, G.m[id]? = some (some (b, n))

theorem drew_below (w : World) : Below w.heap.size w w.drew := (Below.refl _ _).drew
theorem cell_of_row' {w : World} {b : Nat} {cur : Array Value} {T : TypeId} {f : Nat × Nat} (h : w.heap[b]? = some (.cells cur T f)) (j : Nat) : w.cell? ⟨b, j, none⟩ = cur[j]? := by
  simp [World.cell?, h]
theorem getD_some {cur : Array Value} {j : Nat} (h : j < cur.size) : cur[j]? = some (cur.getD j undef) := by
  simp [Array.getD, h]

/-- The world has grown, nothing else: what was known is known. -/
theorem Inv.grow {w0 w w' : World} {G : Gh} {M : MS} (h : Inv w0 G M w) (hb : Below w.heap.size w w') : Inv w0 G M w' := by
  have hs := h.below.size
  refine ⟨h.below.trans (hb.mono hs), h.len, fun a v ha => ?_, fun id b n hm => ?_, h.sep, h.inj, h.live⟩
  · obtain ⟨hc, h1⟩ := h.imm a v ha
    exact ⟨(hb.cell (World.block_lt_of_cell? w a hc)).trans hc, h1⟩
  · obtain ⟨hB, cs, hM, cur, T, hh, r⟩ := h.blk id b n hm
    exact ⟨hB, cs, hM, cur, T, (hb.block b (Array.getElem?_eq_some_iff.1 hh).1).trans hh, r⟩

/-- A new block whose first cells never change. -/
def Gh.withRow (G : Gh) (b : Nat) (k : Nat) (vs : Nat → Value) : Gh :=
  { G with g := fun a => if a.block = b ∧ a.spot = none ∧ a.off < k then some (vs a.off) else G.g a }
theorem Inv.g_lt {w0 w : World} {G : Gh} {M : MS} (h : Inv w0 G M w) {a : Addr} {v : Value} (ha : G.g a = some v) : a.block < w.heap.size :=
  World.block_lt_of_cell? w a (h.imm a v ha).1
theorem Inv.withRow {w0 w w' : World} {G : Gh} {M : MS} (h : Inv w0 G M w) (hb : Below w.heap.size w w') {b k : Nat} {vs : Nat → Value} (hB : w.heap.size ≤ b)
    (hc : ∀ j, j < k → w'.cell? ⟨b, j, none⟩ = some (vs j) ∧ (vs j).oneCell' = true) :
    Gle G (G.withRow b k vs) ∧ Inv w0 (G.withRow b k vs) M w' ∧ ∀ j, j < k → (G.withRow b k vs).g ((⟨b, 0, none⟩ : Addr).add j) = some (vs j) := by
  have hle : Gle G (G.withRow b k vs) := ⟨fun a v ha => by
    have := h.g_lt ha
    simp only [Gh.withRow]
    rw [if_neg (by intro hh; omega)]
    exact ha, Nat.le_refl _, fun _ _ _ hh => hh⟩
  have hi := h.grow hb
  refine ⟨hle, ⟨hi.below, hi.len, fun a v ha => ?_, fun id b' n hm => ?_, fun id b' n hm a hab => ?_, hi.inj, hi.live⟩, fun j hj => ?_⟩
  · simp only [Gh.withRow] at ha
    split at ha
    · rename_i hh
      obtain ⟨h1, h2, h3⟩ := hh
      obtain ⟨c1, c2⟩ := hc a.off h3
      cases ha
      have : a = ⟨b, a.off, none⟩ := by cases a; simp_all
      rw [this]; exact ⟨c1, c2⟩
    · exact hi.imm a v ha
  · obtain ⟨hB', cs, hM, cur, T, hh, hsz, hl, hr⟩ := hi.blk id b' n hm
    exact ⟨hB', cs, hM, cur, T, hh, hsz, hl, fun j hj => ⟨(hr j hj).1.mono hle, (hr j hj).2⟩⟩
  · obtain ⟨hB', cs, hM, cur, T, hh, r⟩ := h.blk id b' n hm
    have hlt := (Array.getElem?_eq_some_iff.1 hh).1
    simp only [Gh.withRow]
    rw [if_neg (by intro hh; omega)]
    exact h.sep id b' n hm a hab
  · have : (⟨b, 0, none⟩ : Addr).add j = ⟨b, j, none⟩ := by unfold Addr.add; split <;> simp_all
    rw [this]
    simp [Gh.withRow, hj]

/-- A new block of the call's own. -/
def Gh.withBlk (G : Gh) (b n : Nat) : Gh := { G with m := G.m ++ [some (b, n)] }
theorem Inv.withBlk {w0 w w' : World} {G : Gh} {M : MS} (h : Inv w0 G M w) (hb : Below w.heap.size w w') {b : Nat} {cur : Array Value} {T : TypeId} {cs : List AV} (hB : w.heap.size ≤ b)
    (hh : w'.heap[b]? = some (.cells cur T (0, 0))) (hl : cs.length ≤ cur.size) (hr : ∀ (j : Nat) (h : j < cs.length), R G cs[j] (cur.getD j undef) ∧ (cur.getD j undef).oneCell' = true) :
    Gle G (G.withBlk b cur.size) ∧ Inv w0 (G.withBlk b cur.size) (M ++ [some cs]) w' ∧ (G.withBlk b cur.size).m[M.length]? = some (some (b, cur.size)) := by
  have hle : Gle G (G.withBlk b cur.size) := ⟨fun _ _ h => h, by simp [Gh.withBlk], fun id b' hid hb' => by
    simp only [Gh.withBlk] at hb'
    rwa [List.getElem?_append_left hid] at hb'⟩
  have hi := h.grow hb
  have old : ∀ {id : Nat} {b' n : Nat}, (G.withBlk b cur.size).m[id]? = some (some (b', n)) → (G.m[id]? = some (some (b', n)) ∧ id < M.length) ∨ (id = M.length ∧ b' = b ∧ n = cur.size) := by
    intro id b' n hm
    simp only [Gh.withBlk] at hm
    rcases Nat.lt_or_ge id G.m.length with hid | hid
    · rw [List.getElem?_append_left hid] at hm
      exact .inl ⟨hm, by rw [← h.len]; exact hid⟩
    · rw [List.getElem?_append_right hid] at hm
      have : id - G.m.length = 0 := by
        rcases Nat.eq_zero_or_pos (id - G.m.length) with h0 | h0
        · exact h0
        · rw [List.getElem?_eq_none (by simp; omega)] at hm; cases hm
      rw [this] at hm
      simp at hm
      refine .inr ⟨by have := h.len; omega, hm.1.symm, hm.2.symm⟩
  refine ⟨hle, ⟨hi.below, by simp [Gh.withBlk, h.len], fun a v ha => hi.imm a v ha, fun id b' n hm => ?_, fun id b' n hm a hab => ?_, fun i j b' n n' h1 h2 => ?_, fun id cs' hM => ?_⟩, ?_⟩
  · rcases old hm with ⟨h1, hid⟩ | ⟨rfl, rfl, rfl⟩
    · obtain ⟨hB', cs', hM, cur', T', hh', hsz, hl', hr'⟩ := hi.blk id b' n h1
      exact ⟨hB', cs', by rw [List.getElem?_append_left hid]; exact hM, cur', T', hh', hsz, hl', fun j hj => ⟨(hr' j hj).1.mono hle, (hr' j hj).2⟩⟩
    · exact ⟨Nat.le_trans h.below.size hB, cs, by simp, cur, T, hh, rfl, hl, fun j hj => ⟨(hr j hj).1.mono hle, (hr j hj).2⟩⟩
  · rcases old hm with ⟨h1, _⟩ | ⟨_, rfl, _⟩
    · exact h.sep id b' n h1 a hab
    · cases hga : G.g a with
      | none => simp [Gh.withBlk, hga]
      | some v => have := h.g_lt hga; omega
  · have lt : ∀ {i n : Nat}, G.m[i]? = some (some (b, n)) → False := by
      intro i n hi'
      obtain ⟨_, _, _, _, _, hh', _⟩ := h.blk i b n hi'
      have := (Array.getElem?_eq_some_iff.1 hh').1
      omega
    rcases old h1 with ⟨h1', _⟩ | ⟨rfl, rfl, _⟩ <;> rcases old h2 with ⟨h2', _⟩ | ⟨rfl, h5, _⟩
    · exact h.inj i j b' n n' h1' h2'
    · subst h5; exact (lt h1').elim
    · exact (lt h2').elim
    · rfl
  · rcases Nat.lt_or_ge id M.length with hid | hid
    · rw [List.getElem?_append_left hid] at hM
      obtain ⟨b', n, hm⟩ := h.live id cs' hM
      exact ⟨b', n, by simp only [Gh.withBlk]; rw [List.getElem?_append_left (by rw [h.len]; exact hid)]; exact hm⟩
    · rw [List.getElem?_append_right hid] at hM
      have : id - M.length = 0 := by
        rcases Nat.eq_zero_or_pos (id - M.length) with h0 | h0
        · exact h0
        · rw [List.getElem?_eq_none (by simp; omega)] at hM; cases hM
      exact ⟨b, cur.size, by simp only [Gh.withBlk]; rw [List.getElem?_append_right (by rw [h.len]; exact hid), h.len, this]; rfl⟩
  · simp [Gh.withBlk, ← h.len]

/-- A block of the call's own is written. -/
theorem Inv.write {w0 w w' : World} {G : Gh} {M : MS} (h : Inv w0 G M w) {id b n : Nat} (hm : G.m[id]? = some (some (b, n)))
    (hos : w'.os = w.os) (htape : w'.tape = w.tape) (hout : w'.output = w.output) (hsize : w'.heap.size = w.heap.size) (hoth : ∀ k, k ≠ b → w'.heap[k]? = w.heap[k]?)
    {cur : Array Value} {T : TypeId} {cs : List AV} (hh : w'.heap[b]? = some (.cells cur T (0, 0))) (hn : cur.size = n) (hl : cs.length ≤ n)
    (hr : ∀ (j : Nat) (h : j < cs.length), R G cs[j] (cur.getD j undef) ∧ (cur.getD j undef).oneCell' = true) : Inv w0 G (M.set id (some cs)) w' := by
  obtain ⟨hB, cs0, hM0, cur0, T0, hh0, hsz0, hl0, hr0⟩ := h.blk id b n hm
  have hidM : id < M.length := (List.getElem?_eq_some_iff.1 hM0).1
  refine ⟨⟨hos.trans h.below.os, htape.trans h.below.tape, hout.trans h.below.output, by rw [hsize]; exact h.below.size, fun k hk => by rw [hoth k (by omega)]; exact h.below.block k hk⟩, by simp [h.len], fun a v ha => ?_, fun id' b' n' hm' => ?_, h.sep, h.inj, fun id' cs' hM' => ?_⟩
  · obtain ⟨hc, h1⟩ := h.imm a v ha
    have hne : a.block ≠ b := fun e => by have := h.sep id b n hm a e; rw [this] at ha; cases ha
    exact ⟨(World.cell?_of_block (hoth _ hne)).trans hc, h1⟩
  · by_cases he : id' = id
    · subst he
      rw [hm] at hm'
      cases hm'
      exact ⟨hB, cs, by simp [hidM], cur, T, hh, hn, hl, hr⟩
    · obtain ⟨hB', cs', hM', cur', T', hh', r⟩ := h.blk id' b' n' hm'
      have hne : b' ≠ b := fun e => he (by subst e; exact h.inj _ _ _ _ _ hm' hm)
      exact ⟨hB', cs', by rw [List.getElem?_set_ne (Ne.symm he)]; exact hM', cur', T', by rw [hoth _ hne]; exact hh', r⟩
  · by_cases he : id' = id
    · subst he; exact ⟨b, n, hm⟩
    · rw [List.getElem?_set_ne (Ne.symm he)] at hM'
      exact h.live id' cs' hM'

/-- A block of the call's own is given up. -/
def Gh.kill (G : Gh) (id : Nat) : Gh := { G with m := G.m.set id none }
theorem Gh.kill_get {G : Gh} {id i : Nat} {x : Nat × Nat} (h : (G.kill id).m[i]? = some (some x)) : i ≠ id ∧ G.m[i]? = some (some x) := by
  simp only [Gh.kill] at h
  by_cases he : id = i
  · subst he
    rw [List.getElem?_set_self'] at h
    cases hx : G.m[id]? with
    | none => simp [hx] at h
    | some y => simp [hx] at h
  · rw [List.getElem?_set_ne he] at h
    exact ⟨Ne.symm he, h⟩
theorem Gle.kill (G : Gh) (id : Nat) : Gle G (G.kill id) := ⟨fun _ _ h => h, by simp [Gh.kill], fun i b _ h => (Gh.kill_get h).2⟩
theorem Inv.kill {w0 w : World} {G : Gh} {M : MS} (h : Inv w0 G M w) (id : Nat) : Inv w0 (G.kill id) (M.set id none) w := by
  refine ⟨h.below, by simp [Gh.kill, h.len], h.imm, fun i b n hm => ?_, fun i b n hm a ha => h.sep i b n (Gh.kill_get hm).2 a ha, fun i j b n n' h1 h2 => h.inj i j b n n' (Gh.kill_get h1).2 (Gh.kill_get h2).2, fun i cs hM => ?_⟩
  · obtain ⟨hne, hm'⟩ := Gh.kill_get hm
    obtain ⟨hB, cs, hM, cur, T, hh, hsz, hl, hr⟩ := h.blk i b n hm'
    exact ⟨hB, cs, by rw [List.getElem?_set_ne (Ne.symm hne)]; exact hM, cur, T, hh, hsz, hl, fun j hj => ⟨(hr j hj).1.mono (Gle.kill G id), (hr j hj).2⟩⟩
  · by_cases he : id = i
    · subst he
      rw [List.getElem?_set_self'] at hM
      cases hx : M[id]? with
      | none => simp [hx] at hM
      | some y => simp [hx] at hM
    · rw [List.getElem?_set_ne he] at hM
      obtain ⟨b, n, hm⟩ := h.live i cs hM
      exact ⟨b, n, by simp only [Gh.kill]; rw [List.getElem?_set_ne he]; exact hm⟩
/-- A block that was given up: its first cells never change. -/
theorem Inv.shutRow {w0 w : World} {G : Gh} {M : MS} (h : Inv w0 G M w) {id b n : Nat} {cs : List AV} (hm : G.m[id]? = some (some (b, n))) (hM : M[id]? = some (some cs)) (hI : allI cs = true) :
    ∃ G', Gle G G' ∧ Inv w0 G' (M.set id none) w ∧ ∃ vs : Nat → Value, (∀ j, j < cs.length → G'.g ⟨b, j, none⟩ = some (vs j)) ∧ ∀ (j : Nat) (hj : j < cs.length), RI G'.g cs[j] (vs j) := by
  obtain ⟨hB, cs', hM', cur, T, hh, hsz, hl, hr⟩ := h.blk id b n hm
  rw [hM] at hM'; cases hM'
  let G1 : Gh := { g := fun a => if a.block = b ∧ a.spot = none ∧ a.off < cs.length then some (cur.getD a.off undef) else G.g a, m := G.m.set id none }
  have hsep := h.sep id b n hm
  have hle : Gle G G1 := ⟨fun a v ha => by
    show (if _ then _ else _) = _
    rw [if_neg (by intro hh; have := hsep a hh.1; rw [this] at ha; cases ha)]; exact ha, by simp [G1], fun i b' _ h' => (Gh.kill_get (G := G) (id := id) (i := i) h').2⟩
  have hk := h.kill id
  refine ⟨G1, hle, ⟨hk.below, hk.len, fun a v ha => ?_, fun i b' n' hm' => ?_, fun i b' n' hm' a ha => ?_, hk.inj, hk.live⟩, fun j => cur.getD j undef, fun j hj => by simp [G1, hj], fun j hj => ?_⟩
  · change (if _ then _ else _) = _ at ha
    split at ha
    · rename_i hx
      cases ha
      have : a = ⟨b, a.off, none⟩ := by cases a; simp_all
      rw [this, cell_of_row' hh]
      exact ⟨getD_some (by omega), (hr a.off hx.2.2).2⟩
    · exact h.imm a v ha
  · obtain ⟨hB', cs', hM', cur', T', hh', hsz', hl', hr'⟩ := hk.blk i b' n' hm'
    obtain ⟨hne, hm2⟩ := Gh.kill_get (G := G) hm'
    obtain ⟨_, cs2, hM2, cur2, T2, hh2, _, _, hr2⟩ := h.blk i b' n' hm2
    rw [List.getElem?_set_ne (Ne.symm hne)] at hM'
    rw [hM'] at hM2; cases hM2
    rw [hh'] at hh2; cases hh2
    exact ⟨hB', cs', by rw [List.getElem?_set_ne (Ne.symm hne)]; exact hM', cur', T', hh', hsz', hl', fun j hj => ⟨(hr2 j hj).1.mono hle, (hr' j hj).2⟩⟩
  · obtain ⟨hne, hm2⟩ := Gh.kill_get (G := G) hm'
    show (if _ then _ else _) = _
    rw [if_neg (by intro hh; exact hne (by have := hh.1; rw [ha] at this; subst this; exact h.inj _ _ _ _ _ hm2 hm))]
    exact h.sep i b' n' hm2 a ha
  · exact ((hr j hj).1.mono hle).toI (allI_get hI j hj)
end Go.Proofs.Ytopiaiibpacmlaa.Av
