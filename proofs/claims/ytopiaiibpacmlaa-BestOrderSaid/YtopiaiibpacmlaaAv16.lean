/- slices.Sort at []int, taken by its contract. -/
import Derived.Test.YtopiaiibpacmlaaAv15
import Derived.Sort.Grow
import Derived.Sort.Row
namespace Go.Proofs.Ytopiaiibpacmlaa.Av
open Go.RowKit Go.Sort
set_option linter.unusedSimpArgs false
def intsA (l : List Int) : List AV := l.map fun n => .flat (.int .i64 n)
/-- A sort that the kernel reckons. -/
def insI (a : Int) : List Int → List Int
  | [] => [a]
  | b :: l => if a ≤ b then a :: b :: l else b :: insI a l
def sorted : List Int → List Int
  | [] => []
  | a :: l => insI a (sorted l)
theorem insI_perm (a : Int) : ∀ l : List Int, (insI a l).Perm (a :: l)
  | [] => List.Perm.refl _
  | b :: l => by
    simp only [insI]
    split
    · exact List.Perm.refl _
    · exact ((insI_perm a l).cons b).trans (List.Perm.swap a b l)
theorem insI_pw {a : Int} : ∀ {l : List Int}, l.Pairwise (· ≤ ·) → (insI a l).Pairwise (· ≤ ·)
  | [], _ => by simp [insI]
  | b :: l, h => by
    simp only [insI]
    split
    · rename_i hab
      refine List.Pairwise.cons ?_ h
      intro c hc
      rcases List.mem_cons.1 hc with rfl | hc
      · exact hab
      · exact Int.le_trans hab ((List.pairwise_cons.1 h).1 c hc)
    · rename_i hab
      refine List.Pairwise.cons ?_ (insI_pw (List.pairwise_cons.1 h).2)
      intro c hc
      rcases List.mem_cons.1 ((insI_perm a l).subset hc) with rfl | hc
      · omega
      · exact (List.pairwise_cons.1 h).1 c hc
theorem sorted_perm : ∀ l : List Int, (sorted l).Perm l
  | [] => List.Perm.refl _
  | a :: l => (insI_perm a _).trans ((sorted_perm l).cons a)
theorem sorted_pw : ∀ l : List Int, (sorted l).Pairwise (· ≤ ·)
  | [] => List.Pairwise.nil
  | _ :: l => insI_pw (sorted_pw l)
theorem sorted_len (l : List Int) : (sorted l).length = l.length := (sorted_perm l).length_eq
theorem sorted_eq (l : List Int) : sorted l = l.mergeSort fun x y => decide (x ≤ y) := by
  refine List.Perm.eq_of_pairwise (le := (· ≤ ·)) (fun a b _ _ h1 h2 => Int.le_antisymm h1 h2) (sorted_pw l) ?_ ((sorted_perm l).trans (List.mergeSort_perm ..).symm)
  have := List.pairwise_mergeSort (le := fun x y : Int => decide (x ≤ y)) (fun a b c h1 h2 => by simp only [decide_eq_true_eq] at *; omega) (fun a b => by simp only [Bool.or_eq_true, decide_eq_true_eq]; omega) l
  exact this.imp fun h => by simpa using h
def sortA : List AV → MS → Option Out
  | [.ms id off len sz _], M => match M[id]? with
    | some (some cs) => if sz = 1 ∧ off + len ≤ cs.length ∧ len ≤ LIM then
        match asInts .i64 ((cs.drop off).take len) with
        | some l => some (.x (.flat undef) (M.set id (some (splice cs off (intsA (sorted l))))) [id])
        | none => none
      else none
    | _ => none
  | _, _ => none
def extS (sf : Nat) : Call := fun f args M => if f = sf then sortA args M else none
theorem extS_ok {P : Program} {sf : Nat} (hf : okFn P sf = true)
    (hS : ∀ (blk off cap : Nat) (zs : List Int) (w : World), Holds (Value.int .i64) w blk off zs.toArray → blk < w.heap.size → zs.length < 4611686018427387904 →
      Calls P sf #[.slice (some ⟨blk, off, none⟩) zs.length cap] w fun e w' => e = .returned (.tuple #[]) ∧ ∃ n os, w' = grow (putRow (Value.int .i64) (Sort.ahead w n) blk off (zs.mergeSort fun x y => decide (x ≤ y)).toArray) os) :
    CallOk P (extS sf) := by
  have inv : ∀ {f : Nat} {args : List AV} {M : MS} {out : Out}, extS sf f args M = some out → f = sf ∧ ∃ id off len cd cs l, args = [.ms id off len 1 cd] ∧ M[id]? = some (some cs) ∧ off + len ≤ cs.length ∧ len ≤ LIM ∧ asInts .i64 ((cs.drop off).take len) = some l ∧
      out = .x (.flat undef) (M.set id (some (splice cs off (intsA (sorted l))))) [id] := by
    intro f args M out h
    unfold extS at h
    split at h
    · rename_i hfe
      refine ⟨hfe, ?_⟩
      unfold sortA at h
      split at h
      · rename_i id off len sz cd
        split at h
        · rename_i cs hM
          split at h
          · rename_i hh
            obtain ⟨rfl, h1, h2⟩ := hh
            split at h
            · rename_i l hl
              cases h
              exact ⟨id, off, len, cd, cs, l, rfl, hM, h1, h2, hl, rfl⟩
            · cases h
          · cases h
        · cases h
      · cases h
    · cases h
  refine ⟨fun f args M out h => by obtain ⟨rfl, _⟩ := inv h; exact hf, fun f args M out h w0 w G vals HI hs hr => ?_, fun f args M v M' D h => ?_⟩
  · obtain ⟨rfl, id, off, len, cd, cs, l, rfl, hM, h1, h2, hl, rfl⟩ := inv h
    obtain ⟨v, rfl⟩ : ∃ v, vals = #[v] := by
      obtain ⟨l⟩ := vals
      match l, hs with
      | [v], _ => exact ⟨v, rfl⟩
    have hR : R G (.ms id off len 1 cd) v := by simpa using hr 0 (by simp)
    obtain ⟨b, bn, cur, T, hm, hB, hh, hsz, hle, hrr⟩ := HI.row hM
    obtain ⟨_, _, _, hcl⟩ := hR.ms_inv
    obtain ⟨c, rfl, c1, c2, c3, c4⟩ := hcl b bn hm
    have hb : b < w.heap.size := (Array.getElem?_eq_some_iff.1 hh).1
    have hli := asInts_inv hl
    have hll : l.length = len := by
      have := congrArg List.length hli
      simp only [List.length_take, List.length_drop, List.length_map] at this
      omega
    have hcell : ∀ j (hj : j < l.length), cur.getD (off + j) undef = .int .i64 l[j] := by
      intro j hj
      have h3 := (hrr (off + j) (by omega)).1
      have h4 : cs[off + j]'(by omega) = .flat (.int .i64 l[j]) := by
        have h5 : ((cs.drop off).take len)[j]? = some (.flat (.int .i64 l[j])) := by
          rw [hli]; simp [hj]
        simp only [List.getElem?_take, List.getElem?_drop, show j < len by omega, if_true] at h5
        rw [List.getElem?_eq_getElem (by omega)] at h5
        exact Option.some.inj h5
      rw [h4] at h3
      exact h3.flat_inv
    have hHolds : Holds (Value.int .i64) w b off l.toArray := by
      intro j hj
      have hj' : j < l.length := by simpa using hj
      refine ⟨?_, by simp [World.frozen?, hh]⟩
      rw [cell_of_row' hh, getD_some (by omega), hcell j hj']
      simp [hj']
    simp only [LIM] at h2
    have hc := hS b off c l w hHolds hb (by omega)
    rw [hll] at hc
    refine hc.mono ?_
    rintro e w' ⟨rfl, n, os, rfl⟩
    refine ⟨undef, G, rfl, Gle.refl G, .imm _ _ (.flat _), ?_⟩
    have hsl : (sorted l).length = l.length := sorted_len l
    rw [← sorted_eq]
    -- the world behind
    have hbig : Inv w0 G (M.set id (some (splice cs off (intsA (sorted l))))) (putRow (Value.int .i64) (Sort.ahead w n) b off (sorted l).toArray) := by
      have hah : Inv w0 G M (Sort.ahead w n) := HI.grow ⟨rfl, rfl, rfl, Nat.le_refl _, fun _ _ => rfl⟩
      have hha : (Sort.ahead w n).heap[b]? = some (.cells cur T (0, 0)) := hh
      have hput : (putRow (Value.int .i64) (Sort.ahead w n) b off (sorted l).toArray).heap[b]? = some (.cells (putCells (Value.int .i64) off (sorted l).toArray cur) T (0, 0)) := by
        simp only [putRow, mapBlock, Array.getElem?_modify, if_true, hha, Option.map_some]
        rfl
      have hsz' : (putCells (Value.int .i64) off (sorted l).toArray cur).size = bn := by simp [putCells, hsz]
      have hspl : (splice cs off (intsA (sorted l))).length = cs.length := by simp [splice, intsA, hsl]; omega
      refine hah.write hm (by rfl) (by rfl) (by rfl) (by simp) (fun k hk => ?_) hput hsz' (by omega) fun j hj => ?_
      · simp only [putRow, mapBlock, Array.getElem?_modify]
        rw [if_neg (Ne.symm hk)]
      · have hjc : j < cs.length := by omega
        have hcj : j < cur.size := by omega
        have hg : (putCells (Value.int .i64) off (sorted l).toArray cur).getD j undef = if off ≤ j ∧ j < off + l.length then .int .i64 ((sorted l).toArray[j - off]!) else cur.getD j undef := by
          simp [putCells, Array.getD_eq_getD_getElem?, Array.getElem?_mapIdx, hcj, hsl]
        rw [hg]
        by_cases hin : off ≤ j ∧ j < off + l.length
        · rw [if_pos hin]
          have h6 : (splice cs off (intsA (sorted l)))[j] = .flat (.int .i64 ((sorted l).toArray[j - off]!)) := by
            have h7 : (splice cs off (intsA (sorted l)))[j]? = some (.flat (.int .i64 ((sorted l).toArray[j - off]!))) := by
              have hlt : j - off < (sorted l).length := by omega
              simp only [splice, intsA, List.append_assoc]
              rw [List.getElem?_append_right (by simp; omega)]
              rw [List.getElem?_append_left (by simp; omega)]
              have e : j - (List.take off cs).length = j - off := by simp; omega
              rw [e]
              simp [hlt]
            rw [List.getElem?_eq_getElem hj] at h7
            exact Option.some.inj h7
          rw [h6]
          exact ⟨.imm _ _ (.flat _), rfl⟩
        · rw [if_neg hin]
          have h6 : (splice cs off (intsA (sorted l)))[j] = cs[j] := by
            have h7 : (splice cs off (intsA (sorted l)))[j]? = some cs[j] := by
              simp only [splice, intsA, List.append_assoc]
              by_cases hlo : j < off
              · rw [List.getElem?_append_left (by simp; omega)]
                simp [hlo, hjc]
              · rw [List.getElem?_append_right (by simp; omega)]
                rw [List.getElem?_append_right (by simp; omega)]
                simp only [List.getElem?_drop, List.length_take, List.length_map, hsl]
                rw [List.getElem?_eq_getElem (by omega)]
                congr 2
                omega
            rw [List.getElem?_eq_getElem hj] at h7
            exact Option.some.inj h7
          rw [h6]
          exact hrr j hjc
    exact hbig.grow ⟨rfl, rfl, rfl, by simp, fun k hk => heap_grow_old _ _ hk⟩
  · obtain ⟨rfl, id, off, len, cd, cs, l, rfl, hM, h1, h2, hl, he⟩ := inv h
    cases he
    exact ⟨by simp, fun k hk hn => by rw [List.getElem?_set_ne (by intro e; apply hn; simp [e])]⟩
/-- The sort of an empty row. -/
def extS0 (sf : Nat) : Call := fun f args _ => if f = sf then (match args with
  | [.list _ [] _ _] => some (.q (.flat undef))
  | _ => none) else none
theorem extS0_ok {P : Program} {sf : Nat} (hf : okFn P sf = true)
    (hS : ∀ (p : Option Addr) (cap : Nat) (w : World), Calls P sf #[.slice p 0 cap] w fun e w' => e = .returned (.tuple #[]) ∧ w' = w) : CallOk P (extS0 sf) := by
  have inv : ∀ {f : Nat} {args : List AV} {M : MS} {out : Out}, extS0 sf f args M = some out → f = sf ∧ ∃ sz nl cd, args = [.list sz [] nl cd] ∧ out = .q (.flat undef) := by
    intro f args M out h
    unfold extS0 at h
    split at h
    · rename_i hfe
      refine ⟨hfe, ?_⟩
      split at h
      · cases h; exact ⟨_, _, _, rfl, rfl⟩
      · cases h
    · cases h
  refine ⟨fun f args M out h => by obtain ⟨rfl, _⟩ := inv h; exact hf, fun f args M out h w0 w G vals HI hs hr => ?_, fun f args M v M' D h => ?_⟩
  · obtain ⟨rfl, sz, nl, cd, rfl, rfl⟩ := inv h
    obtain ⟨v, rfl⟩ : ∃ v, vals = #[v] := by
      obtain ⟨l⟩ := vals
      match l, hs with
      | [v], _ => exact ⟨v, rfl⟩
    have hR : R G (.list sz [] nl cd) v := by simpa using hr 0 (by simp)
    obtain ⟨p, c, rfl⟩ : ∃ p c, v = .slice p 0 c := by
      rcases RI.list_cases hR.list_inv with ⟨_, _, _, rfl⟩ | ⟨_, a, n, c, vs, rfl, h0, h1, _⟩
      · exact ⟨none, 0, rfl⟩
      · have : n = 0 := by
          rcases Nat.mul_eq_zero.1 (show n * sz = 0 by simpa using h1.symm) with h | h
          · exact h
          · omega
        subst this
        exact ⟨some a, c, rfl⟩
    refine (hS p c w).mono ?_
    rintro e w' ⟨rfl, rfl⟩
    exact ⟨undef, G, rfl, Gle.refl G, .imm _ _ (.flat _), HI⟩
  · obtain ⟨_, _, _, _, _, h2⟩ := inv h
    cases h2
end Go.Proofs.Ytopiaiibpacmlaa.Av
