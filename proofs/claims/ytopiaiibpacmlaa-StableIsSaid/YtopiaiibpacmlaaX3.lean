/- What is reckoned with no memory of others is reckoned so with any: places shifted. -/
import Derived.Test.YtopiaiibpacmlaaX2
namespace Go.Proofs.Ytopiaiibpacmlaa.Av
open Go.RowKit
set_option linter.unusedSimpArgs false

def sh (s : Nat) : AV → AV
  | .flat v => .flat v
  | .list sz cs nl cd => .list sz (all cs) nl cd
  | .agg cs => .agg (all cs)
  | .elem x k => .elem (sh s x) k
  | .mptr id off => .mptr (id + s) off
  | .ms id off len sz cd => .ms (id + s) off len sz cd
  | .clo fn cs => .clo fn (all cs)
  | .tup cs => .tup (all cs)
  | .any => .any
  | .yld id y cs => .yld (id + s) y (all cs)
  | .mp id => .mp (id + s)
where all : List AV → List AV
  | [] => []
  | c :: cs => sh s c :: all cs
/-- No places at all. -/
def shut : AV → Bool
  | .flat _ => true
  | .list _ cs _ _ => all cs
  | .agg cs => all cs
  | .elem x _ => shut x
  | .mptr .. | .ms .. | .yld .. | .mp .. => false
  | .any => true
  | .clo _ cs => all cs
  | .tup cs => all cs
where all : List AV → Bool
  | [] => true
  | c :: cs => shut c && all cs
theorem sh_all (s : Nat) : ∀ cs : List AV, sh.all s cs = cs.map (sh s)
  | [] => rfl
  | c :: cs => by simp [sh.all, sh_all s cs]
mutual
theorem sh_shut (s : Nat) : ∀ x : AV, shut x = true → sh s x = x
  | .flat v, _ => rfl
  | .list sz cs nl cd, h => by simp only [sh]; rw [shs_shut s cs (by simpa [shut] using h)]
  | .agg cs, h => by simp only [sh]; rw [shs_shut s cs (by simpa [shut] using h)]
  | .elem x k, h => by simp only [sh]; rw [sh_shut s x (by simpa [shut] using h)]
  | .mptr _ _, h => by simp [shut] at h
  | .ms _ _ _ _ _, h => by simp [shut] at h
  | .yld _ _ _, h => by simp [shut] at h
  | .mp _, h => by simp [shut] at h
  | .any, _ => rfl
  | .clo fn cs, h => by simp only [sh]; rw [shs_shut s cs (by simpa [shut] using h)]
  | .tup cs, h => by simp only [sh]; rw [shs_shut s cs (by simpa [shut] using h)]
theorem shs_shut (s : Nat) : ∀ cs : List AV, shut.all cs = true → sh.all s cs = cs
  | [], _ => rfl
  | c :: cs, h => by
    simp only [shut.all, Bool.and_eq_true] at h
    simp only [sh.all]; rw [sh_shut s c h.1, shs_shut s cs h.2]
end
theorem shut_map {cs : List AV} (s : Nat) (h : shut.all cs = true) : cs.map (sh s) = cs := by rw [← sh_all, shs_shut s cs h]
def shL (s : Nat) (cs : List AV) : List AV := cs.map (sh s)
def shM (s : Nat) (M : MS) : MS := M.map (Option.map (shL s))
def shO (s : Nat) (Pre : MS) : Out → Out
  | .q v => .q (sh s v)
  | .x v M D => .x (sh s v) (Pre ++ shM s M) (D.map (· + s))
section
variable {s base : Nat} {Pre M : MS} {D : List Nat} {env : Env}
theorem sh_flat (v : Value) : sh s (.flat v) = .flat v := rfl
theorem sh_list (sz : Nat) (cs : List AV) (nl cd : Bool) : sh s (.list sz cs nl cd) = .list sz (shL s cs) nl cd := by simp [sh, sh_all, shL]
theorem sh_agg (cs : List AV) : sh s (.agg cs) = .agg (shL s cs) := by simp [sh, sh_all, shL]
theorem sh_elem (x : AV) (k : Nat) : sh s (.elem x k) = .elem (sh s x) k := rfl
theorem sh_mptr (id off : Nat) : sh s (.mptr id off) = .mptr (id + s) off := rfl
theorem sh_ms (id off len sz : Nat) (cd : Bool) : sh s (.ms id off len sz cd) = .ms (id + s) off len sz cd := rfl
theorem sh_clo (fn : Nat) (cs : List AV) : sh s (.clo fn cs) = .clo fn (shL s cs) := by simp [sh, sh_all, shL]
theorem sh_tup (cs : List AV) : sh s (.tup cs) = .tup (shL s cs) := by simp [sh, sh_all, shL]
theorem sh_any : sh s .any = .any := rfl
theorem sh_yld (id y : Nat) (cs : List AV) : sh s (.yld id y cs) = .yld (id + s) y (shL s cs) := by simp [sh, sh_all, shL]
theorem sh_mp (id : Nat) : sh s (.mp id) = .mp (id + s) := rfl
theorem shM_get (hs : Pre.length = s) (id : Nat) : (Pre ++ shM s M)[id + s]? = (M[id]?).map (Option.map (shL s)) := by
  rw [List.getElem?_append_right (by omega), hs, Nat.add_sub_cancel]; simp [shM]
theorem shM_some (hs : Pre.length = s) {id : Nat} {cs : List AV} (h : M[id]? = some (some cs)) : (Pre ++ shM s M)[id + s]? = some (some (shL s cs)) := by rw [shM_get hs, h]; rfl
theorem shM_set (hs : Pre.length = s) (id : Nat) (x : Option (List AV)) : (Pre ++ shM s M).set (id + s) (x.map (shL s)) = Pre ++ shM s (M.set id x) := by
  rw [List.set_append_right _ _ (by omega), hs, Nat.add_sub_cancel]; simp [shM, List.map_set]
theorem shM_len (hs : Pre.length = s) : (Pre ++ shM s M).length = M.length + s := by simp [shM, hs]; omega
mutual
theorem isI_sh : ∀ x : AV, isI (sh s x) = isI x
  | .flat _ => rfl
  | .list _ _ _ _ => by simp [sh, isI]
  | .agg cs => by simp only [sh, isI]; exact isIs_sh cs
  | .elem x _ => by simp only [sh, isI]; exact isI_sh x
  | .mptr _ _ => rfl
  | .ms _ _ _ _ _ => rfl
  | .any => rfl
  | .yld _ _ _ => rfl
  | .mp _ => rfl
  | .clo _ cs => by simp only [sh, isI]; exact isIs_sh cs
  | .tup cs => by simp only [sh, isI]; exact isIs_sh cs
theorem isIs_sh : ∀ cs : List AV, isI.all (sh.all s cs) = isI.all cs
  | [] => rfl
  | c :: cs => by simp only [sh.all, isI.all]; rw [isI_sh c, isIs_sh cs]
end
theorem allI_sh : ∀ cs : List AV, allI (shL s cs) = allI cs
  | [] => rfl
  | c :: cs => by
    have := allI_sh cs
    simp only [shL] at this
    simp only [shL, List.map_cons, allI]; rw [isI_sh c, this]
theorem shL_len (cs : List AV) : (shL s cs).length = cs.length := by simp [shL]
theorem shL_take (cs : List AV) (n : Nat) : (shL s cs).take n = shL s (cs.take n) := by simp [shL, List.map_take]
theorem shL_drop (cs : List AV) (n : Nat) : (shL s cs).drop n = shL s (cs.drop n) := by simp [shL, List.map_drop]
theorem shL_app (cs ds : List AV) : shL s cs ++ shL s ds = shL s (cs ++ ds) := by simp [shL]
theorem shL_get (cs : List AV) (n : Nat) : (shL s cs)[n]? = (cs[n]?).map (sh s) := by simp [shL]
theorem shL_head (cs : List AV) : (shL s cs).head? = cs.head?.map (sh s) := by simp [shL]
theorem splice_sh (cs : List AV) (off : Nat) (xs : List AV) : splice (shL s cs) off (shL s xs) = shL s (splice cs off xs) := by
  simp [splice, shL_take, shL_drop, shL_len, shL_app]
theorem view_sh (hs : Pre.length = s) (x : AV) : view (Pre ++ shM s M) (sh s x) = (view M x).map (shL s) := by
  cases x with
  | list sz cs nl cd => simp [sh_list, view]
  | ms id off len sz cd =>
    simp only [sh_ms, view, shM_get hs]
    cases h : M[id]? with
    | none => rfl
    | some b =>
      cases b with
      | none => rfl
      | some cs =>
        simp only [Option.map_some, shL_len]
        split
        · simp [shL_take, shL_drop]
        · rfl
  | flat v => rfl
  | agg cs => simp [sh_agg, view]
  | elem x k => rfl
  | mptr id off => rfl
  | clo fn cs => simp [sh_clo, view]
  | any => rfl
  | yld id y cs => simp [sh_yld, view]
  | mp id => rfl
  | tup cs => simp [sh_tup, view]
theorem lenOf_sh (x : AV) : lenOf (sh s x) = lenOf x := by
  cases x <;> simp [sh_list, sh_agg, sh_elem, sh_mptr, sh_ms, sh_clo, sh_tup, sh_any, sh_yld, sh_mp, sh_flat, lenOf, shL_len]
theorem lenM_sh (hs : Pre.length = s) (x : AV) : lenM (Pre ++ shM s M) (sh s x) = lenM M x := by
  simp only [lenM, view_sh hs, lenOf_sh]
  cases view M x <;> rfl
theorem aview_sh (hs : Pre.length = s) (x : AV) : aview (Pre ++ shM s M) (sh s x) = (aview M x).map (shL s) := by
  cases x with
  | elem x k =>
    simp only [sh_elem, aview, view_sh hs]
    cases view M x <;> simp [shL_drop]
  | mptr id off =>
    simp only [sh_mptr, aview, shM_get hs]
    cases h : M[id]? with
    | none => rfl
    | some b => cases b <;> simp [shL_drop]
  | list sz cs nl cd => simp [sh_list, aview]
  | ms id off len sz cd => rfl
  | flat v => rfl
  | agg cs => simp [sh_agg, aview]
  | clo fn cs => simp [sh_clo, aview]
  | any => rfl
  | yld id y cs => simp [sh_yld, aview]
  | mp id => rfl
  | tup cs => simp [sh_tup, aview]
theorem ldA_sh (agg : Bool) (n : Nat) (cs : List AV) : ldA agg n (shL s cs) = (ldA agg n cs).map (sh s) := by
  cases agg with
  | false => simp [ldA, shL_head]
  | true =>
    simp only [ldA, if_true, shL_len]
    split
    · simp [sh_agg, shL_take]
    · rfl
theorem aliveA_sh (hs : Pre.length = s) (id : Nat) : aliveA (Pre ++ shM s M) (id + s) = aliveA M id := by
  simp only [aliveA, shM_get hs]
  cases h : M[id]? with
  | none => rfl
  | some b => cases b <;> rfl
theorem cellsOf_sh (x : AV) : cellsOf (sh s x) = (cellsOf x).map (shL s) := by
  cases x with
  | flat v => simp only [sh_flat, cellsOf]; split <;> simp [shL, sh_flat]
  | _ => simp [sh_list, sh_agg, sh_elem, sh_mptr, sh_ms, sh_clo, sh_tup, sh_any, sh_yld, sh_mp, cellsOf, shL]
theorem asInt_sh (x : AV) : asInt (sh s x) = asInt x := by
  cases x <;> simp [sh_list, sh_agg, sh_elem, sh_mptr, sh_ms, sh_clo, sh_tup, sh_any, sh_yld, sh_mp, sh_flat, asInt]
theorem asBool_sh (x : AV) : asBool (sh s x) = asBool x := by
  cases x <;> simp [sh_list, sh_agg, sh_elem, sh_mptr, sh_ms, sh_clo, sh_tup, sh_any, sh_yld, sh_mp, sh_flat, asBool]
theorem asInts_sh (k : IntKind) : ∀ cs : List AV, asInts k (shL s cs) = asInts k cs
  | [] => rfl
  | c :: cs => by
    have ih := asInts_sh k cs
    simp only [shL] at ih
    cases c with
    | flat v => cases v <;> simp [shL, sh_flat, asInts, ih]
    | _ => simp [shL, sh_list, sh_agg, sh_elem, sh_mptr, sh_ms, sh_clo, sh_tup, sh_any, sh_yld, sh_mp, asInts]
theorem frz_sh (hs : Pre.length = s) {x x' : AV} {M' : MS} (h : frz base M x = some (x', M')) : frz (base + s) (Pre ++ shM s M) (sh s x) = some (sh s x', Pre ++ shM s M') := by
  have plain : ∀ {y : AV}, (if isI y = true then some (y, M) else none) = some (x', M') → (if isI (sh s y) = true then some (sh s y, Pre ++ shM s M) else none) = some (sh s x', Pre ++ shM s M') := by
    intro y h
    rw [isI_sh]
    split at h
    · rename_i hi; cases h; rw [if_pos hi]
    · cases h
  cases x with
  | ms id off len sz cd =>
    simp only [frz] at h
    split at h
    · rename_i cs hcs
      split at h
      · rename_i hc
        cases h
        simp only [sh_ms, frz, shM_some hs hcs, shL_len, allI_sh, shL_drop, shL_take]
        rw [if_pos ⟨by omega, hc.2⟩]
        have := shM_set (M := M) hs id none
        simp only [Option.map_none] at this
        rw [this, sh_list]
      · cases h
    · cases h
  | mptr id off => simp [frz] at h
  | any => simp [frz, isI] at h
  | yld id y cs => simp [frz, isI] at h
  | mp id => simp [frz, isI] at h
  | flat v => exact plain (by simpa only [frz] using h)
  | list sz cs nl cd => have := plain (by simpa only [frz] using h); simpa only [sh_list, frz] using this
  | agg cs => have := plain (by simpa only [frz] using h); simpa only [sh_agg, frz] using this
  | elem y k => exact plain (y := .elem y k) (by simpa only [frz] using h)
  | clo fn cs => have := plain (by simpa only [frz] using h); simpa only [sh_clo, frz] using this
  | tup cs => have := plain (by simpa only [frz] using h); simpa only [sh_tup, frz] using this
theorem frzAll_sh (hs : Pre.length = s) : ∀ {cs cs' : List AV} {M M' : MS}, frzAll base M cs = some (cs', M') → frzAll (base + s) (Pre ++ shM s M) (shL s cs) = some (shL s cs', Pre ++ shM s M')
  | [], cs', M, M', h => by simp [frzAll] at h; obtain ⟨rfl, rfl⟩ := h; rfl
  | c :: cs, cs', M, M', h => by
    simp only [frzAll] at h
    split at h
    · rename_i c' M1 h1
      split at h
      · rename_i r' M2 h2
        cases h
        have := frzAll_sh hs h2
        simp only [shL] at this
        simp only [shL, List.map_cons, frzAll, frz_sh hs h1, this]
      · cases h
    · cases h
theorem frz_le {b b' : Nat} (hb : b' ≤ b) {M M' : MS} {x x' : AV} (h : frz b M x = some (x', M')) : frz b' M x = some (x', M') := by
  cases x with
  | ms id off len sz cd =>
    simp only [frz] at h ⊢
    split at h
    · rename_i cs hM
      split at h
      · rename_i hc
        rw [if_pos ⟨by omega, hc.2⟩]; exact h
      · cases h
    · cases h
  | mptr id off => simp [frz] at h
  | _ => simpa only [frz] using h
theorem frzAll_le {b b' : Nat} (hb : b' ≤ b) : ∀ {cs cs' : List AV} {M M' : MS}, frzAll b M cs = some (cs', M') → frzAll b' M cs = some (cs', M')
  | [], _, _, _, h => h
  | c :: cs, cs', M, M', h => by
    simp only [frzAll] at h ⊢
    split at h
    · rename_i c' M1 h1
      rw [frz_le hb h1]
      dsimp only
      split at h
      · rename_i r' M2 h2
        rw [frzAll_le hb h2]; exact h
      · cases h
    · cases h
theorem frzA_sh (hs : Pre.length = s) {x x' : AV} {M' : MS} (h : frzA base M x = some (x', M')) : frzA (base + s) (Pre ++ shM s M) (sh s x) = some (sh s x', Pre ++ shM s M') := by
  cases x with
  | agg cs =>
    simp only [frzA, Option.map_eq_some_iff] at h
    obtain ⟨⟨cs', M1⟩, h1, h2⟩ := h
    cases h2
    simp only [sh_agg, frzA, frzAll_sh hs h1, Option.map_some]
  | flat v => exact frz_sh hs (by simpa only [frzA] using h)
  | list sz cs nl cd => have := frz_sh (Pre := Pre) hs (x := .list sz cs nl cd) (by simpa only [frzA] using h); simpa only [sh_list, frzA] using this
  | elem x k => have := frz_sh (Pre := Pre) hs (x := .elem x k) (by simpa only [frzA] using h); simpa only [sh_elem, frzA] using this
  | mptr id off => simp [frzA, frz] at h
  | any => simp [frzA, frz, isI] at h
  | yld id y cs => simp [frzA, frz, isI] at h
  | mp id => simp [frzA, frz, isI] at h
  | ms id off len sz cd => have := frz_sh (Pre := Pre) hs (x := .ms id off len sz cd) (by simpa only [frzA] using h); simpa only [sh_ms, frzA] using this
  | clo fn cs => have := frz_sh (Pre := Pre) hs (x := .clo fn cs) (by simpa only [frzA] using h); simpa only [sh_clo, frzA] using this
  | tup cs => have := frz_sh (Pre := Pre) hs (x := .tup cs) (by simpa only [frzA] using h); simpa only [sh_tup, frzA] using this
theorem frzTup_sh (hs : Pre.length = s) : ∀ {cs cs' : List AV} {M M' : MS}, frzTup base M cs = some (cs', M') → frzTup (base + s) (Pre ++ shM s M) (shL s cs) = some (shL s cs', Pre ++ shM s M')
  | [], cs', M, M', h => by simp [frzTup] at h; obtain ⟨rfl, rfl⟩ := h; rfl
  | c :: cs, cs', M, M', h => by
    simp only [frzTup] at h
    split at h
    · rename_i c' M1 h1
      split at h
      · rename_i r' M2 h2
        cases h
        have := frzTup_sh hs h2
        simp only [shL] at this
        simp only [shL, List.map_cons, frzTup, frzA_sh hs h1, this]
      · cases h
    · cases h
theorem frzV_sh (hs : Pre.length = s) {x x' : AV} {M' : MS} (h : frzV base M x = some (x', M')) : frzV (base + s) (Pre ++ shM s M) (sh s x) = some (sh s x', Pre ++ shM s M') := by
  cases x with
  | tup cs =>
    simp only [frzV, Option.map_eq_some_iff] at h
    obtain ⟨⟨cs', M1⟩, h1, h2⟩ := h
    cases h2
    simp only [sh_tup, frzV, frzTup_sh hs h1, Option.map_some]
  | flat v => exact frzA_sh hs (by simpa only [frzV] using h)
  | list sz cs nl cd => have := frzA_sh (Pre := Pre) hs (x := .list sz cs nl cd) (by simpa only [frzV] using h); simpa only [sh_list, frzV] using this
  | agg cs => have := frzA_sh (Pre := Pre) hs (x := .agg cs) (by simpa only [frzV] using h); simpa only [sh_agg, frzV] using this
  | elem x k => have := frzA_sh (Pre := Pre) hs (x := .elem x k) (by simpa only [frzV] using h); simpa only [sh_elem, frzV] using this
  | mptr id off => simp [frzV, frzA, frz] at h
  | any => simp [frzV, frzA, frz, isI] at h
  | yld id y cs => simp [frzV, frzA, frz, isI] at h
  | mp id => simp [frzV, frzA, frz, isI] at h
  | ms id off len sz cd => have := frzA_sh (Pre := Pre) hs (x := .ms id off len sz cd) (by simpa only [frzV] using h); simpa only [sh_ms, frzV] using this
  | clo fn cs => have := frzA_sh (Pre := Pre) hs (x := .clo fn cs) (by simpa only [frzV] using h); simpa only [sh_clo, frzV] using this
theorem dirt_sh (id : Nat) : dirt (base + s) (id + s) (D.map (· + s)) = (dirt base id D).map (· + s) := by
  simp only [dirt]
  by_cases h : id < base
  · rw [if_pos h, if_pos (by omega)]; rfl
  · rw [if_neg h, if_neg (by omega)]
theorem dirts_sh (D : List Nat) : ∀ cs : List AV, dirts (base + s) (shL s cs) (D.map (· + s)) = (dirts base cs D).map (· + s)
  | [] => rfl
  | c :: cs => by
    have := dirts_sh D cs
    cases c <;> simp only [shL, List.map_cons, sh, dirts] at this ⊢ <;> first | exact this | (rw [this, dirt_sh])
/-! ### Instructions -/
theorem bin_sh (op : BinOp) (ek : EqK) (x y : AV) : bin op ek (sh s x) (sh s y) = (bin op ek x y).map (sh s) := by
  have eqS : ∀ b, (eqV op b).map (sh s) = eqV op b := by intro b; cases op <;> rfl
  cases x with
  | flat v => cases y with
    | flat u => 
      simp only [sh_flat]
      cases v <;> cases u <;> simp only [bin] <;> (try rfl) <;> (repeat' split) <;> (try rfl) <;> (try exact (eqS _).symm) <;> simp [Option.map_map, Function.comp_def, sh_flat]
    | _ => cases v <;> simp [sh_flat, sh_list, sh_agg, sh_elem, sh_mptr, sh_ms, sh_clo, sh_tup, sh_any, sh_yld, sh_mp, bin]
  | list sz cs nl cd => cases y with
    | list sz' cs' nl' cd' =>
      simp only [sh_list]
      cases cs' with
      | nil =>
        cases nl' with
        | true => simp only [shL, List.map_nil, bin]; split <;> simp [eqS]
        | false => simp [shL, bin]
      | cons c cs' => simp [shL, bin]
    | _ => simp [sh_flat, sh_list, sh_agg, sh_elem, sh_mptr, sh_ms, sh_clo, sh_tup, sh_any, sh_yld, sh_mp, bin]
  | agg cs => cases y with
    | agg cs' =>
      simp only [sh_agg, bin, asInts_sh]
      cases ek with
      | arr n k => 
        simp only
        cases asInts k cs with
        | none => rfl
        | some a => cases asInts k cs' with
          | none => rfl
          | some b => simp only; split <;> simp [eqS]
      | _ => rfl
    | _ => simp [sh_flat, sh_list, sh_agg, sh_elem, sh_mptr, sh_ms, sh_clo, sh_tup, sh_any, sh_yld, sh_mp, bin]
  | ms id off len sz cd => cases y with
    | list sz' cs' nl' cd' =>
      simp only [sh_list, sh_ms]
      cases cs' with
      | nil => cases nl' <;> simp [shL, bin]
      | cons c cs' => simp [shL, bin]
    | _ => simp [sh_flat, sh_agg, sh_elem, sh_mptr, sh_ms, sh_clo, sh_tup, sh_any, sh_yld, sh_mp, bin]
  | _ => simp [sh_flat, sh_list, sh_agg, sh_elem, sh_mptr, sh_ms, sh_clo, sh_tup, sh_any, sh_yld, sh_mp, bin]
theorem unop_sh (op : UnOp) (x : AV) : unop op (sh s x) = (unop op x).map (sh s) := by
  cases x with
  | flat v => cases v <;> cases op <;> simp [sh_flat, unop]
  | _ => simp [sh_list, sh_agg, sh_elem, sh_mptr, sh_ms, sh_clo, sh_tup, sh_any, sh_yld, sh_mp, unop]
theorem optNat_sh (d : Nat) (x : Option AV) : optNat d (x.map (sh s)) = optNat d x := by
  cases x with
  | none => rfl
  | some x => cases x <;> simp [sh_flat, sh_list, sh_agg, sh_elem, sh_mptr, sh_ms, sh_clo, sh_tup, sh_any, sh_yld, sh_mp, optNat]
theorem fillA_sh : ∀ (ps : List (Nat × Nat × AV)) (cells : List AV), fillA (shL s cells) (ps.map fun (o, n, x) => (o, n, sh s x)) = (fillA cells ps).map (shL s)
  | [], cells => by simp [fillA]
  | (off, n, v) :: ps, cells => by
    simp only [List.map_cons, fillA, cellsOf_sh]
    cases cellsOf v with
    | none => rfl
    | some cs =>
      simp only [Option.map_some, shL_len]
      split
      · have := fillA_sh ps (cells.take off ++ cs ++ cells.drop (off + n))
        simpa [shL_take, shL_drop, shL_app] using this
      · rfl
theorem rep_sh (n : Nat) {zs : List AV} (h : shL s zs = zs) : shL s (List.replicate n zs).flatten = (List.replicate n zs).flatten := by
  induction n with
  | zero => rfl
  | succ n ih => rw [List.replicate_succ, List.flatten_cons, ← shL_app, h, ih]
theorem sliceA_sh (sz : Nat) (x : AV) (lo hi mx : Option AV) {out : Out} (h : sliceA sz x lo hi mx = some out) : sliceA sz (sh s x) (lo.map (sh s)) (hi.map (sh s)) (mx.map (sh s)) = some (shO s Pre out) := by
  cases x with
  | list sz' cs nl cd =>
    have hcut : ∀ m h d, cutCapd (mx.map (sh s)) m h d = cutCapd mx m h d := by intro m h d; cases mx <;> rfl
    simp only [sh_list, sliceA, optNat_sh, shL_len, Option.isSome_map, hcut] at h ⊢
    split at h
    · rename_i l hh m h1 h2 h3
      split at h
      · rename_i hc
        rw [if_pos hc]
        split at h
        · rename_i hn; rw [if_pos hn]; cases h; simp [shO, sh_list]
        · rename_i hn; rw [if_neg hn]; cases h; simp [shO, sh_list, shL_take, shL_drop]
      · cases h
    · cases h
  | ms id off len sz' cd =>
    have hcut : ∀ m h d, cutCapd (mx.map (sh s)) m h d = cutCapd mx m h d := by intro m h d; cases mx <;> rfl
    simp only [sh_ms, sliceA, optNat_sh, Option.isSome_map, hcut] at h ⊢
    split at h
    · rename_i l hh m h1 h2 h3
      split at h
      · rename_i hc
        rw [if_pos hc]
        split at h
        · rename_i hn; rw [if_pos hn]; cases h; simp [shO, sh_ms]
        · rename_i hn
          rw [if_neg hn]
          split at h
          · rename_i hl; rw [if_pos hl]; cases h; simp [shO, sh_list, shL]
          · rename_i hl; rw [if_neg hl]; cases h; simp [shO, sh_ms]
      · cases h
    · cases h
  | _ => simp [sliceA] at h
theorem storeA_sh (hs : Pre.length = s) {cs : List AV} {x : AV} {out : Out} (h : storeA base M D cs x = some out) : storeA (base + s) (Pre ++ shM s M) (D.map (· + s)) (shL s cs) (sh s x) = some (shO s Pre out) := by
  cases x with
  | elem y k =>
    cases y with
    | ms id off len sz cd =>
      simp only [storeA] at h
      split at h
      · rename_i cs' M1 hz
        split at h
        · rename_i old ho
          split at h
          · rename_i hc
            cases h
            simp only [sh_elem, sh_ms, storeA, frzAll_sh hs hz, shM_some hs ho, shL_len]
            rw [if_pos hc, splice_sh]
            have := shM_set (M := M1) hs id (some (splice old (off + k) cs'))
            simp only [Option.map_some] at this
            simp only [this, dirt_sh, shO, sh_flat]
          · cases h
        · cases h
      · cases h
    | _ => simp [storeA] at h
  | mptr id off =>
    simp only [storeA] at h
    split at h
    · rename_i old ho
      split at h
      · rename_i hc
        cases h
        simp only [sh_mptr, storeA, shM_some hs ho, shL_len]
        rw [if_pos hc, splice_sh]
        have := shM_set (M := M) hs id (some (splice old off cs))
        simp only [Option.map_some] at this
        simp only [this, dirt_sh, shO, sh_flat]
      · cases h
    · cases h
  | _ => simp [storeA] at h
theorem storeKA_sh (hs : Pre.length = s) {cs : List AV} {x : AV} {out : Out} (h : storeKA base M D cs x = some out) : storeKA (base + s) (Pre ++ shM s M) (D.map (· + s)) (shL s cs) (sh s x) = some (shO s Pre out) := by
  cases x with
  | elem y k =>
    cases y with
    | ms id off len sz cd =>
      simp only [storeKA] at h
      split at h
      · rename_i old ho
        split at h
        · rename_i hc
          cases h
          simp only [sh_elem, sh_ms, storeKA, shM_some hs ho, shL_len]
          rw [if_pos hc, splice_sh]
          have := shM_set (M := M) hs id (some (splice old (off + k) cs))
          simp only [Option.map_some] at this
          simp only [this, dirt_sh, shO, sh_flat]
        · cases h
      · cases h
    | _ => simp [storeKA] at h
  | mptr id off =>
    simp only [storeKA] at h
    split at h
    · rename_i old ho
      split at h
      · rename_i hc
        cases h
        simp only [sh_mptr, storeKA, shM_some hs ho, shL_len]
        rw [if_pos hc, splice_sh]
        have := shM_set (M := M) hs id (some (splice old off cs))
        simp only [Option.map_some] at this
        simp only [this, dirt_sh, shO, sh_flat]
      · cases h
    · cases h
  | _ => simp [storeKA] at h
theorem appA_sh (hs : Pre.length = s) {sz bytes m : Nat} {x : AV} {news : List AV} {out : Out} (h : appA base M D sz bytes x m news = some out) : appA (base + s) (Pre ++ shM s M) (D.map (· + s)) sz bytes (sh s x) m (shL s news) = some (shO s Pre out) := by
  have happ : ∀ (M : MS) (cs : List AV), Pre ++ shM s M ++ [some (shL s cs)] = Pre ++ shM s (M ++ [some cs]) := fun M cs => by simp [shM]
  unfold appA at h ⊢
  split at h
  · rename_i hm
    rw [if_pos hm]
    split at h
    · cases h; simp only [sh_list, shO]
    · split at h
      · rename_i hal; cases h; simp only [sh_ms, aliveA_sh hs, hal, if_true, shO]
      · cases h
    · cases h
  · rename_i hm
    rw [if_neg hm]
    split at h
    · rename_i sz' cs nl cd
      split at h
      · rename_i hc
        cases h
        simp only [sh_list, shL_len, allI_sh]
        rw [if_pos hc]
        simp only [shO, sh_ms, shM_len hs, shL_app, happ]
      · cases h
    · rename_i id off len sz' cd
      split at h
      · rename_i old ho
        split at h
        · rename_i hc
          simp only [sh_ms, shM_some hs ho, shL_len, allI_sh]
          rw [if_pos hc]
          split at h
          · rename_i hcd
            cases h
            rw [if_pos hcd]
            simp only [shO, sh_ms, shM_len hs, shL_app, shL_take, shL_drop, happ]
          · rename_i hcd
            split at h
            · rename_i hof
              cases h
              rw [if_neg hcd, if_pos hof]
              have := shM_set (M := M) hs id none
              simp only [Option.map_none] at this
              simp only [shO, sh_ms, shM_len hs, shL_app, shL_take, this, happ, dirt_sh]
            · cases h
        · cases h
      · cases h
    · cases h
/-- A call's answer, shifted. -/
def CSh (call : Call) : Prop := ∀ f args M out (Pre : MS) (s : Nat), Pre.length = s → call f args M = some out → call f (args.map (sh s)) (Pre ++ shM s M) = some (shO s Pre out)
def O.shut : O → Bool
  | .t _ => true
  | .k v => Av.shut v
/-- The constants of an instruction name no places. -/
def I.shut : I → Bool
  | .alloc zs => Av.shut.all zs
  | .mslice _ _ zs n c => Av.shut.all zs && n.shut && c.shut
  | .build zs ps => Av.shut.all zs && ps.all fun p => p.2.2.shut
  | .bslice _ _ zs ps => Av.shut.all zs && ps.all fun p => p.2.2.shut
  | .clear _ zs x => Av.shut.all zs && x.shut
  | i => i.os.all O.shut
theorem O.ev_sh {x : O} (h : x.shut = true) : x.ev (fun t => sh s (env t)) = sh s (x.ev env) := by
  cases x with
  | t n => rfl
  | k v => exact (sh_shut s v h).symm
theorem os_sh {xs : List O} (h : ∀ x ∈ xs, x.shut = true) : xs.map (·.ev (fun t => sh s (env t))) = (xs.map (·.ev env)).map (sh s) := by
  rw [List.map_map]
  exact List.map_congr_left fun x hx => O.ev_sh (h x hx)
theorem oo_sh {x : Option O} (h : ∀ y ∈ x.toList, y.shut = true) : x.map (·.ev (fun t => sh s (env t))) = (x.map (·.ev env)).map (sh s) := by
  cases x with
  | none => rfl
  | some x => simp [O.ev_sh (h x (by simp))]
theorem parts_sh {ps : List (Nat × Nat × O)} (h : ∀ p ∈ ps, p.2.2.shut = true) : (ps.map fun (o, n, x) => (o, n, x.ev (fun t => sh s (env t)))) = (ps.map fun (o, n, x) => (o, n, x.ev env)).map fun (o, n, x) => (o, n, sh s x) := by
  rw [List.map_map]
  refine List.map_congr_left fun p hp => ?_
  have := O.ev_sh (s := s) (env := env) (h p hp)
  simp only [Function.comp, this]
theorem shL_shut {zs : List AV} (h : Av.shut.all zs = true) : shL s zs = zs := shut_map s h
theorem callA_sh {call : Call} (HC : CSh call) (hs : Pre.length = s) {f : Nat} {args : List AV} {out : Out} (h : evI.callA call base M D f args = some out) :
    evI.callA call (base + s) (Pre ++ shM s M) (D.map (· + s)) f (args.map (sh s)) = some (shO s Pre out) := by
  simp only [evI.callA] at h ⊢
  split at h
  · rename_i v hv; cases h; rw [HC _ _ _ _ Pre s hs hv]; rfl
  · rename_i v M' D' hv
    cases h
    rw [HC _ _ _ _ Pre s hs hv]
    simp only [shO, List.map_append]
    congr 2
    congr 1
    rw [List.filter_map]
    congr 1
    exact List.filter_congr fun x _ => by simp
  · cases h
theorem evI_sh {call : Call} (HC : CSh call) (hs : Pre.length = s) {i : I} {out : Out} (hi : i.shut = true) (h : evI call base env M D i = some out) :
    evI call (base + s) (fun t => sh s (env t)) (Pre ++ shM s M) (D.map (· + s)) i = some (shO s Pre out) := by
  have happ : ∀ (M : MS) (cs : List AV), Pre ++ shM s M ++ [some (shL s cs)] = Pre ++ shM s (M ++ [some cs]) := fun M cs => by simp [shM]
  have mapq : ∀ {r : Option AV} {out : Out}, r.map Out.q = some out → (r.map (sh s)).map Out.q = some (shO s Pre out) := by
    intro r out h
    rw [Option.map_eq_some_iff] at h
    obtain ⟨v, rfl, rfl⟩ := h
    rfl
  cases i <;> simp only [I.shut, I.os, List.all_cons, List.all_nil, Bool.and_true, Bool.and_eq_true, List.all_eq_true, List.all_append] at hi <;> simp only [evI] at h ⊢
  case mov x => cases h; rw [O.ev_sh hi]; rfl
  case pick c a b =>
    rw [O.ev_sh hi.1, O.ev_sh hi.2.1, O.ev_sh hi.2.2, asBool_sh]
    split at h
    · rename_i t ht; cases h; cases t <;> rfl
    · cases h
  case bin op ek x y => rw [O.ev_sh hi.1, O.ev_sh hi.2, bin_sh]; exact mapq h
  case un op x => rw [O.ev_sh hi, unop_sh]; exact mapq h
  case convI k x =>
    rw [O.ev_sh hi]
    split at h
    · rename_i k' n hx; cases h; rw [hx]; rfl
    · cases h
  case convS x =>
    rw [O.ev_sh hi]
    split at h
    · rename_i n hx; cases h; rw [hx]; rfl
    · cases h
  case bytesOf x =>
    rw [O.ev_sh hi]
    split at h
    · rename_i n hx
      rw [hx]
      simp only [sh_flat]
      split at h
      · rename_i hl
        cases h
        rw [if_pos hl]
        simp only [shO, sh_list]
        congr 3
        simp [shL, bytesVals, sh_flat]
      · cases h
    · cases h
  case strOf x =>
    rw [O.ev_sh hi, view_sh hs, lenM_sh hs]
    split at h
    · rename_i cs n h1 h2
      simp only [h1, h2, Option.map_some, shL_len, asInts_sh]
      split at h
      · rename_i hc
        rw [if_pos hc]
        rw [Option.map_eq_some_iff] at h ⊢
        obtain ⟨l, h3, rfl⟩ := h
        exact ⟨l, h3, rfl⟩
      · cases h
    · cases h
  case lenS x =>
    rw [O.ev_sh hi, lenOf_sh]
    rw [Option.map_eq_some_iff] at h ⊢
    obtain ⟨l, h3, rfl⟩ := h
    exact ⟨l, h3, rfl⟩
  case lenStr x =>
    rw [O.ev_sh hi]
    split at h
    · rename_i n hx; cases h; rw [hx]; rfl
    · cases h
  case load agg n a =>
    rw [O.ev_sh hi, aview_sh hs]
    split at h
    · rename_i cs hcs
      rw [hcs]
      simp only [Option.map_some, ldA_sh]
      exact mapq h
    · cases h
  case store n a x =>
    rw [O.ev_sh hi.1, O.ev_sh hi.2, cellsOf_sh]
    split at h
    · rename_i cs hcs
      rw [hcs]
      simp only [Option.map_some, shL_len]
      split at h
      · rename_i hc; rw [if_pos hc]; exact storeA_sh hs h
      · cases h
    · cases h
  case storeK n a x =>
    rw [O.ev_sh hi.1, O.ev_sh hi.2, cellsOf_sh]
    split at h
    · rename_i cs hcs
      rw [hcs]
      simp only [Option.map_some, shL_len]
      split at h
      · rename_i hc; rw [if_pos hc]; exact storeKA_sh hs h
      · cases h
    · cases h
  case alloc zs =>
    cases h
    have := shL_shut (s := s) hi
    simp only [shO, sh_mptr, shM_len hs, ← happ, this]
  case box n x =>
    rw [O.ev_sh hi, cellsOf_sh]
    split at h
    · rename_i cs hcs
      rw [hcs]
      simp only [Option.map_some, shL_len]
      split at h
      · rename_i hc; rw [if_pos hc]; cases h; simp only [shO, sh_mptr, shM_len hs, ← happ]
      · cases h
    · cases h
  case build zs ps =>
    rw [parts_sh hi.2]
    have := fillA_sh (s := s) (ps.map fun (o, n, x) => (o, n, x.ev env)) zs
    rw [shL_shut hi.1] at this
    rw [this]
    rw [Option.map_eq_some_iff] at h
    obtain ⟨cs, h3, rfl⟩ := h
    rw [h3]
    simp only [Option.map_some, shO, sh_agg]
  case bslice sz len zs ps =>
    rw [parts_sh hi.2]
    have := fillA_sh (s := s) (ps.map fun (o, n, x) => (o, n, x.ev env)) (List.replicate len zs).flatten
    rw [rep_sh len (shL_shut hi.1)] at this
    rw [this]
    split at h
    · rename_i cs hcs
      rw [hcs]
      simp only [Option.map_some, allI_sh]
      split at h
      · rename_i ha; rw [if_pos ha]; cases h; simp only [shO, sh_list]
      · rename_i ha
        rw [if_neg ha]
        split at h
        · rename_i cs' M' hz
          rw [frzAll_le (Nat.zero_le (0 + s)) (frzAll_sh hs hz)]
          cases h; simp only [shO, sh_list, dirts_sh]
        · cases h
    · cases h
  case mslice sz bytes zs n c =>
    rw [O.ev_sh hi.1.2, O.ev_sh hi.2]
    split at h
    · rename_i k1 n k2 c h1 h2
      rw [h1, h2]
      simp only [sh_flat]
      split at h
      · rename_i hc
        cases h
        rw [if_pos hc]
        have := rep_sh (s := s) n.toNat (shL_shut hi.1.1)
        simp only [shO, sh_ms, shM_len hs, ← happ, this]
      · cases h
    · cases h
  case slice sz x lo h' mx =>
    rw [O.ev_sh hi.1.1.1, view_sh hs, oo_sh (x := lo) hi.1.1.2, oo_sh (x := h') hi.1.2, oo_sh (x := mx) hi.2]
    split at h
    · rename_i cs hcs
      rw [hcs]
      exact sliceA_sh _ _ _ _ _ h
    · cases h
  case sstr x lo h' =>
    rw [O.ev_sh hi.1.1, oo_sh (x := lo) hi.1.2, oo_sh (x := h') hi.2]
    split at h
    · rename_i u hu
      rw [hu]
      simp only [sh_flat, optNat_sh]
      split at h
      · rename_i l hh h1 h2
        split at h
        · rename_i hc; cases h; (try rw [h1, h2]); (try simp only); rw [if_pos hc]; rfl
        · cases h
      · cases h
    · cases h
  case idx sz x i =>
    rw [O.ev_sh hi.1, O.ev_sh hi.2, lenM_sh hs, asInt_sh]
    split at h
    · rename_i n j h1 h2
      split at h
      · rename_i hc; cases h; (try rw [h1, h2]); (try simp only); rw [if_pos hc]; rfl
      · cases h
    · cases h
  case aidx n sz x i =>
    rw [O.ev_sh hi.1, O.ev_sh hi.2, asInt_sh]
    split at h
    · rename_i j h2
      (try rw [h2])
      (try simp only)
      split at h
      · rename_i hc
        rw [if_pos hc]
        split at h
        · rename_i id off hx
          rw [hx]
          simp only [sh_mptr, aliveA_sh hs]
          split at h
          · rename_i ha; rw [if_pos ha]; cases h; rfl
          · cases h
        · rename_i y k hx; rw [hx]; cases h; rfl
        · cases h
      · cases h
    · cases h
  case ival n sz agg x i =>
    rw [O.ev_sh hi.1, O.ev_sh hi.2, asInt_sh]
    split at h
    · rename_i j cs h1 h2
      rw [h1, h2]
      simp only [sh_agg, shL_len]
      split at h
      · rename_i hc
        rw [if_pos hc]
        cases agg with
        | true => simp only [if_true] at h ⊢; cases h; simp only [shO, sh_agg, shL_take, shL_drop]
        | false => simp only [Bool.false_eq_true, if_false] at h ⊢; rw [shL_get]; exact mapq h
      · cases h
    · cases h
  case istr x i =>
    rw [O.ev_sh hi.1, O.ev_sh hi.2, asInt_sh]
    split at h
    · rename_i u j h1 h2
      rw [h1, h2]
      simp only [sh_flat]
      split at h
      · rename_i hc
        rw [if_pos hc]
        split at h
        · rename_i b hb; cases h; (try rw [hb]); rfl
        · cases h
      · cases h
    · cases h
  case fad off x =>
    rw [O.ev_sh hi]
    split at h
    · rename_i id o hx
      rw [hx]
      simp only [sh_mptr, aliveA_sh hs]
      split at h
      · rename_i ha; rw [if_pos ha]; cases h; rfl
      · cases h
    · rename_i y k hx; rw [hx]; cases h; rfl
    · cases h
  case fld agg off n x =>
    rw [O.ev_sh hi]
    split at h
    · rename_i cs hx
      rw [hx]
      simp only [sh_agg, shL_len]
      split at h
      · rename_i hc
        rw [if_pos hc]
        cases agg with
        | true => simp only [if_true] at h ⊢; cases h; simp only [shO, sh_agg, shL_take, shL_drop]
        | false => simp only [Bool.false_eq_true, if_false] at h ⊢; rw [shL_get]; exact mapq h
      · cases h
    · cases h
  case ext j x =>
    rw [O.ev_sh hi]
    split at h
    · rename_i vs hx
      rw [hx]
      simp only [sh_tup, shL_get]
      exact mapq h
    · cases h
  case clo fn caps =>
    cases h
    rw [os_sh hi]
    simp only [shO, sh_clo, shL]
  case nilck x =>
    rw [O.ev_sh hi]
    split at h
    · rename_i id o hx
      rw [hx]
      simp only [sh_mptr, aliveA_sh hs]
      split at h
      · rename_i ha; rw [if_pos ha]; cases h; rfl
      · cases h
    · rename_i y k hx; rw [hx]; cases h; rfl
    · cases h
  case call f args =>
    rw [os_sh hi]
    exact callA_sh HC hs h
  case calld f args =>
    rw [O.ev_sh hi.1, os_sh hi.2]
    split at h
    · rename_i f' caps hx
      rw [hx]
      simp only [sh_clo, shL, ← List.map_append]
      exact callA_sh HC hs h
    · rename_i id y caps hx
      rw [hx]
      have := callA_sh HC hs h
      simpa only [sh_yld, List.map_cons] using this
    · cases h
  case app sz bytes y x =>
    rw [O.ev_sh hi.1, O.ev_sh hi.2, view_sh hs, lenOf_sh]
    split at h
    · rename_i news m h1 h2
      rw [h1, h2]
      exact appA_sh hs h
    · cases h
  case copy sz y x =>
    rw [O.ev_sh hi.1, O.ev_sh hi.2, view_sh hs, lenOf_sh]
    split at h
    · rename_i id off len sz' cd cs n h1 h2 h3
      rw [h1, h2, h3]
      simp only [sh_ms, Option.map_some]
      split at h
      · rename_i old ho
        simp only [shM_some hs ho, shL_len, allI_sh]
        split at h
        · rename_i hc
          cases h
          rw [if_pos hc]
          have := shM_set (M := M) hs id (some (splice old off (cs.take (Nat.min n len * sz))))
          simp only [Option.map_some, ← splice_sh, ← shL_take] at this
          simp only [this, dirt_sh, shO, sh_flat]
        · cases h
      · cases h
    · cases h
  case min x y =>
    rw [O.ev_sh hi.1, O.ev_sh hi.2]
    split at h
    · rename_i k a k' b h1 h2
      rw [h1, h2]
      simp only [sh_flat]
      split at h
      · rename_i hc; cases h; rw [if_pos hc]; rfl
      · cases h
    · cases h
  case max x y =>
    rw [O.ev_sh hi.1, O.ev_sh hi.2]
    split at h
    · rename_i k a k' b h1 h2
      rw [h1, h2]
      simp only [sh_flat]
      split at h
      · rename_i hc; cases h; rw [if_pos hc]; rfl
      · cases h
    · cases h
  case clear sz zs x =>
    rw [O.ev_sh hi.2]
    split at h
    · rename_i sz' nl cd hx; rw [hx]; cases h; simp only [sh_list, shL, List.map_nil, shO, sh_flat]
    · rename_i id off len sz' cd hx
      rw [hx]
      simp only [sh_ms]
      split at h
      · rename_i old ho
        simp only [shM_some hs ho, shL_len]
        split at h
        · rename_i hc
          rw [if_pos hc]
          split at h
          · rename_i hl; cases h; rw [if_pos hl]; rfl
          · rename_i hl
            cases h
            rw [if_neg hl]
            have := shM_set (M := M) hs id (some (splice old off (List.replicate len zs).flatten))
            simp only [Option.map_some, ← splice_sh, rep_sh len (shL_shut hi.1)] at this
            simp only [this, dirt_sh, shO, sh_flat]
        · cases h
      · cases h
    · cases h
  case stop => cases h
/-! ### Code and functions -/
def AOp.shut (o : AOp) : Bool := o.i.shut
def AC.shut : AC → Bool
  | .seq a b => a.shut && b.shut
  | .cond c a b => c.shut && (a.shut && b.shut)
  | .block _ a => a.shut
  | .loop a => a.shut
  | .region _ ops => ops.all AOp.shut
  | .range _ g _ => g.shut
  | .regionC _ ops => ops.all AOp.shut
  | _ => true
theorem wantA_sh (g : Option (Nat × Bool)) : wantA (fun t => sh s (env t)) g = wantA env g := by
  cases g with
  | none => rfl
  | some p =>
    obtain ⟨t, b⟩ := p
    simp only [wantA]
    cases env t <;> simp [sh_flat, sh_list, sh_agg, sh_elem, sh_mptr, sh_ms, sh_clo, sh_tup, sh_any, sh_yld, sh_mp]
theorem updO_sh (d : Option Nat) (v : AV) : updO (fun t => sh s (env t)) d (sh s v) = fun t => sh s (updO env d v t) := by
  funext t
  simp only [upd_if]
  split <;> rfl
theorem evQ_sh {call : Call} (HC : CSh call) (hs : Pre.length = s) : ∀ {ops : List AOp} {env env' : Env}, ops.all AOp.shut = true → evQ call base M ops env = some env' → evQ call (base + s) (Pre ++ shM s M) ops (fun t => sh s (env t)) = some (fun t => sh s (env' t))
  | [], env, env', _, h => by simp only [evQ, Option.some.injEq] at h ⊢; rw [h]
  | o :: r, env, env', ho, h => by
    simp only [List.all_cons, Bool.and_eq_true] at ho
    simp only [evQ, wantA_sh] at h ⊢
    split at h
    · rename_i hw
      (try rw [hw])
      split at h
      · rename_i v hv
        have := evI_sh (D := []) HC hs ho.1 hv
        simp only [List.map_nil, shO] at this
        simp only [this, updO_sh]
        exact evQ_sh HC hs ho.2 h
      · cases h
    · rename_i hw
      (try rw [hw])
      have := updO_sh (s := s) (env := env) o.dst (.flat undef)
      simp only [sh_flat] at this
      simp only [this]
      exact evQ_sh HC hs ho.2 h
    · cases h
theorem calm_sh {id : Nat} {i : I} (hi : i.shut = true) : i.calm (id + s) (fun t => sh s (env t)) = i.calm id env := by
  have key : ∀ {x : O}, x.shut = true → (match x.ev (fun t => sh s (env t)) with | .mptr i _ => i != id + s | _ => false) = (match x.ev env with | .mptr i _ => i != id | _ => false) := by
    intro x hx
    rw [O.ev_sh hx]
    cases x.ev env <;> simp [sh_flat, sh_list, sh_agg, sh_elem, sh_mptr, sh_ms, sh_clo, sh_tup, sh_any, sh_yld, sh_mp]
    rename_i j _
    by_cases h : j = id
    · simp [h]
    · simp only [bne, beq_eq_false_iff_ne.2 h, beq_eq_false_iff_ne.2 (show j + s ≠ id + s by omega)]
  cases i <;> simp only [I.calm] <;> first | rfl | skip
  all_goals (simp only [I.shut, I.os, List.all_cons, List.all_nil, Bool.and_true] at hi; exact key hi)
theorem calmQ_sh {call : Call} (HC : CSh call) (hs : Pre.length = s) {id : Nat} : ∀ {ops : List AOp} {env : Env}, ops.all AOp.shut = true → calmQ call base M id ops env = true → calmQ call (base + s) (Pre ++ shM s M) (id + s) ops (fun t => sh s (env t)) = true
  | [], _, _, _ => rfl
  | o :: r, env, ho, hq => by
    simp only [List.all_cons, Bool.and_eq_true] at ho
    simp only [calmQ, Bool.and_eq_true] at hq ⊢
    obtain ⟨h1, h2, h3⟩ := hq
    refine ⟨h1, by rw [calm_sh ho.1]; exact h2, ?_⟩
    split at h3
    · rename_i v hv
      have := evI_sh (D := []) HC hs ho.1 hv
      simp only [List.map_nil, shO] at this
      rw [this]
      simp only [updO_sh]
      exact calmQ_sh HC hs ho.2 h3
    · cases h3
theorem tgtK_sh {o : Option AOp} {id : Nat} (ho : ∀ x, o = some x → x.shut = true) (h : tgtK env o = some id) : tgtK (fun t => sh s (env t)) o = some (id + s) := by
  unfold tgtK at h ⊢
  split at h
  · rename_i n a x
    have := ho _ rfl
    simp only [AOp.shut, I.shut, I.os, List.all_cons, List.all_nil, Bool.and_true, Bool.and_eq_true] at this
    rw [O.ev_sh this.1]
    split at h
    · rename_i i off ha
      cases h
      rw [ha]; rfl
    · cases h
  · cases h
theorem evS_sh {call : Call} (HC : CSh call) (hs : Pre.length = s) : ∀ {ops : List AOp} {env env' : Env} {M M' : MS} {D D' : List Nat}, ops.all AOp.shut = true → evS call base ops env M D = some (env', M', D') →
    evS call (base + s) ops (fun t => sh s (env t)) (Pre ++ shM s M) (D.map (· + s)) = some (fun t => sh s (env' t), Pre ++ shM s M', D'.map (· + s))
  | [], env, env', M, M', D, D', _, h => by simp only [evS, Option.some.injEq, Prod.mk.injEq] at h ⊢; obtain ⟨rfl, rfl, rfl⟩ := h; exact ⟨rfl, rfl, rfl⟩
  | o :: r, env, env', M, M', D, D', ho, h => by
    simp only [List.all_cons, Bool.and_eq_true] at ho
    simp only [evS, wantA_sh] at h ⊢
    split at h
    · rename_i hw
      (try rw [hw])
      split at h
      · rename_i v hv
        have := evI_sh HC hs ho.1 hv
        simp only [shO] at this
        simp only [this, updO_sh]
        exact evS_sh HC hs ho.2 h
      · rename_i v M1 D1 hv
        have := evI_sh HC hs ho.1 hv
        simp only [shO] at this
        simp only [this, updO_sh]
        exact evS_sh HC hs ho.2 h
      · cases h
    · rename_i hw
      (try rw [hw])
      have := updO_sh (s := s) (env := env) o.dst (.flat undef)
      simp only [sh_flat] at this
      simp only [this]
      exact evS_sh HC hs ho.2 h
    · cases h
theorem evAC_sh {call : Call} (HC : CSh call) (hs : Pre.length = s) {n : Nat} : ∀ {c : AC} {env env' : Env} {M M' : MS} {D D' : List Nat} {ex : Ex}, c.shut = true → evAC call base n c env M D = some (ex, env', M', D') →
    evAC call (base + s) n c (fun t => sh s (env t)) (Pre ++ shM s M) (D.map (· + s)) = some (ex, fun t => sh s (env' t), Pre ++ shM s M', D'.map (· + s)) := by
  intro c
  induction c with
  | skip => intro env env' M M' D D' ex _ h; simp only [evAC, Option.some.injEq, Prod.mk.injEq] at h ⊢; obtain ⟨rfl, rfl, rfl, rfl⟩ := h; exact ⟨rfl, rfl, rfl, rfl⟩
  | exit id => intro env env' M M' D D' ex _ h; simp only [evAC, Option.some.injEq, Prod.mk.injEq] at h ⊢; obtain ⟨rfl, rfl, rfl, rfl⟩ := h; exact ⟨rfl, rfl, rfl, rfl⟩
  | ret => intro env env' M M' D D' ex _ h; simp only [evAC, Option.some.injEq, Prod.mk.injEq] at h ⊢; obtain ⟨rfl, rfl, rfl, rfl⟩ := h; exact ⟨rfl, rfl, rfl, rfl⟩
  | stop => intro env env' M M' D D' ex _ h; simp [evAC] at h
  | seq x y ihx ihy =>
    intro env env' M M' D D' ex hc h
    simp only [AC.shut, Bool.and_eq_true] at hc
    simp only [evAC] at h ⊢
    split at h
    · rename_i e1 M1 D1 h1
      rw [ihx hc.1 h1]; exact ihy hc.2 h
    · rename_i hne
      rw [ihx hc.1 h]
      cases ex with
      | nrm => exact absurd h (hne _ _ _)
      | exit id => rfl
      | ret => rfl
  | cond o x y ihx ihy =>
    intro env env' M M' D D' ex hc h
    simp only [AC.shut, Bool.and_eq_true] at hc
    simp only [evAC, O.ev_sh hc.1, asBool_sh] at h ⊢
    split at h
    · rename_i hb; (try rw [hb]); exact ihx hc.2.1 h
    · rename_i hb; (try rw [hb]); exact ihy hc.2.2 h
    · cases h
  | block id x ih =>
    intro env env' M M' D D' ex hc h
    simp only [AC.shut] at hc
    simp only [evAC] at h ⊢
    split at h
    · rename_i id' e1 M1 D1 h1
      rw [ih hc h1]
      simp only
      split at h <;> rename_i hid <;> (simp only [Option.some.injEq, Prod.mk.injEq] at h; obtain ⟨rfl, rfl, rfl, rfl⟩ := h)
      · rw [if_pos hid]
      · rw [if_neg hid]
    · rename_i hne
      rw [ih hc h]
      cases ex with
      | nrm => rfl
      | exit id' => exact absurd h (hne _ _ _ _)
      | ret => rfl
  | loop x ih =>
    intro env env' M M' D D' ex hc h
    simp only [AC.shut] at hc
    simp only [evAC] at h ⊢
    have key : ∀ (k : Nat) {env : Env} {M : MS} {D : List Nat}, evLoop (evAC call base n x) k env M D = some (ex, env', M', D') → evLoop (evAC call (base + s) n x) k (fun t => sh s (env t)) (Pre ++ shM s M) (D.map (· + s)) = some (ex, fun t => sh s (env' t), Pre ++ shM s M', D'.map (· + s)) := by
      intro k
      induction k with
      | zero => intro env M D h; simp [evLoop] at h
      | succ k ihk =>
        intro env M D h
        simp only [evLoop] at h ⊢
        split at h
        · rename_i e1 M1 D1 h1
          rw [ih hc h1]; exact ihk h
        · rename_i hne
          rw [ih hc h]
          cases ex with
          | nrm => exact absurd h (hne _ _ _)
          | exit id => rfl
          | ret => rfl
    exact key n h
  | region k ops =>
    intro env env' M M' D D' ex hc h
    simp only [AC.shut, List.all_eq_true] at hc
    simp only [evAC] at h ⊢
    split at h
    · rename_i e1 h1
      rw [evQ_sh HC hs (by simp only [List.all_eq_true]; exact fun x hx => hc x (List.mem_of_mem_take hx)) h1]
      simp only
      split at h
      · rename_i e2 M2 D2 h2
        rw [evS_sh HC hs (by simp only [List.all_eq_true]; exact fun x hx => hc x (List.mem_of_mem_drop hx)) h2]
        simp only [Option.some.injEq, Prod.mk.injEq] at h
        obtain ⟨rfl, rfl, rfl, rfl⟩ := h
        rfl
      · cases h
    · cases h
  | regionC k ops =>
    intro env env' M M' D D' ex hc h
    simp only [AC.shut, List.all_eq_true] at hc
    simp only [evAC] at h ⊢
    have htk : (ops.take k).all AOp.shut = true := by simp only [List.all_eq_true]; exact fun x hx => hc x (List.mem_of_mem_take hx)
    split at h
    · rename_i e1 h1
      rw [evQ_sh HC hs htk h1]
      simp only
      split at h
      · rename_i id ht
        rw [tgtK_sh (fun x hx => hc x (List.mem_of_getElem? hx)) ht]
        simp only
        split at h
        · rename_i hcq
          rw [if_pos (calmQ_sh HC hs htk hcq)]
          split at h
          · rename_i e2 M2 D2 h2
            rw [evS_sh HC hs (by simp only [List.all_eq_true]; exact fun x hx => hc x (List.mem_of_mem_drop hx)) h2]
            simp only [Option.some.injEq, Prod.mk.injEq] at h
            obtain ⟨rfl, rfl, rfl, rfl⟩ := h
            rfl
          · cases h
        · cases h
      · cases h
    · cases h
  | range y g pl =>
    intro env env' M M' D D' ex hc h
    simp only [AC.shut] at hc
    simp only [evAC] at h ⊢
    rw [O.ev_sh hc]
    split at h
    rotate_left
    · cases h
    rename_i f caps hg
    rw [hg]
    simp only [sh_clo]
    have hl : (pl.map fun t => sh s (env t)) = shL s (pl.map env) := by simp [shL]
    have hb : Pre ++ shM s M ++ [some [AV.flat (.int .i64 0), AV.flat (.int .i64 0)]] = Pre ++ shM s (M ++ [some [AV.flat (.int .i64 0), AV.flat (.int .i64 0)]]) := by simp [shM, shL, sh_flat]
    have ha : ∀ {out : Out}, call f (.yld M.length y (pl.map env) :: caps) (M ++ [some [AV.flat (.int .i64 0), AV.flat (.int .i64 0)]]) = some out →
        call f (.yld (Pre ++ shM s M).length y (pl.map fun t => sh s (env t)) :: shL s caps) (Pre ++ shM s M ++ [some [AV.flat (.int .i64 0), AV.flat (.int .i64 0)]]) = some (shO s Pre out) := by
      intro out ho
      have := HC _ _ _ _ Pre s hs ho
      rw [hb, hl, shM_len hs]
      simpa only [List.map_cons, sh_yld, shL] using this
    split at h
    · rename_i x M1 D1 h1
      rw [ha h1]
      simp only [shO]
      split at h
      rotate_left
      · cases h
      rename_i st pd hM
      have hM2 := shM_some hs hM
      rw [shM_len hs, hM2]
      simp only [shL, List.map_cons, List.map_nil, sh_flat]
      split at h
      · cases h
      rename_i hst
      rw [if_neg hst]
      simp only [Option.some.injEq, Prod.mk.injEq] at h
      obtain ⟨rfl, rfl, rfl, rfl⟩ := h
      have hset := shM_set (M := M1) hs M.length (some [.flat (.int .i64 3), .flat (.int .i64 pd)])
      simp only [Option.map_some, shL, List.map_cons, List.map_nil, sh_flat] at hset
      rw [hset]
      simp only [Option.some.injEq, Prod.mk.injEq, true_and, List.map_append]
      congr 1
      rw [List.filter_map]
      congr 1
      exact List.filter_congr fun x _ => by simp
    · rename_i x h1
      rw [ha h1]
      simp only [shO]
      simp only [Option.some.injEq, Prod.mk.injEq] at h
      obtain ⟨rfl, rfl, rfl, rfl⟩ := h
      simp [shM, shL, sh_flat]
    · cases h
theorem envY_sh (ps pl : List Nat) (caps args : List AV) : envY ps pl (shL s caps) (shL s args) = fun t => sh s (envY ps pl caps args t) := by
  have key : ∀ (q : List Nat) (xs : List AV) (e : Env), (q.zip (shL s xs)).foldl (fun e p => upd e p.1 p.2) (fun t => sh s (e t)) = fun t => sh s ((q.zip xs).foldl (fun e p => upd e p.1 p.2) e t) := by
    intro q
    induction q with
    | nil => intro xs e; simp
    | cons a q ih =>
      intro xs e
      cases xs with
      | nil => simp [shL]
      | cons x xs =>
        simp only [shL, List.map_cons, List.zip_cons_cons, List.foldl_cons]
        have : upd (fun t => sh s (e t)) a (sh s x) = fun t => sh s (upd e a x t) := by
          funext t; unfold upd; split <;> rfl
        rw [this]
        exact ih xs _
  unfold envY
  have := key pl caps fun _ => .any
  rw [← key]
  congr 1
theorem rvA_sh (hs : Pre.length = s) (r : RV) : rvA (fun t => sh s (env t)) (Pre ++ shM s M) r = (rvA env M r).map (sh s) := by
  cases r with
  | t n => rfl
  | cell a agg n =>
    simp only [rvA, aview_sh hs]
    cases aview M (env a) with
    | none => rfl
    | some cs => simp only [Option.map_some, ldA_sh]
theorem resA_sh (hs : Pre.length = s) : ∀ rs : List RV, resA (fun t => sh s (env t)) (Pre ++ shM s M) rs = (resA env M rs).map (shL s)
  | [] => rfl
  | r :: rs => by
    simp only [resA, rvA_sh hs, resA_sh hs rs]
    cases rvA env M r with
    | none => rfl
    | some v => cases resA env M rs with
      | none => rfl
      | some vs => simp [shL]
theorem tupA_sh (vs : List AV) : tupA (shL s vs) = sh s (tupA vs) := by
  match vs with
  | [] => simp [tupA, shL, sh_tup]
  | [v] => simp [tupA, shL]
  | v :: u :: r => simp [tupA, shL, sh_tup]
theorem fin_sh (hs : Pre.length = s) {keep : Bool} {r : AV} {out : Out} (h : fin base keep r M D = some out) : fin (base + s) keep (sh s r) (Pre ++ shM s M) (D.map (· + s)) = some (shO s Pre out) := by
  unfold fin at h ⊢
  cases keep with
  | true => simp only [if_true] at h ⊢; cases h; rfl
  | false =>
    simp only [Bool.false_eq_true, if_false] at h ⊢
    split at h
    · rename_i r' M' hz
      rw [frzV_sh hs hz]
      simp only [isI_sh]
      split at h
      · rename_i hi
        (try rw [if_pos hi])
        split at h
        · cases h; rfl
        · rename_i hne
          have hal : ((D.map (· + s)).all fun id => match (Pre ++ shM s M')[id]? with | some (some cs) => allI cs | _ => true) = (D.all fun id => match M'[id]? with | some (some cs) => allI cs | _ => true) := by
            rw [List.all_map]
            congr 1
            funext id
            simp only [Function.comp, shM_get hs]
            cases M'[id]? with
            | none => rfl
            | some b => cases b with
              | none => rfl
              | some cs => simp [allI_sh]
          have htk : (Pre ++ shM s M').take (base + s) = Pre ++ shM s (M'.take base) := by
            rw [List.take_append]
            simp [hs, shM, List.map_take, List.take_of_length_le]
          cases D with
          | nil => exact absurd rfl hne
          | cons d D =>
            simp only [List.map_cons] at hal ⊢
            split at h
            · rename_i ha; cases h; refine (if_pos ?_).trans ?_
              · exact hal.trans ha
              · simp only [htk, shO, List.map_cons]
            · rename_i ha; cases h; refine (if_neg ?_).trans ?_
              · exact fun hh => ha (hal.symm.trans hh)
              · simp only [shO, List.map_cons]
      · cases h
    · cases h
theorem evRound_sh {call : Call} (HC : CSh call) (hs : Pre.length = s) {n id : Nat} {ay : AY} {caps args : List AV} {out : Out} (h1 : ay.assign.shut = true) (h2 : ay.body.shut = true) (h : evRound call n ay id caps args M = some out) :
    evRound call n ay (id + s) (shL s caps) (shL s args) (Pre ++ shM s M) = some (shO s Pre out) := by
  unfold evRound at h ⊢
  simp only [shL_len]
  split at h
  rotate_left
  · cases h
  rename_i hl
  rw [if_pos hl]
  split at h
  rotate_left
  · cases h
  rename_i env M1 D1 ha
  have ha2 := evAC_sh HC hs h1 ha
  simp only [List.map_nil] at ha2
  rw [shM_len hs, envY_sh, ha2]
  simp only
  split at h
  rotate_left
  · cases h
  rename_i st pd hM
  have hM2 := shM_some hs hM
  rw [hM2]
  simp only [shL, List.map_cons, List.map_nil, sh_flat]
  split at h
  rotate_left
  · cases h
  rename_i hst
  rw [if_pos hst]
  split at h
  rotate_left
  · cases h
  rename_i ex env2 M2 D2 hb
  cases h
  have hb2 := evAC_sh HC hs h2 hb
  have hset := shM_set (M := M1) hs id (some [.flat (.int .i64 1), .flat (.int .i64 pd)])
  simp only [Option.map_some, shL, List.map_cons, List.map_nil, sh_flat] at hset
  rw [hset, dirt_sh, hb2]
  have hset2 := shM_set (M := M2) hs id (some [.flat (.int .i64 (if ex = .nrm then 0 else 2)), .flat (.int .i64 (unpend ex))])
  simp only [Option.map_some, shL, List.map_cons, List.map_nil, sh_flat] at hset2
  simp only [hset2, dirt_sh, shO, sh_flat]
theorem evFn_sh {p : Pr} (hA : ∀ f af, p.A f = some af → af.body.shut = true) (hE : CSh p.ext) (hY : ∀ y ay, p.Y y = some ay → ay.assign.shut = true ∧ ay.body.shut = true) : ∀ n, CSh (evFn p n)
  | 0 => fun f args M out Pre s hs h => by simp [evFn] at h
  | n + 1 => fun f args M out Pre s hs h => by
    simp only [evFn] at h ⊢
    split at h
    · rename_i af haf
      (try rw [haf])
      have henv : env0 (args.map (sh s)) = fun t => sh s (env0 args t) := by
        funext t
        simp only [env0, List.getD_eq_getElem?_getD, List.getElem?_map]
        cases args[t]? <;> rfl
      split at h
      · cases h
      · rename_i ex env' M' D' hne hev
        have h1 := evAC_sh (evFn_sh hA hE hY n) hs (hA f af haf) hev
        simp only [List.map_nil] at h1
        rw [shM_len hs, henv, h1]
        split at h
        · rename_i vs hvs
          have h2 : resA (fun t => sh s (env' t)) (Pre ++ shM s M') af.res = some (shL s vs) := by rw [resA_sh hs, hvs]; rfl
          cases ex with
          | exit id => exact absurd rfl (hne id)
          | nrm => simp only [h2, tupA_sh]; exact fin_sh hs h
          | ret => simp only [h2, tupA_sh]; exact fin_sh hs h
        · cases h
      · cases h
    · rename_i haf
      (try rw [haf])
      split at h
      · rename_i ay hay
        (try rw [hay])
        split at h
        · rename_i id y caps vals
          split at h
          · rename_i hy
            subst hy
            simp only [List.map_cons, sh_yld, if_true]
            exact evRound_sh (evFn_sh hA hE hY n) hs (hY _ _ hay).1 (hY _ _ hay).2 h
          · cases h
        · cases h
      · rename_i hay
        (try rw [hay])
        exact hE f args M out Pre s hs h
/-- What comes of values that name no places, in no memory, comes of them in any. -/
theorem ev_any {p : Pr} (hA : ∀ f af, p.A f = some af → af.body.shut = true) (hE : CSh p.ext) (hY : ∀ y ay, p.Y y = some ay → ay.assign.shut = true ∧ ay.body.shut = true) {f : Nat} {args : List AV} {v : AV} (ha : Av.shut.all args = true) (hv : Av.shut v = true) (h : ev p f args [] = some (.q v)) (M : MS) : ev p f args M = some (.q v) := by
  obtain ⟨n, hn⟩ := ev_some.1 h
  have := evFn_sh hA hE hY n f args [] (.q v) M M.length rfl hn
  rw [shut_map _ ha] at this
  simp only [shM, List.map_nil, List.append_nil, shO, sh_shut _ v hv] at this
  exact ev_some.2 ⟨n, this⟩
theorem orC_sh {c d : Call} (hc : CSh c) (hd : CSh d) (hx : ∀ f args M out Pre s, Pre.length = s → c f args M = none → d f args M = some out → c f (args.map (sh s)) (Pre ++ shM s M) = none) : CSh (orC c d) := by
  intro f args M out Pre s hs h
  unfold orC at h ⊢
  split at h
  · rename_i r hr; cases h; rw [hc _ _ _ _ Pre s hs hr]
  · rename_i hn
    rw [hx _ _ _ _ Pre s hs hn h]
    exact hd _ _ _ _ Pre s hs h
theorem asStrs_sh : ∀ cs : List AV, asStrs (shL s cs) = asStrs cs
  | [] => rfl
  | c :: cs => by
    have ih := asStrs_sh cs
    simp only [shL] at ih
    cases c with
    | flat v => cases v <;> simp [shL, sh_flat, asStrs, ih]
    | _ => simp [shL, sh_list, sh_agg, sh_elem, sh_mptr, sh_ms, sh_clo, sh_tup, sh_any, sh_yld, sh_mp, asStrs]
theorem extS_sh (sf : Nat) : CSh (extS sf) := by
  intro f args M out Pre s hs h
  unfold extS at h ⊢
  split at h
  · rename_i hf
    rw [if_pos hf]
    unfold sortA at h
    split at h
    · rename_i id off len sz cd
      split at h
      · rename_i cs hcs
        split at h
        · rename_i hc
          split at h
          · rename_i l hl
            cases h
            simp only [List.map_cons, List.map_nil, sh_ms, sortA, shM_some hs hcs, shL_len, shL_drop, shL_take, asInts_sh]
            rw [if_pos hc, hl]
            have h1 : shL s (intsA (sorted l)) = intsA (sorted l) := by simp [shL, intsA, sh_flat]
            have := shM_set (M := M) hs id (some (splice cs off (intsA (sorted l))))
            simp only [Option.map_some, ← splice_sh, h1] at this
            simp only [this, shO, sh_flat, List.map_cons, List.map_nil]
          · cases h
        · cases h
      · cases h
    · cases h
  · cases h
theorem extS0_sh (sf : Nat) : CSh (extS0 sf) := by
  intro f args M out Pre s hs h
  unfold extS0 at h ⊢
  split at h
  · rename_i hf
    rw [if_pos hf]
    split at h
    · cases h; rfl
    · cases h
  · cases h
theorem extJ_sh (jf : Nat) : CSh (extJ jf) := by
  intro f args M out Pre s hs h
  unfold extJ at h ⊢
  split at h
  · rename_i hf
    rw [if_pos hf]
    unfold joinA at h
    split at h
    · rename_i x sep
      split at h
      · rename_i cs n h1 h2
        split at h
        · rename_i l hl
          split at h
          · rename_i hc
            cases h
            simp only [List.map_cons, List.map_nil, sh_flat, joinA, view_sh hs, lenM_sh hs, h1, h2, Option.map_some, asStrs_sh, hl]
            rw [if_pos hc]; rfl
          · cases h
        · cases h
      · cases h
    · cases h
  · cases h
end
end Go.Proofs.Ytopiaiibpacmlaa.Av
namespace Go.Proofs.Ytopiaiibpacmlaa.Av
open Go.RowKit
set_option linter.unusedSimpArgs false
def I64 (n : Int) : Prop := -9223372036854775808 ≤ n ∧ n ≤ 9223372036854775807
theorem i64_wf {n : Int} (h : (Lit.int .i64 n).wf = true) : I64 n := by
  simp only [Lit.wf, Bool.and_eq_true, decide_eq_true_eq] at h
  exact ⟨h.1, h.2⟩
theorem int_arg {x : AV} (h : (DT.int .i64).Arg x) : ∃ n, x = .flat (.int .i64 n) ∧ I64 n := by
  obtain ⟨n, h1, h2⟩ := h
  simp only [List.cons.injEq, and_true] at h1
  exact ⟨n, h1, i64_wf h2⟩
theorem ints_has : ∀ {rows : List (List AV)}, (∀ r ∈ rows, (DT.int .i64).Has r ∧ r.length = 1) → ∃ l, rows.flatten = intsA l ∧ l.length = rows.length ∧ ∀ n ∈ l, I64 n
  | [], _ => ⟨[], rfl, rfl, fun n h => by simp at h⟩
  | r :: rows, h => by
    obtain ⟨⟨n, h1, h2⟩, _⟩ := h r (by simp)
    obtain ⟨l, h3, h4, h5⟩ := ints_has (rows := rows) fun r hr => h r (by simp [hr])
    refine ⟨n :: l, by rw [List.flatten_cons, h3, h1]; rfl, by simp [h4], fun m hm => ?_⟩
    rcases List.mem_cons.1 hm with rfl | hm
    · exact i64_wf h2
    · exact h5 m hm
/-- A slice of whole numbers. -/
def IsInts (x : AV) (l : List Int) : Prop := ∃ nl cd, x = .list 1 (intsA l) nl cd ∧ (nl = true → l = [] ∧ cd = true)
end Go.Proofs.Ytopiaiibpacmlaa.Av
namespace Go.Proofs.Ytopiaiibpacmlaa.Av
open Go.RowKit
set_option linter.unusedSimpArgs false
/-- A row that a function of this call's own made by append, or that can't be written: its cells. -/
def Buf (m : MS) (x : AV) (sz : Nat) (cs : List AV) : Prop := 0 < sz ∧ allI cs = true ∧ (∃ n, cs.length = n * sz) ∧
  ((x = .list sz cs true true ∧ cs = []) ∨ x = .list sz cs false true ∨ ∃ id, x = .ms id 0 (cs.length / sz) sz false ∧ m[id]? = some (some cs))
theorem Buf.pos {m : MS} {x : AV} {sz : Nat} {cs : List AV} (h : Buf m x sz cs) : 0 < sz := h.1
theorem Buf.len {m : MS} {x : AV} {sz : Nat} {cs : List AV} (h : Buf m x sz cs) : cs.length / sz * sz = cs.length := by
  obtain ⟨h0, _, ⟨n, hn⟩, _⟩ := h
  rw [hn, Nat.mul_div_cancel _ h0]
theorem Buf.view {m : MS} {x : AV} {sz : Nat} {cs : List AV} (h : Buf m x sz cs) : view m x = some cs := by
  have hl := h.len
  obtain ⟨h0, _, _, h | h | ⟨id, rfl, h⟩⟩ := h
  · rw [h.1]; rfl
  · rw [h]; rfl
  · simp only [Av.view, h, hl, Nat.zero_add, Nat.le_refl, if_true, List.drop_zero, List.take_length]
theorem Buf.lenOf {m : MS} {x : AV} {sz : Nat} {cs : List AV} (h : Buf m x sz cs) : lenOf x = some (cs.length / sz) := by
  obtain ⟨_, _, _, h | h | ⟨id, rfl, h⟩⟩ := h
  · rw [h.1]; rfl
  · rw [h]; rfl
  · rfl
theorem Buf.lenM {m : MS} {x : AV} {sz : Nat} {cs : List AV} (h : Buf m x sz cs) : lenM m x = some (cs.length / sz) := by
  simp only [Av.lenM, h.view, h.lenOf]
theorem Buf.nil (m : MS) {sz : Nat} (h : 0 < sz) : Buf m (.list sz [] true true) sz [] := ⟨h, rfl, ⟨0, by simp⟩, .inl ⟨rfl, rfl⟩⟩
theorem allI_app : ∀ {a b : List AV}, allI a = true → allI b = true → allI (a ++ b) = true
  | [], _, _, h => h
  | c :: a, b, h1, h2 => by
    simp only [allI, Bool.and_eq_true] at h1
    simp only [List.cons_append, allI, Bool.and_eq_true]
    exact ⟨h1.1, allI_app h1.2 h2⟩
section
variable {p : Pr} {base : Nat} {env : Env} {M : MS} {D : List Nat} {d : Option Nat} {r : List AOp} {R : Env → MS → List Nat → Prop}
end
/-- A row that a function has made by append alone: nil as long as nothing came. -/
def Own (base : Nat) (m : MS) (x : AV) (sz : Nat) (cs : List AV) : Prop := 0 < sz ∧ allI cs = true ∧ (∃ n, cs.length = n * sz) ∧
  ((cs = [] ∧ x = .list sz [] true true) ∨ (cs ≠ [] ∧ ∃ id, base ≤ id ∧ id < m.length ∧ x = .ms id 0 (cs.length / sz) sz false ∧ m[id]? = some (some cs)))
theorem Own.buf {base : Nat} {m : MS} {x : AV} {sz : Nat} {cs : List AV} (h : Own base m x sz cs) : Buf m x sz cs := by
  obtain ⟨h0, h1, h2, ⟨rfl, rfl⟩ | ⟨_, id, _, _, h3, h4⟩⟩ := h
  · exact ⟨h0, h1, h2, .inl ⟨rfl, rfl⟩⟩
  · exact ⟨h0, h1, h2, .inr (.inr ⟨id, h3, h4⟩)⟩
theorem Own.view {base : Nat} {m : MS} {x : AV} {sz : Nat} {cs : List AV} (h : Own base m x sz cs) : view m x = some cs := h.buf.view
theorem Own.lenM {base : Nat} {m : MS} {x : AV} {sz : Nat} {cs : List AV} (h : Own base m x sz cs) : lenM m x = some (cs.length / sz) := h.buf.lenM
theorem Own.lenOf {base : Nat} {m : MS} {x : AV} {sz : Nat} {cs : List AV} (h : Own base m x sz cs) : lenOf x = some (cs.length / sz) := h.buf.lenOf
theorem Own.nil (base : Nat) (m : MS) {sz : Nat} (h : 0 < sz) : Own base m (.list sz [] true true) sz [] := ⟨h, rfl, ⟨0, by simp⟩, .inl ⟨rfl, rfl⟩⟩
/-- What such a row is when it is handed on. -/
def lst (sz : Nat) (cs : List AV) : AV := .list sz cs cs.isEmpty cs.isEmpty
theorem Own.frz {base : Nat} {m : MS} {x : AV} {sz : Nat} {cs : List AV} (h : Own base m x sz cs) : ∃ m', frz base m x = some (lst sz cs, m') ∧ m'.length = m.length ∧ ∀ id, (∀ off len sz' cd, x ≠ .ms id off len sz' cd) → m'[id]? = m[id]? := by
  have hl := h.buf.len
  obtain ⟨h0, h1, h2, ⟨rfl, rfl⟩ | ⟨hne, id, hb, hlt, rfl, h4⟩⟩ := h
  · exact ⟨m, rfl, rfl, fun _ _ => rfl⟩
  · refine ⟨m.set id none, ?_, by simp, fun id' hid => ?_⟩
    · simp only [Av.frz, h4, hl, Nat.zero_add, Nat.le_refl, h1, and_self, and_true, hb, if_true, List.drop_zero, List.take_length]
      cases cs with
      | nil => exact absurd rfl hne
      | cons c cs => rfl
    · rw [List.getElem?_set_ne (fun e => hid _ _ _ _ (by rw [← e]))]
theorem Own.fin {base : Nat} {m : MS} {x : AV} {sz : Nat} {cs : List AV} (h : Own base m x sz cs) : fin base false x m [] = some (.q (lst sz cs)) := by
  obtain ⟨m', h1, _⟩ := h.frz
  have h2 : frzV base m x = some (lst sz cs, m') := by
    obtain ⟨_, _, _, ⟨_, rfl⟩ | ⟨_, id, _, _, rfl, _⟩⟩ := h
    · exact h1
    · exact h1
  simp only [Av.fin, Bool.false_eq_true, if_false, h2, lst, isI, if_true]
section
variable {p : Pr} {base : Nat} {env : Env} {M : MS} {D : List Nat} {d : Option Nat} {r : List AOp} {R : Env → MS → List Nat → Prop}
end
end Go.Proofs.Ytopiaiibpacmlaa.Av
namespace Go.Proofs.Ytopiaiibpacmlaa.Av
open Go.RowKit
/-- What a round's number has to do with its loop. -/
def tieOf (P : Program) (ys : List (Nat × AY)) : TieT :=
  ⟨fun y L pl => ∃ f ay fn c, (f, ay) ∈ ys ∧ y = YB + f ∧ P.funcs[f]? = some fn ∧ fn.body = some c ∧ ay.pl = pl ∧ fn.ntmps ≤ L.tmps.size ∧ rfsOf c = [(L.params, L.assign, L.body)]⟩
def yOf (ys : List (Nat × AY)) (y : Nat) : Option AY := if YB ≤ y then (ys.find? fun x => x.1 == y - YB).map (·.2) else none
/-- A round is as it was read. -/
def OkY (P : Program) (f : Nat) (ay : AY) : Prop := ∃ fn, P.funcs[f]? = some fn ∧ trY P fn ay.K = some (ay.ps, ay.assign, ay.body) ∧ ay.N = fn.ntmps ∧ ∀ t ∈ ay.ps, t < ay.N
theorem trY_inv {P : Program} {fn : Func} {K : Bool} {x : List Nat × AC × AC} (h : trY P fn K = some x) : ∃ c ps a b, fn.body = some c ∧ rfsOf c = [(ps, a, b)] ∧ x = (ps.toList, trCode P fn.ntmps K none a, trCode P fn.ntmps K none b) := by
  unfold trY at h
  split at h
  · rename_i c hc
    split at h
    · rename_i ps a b hr; cases h; exact ⟨c, ps, a, b, hc, hr, rfl⟩
    · cases h
  · cases h
theorem prOk_of {P : Program} {p : Pr} {ys : List (Nat × AY)} (hm : P.follows .mixedOrders = true)
    (hA : ∀ f af, p.A f = some af → ∃ fn, P.funcs[f]? = some fn ∧ fn.name ≠ "runtime.NumGoroutine" ∧ trFn P fn af.keep af.K af.rf = some af)
    (hext : @CallOk ⟨tieOf P ys⟩ P p.ext) (hY : p.Y = yOf ys) (hys : ∀ x ∈ ys, OkY P x.1 x.2 ∧ yOf ys (YB + x.1) = some x.2 ∧ p.A (YB + x.1) = none)
    (hrf : ∀ f af, p.A f = some af → ∀ y pl, af.rf = some (y, pl) → ∃ ay, (f, ay) ∈ ys ∧ y = YB + f ∧ ay.pl = pl) : @PrOk ⟨tieOf P ys⟩ P p :=
  letI : Inhabited TieT := ⟨tieOf P ys⟩
  { hm := hm, A := hA, ext := hext
    Y := fun y ay h => by
      rw [hY] at h
      unfold yOf at h
      split at h
      · rename_i hh; exact hh
      · cases h
    tie := fun y L pl h => by
      obtain ⟨f, ay, fn, c, hmem, rfl, hf, hc, hpl, hN, hr⟩ := h
      obtain ⟨⟨fn', hf', ht, hNe, hb⟩, h2, h3⟩ := hys _ hmem
      rw [hf] at hf'; cases hf'
      obtain ⟨c', ps, a, b, hc', hr', he⟩ := trY_inv ht
      rw [hc] at hc'; cases hc'
      rw [hr] at hr'
      simp only [List.cons.injEq, Prod.mk.injEq, and_true] at hr' he
      obtain ⟨rfl, rfl, rfl⟩ := hr'
      obtain ⟨e1, e2, e3⟩ := he
      exact ⟨ay, by rw [hY]; exact h2, h3, hpl, e1.symm, by rw [hNe]; exact e2.symm, by rw [hNe]; exact e3.symm, by rw [hNe]; exact hN, hb⟩
    rf := fun f af fn c haf hf hc y pl hy => by
      obtain ⟨ay, hmem, rfl, hpl⟩ := hrf f af haf y pl hy
      obtain ⟨⟨fn', hf', ht, hNe, hb⟩, h2, h3⟩ := hys _ hmem
      rw [hf] at hf'; cases hf'
      obtain ⟨c', ps, a, b, hc', hr', he⟩ := trY_inv ht
      rw [hc] at hc'; cases hc'
      refine ⟨Nat.le_add_right _ _, fun x hx L e1 e2 e3 hN => ?_⟩
      rw [hr'] at hx
      have hx' : x = (ps, a, b) := by simpa using hx
      subst hx'
      exact ⟨f, ay, fn, c, hmem, rfl, hf, hc, hpl, hN, by rw [hr', e1, e2, e3]⟩ }
end Go.Proofs.Ytopiaiibpacmlaa.Av
