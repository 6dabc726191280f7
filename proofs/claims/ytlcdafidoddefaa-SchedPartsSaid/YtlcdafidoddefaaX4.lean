/- What is reckoned with no memory of others is reckoned so with any: places shifted. -/
import Derived.Test.YtlcdafidoddefaaX3
namespace Go.Proofs.Ytlcdafidoddefaa.Av
open Go.RowKit
set_option linter.unusedSimpArgs false

def sh (s : Nat) : AV → AV
  | .flat v => .flat v
  | .list sz cs nl cd => .list sz (all cs) nl cd
  | .agg cs => .agg (all cs)
  | .elem x k => .elem (sh s x) k
  | .mptr id off => .mptr (id + s) off
  | .ms id off len sz cd => .ms (id + s) off len sz cd
  | .clo fn cs => .clo fn (all cs)
  | .tup cs => .tup (all cs)
  | .any => .any
  | .yld id y cs => .yld (id + s) y (all cs)
  | .mp id => .mp (id + s)
where all : List AV → List AV
  | [] => []
  | c :: cs => sh s c :: all cs
/-- No places at all. -/
def shut : AV → Bool
  | .flat _ => true
  | .list _ cs _ _ => all cs
  | .agg cs => all cs
  | .elem x _ => shut x
  | .mptr .. | .ms .. | .yld .. | .mp .. => false
  | .any => true
  | .clo _ cs => all cs
  | .tup cs => all cs
where all : List AV → Bool
  | [] => true
  | c :: cs => shut c && all cs
theorem sh_all (s : Nat) : ∀ cs : List AV, sh.all s cs = cs.map (sh s)
  | [] => rfl
  | c :: cs => by simp [sh.all, sh_all s cs]
mutual
theorem sh_shut (s : Nat) : ∀ x : AV, shut x = true → sh s x = x
  | .flat v, _ => rfl
  | .list sz cs nl cd, h => by simp only [sh]; rw [shs_shut s cs (by simpa [shut] using h)]
  | .agg cs, h => by simp only [sh]; rw [shs_shut s cs (by simpa [shut] using h)]
  | .elem x k, h => by simp only [sh]; rw [sh_shut s x (by simpa [shut] using h)]
  | .mptr _ _, h => by simp [shut] at h
  | .ms _ _ _ _ _, h => by simp [shut] at h
  | .yld _ _ _, h => by simp [shut] at h
  | .mp _, h => by simp [shut] at h
  | .any, _ => rfl
  | .clo fn cs, h => by simp only [sh]; rw [shs_shut s cs (by simpa [shut] using h)]
  | .tup cs, h => by simp only [sh]; rw [shs_shut s cs (by simpa [shut] using h)]
theorem shs_shut (s : Nat) : ∀ cs : List AV, shut.all cs = true → sh.all s cs = cs
  | [], _ => rfl
  | c :: cs, h => by
    simp only [shut.all, Bool.and_eq_true] at h
    simp only [sh.all]; rw [sh_shut s c h.1, shs_shut s cs h.2]
end
theorem shut_map {cs : List AV} (s : Nat) (h : shut.all cs = true) : cs.map (sh s) = cs := by rw [← sh_all, shs_shut s cs h]
def shL (s : Nat) (cs : List AV) : List AV := cs.map (sh s)
def shM (s : Nat) (M : MS) : MS := M.map (Option.map (shL s))
def shO (s : Nat) (Pre : MS) : Out → Out
  | .q v => .q (sh s v)
  | .x v M D => .x (sh s v) (Pre ++ shM s M) (D.map (· + s))
section
variable {s base : Nat} {Pre M : MS} {D : List Nat} {env : Env}
theorem sh_flat (v : Value) : sh s (.flat v) = .flat v := rfl
theorem sh_list (sz : Nat) (cs : List AV) (nl cd : Bool) : sh s (.list sz cs nl cd) = .list sz (shL s cs) nl cd := by simp [sh, sh_all, shL]
theorem sh_agg (cs : List AV) : sh s (.agg cs) = .agg (shL s cs) := by simp [sh, sh_all, shL]
theorem sh_elem (x : AV) (k : Nat) : sh s (.elem x k) = .elem (sh s x) k := rfl
theorem sh_mptr (id off : Nat) : sh s (.mptr id off) = .mptr (id + s) off := rfl
theorem sh_ms (id off len sz : Nat) (cd : Bool) : sh s (.ms id off len sz cd) = .ms (id + s) off len sz cd := rfl
theorem sh_clo (fn : Nat) (cs : List AV) : sh s (.clo fn cs) = .clo fn (shL s cs) := by simp [sh, sh_all, shL]
theorem sh_tup (cs : List AV) : sh s (.tup cs) = .tup (shL s cs) := by simp [sh, sh_all, shL]
theorem sh_any : sh s .any = .any := rfl
theorem sh_yld (id y : Nat) (cs : List AV) : sh s (.yld id y cs) = .yld (id + s) y (shL s cs) := by simp [sh, sh_all, shL]
theorem sh_mp (id : Nat) : sh s (.mp id) = .mp (id + s) := rfl
theorem shM_get (hs : Pre.length = s) (id : Nat) : (Pre ++ shM s M)[id + s]? = (M[id]?).map (Option.map (shL s)) := by
  rw [List.getElem?_append_right (by omega), hs, Nat.add_sub_cancel]; simp [shM]
theorem shM_some (hs : Pre.length = s) {id : Nat} {cs : List AV} (h : M[id]? = some (some cs)) : (Pre ++ shM s M)[id + s]? = some (some (shL s cs)) := by rw [shM_get hs, h]; rfl
theorem shM_set (hs : Pre.length = s) (id : Nat) (x : Option (List AV)) : (Pre ++ shM s M).set (id + s) (x.map (shL s)) = Pre ++ shM s (M.set id x) := by
  rw [List.set_append_right _ _ (by omega), hs, Nat.add_sub_cancel]; simp [shM, List.map_set]
theorem shM_app (X : MS) : Pre ++ shM s M ++ shM s X = Pre ++ shM s (M ++ X) := by simp [shM]
theorem shM_len (hs : Pre.length = s) : (Pre ++ shM s M).length = M.length + s := by simp [shM, hs]; omega
mutual
theorem isI_sh : ∀ x : AV, isI (sh s x) = isI x
  | .flat _ => rfl
  | .list _ _ _ _ => by simp [sh, isI]
  | .agg cs => by simp only [sh, isI]; exact isIs_sh cs
  | .elem x _ => by simp only [sh, isI]; exact isI_sh x
  | .mptr _ _ => rfl
  | .ms _ _ _ _ _ => rfl
  | .any => rfl
  | .yld _ _ _ => rfl
  | .mp _ => rfl
  | .clo _ cs => by simp only [sh, isI]; exact isIs_sh cs
  | .tup cs => by simp only [sh, isI]; exact isIs_sh cs
theorem isIs_sh : ∀ cs : List AV, isI.all (sh.all s cs) = isI.all cs
  | [] => rfl
  | c :: cs => by simp only [sh.all, isI.all]; rw [isI_sh c, isIs_sh cs]
end
theorem allI_sh : ∀ cs : List AV, allI (shL s cs) = allI cs
  | [] => rfl
  | c :: cs => by
    have := allI_sh cs
    simp only [shL] at this
    simp only [shL, List.map_cons, allI]; rw [isI_sh c, this]
theorem shL_len (cs : List AV) : (shL s cs).length = cs.length := by simp [shL]
theorem shL_take (cs : List AV) (n : Nat) : (shL s cs).take n = shL s (cs.take n) := by simp [shL, List.map_take]
theorem shL_drop (cs : List AV) (n : Nat) : (shL s cs).drop n = shL s (cs.drop n) := by simp [shL, List.map_drop]
theorem shL_app (cs ds : List AV) : shL s cs ++ shL s ds = shL s (cs ++ ds) := by simp [shL]
theorem shL_get (cs : List AV) (n : Nat) : (shL s cs)[n]? = (cs[n]?).map (sh s) := by simp [shL]
theorem shL_head (cs : List AV) : (shL s cs).head? = cs.head?.map (sh s) := by simp [shL]
theorem splice_sh (cs : List AV) (off : Nat) (xs : List AV) : splice (shL s cs) off (shL s xs) = shL s (splice cs off xs) := by
  simp [splice, shL_take, shL_drop, shL_len, shL_app]
theorem view_sh (hs : Pre.length = s) (x : AV) : view (Pre ++ shM s M) (sh s x) = (view M x).map (shL s) := by
  cases x with
  | list sz cs nl cd => simp [sh_list, view]
  | ms id off len sz cd =>
    simp only [sh_ms, view, shM_get hs]
    cases h : M[id]? with
    | none => rfl
    | some b =>
      cases b with
      | none => rfl
      | some cs =>
        simp only [Option.map_some, shL_len]
        split
        · simp [shL_take, shL_drop]
        · rfl
  | flat v => rfl
  | agg cs => simp [sh_agg, view]
  | elem x k => rfl
  | mptr id off => rfl
  | clo fn cs => simp [sh_clo, view]
  | any => rfl
  | yld id y cs => simp [sh_yld, view]
  | mp id => rfl
  | tup cs => simp [sh_tup, view]
theorem lenOf_sh (x : AV) : lenOf (sh s x) = lenOf x := by
  cases x <;> simp [sh_list, sh_agg, sh_elem, sh_mptr, sh_ms, sh_clo, sh_tup, sh_any, sh_yld, sh_mp, sh_flat, lenOf, shL_len]
theorem lenM_sh (hs : Pre.length = s) (x : AV) : lenM (Pre ++ shM s M) (sh s x) = lenM M x := by
  simp only [lenM, view_sh hs, lenOf_sh]
  cases view M x <;> rfl
theorem aview_sh (hs : Pre.length = s) (x : AV) : aview (Pre ++ shM s M) (sh s x) = (aview M x).map (shL s) := by
  cases x with
  | elem x k =>
    simp only [sh_elem, aview, view_sh hs]
    cases view M x <;> simp [shL_drop]
  | mptr id off =>
    simp only [sh_mptr, aview, shM_get hs]
    cases h : M[id]? with
    | none => rfl
    | some b => cases b <;> simp [shL_drop]
  | list sz cs nl cd => simp [sh_list, aview]
  | ms id off len sz cd => rfl
  | flat v => rfl
  | agg cs => simp [sh_agg, aview]
  | clo fn cs => simp [sh_clo, aview]
  | any => rfl
  | yld id y cs => simp [sh_yld, aview]
  | mp id => rfl
  | tup cs => simp [sh_tup, aview]
theorem ldA_sh (agg : Bool) (n : Nat) (cs : List AV) : ldA agg n (shL s cs) = (ldA agg n cs).map (sh s) := by
  cases agg with
  | false => simp [ldA, shL_head]
  | true =>
    simp only [ldA, if_true, shL_len]
    split
    · simp [sh_agg, shL_take]
    · rfl
theorem aliveA_sh (hs : Pre.length = s) (id : Nat) : aliveA (Pre ++ shM s M) (id + s) = aliveA M id := by
  simp only [aliveA, shM_get hs]
  cases h : M[id]? with
  | none => rfl
  | some b => cases b <;> rfl
theorem cellsOf_sh (x : AV) : cellsOf (sh s x) = (cellsOf x).map (shL s) := by
  cases x with
  | flat v => simp only [sh_flat, cellsOf]; split <;> simp [shL, sh_flat]
  | _ => simp [sh_list, sh_agg, sh_elem, sh_mptr, sh_ms, sh_clo, sh_tup, sh_any, sh_yld, sh_mp, cellsOf, shL]
theorem asInt_sh (x : AV) : asInt (sh s x) = asInt x := by
  cases x <;> simp [sh_list, sh_agg, sh_elem, sh_mptr, sh_ms, sh_clo, sh_tup, sh_any, sh_yld, sh_mp, sh_flat, asInt]
theorem asBool_sh (x : AV) : asBool (sh s x) = asBool x := by
  cases x <;> simp [sh_list, sh_agg, sh_elem, sh_mptr, sh_ms, sh_clo, sh_tup, sh_any, sh_yld, sh_mp, sh_flat, asBool]
theorem asInts_sh (k : IntKind) : ∀ cs : List AV, asInts k (shL s cs) = asInts k cs
  | [] => rfl
  | c :: cs => by
    have ih := asInts_sh k cs
    simp only [shL] at ih
    cases c with
    | flat v => cases v <;> simp [shL, sh_flat, asInts, ih]
    | _ => simp [shL, sh_list, sh_agg, sh_elem, sh_mptr, sh_ms, sh_clo, sh_tup, sh_any, sh_yld, sh_mp, asInts]
theorem frz_sh (hs : Pre.length = s) {x x' : AV} {M' : MS} (h : frz base M x = some (x', M')) : frz (base + s) (Pre ++ shM s M) (sh s x) = some (sh s x', Pre ++ shM s M') := by
  have plain : ∀ {y : AV}, (if isI y = true then some (y, M) else none) = some (x', M') → (if isI (sh s y) = true then some (sh s y, Pre ++ shM s M) else none) = some (sh s x', Pre ++ shM s M') := by
    intro y h
    rw [isI_sh]
    split at h
    · rename_i hi; cases h; rw [if_pos hi]
    · cases h
  cases x with
  | ms id off len sz cd =>
    simp only [frz] at h
    split at h
    · rename_i cs hcs
      split at h
      · rename_i hc
        cases h
        simp only [sh_ms, frz, shM_some hs hcs, shL_len, allI_sh, shL_drop, shL_take]
        rw [if_pos ⟨by omega, hc.2⟩]
        have := shM_set (M := M) hs id none
        simp only [Option.map_none] at this
        rw [this, sh_list]
      · cases h
    · cases h
  | mptr id off => simp [frz] at h
  | any => simp [frz, isI] at h
  | yld id y cs => simp [frz, isI] at h
  | mp id => simp [frz, isI] at h
  | flat v => exact plain (by simpa only [frz] using h)
  | list sz cs nl cd => have := plain (by simpa only [frz] using h); simpa only [sh_list, frz] using this
  | agg cs => have := plain (by simpa only [frz] using h); simpa only [sh_agg, frz] using this
  | elem y k => exact plain (y := .elem y k) (by simpa only [frz] using h)
  | clo fn cs => have := plain (by simpa only [frz] using h); simpa only [sh_clo, frz] using this
  | tup cs => have := plain (by simpa only [frz] using h); simpa only [sh_tup, frz] using this
theorem frzAll_sh (hs : Pre.length = s) : ∀ {cs cs' : List AV} {M M' : MS}, frzAll base M cs = some (cs', M') → frzAll (base + s) (Pre ++ shM s M) (shL s cs) = some (shL s cs', Pre ++ shM s M')
  | [], cs', M, M', h => by simp [frzAll] at h; obtain ⟨rfl, rfl⟩ := h; rfl
  | c :: cs, cs', M, M', h => by
    simp only [frzAll] at h
    split at h
    · rename_i c' M1 h1
      split at h
      · rename_i r' M2 h2
        cases h
        have := frzAll_sh hs h2
        simp only [shL] at this
        simp only [shL, List.map_cons, frzAll, frz_sh hs h1, this]
      · cases h
    · cases h
theorem frz_le {b b' : Nat} (hb : b' ≤ b) {M M' : MS} {x x' : AV} (h : frz b M x = some (x', M')) : frz b' M x = some (x', M') := by
  cases x with
  | ms id off len sz cd =>
    simp only [frz] at h ⊢
    split at h
    · rename_i cs hM
      split at h
      · rename_i hc
        rw [if_pos ⟨by omega, hc.2⟩]; exact h
      · cases h
    · cases h
  | mptr id off => simp [frz] at h
  | _ => simpa only [frz] using h
theorem frzAll_le {b b' : Nat} (hb : b' ≤ b) : ∀ {cs cs' : List AV} {M M' : MS}, frzAll b M cs = some (cs', M') → frzAll b' M cs = some (cs', M')
  | [], _, _, _, h => h
  | c :: cs, cs', M, M', h => by
    simp only [frzAll] at h ⊢
    split at h
    · rename_i c' M1 h1
      rw [frz_le hb h1]
      dsimp only
      split at h
      · rename_i r' M2 h2
        rw [frzAll_le hb h2]; exact h
      · cases h
    · cases h
theorem frzA_sh (hs : Pre.length = s) {x x' : AV} {M' : MS} (h : frzA base M x = some (x', M')) : frzA (base + s) (Pre ++ shM s M) (sh s x) = some (sh s x', Pre ++ shM s M') := by
  cases x with
  | agg cs =>
    simp only [frzA, Option.map_eq_some_iff] at h
    obtain ⟨⟨cs', M1⟩, h1, h2⟩ := h
    cases h2
    simp only [sh_agg, frzA, frzAll_sh hs h1, Option.map_some]
  | flat v => exact frz_sh hs (by simpa only [frzA] using h)
  | list sz cs nl cd => have := frz_sh (Pre := Pre) hs (x := .list sz cs nl cd) (by simpa only [frzA] using h); simpa only [sh_list, frzA] using this
  | elem x k => have := frz_sh (Pre := Pre) hs (x := .elem x k) (by simpa only [frzA] using h); simpa only [sh_elem, frzA] using this
  | mptr id off => simp [frzA, frz] at h
  | any => simp [frzA, frz, isI] at h
  | yld id y cs => simp [frzA, frz, isI] at h
  | mp id => simp [frzA, frz, isI] at h
  | ms id off len sz cd => have := frz_sh (Pre := Pre) hs (x := .ms id off len sz cd) (by simpa only [frzA] using h); simpa only [sh_ms, frzA] using this
  | clo fn cs => have := frz_sh (Pre := Pre) hs (x := .clo fn cs) (by simpa only [frzA] using h); simpa only [sh_clo, frzA] using this
  | tup cs => have := frz_sh (Pre := Pre) hs (x := .tup cs) (by simpa only [frzA] using h); simpa only [sh_tup, frzA] using this
theorem frzTup_sh (hs : Pre.length = s) : ∀ {cs cs' : List AV} {M M' : MS}, frzTup base M cs = some (cs', M') → frzTup (base + s) (Pre ++ shM s M) (shL s cs) = some (shL s cs', Pre ++ shM s M')
  | [], cs', M, M', h => by simp [frzTup] at h; obtain ⟨rfl, rfl⟩ := h; rfl
  | c :: cs, cs', M, M', h => by
    simp only [frzTup] at h
    split at h
    · rename_i c' M1 h1
      split at h
      · rename_i r' M2 h2
        cases h
        have := frzTup_sh hs h2
        simp only [shL] at this
        simp only [shL, List.map_cons, frzTup, frzA_sh hs h1, this]
      · cases h
    · cases h
theorem frzV_sh (hs : Pre.length = s) {x x' : AV} {M' : MS} (h : frzV base M x = some (x', M')) : frzV (base + s) (Pre ++ shM s M) (sh s x) = some (sh s x', Pre ++ shM s M') := by
  cases x with
  | tup cs =>
    simp only [frzV, Option.map_eq_some_iff] at h
    obtain ⟨⟨cs', M1⟩, h1, h2⟩ := h
    cases h2
    simp only [sh_tup, frzV, frzTup_sh hs h1, Option.map_some]
  | flat v => exact frzA_sh hs (by simpa only [frzV] using h)
  | list sz cs nl cd => have := frzA_sh (Pre := Pre) hs (x := .list sz cs nl cd) (by simpa only [frzV] using h); simpa only [sh_list, frzV] using this
  | agg cs => have := frzA_sh (Pre := Pre) hs (x := .agg cs) (by simpa only [frzV] using h); simpa only [sh_agg, frzV] using this
  | elem x k => have := frzA_sh (Pre := Pre) hs (x := .elem x k) (by simpa only [frzV] using h); simpa only [sh_elem, frzV] using this
  | mptr id off => simp [frzV, frzA, frz] at h
  | any => simp [frzV, frzA, frz, isI] at h
  | yld id y cs => simp [frzV, frzA, frz, isI] at h
  | mp id => simp [frzV, frzA, frz, isI] at h
  | ms id off len sz cd => have := frzA_sh (Pre := Pre) hs (x := .ms id off len sz cd) (by simpa only [frzV] using h); simpa only [sh_ms, frzV] using this
  | clo fn cs => have := frzA_sh (Pre := Pre) hs (x := .clo fn cs) (by simpa only [frzV] using h); simpa only [sh_clo, frzV] using this
theorem dirt_sh (id : Nat) : dirt (base + s) (id + s) (D.map (· + s)) = (dirt base id D).map (· + s) := by
  simp only [dirt]
  by_cases h : id < base
  · rw [if_pos h, if_pos (by omega)]; rfl
  · rw [if_neg h, if_neg (by omega)]
theorem dirts_sh (D : List Nat) : ∀ cs : List AV, dirts (base + s) (shL s cs) (D.map (· + s)) = (dirts base cs D).map (· + s)
  | [] => rfl
  | c :: cs => by
    have := dirts_sh D cs
    cases c <;> simp only [shL, List.map_cons, sh, dirts] at this ⊢ <;> first | exact this | (rw [this, dirt_sh])
/-! ### Instructions -/
theorem bin_sh (op : BinOp) (ek : EqK) (x y : AV) : bin op ek (sh s x) (sh s y) = (bin op ek x y).map (sh s) := by
  have eqS : ∀ b, (eqV op b).map (sh s) = eqV op b := by intro b; cases op <;> rfl
  cases x with
  | flat v => cases y with
    | flat u => 
      simp only [sh_flat]
      cases v <;> cases u <;> simp only [bin] <;> (try rfl) <;> (repeat' split) <;> (try rfl) <;> (try exact (eqS _).symm) <;> simp [Option.map_map, Function.comp_def, sh_flat]
    | _ => cases v <;> simp [sh_flat, sh_list, sh_agg, sh_elem, sh_mptr, sh_ms, sh_clo, sh_tup, sh_any, sh_yld, sh_mp, bin]
  | list sz cs nl cd => cases y with
    | list sz' cs' nl' cd' =>
      simp only [sh_list]
      cases cs' with
      | nil =>
        cases nl' with
        | true => simp only [shL, List.map_nil, bin]; split <;> simp [eqS]
        | false => simp [shL, bin]
      | cons c cs' => simp [shL, bin]
    | _ => simp [sh_flat, sh_list, sh_agg, sh_elem, sh_mptr, sh_ms, sh_clo, sh_tup, sh_any, sh_yld, sh_mp, bin]
  | ms id off len sz cd => cases y with
    | list sz' cs' nl' cd' =>
      simp only [sh_list, sh_ms]
      cases cs' with
      | nil =>
        cases nl' with
        | true => simp only [shL, List.map_nil, bin]; split <;> simp [eqS]
        | false => simp [shL, bin]
      | cons c cs' => simp [shL, bin]
    | _ => simp [sh_flat, sh_list, sh_agg, sh_elem, sh_mptr, sh_ms, sh_clo, sh_tup, sh_any, sh_yld, sh_mp, bin]
  | agg cs => cases y with
    | agg cs' =>
      simp only [sh_agg, bin, asInts_sh]
      cases ek with
      | arr n k => 
        simp only
        cases asInts k cs with
        | none => rfl
        | some a => cases asInts k cs' with
          | none => rfl
          | some b => simp only; split <;> simp [eqS]
      | str n k => 
        simp only
        cases asInts k cs with
        | none => rfl
        | some a => cases asInts k cs' with
          | none => rfl
          | some b => simp only; split <;> simp [eqS]
      | _ => rfl
    | _ => simp [sh_flat, sh_list, sh_agg, sh_elem, sh_mptr, sh_ms, sh_clo, sh_tup, sh_any, sh_yld, sh_mp, bin]
  | _ => simp [sh_flat, sh_list, sh_agg, sh_elem, sh_mptr, sh_ms, sh_clo, sh_tup, sh_any, sh_yld, sh_mp, bin]
theorem unop_sh (op : UnOp) (x : AV) : unop op (sh s x) = (unop op x).map (sh s) := by
  cases x with
  | flat v => cases v <;> cases op <;> simp [sh_flat, unop]
  | _ => simp [sh_list, sh_agg, sh_elem, sh_mptr, sh_ms, sh_clo, sh_tup, sh_any, sh_yld, sh_mp, unop]
theorem optNat_sh (d : Nat) (x : Option AV) : optNat d (x.map (sh s)) = optNat d x := by
  cases x with
  | none => rfl
  | some x => cases x <;> simp [sh_flat, sh_list, sh_agg, sh_elem, sh_mptr, sh_ms, sh_clo, sh_tup, sh_any, sh_yld, sh_mp, optNat]
theorem fillA_sh : ∀ (ps : List (Nat × Nat × AV)) (cells : List AV), fillA (shL s cells) (ps.map fun (o, n, x) => (o, n, sh s x)) = (fillA cells ps).map (shL s)
  | [], cells => by simp [fillA]
  | (off, n, v) :: ps, cells => by
    simp only [List.map_cons, fillA, cellsOf_sh]
    cases cellsOf v with
    | none => rfl
    | some cs =>
      simp only [Option.map_some, shL_len]
      split
      · have := fillA_sh ps (cells.take off ++ cs ++ cells.drop (off + n))
        simpa [shL_take, shL_drop, shL_app] using this
      · rfl
theorem rep_sh (n : Nat) {zs : List AV} (h : shL s zs = zs) : shL s (List.replicate n zs).flatten = (List.replicate n zs).flatten := by
  induction n with
  | zero => rfl
  | succ n ih => rw [List.replicate_succ, List.flatten_cons, ← shL_app, h, ih]
theorem sliceA_sh (sz : Nat) (x : AV) (lo hi mx : Option AV) {out : Out} (h : sliceA sz x lo hi mx = some out) : sliceA sz (sh s x) (lo.map (sh s)) (hi.map (sh s)) (mx.map (sh s)) = some (shO s Pre out) := by
  cases x with
  | list sz' cs nl cd =>
    have hcut : ∀ m h d, cutCapd (mx.map (sh s)) m h d = cutCapd mx m h d := by intro m h d; cases mx <;> rfl
    simp only [sh_list, sliceA, optNat_sh, shL_len, Option.isSome_map, hcut] at h ⊢
    split at h
    · rename_i l hh m h1 h2 h3
      split at h
      · rename_i hc
        rw [if_pos hc]
        split at h
        · rename_i hn; rw [if_pos hn]; cases h; simp [shO, sh_list]
        · rename_i hn; rw [if_neg hn]; cases h; simp [shO, sh_list, shL_take, shL_drop]
      · cases h
    · cases h
  | ms id off len sz' cd =>
    have hcut : ∀ m h d, cutCapd (mx.map (sh s)) m h d = cutCapd mx m h d := by intro m h d; cases mx <;> rfl
    simp only [sh_ms, sliceA, optNat_sh, Option.isSome_map, hcut] at h ⊢
    split at h
    · rename_i l hh m h1 h2 h3
      split at h
      · rename_i hc
        rw [if_pos hc]
        split at h
        · rename_i hn; rw [if_pos hn]; cases h; simp [shO, sh_ms]
        · rename_i hn
          rw [if_neg hn]
          split at h
          · rename_i hl; rw [if_pos hl]; cases h; simp [shO, sh_list, shL]
          · rename_i hl; rw [if_neg hl]; cases h; simp [shO, sh_ms]
      · cases h
    · cases h
  | _ => simp [sliceA] at h
theorem storeA_sh (hs : Pre.length = s) {cs : List AV} {x : AV} {out : Out} (h : storeA base M D cs x = some out) : storeA (base + s) (Pre ++ shM s M) (D.map (· + s)) (shL s cs) (sh s x) = some (shO s Pre out) := by
  cases x with
  | elem y k =>
    cases y with
    | ms id off len sz cd =>
      simp only [storeA] at h
      split at h
      · rename_i cs' M1 hz
        split at h
        · rename_i old ho
          split at h
          · rename_i hc
            cases h
            simp only [sh_elem, sh_ms, storeA, frzAll_sh hs hz, shM_some hs ho, shL_len]
            rw [if_pos hc, splice_sh]
            have := shM_set (M := M1) hs id (some (splice old (off + k) cs'))
            simp only [Option.map_some] at this
            simp only [this, dirt_sh, shO, sh_flat]
          · cases h
        · cases h
      · cases h
    | _ => simp [storeA] at h
  | mptr id off =>
    simp only [storeA] at h
    split at h
    · rename_i old ho
      split at h
      · rename_i hc
        cases h
        simp only [sh_mptr, storeA, shM_some hs ho, shL_len]
        rw [if_pos hc, splice_sh]
        have := shM_set (M := M) hs id (some (splice old off cs))
        simp only [Option.map_some] at this
        simp only [this, dirt_sh, shO, sh_flat]
      · cases h
    · cases h
  | _ => simp [storeA] at h
theorem storeKA_sh (hs : Pre.length = s) {cs : List AV} {x : AV} {out : Out} (h : storeKA base M D cs x = some out) : storeKA (base + s) (Pre ++ shM s M) (D.map (· + s)) (shL s cs) (sh s x) = some (shO s Pre out) := by
  cases x with
  | elem y k =>
    cases y with
    | ms id off len sz cd =>
      simp only [storeKA] at h
      split at h
      · rename_i old ho
        split at h
        · rename_i hc
          cases h
          simp only [sh_elem, sh_ms, storeKA, shM_some hs ho, shL_len]
          rw [if_pos hc, splice_sh]
          have := shM_set (M := M) hs id (some (splice old (off + k) cs))
          simp only [Option.map_some] at this
          simp only [this, dirt_sh, shO, sh_flat]
        · cases h
      · cases h
    | _ => simp [storeKA] at h
  | mptr id off =>
    simp only [storeKA] at h
    split at h
    · rename_i old ho
      split at h
      · rename_i hc
        cases h
        simp only [sh_mptr, storeKA, shM_some hs ho, shL_len]
        rw [if_pos hc, splice_sh]
        have := shM_set (M := M) hs id (some (splice old off cs))
        simp only [Option.map_some] at this
        simp only [this, dirt_sh, shO, sh_flat]
      · cases h
    · cases h
  | _ => simp [storeKA] at h
theorem appA_sh (hs : Pre.length = s) {sz bytes m : Nat} {x : AV} {news : List AV} {out : Out} (h : appA base M D sz bytes x m news = some out) : appA (base + s) (Pre ++ shM s M) (D.map (· + s)) sz bytes (sh s x) m (shL s news) = some (shO s Pre out) := by
  have happ : ∀ (M : MS) (cs : List AV), Pre ++ shM s M ++ [some (shL s cs)] = Pre ++ shM s (M ++ [some cs]) := fun M cs => by simp [shM]
  unfold appA at h ⊢
  split at h
  · rename_i hm
    rw [if_pos hm]
    split at h
    · cases h; simp only [sh_list, shO]
    · split at h
      · rename_i hal; cases h; simp only [sh_ms, aliveA_sh hs, hal, if_true, shO]
      · cases h
    · cases h
  · rename_i hm
    rw [if_neg hm]
    split at h
    · rename_i sz' cs nl cd
      split at h
      · rename_i hc
        cases h
        simp only [sh_list, shL_len, allI_sh]
        rw [if_pos hc]
        simp only [shO, sh_ms, shM_len hs, shL_app, happ]
      · cases h
    · rename_i id off len sz' cd
      split at h
      · rename_i old ho
        split at h
        · rename_i hc
          simp only [sh_ms, shM_some hs ho, shL_len, allI_sh]
          rw [if_pos hc]
          split at h
          · rename_i hcd
            cases h
            rw [if_pos hcd]
            simp only [shO, sh_ms, shM_len hs, shL_app, shL_take, shL_drop, happ]
          · rename_i hcd
            split at h
            · rename_i hof
              cases h
              rw [if_neg hcd, if_pos hof]
              have := shM_set (M := M) hs id none
              simp only [Option.map_none] at this
              simp only [shO, sh_ms, shM_len hs, shL_app, shL_take, this, happ, dirt_sh]
            · cases h
        · cases h
      · cases h
    · cases h
/-- A call's answer, shifted. -/
def CSh (call : Call) : Prop := ∀ f args M out (Pre : MS) (s : Nat), Pre.length = s → call f args M = some out → call f (args.map (sh s)) (Pre ++ shM s M) = some (shO s Pre out)
def O.shut : O → Bool
  | .t _ => true
  | .k v => Av.shut v
def XOp.shut : XOp → Bool
  | .mget _ _ z => Av.shut z
  | _ => true
theorem keyEqA_sh (mk : MKey) (x y : AV) : keyEqA mk (sh s x) (sh s y) = keyEqA mk x y := by
  cases x with
  | flat u =>
    cases y with
    | flat v => rfl
    | _ => cases mk <;> cases u <;> simp [sh_flat, sh_list, sh_agg, sh_elem, sh_mptr, sh_ms, sh_clo, sh_tup, sh_any, sh_yld, sh_mp, keyEqA]
  | agg xs =>
    cases y with
    | agg ys => cases mk <;> simp [sh_agg, keyEqA, asInts_sh]
    | _ => cases mk <;> simp [sh_flat, sh_list, sh_agg, sh_elem, sh_mptr, sh_ms, sh_clo, sh_tup, sh_any, sh_yld, sh_mp, keyEqA]
  | _ => cases mk <;> simp [sh_flat, sh_list, sh_agg, sh_elem, sh_mptr, sh_ms, sh_clo, sh_tup, sh_any, sh_yld, sh_mp, keyEqA]
theorem isKeyA_sh (mk : MKey) (x : AV) : isKeyA mk (sh s x) = isKeyA mk x := by
  cases x with
  | flat u => rfl
  | agg xs => cases mk <;> simp [sh_agg, isKeyA, asInts_sh]
  | _ => cases mk <;> simp [sh_flat, sh_list, sh_agg, sh_elem, sh_mptr, sh_ms, sh_clo, sh_tup, sh_any, sh_yld, sh_mp, isKeyA]
theorem findA_sh (mk : MKey) (k : AV) : ∀ (cs : List AV) (i : Nat) {r : Option (Nat × AV)}, findA mk k cs i = some r → findA mk (sh s k) (shL s cs) i = some (r.map fun p => (p.1, sh s p.2))
  | [], i, r, h => by simp only [findA, Option.some.injEq] at h; subst h; rfl
  | .tup [a, b] :: cs, i, r, h => by
    have e : shL s (.tup [a, b] :: cs) = .tup [sh s a, sh s b] :: shL s cs := by simp [shL, sh_tup]
    rw [e]
    simp only [findA, keyEqA_sh] at h ⊢
    split at h
    · cases h; rfl
    · exact findA_sh mk k cs _ h
    · cases h
  | .tup [] :: cs, i, r, h => by simp [findA] at h
  | .tup [_] :: cs, i, r, h => by simp [findA] at h
  | .tup (_ :: _ :: _ :: _) :: cs, i, r, h => by simp [findA] at h
  | .flat _ :: cs, i, r, h => by simp [findA] at h
  | .list _ _ _ _ :: cs, i, r, h => by simp [findA] at h
  | .agg _ :: cs, i, r, h => by simp [findA] at h
  | .elem _ _ :: cs, i, r, h => by simp [findA] at h
  | .mptr _ _ :: cs, i, r, h => by simp [findA] at h
  | .ms _ _ _ _ _ :: cs, i, r, h => by simp [findA] at h
  | .clo _ _ :: cs, i, r, h => by simp [findA] at h
  | .any :: cs, i, r, h => by simp [findA] at h
  | .yld _ _ _ :: cs, i, r, h => by simp [findA] at h
  | .mp _ :: cs, i, r, h => by simp [findA] at h
theorem map_erase {α β : Type} (f : α → β) : ∀ (cs : List α) (i : Nat), (cs.map f).eraseIdx i = (cs.eraseIdx i).map f
  | [], _ => rfl
  | _ :: _, 0 => rfl
  | c :: cs, i + 1 => by simp [map_erase f cs i]
theorem getA_sh (ok : Bool) {z : AV} (hz : Av.shut z = true) (r : Option (Nat × AV)) : getA ok z (r.map fun p => (p.1, sh s p.2)) = sh s (getA ok z r) := by
  have := sh_shut s z hz
  cases r <;> cases ok <;> simp [getA, sh_tup, shL, sh_flat, this]
theorem putE_sh {mk : MKey} {k x : AV} {cs ds : List AV} (h : putE mk k x cs = some ds) : putE mk (sh s k) (sh s x) (shL s cs) = some (shL s ds) := by
  unfold putE at h ⊢
  split at h
  · rename_i hf; cases h; rw [findA_sh _ _ _ _ hf]; simp [shL, sh_tup]
  · rename_i i b hf; cases h; rw [findA_sh _ _ _ _ hf]; simp [shL, sh_tup]
  · cases h
theorem delE_sh {mk : MKey} {k : AV} {cs ds : List AV} (h : delE mk k cs = some ds) : delE mk (sh s k) (shL s cs) = some (shL s ds) := by
  unfold delE at h ⊢
  split at h
  · rename_i hf; cases h; rw [findA_sh _ _ _ _ hf]; rfl
  · rename_i i b hf; cases h; rw [findA_sh _ _ _ _ hf]; simp [shL, map_erase]
  · cases h
theorem nilP_sh (hs : Pre.length = s) (x : AV) : nilP (Pre ++ shM s M) (sh s x) = nilP M x := by
  cases x with
  | flat u => cases u with
    | pointer p => cases p <;> rfl
    | _ => rfl
  | _ => simp only [sh_flat, sh_list, sh_agg, sh_elem, sh_mptr, sh_ms, sh_clo, sh_tup, sh_any, sh_yld, sh_mp, nilP, aliveA_sh hs]
theorem nilM_sh (x : AV) : nilM (sh s x) = nilM x := by
  cases x with
  | flat u => cases u with
    | map p => cases p <;> rfl
    | _ => rfl
  | _ => simp only [sh_flat, sh_list, sh_agg, sh_elem, sh_mptr, sh_ms, sh_clo, sh_tup, sh_any, sh_yld, sh_mp, nilM]
theorem mapA_sh (hs : Pre.length = s) {x : AV} {p : Nat × List AV} (h : mapA M x = some p) : mapA (Pre ++ shM s M) (sh s x) = some (p.1 + s, shL s p.2) := by
  unfold mapA at h
  split at h
  · split at h
    · rename_i hM; cases h; simp only [sh_mp, mapA, shM_some hs hM]
    · cases h
  · cases h
theorem evX_sh (hs : Pre.length = s) {o : XOp} {xs : List AV} {out : Out} (hi : o.shut = true) (h : evX base M D o xs = some out) : evX (base + s) (Pre ++ shM s M) (D.map (· + s)) o (xs.map (sh s)) = some (shO s Pre out) := by
  have happ : ∀ (M : MS) (cs : List AV), Pre ++ shM s M ++ [some (shL s cs)] = Pre ++ shM s (M ++ [some cs]) := fun M cs => by simp [shM]
  have nb : ∀ {eq p q}, nilB eq p q = some out → nilB eq p q = some (shO s Pre out) := by
    intro eq p q hh
    obtain ⟨_, _, _, _, _, h2⟩ := nilB_inv hh
    subst h2; exact hh
  have hset : ∀ (id : Nat) (ds : List AV), (Pre ++ shM s M).set (id + s) (some (shL s ds)) = Pre ++ shM s (M.set id (some ds)) := fun id ds => shM_set (M := M) hs id (some ds)
  unfold evX at h
  split at h
  · simp only [List.map_cons, List.map_nil, evX, nilP_sh hs]; exact nb h
  · simp only [List.map_cons, List.map_nil, evX, nilM_sh]; exact nb h
  · simp only [List.map_cons, List.map_nil, evX, sh_mptr]
    split at h
    · rename_i cs hM
      simp only [shM_some hs hM, shL_len]
      split at h
      · rename_i hc; cases h; rw [if_pos hc]; rfl
      · cases h
    · cases h
  · cases h
    simp only [List.map_nil, evX, shO, sh_mp, shM_len hs]
    congr 2
    exact (happ M [])
  · simp only [List.map_cons, List.map_nil, evX]
    split at h
    · rename_i id cs hm
      split at h
      · rename_i hk
        rw [Option.map_eq_some_iff] at h
        obtain ⟨ds, hd, rfl⟩ := h
        simp only [mapA_sh hs hm, isKeyA_sh, hk, if_true, putE_sh hd, Option.map_some, shO, sh_flat, hset, dirt_sh]
      · cases h
    · cases h
  · simp only [List.map_cons, List.map_nil, evX, isKeyA_sh, nilM_sh]
    split at h
    · rename_i hk
      rw [if_pos hk]
      split at h
      · rename_i hn
        cases h
        simp only [shO]
        exact congrArg (fun v => some (Out.q v)) (getA_sh (s := s) _ hi none)
      · split at h
        · rename_i p1 cs hm
          rw [Option.map_eq_some_iff] at h
          obtain ⟨r, hr, rfl⟩ := h
          simp only [mapA_sh hs hm, findA_sh _ _ _ _ hr, Option.map_some, shO]
          rw [getA_sh _ hi]
        · cases h
    · cases h
  · simp only [List.map_cons, List.map_nil, evX, nilM_sh]
    split at h
    · cases h; rfl
    · rw [Option.map_eq_some_iff] at h
      obtain ⟨p, hm, rfl⟩ := h
      simp only [mapA_sh hs hm, Option.map_some, shO, sh_flat, shL_len]
  · simp only [List.map_cons, List.map_nil, evX, isKeyA_sh, nilM_sh]
    split at h
    · rename_i hk
      rw [if_pos hk]
      split at h
      · cases h; rfl
      · split at h
        · rename_i id cs hm
          rw [Option.map_eq_some_iff] at h
          obtain ⟨ds, hd, rfl⟩ := h
          simp only [mapA_sh hs hm, delE_sh hd, Option.map_some, shO, sh_flat, hset, dirt_sh]
        · cases h
    · cases h
  · simp only [List.map_cons, List.map_nil, evX, nilM_sh]
    split at h
    · cases h; rfl
    · rw [Option.map_eq_some_iff] at h
      obtain ⟨p, hm, rfl⟩ := h
      have := hset p.1 []
      simp only [mapA_sh hs hm, Option.map_some, shO, sh_flat, dirt_sh]
      rw [← this]; rfl
  · cases h
/-- The constants of an instruction name no places. -/
def I.shut : I → Bool
  | .alloc zs => Av.shut.all zs
  | .mslice _ _ zs n c => Av.shut.all zs && n.shut && c.shut
  | .build zs ps => Av.shut.all zs && ps.all fun p => p.2.2.shut
  | .bslice _ _ zs ps => Av.shut.all zs && ps.all fun p => p.2.2.shut
  | .clear _ zs x => Av.shut.all zs && x.shut
  | .xop o xs => o.shut && xs.all O.shut
  | i => i.os.all O.shut
theorem O.ev_sh {x : O} (h : x.shut = true) : x.ev (fun t => sh s (env t)) = sh s (x.ev env) := by
  cases x with
  | t n => rfl
  | k v => exact (sh_shut s v h).symm
theorem os_sh {xs : List O} (h : ∀ x ∈ xs, x.shut = true) : xs.map (·.ev (fun t => sh s (env t))) = (xs.map (·.ev env)).map (sh s) := by
  rw [List.map_map]
  exact List.map_congr_left fun x hx => O.ev_sh (h x hx)
theorem oo_sh {x : Option O} (h : ∀ y ∈ x.toList, y.shut = true) : x.map (·.ev (fun t => sh s (env t))) = (x.map (·.ev env)).map (sh s) := by
  cases x with
  | none => rfl
  | some x => simp [O.ev_sh (h x (by simp))]
theorem parts_sh {ps : List (Nat × Nat × O)} (h : ∀ p ∈ ps, p.2.2.shut = true) : (ps.map fun (o, n, x) => (o, n, x.ev (fun t => sh s (env t)))) = (ps.map fun (o, n, x) => (o, n, x.ev env)).map fun (o, n, x) => (o, n, sh s x) := by
  rw [List.map_map]
  refine List.map_congr_left fun p hp => ?_
  have := O.ev_sh (s := s) (env := env) (h p hp)
  simp only [Function.comp, this]
theorem shL_shut {zs : List AV} (h : Av.shut.all zs = true) : shL s zs = zs := shut_map s h
theorem callA_sh {call : Call} (HC : CSh call) (hs : Pre.length = s) {f : Nat} {args : List AV} {out : Out} (h : evI.callA call base M D f args = some out) :
    evI.callA call (base + s) (Pre ++ shM s M) (D.map (· + s)) f (args.map (sh s)) = some (shO s Pre out) := by
  simp only [evI.callA] at h ⊢
  split at h
  · rename_i v hv; cases h; rw [HC _ _ _ _ Pre s hs hv]; rfl
  · rename_i v M' D' hv
    cases h
    rw [HC _ _ _ _ Pre s hs hv]
    simp only [shO, List.map_append]
    congr 2
    congr 1
    rw [List.filter_map]
    congr 1
    exact List.filter_congr fun x _ => by simp
  · cases h
theorem evI_sh {call : Call} (HC : CSh call) (hs : Pre.length = s) {i : I} {out : Out} (hi : i.shut = true) (h : evI call base env M D i = some out) :
    evI call (base + s) (fun t => sh s (env t)) (Pre ++ shM s M) (D.map (· + s)) i = some (shO s Pre out) := by
  have happ : ∀ (M : MS) (cs : List AV), Pre ++ shM s M ++ [some (shL s cs)] = Pre ++ shM s (M ++ [some cs]) := fun M cs => by simp [shM]
  have mapq : ∀ {r : Option AV} {out : Out}, r.map Out.q = some out → (r.map (sh s)).map Out.q = some (shO s Pre out) := by
    intro r out h
    rw [Option.map_eq_some_iff] at h
    obtain ⟨v, rfl, rfl⟩ := h
    rfl
  cases i <;> simp only [I.shut, I.os, List.all_cons, List.all_nil, Bool.and_true, Bool.and_eq_true, List.all_eq_true, List.all_append] at hi <;> simp only [evI] at h ⊢
  case mov x => cases h; rw [O.ev_sh hi]; rfl
  case pick c a b =>
    rw [O.ev_sh hi.1, O.ev_sh hi.2.1, O.ev_sh hi.2.2, asBool_sh]
    split at h
    · rename_i t ht; cases h; cases t <;> rfl
    · cases h
  case bin op ek x y => rw [O.ev_sh hi.1, O.ev_sh hi.2, bin_sh]; exact mapq h
  case un op x => rw [O.ev_sh hi, unop_sh]; exact mapq h
  case convI k x =>
    rw [O.ev_sh hi]
    split at h
    · rename_i k' n hx; cases h; rw [hx]; rfl
    · cases h
  case convS x =>
    rw [O.ev_sh hi]
    split at h
    · rename_i n hx; cases h; rw [hx]; rfl
    · cases h
  case bytesOf x =>
    rw [O.ev_sh hi]
    split at h
    · rename_i n hx
      rw [hx]
      simp only [sh_flat]
      split at h
      · rename_i hl
        cases h
        rw [if_pos hl]
        simp only [shO, sh_list]
        congr 3
        simp [shL, bytesVals, sh_flat]
      · cases h
    · cases h
  case strOf x =>
    rw [O.ev_sh hi, view_sh hs, lenM_sh hs]
    split at h
    · rename_i cs n h1 h2
      simp only [h1, h2, Option.map_some, shL_len, asInts_sh]
      split at h
      · rename_i hc
        rw [if_pos hc]
        rw [Option.map_eq_some_iff] at h ⊢
        obtain ⟨l, h3, rfl⟩ := h
        exact ⟨l, h3, rfl⟩
      · cases h
    · cases h
  case lenS x =>
    rw [O.ev_sh hi, lenOf_sh]
    rw [Option.map_eq_some_iff] at h ⊢
    obtain ⟨l, h3, rfl⟩ := h
    exact ⟨l, h3, rfl⟩
  case lenStr x =>
    rw [O.ev_sh hi]
    split at h
    · rename_i n hx; cases h; rw [hx]; rfl
    · cases h
  case load agg n a =>
    rw [O.ev_sh hi, aview_sh hs]
    split at h
    · rename_i cs hcs
      rw [hcs]
      simp only [Option.map_some, ldA_sh]
      exact mapq h
    · cases h
  case store n a x =>
    rw [O.ev_sh hi.1, O.ev_sh hi.2, cellsOf_sh]
    split at h
    · rename_i cs hcs
      rw [hcs]
      simp only [Option.map_some, shL_len]
      split at h
      · rename_i hc; rw [if_pos hc]; exact storeA_sh hs h
      · cases h
    · cases h
  case storeK n a x =>
    rw [O.ev_sh hi.1, O.ev_sh hi.2, cellsOf_sh]
    split at h
    · rename_i cs hcs
      rw [hcs]
      simp only [Option.map_some, shL_len]
      split at h
      · rename_i hc; rw [if_pos hc]; exact storeKA_sh hs h
      · cases h
    · cases h
  case alloc zs =>
    cases h
    have := shL_shut (s := s) hi
    simp only [shO, sh_mptr, shM_len hs, ← happ, this]
  case box n x =>
    rw [O.ev_sh hi, cellsOf_sh]
    split at h
    · rename_i cs hcs
      rw [hcs]
      simp only [Option.map_some, shL_len]
      split at h
      · rename_i hc; rw [if_pos hc]; cases h; simp only [shO, sh_mptr, shM_len hs, ← happ]
      · cases h
    · cases h
  case build zs ps =>
    rw [parts_sh hi.2]
    have := fillA_sh (s := s) (ps.map fun (o, n, x) => (o, n, x.ev env)) zs
    rw [shL_shut hi.1] at this
    rw [this]
    rw [Option.map_eq_some_iff] at h
    obtain ⟨cs, h3, rfl⟩ := h
    rw [h3]
    simp only [Option.map_some, shO, sh_agg]
  case bslice sz len zs ps =>
    rw [parts_sh hi.2]
    have := fillA_sh (s := s) (ps.map fun (o, n, x) => (o, n, x.ev env)) (List.replicate len zs).flatten
    rw [rep_sh len (shL_shut hi.1)] at this
    rw [this]
    split at h
    · rename_i cs hcs
      rw [hcs]
      simp only [Option.map_some, allI_sh]
      split at h
      · rename_i ha; rw [if_pos ha]; cases h; simp only [shO, sh_list]
      · rename_i ha
        rw [if_neg ha]
        split at h
        · rename_i cs' M' hz
          rw [frzAll_le (Nat.zero_le (0 + s)) (frzAll_sh hs hz)]
          cases h; simp only [shO, sh_list, dirts_sh]
        · cases h
    · cases h
  case mslice sz bytes zs n c =>
    rw [O.ev_sh hi.1.2, O.ev_sh hi.2]
    split at h
    · rename_i k1 n k2 c h1 h2
      rw [h1, h2]
      simp only [sh_flat]
      split at h
      · rename_i hc
        cases h
        rw [if_pos hc]
        have := rep_sh (s := s) n.toNat (shL_shut hi.1.1)
        simp only [shO, sh_ms, shM_len hs, ← happ, this]
      · cases h
    · cases h
  case slice sz x lo h' mx =>
    rw [O.ev_sh hi.1.1.1, view_sh hs, oo_sh (x := lo) hi.1.1.2, oo_sh (x := h') hi.1.2, oo_sh (x := mx) hi.2]
    split at h
    · rename_i cs hcs
      rw [hcs]
      exact sliceA_sh _ _ _ _ _ h
    · cases h
  case sstr x lo h' =>
    rw [O.ev_sh hi.1.1, oo_sh (x := lo) hi.1.2, oo_sh (x := h') hi.2]
    split at h
    · rename_i u hu
      rw [hu]
      simp only [sh_flat, optNat_sh]
      split at h
      · rename_i l hh h1 h2
        split at h
        · rename_i hc; cases h; (try rw [h1, h2]); (try simp only); rw [if_pos hc]; rfl
        · cases h
      · cases h
    · cases h
  case idx sz x i =>
    rw [O.ev_sh hi.1, O.ev_sh hi.2, lenM_sh hs, asInt_sh]
    split at h
    · rename_i n j h1 h2
      split at h
      · rename_i hc; cases h; (try rw [h1, h2]); (try simp only); rw [if_pos hc]; rfl
      · cases h
    · cases h
  case aidx n sz x i =>
    rw [O.ev_sh hi.1, O.ev_sh hi.2, asInt_sh]
    split at h
    · rename_i j h2
      (try rw [h2])
      (try simp only)
      split at h
      · rename_i hc
        rw [if_pos hc]
        split at h
        · rename_i id off hx
          rw [hx]
          simp only [sh_mptr, aliveA_sh hs]
          split at h
          · rename_i ha; rw [if_pos ha]; cases h; rfl
          · cases h
        · rename_i y k hx; rw [hx]; cases h; rfl
        · cases h
      · cases h
    · cases h
  case ival n sz agg x i =>
    rw [O.ev_sh hi.1, O.ev_sh hi.2, asInt_sh]
    split at h
    · rename_i j cs h1 h2
      rw [h1, h2]
      simp only [sh_agg, shL_len]
      split at h
      · rename_i hc
        rw [if_pos hc]
        cases agg with
        | true => simp only [if_true] at h ⊢; cases h; simp only [shO, sh_agg, shL_take, shL_drop]
        | false => simp only [Bool.false_eq_true, if_false] at h ⊢; rw [shL_get]; exact mapq h
      · cases h
    · cases h
  case istr x i =>
    rw [O.ev_sh hi.1, O.ev_sh hi.2, asInt_sh]
    split at h
    · rename_i u j h1 h2
      rw [h1, h2]
      simp only [sh_flat]
      split at h
      · rename_i hc
        rw [if_pos hc]
        split at h
        · rename_i b hb; cases h; (try rw [hb]); rfl
        · cases h
      · cases h
    · cases h
  case fad off x =>
    rw [O.ev_sh hi]
    split at h
    · rename_i id o hx
      rw [hx]
      simp only [sh_mptr, aliveA_sh hs]
      split at h
      · rename_i ha; rw [if_pos ha]; cases h; rfl
      · cases h
    · rename_i y k hx; rw [hx]; cases h; rfl
    · cases h
  case fld agg off n x =>
    rw [O.ev_sh hi]
    split at h
    · rename_i cs hx
      rw [hx]
      simp only [sh_agg, shL_len]
      split at h
      · rename_i hc
        rw [if_pos hc]
        cases agg with
        | true => simp only [if_true] at h ⊢; cases h; simp only [shO, sh_agg, shL_take, shL_drop]
        | false => simp only [Bool.false_eq_true, if_false] at h ⊢; rw [shL_get]; exact mapq h
      · cases h
    · cases h
  case ext j x =>
    rw [O.ev_sh hi]
    split at h
    · rename_i vs hx
      rw [hx]
      simp only [sh_tup, shL_get]
      exact mapq h
    · cases h
  case clo fn caps =>
    cases h
    rw [os_sh hi]
    simp only [shO, sh_clo, shL]
  case nilck x =>
    rw [O.ev_sh hi]
    split at h
    · rename_i id o hx
      rw [hx]
      simp only [sh_mptr, aliveA_sh hs]
      split at h
      · rename_i ha; rw [if_pos ha]; cases h; rfl
      · cases h
    · rename_i y k hx; rw [hx]; cases h; rfl
    · cases h
  case call f args =>
    rw [os_sh hi]
    exact callA_sh HC hs h
  case calld f args =>
    rw [O.ev_sh hi.1, os_sh hi.2]
    split at h
    · rename_i f' caps hx
      rw [hx]
      simp only [sh_clo, shL, ← List.map_append]
      exact callA_sh HC hs h
    · rename_i id y caps hx
      rw [hx]
      have := callA_sh HC hs h
      simpa only [sh_yld, List.map_cons] using this
    · cases h
  case app sz bytes y x =>
    rw [O.ev_sh hi.1, O.ev_sh hi.2, view_sh hs, lenOf_sh]
    split at h
    · rename_i news m h1 h2
      rw [h1, h2]
      exact appA_sh hs h
    · cases h
  case copy sz y x =>
    rw [O.ev_sh hi.1, O.ev_sh hi.2, view_sh hs, lenOf_sh]
    split at h
    · rename_i id off len sz' cd cs n h1 h2 h3
      rw [h1, h2, h3]
      simp only [sh_ms, Option.map_some]
      split at h
      · rename_i old ho
        simp only [shM_some hs ho, shL_len, allI_sh]
        split at h
        · rename_i hc
          cases h
          rw [if_pos hc]
          have := shM_set (M := M) hs id (some (splice old off (cs.take (Nat.min n len * sz))))
          simp only [Option.map_some, ← splice_sh, ← shL_take] at this
          simp only [this, dirt_sh, shO, sh_flat]
        · cases h
      · cases h
    · cases h
  case min x y =>
    rw [O.ev_sh hi.1, O.ev_sh hi.2]
    split at h
    · rename_i k a k' b h1 h2
      rw [h1, h2]
      simp only [sh_flat]
      split at h
      · rename_i hc; cases h; rw [if_pos hc]; rfl
      · cases h
    · cases h
  case max x y =>
    rw [O.ev_sh hi.1, O.ev_sh hi.2]
    split at h
    · rename_i k a k' b h1 h2
      rw [h1, h2]
      simp only [sh_flat]
      split at h
      · rename_i hc; cases h; rw [if_pos hc]; rfl
      · cases h
    · cases h
  case clear sz zs x =>
    rw [O.ev_sh hi.2]
    split at h
    · rename_i sz' nl cd hx; rw [hx]; cases h; simp only [sh_list, shL, List.map_nil, shO, sh_flat]
    · rename_i id off len sz' cd hx
      rw [hx]
      simp only [sh_ms]
      split at h
      · rename_i old ho
        simp only [shM_some hs ho, shL_len]
        split at h
        · rename_i hc
          rw [if_pos hc]
          split at h
          · rename_i hl; cases h; rw [if_pos hl]; rfl
          · rename_i hl
            cases h
            rw [if_neg hl]
            have := shM_set (M := M) hs id (some (splice old off (List.replicate len zs).flatten))
            simp only [Option.map_some, ← splice_sh, rep_sh len (shL_shut hi.1)] at this
            simp only [this, dirt_sh, shO, sh_flat]
        · cases h
      · cases h
    · cases h
  case xop o xs =>
    rw [os_sh hi.2]
    exact evX_sh hs hi.1 h
  case stop => cases h
/-! ### Code and functions -/
def AOp.shut (o : AOp) : Bool := o.i.shut
def AC.shut : AC → Bool
  | .seq a b => a.shut && b.shut
  | .cond c a b => c.shut && (a.shut && b.shut)
  | .block _ a => a.shut
  | .loop a => a.shut
  | .region _ ops => ops.all AOp.shut
  | .range _ g _ => g.shut
  | .regionC _ ops => ops.all AOp.shut
  | .regionF _ ops => ops.all AOp.shut
  | _ => true
theorem wantA_sh (g : Option (Nat × Bool)) : wantA (fun t => sh s (env t)) g = wantA env g := by
  cases g with
  | none => rfl
  | some p =>
    obtain ⟨t, b⟩ := p
    simp only [wantA]
    cases env t <;> simp [sh_flat, sh_list, sh_agg, sh_elem, sh_mptr, sh_ms, sh_clo, sh_tup, sh_any, sh_yld, sh_mp]
theorem updO_sh (d : Option Nat) (v : AV) : updO (fun t => sh s (env t)) d (sh s v) = fun t => sh s (updO env d v t) := by
  funext t
  simp only [upd_if]
  split <;> rfl
theorem evQ_sh {call : Call} (HC : CSh call) (hs : Pre.length = s) : ∀ {ops : List AOp} {env env' : Env}, ops.all AOp.shut = true → evQ call base M ops env = some env' → evQ call (base + s) (Pre ++ shM s M) ops (fun t => sh s (env t)) = some (fun t => sh s (env' t))
  | [], env, env', _, h => by simp only [evQ, Option.some.injEq] at h ⊢; rw [h]
  | o :: r, env, env', ho, h => by
    simp only [List.all_cons, Bool.and_eq_true] at ho
    simp only [evQ, wantA_sh] at h ⊢
    split at h
    · rename_i hw
      (try rw [hw])
      split at h
      · rename_i v hv
        have := evI_sh (D := []) HC hs ho.1 hv
        simp only [List.map_nil, shO] at this
        simp only [this, updO_sh]
        exact evQ_sh HC hs ho.2 h
      · cases h
    · rename_i hw
      (try rw [hw])
      have := updO_sh (s := s) (env := env) o.dst (.flat undef)
      simp only [sh_flat] at this
      simp only [this]
      exact evQ_sh HC hs ho.2 h
    · cases h
theorem calm_sh {id : Nat} {i : I} (hi : i.shut = true) : i.calm (id + s) (fun t => sh s (env t)) = i.calm id env := by
  have key : ∀ {x : O}, x.shut = true → (match x.ev (fun t => sh s (env t)) with | .mptr i _ => i != id + s | _ => false) = (match x.ev env with | .mptr i _ => i != id | _ => false) := by
    intro x hx
    rw [O.ev_sh hx]
    cases x.ev env <;> simp [sh_flat, sh_list, sh_agg, sh_elem, sh_mptr, sh_ms, sh_clo, sh_tup, sh_any, sh_yld, sh_mp]
    rename_i j _
    by_cases h : j = id
    · simp [h]
    · simp only [bne, beq_eq_false_iff_ne.2 h, beq_eq_false_iff_ne.2 (show j + s ≠ id + s by omega)]
  cases i <;> simp only [I.calm] <;> first | rfl | skip
  all_goals (simp only [I.shut, I.os, List.all_cons, List.all_nil, Bool.and_true] at hi; exact key hi)
theorem calmQ_sh {call : Call} (HC : CSh call) (hs : Pre.length = s) {id : Nat} : ∀ {ops : List AOp} {env : Env}, ops.all AOp.shut = true → calmQ call base M id ops env = true → calmQ call (base + s) (Pre ++ shM s M) (id + s) ops (fun t => sh s (env t)) = true
  | [], _, _, _ => rfl
  | o :: r, env, ho, hq => by
    simp only [List.all_cons, Bool.and_eq_true] at ho
    simp only [calmQ, Bool.and_eq_true] at hq ⊢
    obtain ⟨h1, h2, h3⟩ := hq
    refine ⟨h1, by rw [calm_sh ho.1]; exact h2, ?_⟩
    split at h3
    · rename_i v hv
      have := evI_sh (D := []) HC hs ho.1 hv
      simp only [List.map_nil, shO] at this
      rw [this]
      simp only [updO_sh]
      exact calmQ_sh HC hs ho.2 h3
    · cases h3
theorem tgtK_sh {o : Option AOp} {id : Nat} (ho : ∀ x, o = some x → x.shut = true) (h : tgtK env o = some id) : tgtK (fun t => sh s (env t)) o = some (id + s) := by
  unfold tgtK at h ⊢
  split at h
  · rename_i n a x
    have := ho _ rfl
    simp only [AOp.shut, I.shut, I.os, List.all_cons, List.all_nil, Bool.and_true, Bool.and_eq_true] at this
    rw [O.ev_sh this.1]
    split at h
    · rename_i i off ha
      cases h
      rw [ha]; rfl
    · cases h
  · cases h
theorem evS_sh {call : Call} (HC : CSh call) (hs : Pre.length = s) : ∀ {ops : List AOp} {env env' : Env} {M M' : MS} {D D' : List Nat}, ops.all AOp.shut = true → evS call base ops env M D = some (env', M', D') →
    evS call (base + s) ops (fun t => sh s (env t)) (Pre ++ shM s M) (D.map (· + s)) = some (fun t => sh s (env' t), Pre ++ shM s M', D'.map (· + s))
  | [], env, env', M, M', D, D', _, h => by simp only [evS, Option.some.injEq, Prod.mk.injEq] at h ⊢; obtain ⟨rfl, rfl, rfl⟩ := h; exact ⟨rfl, rfl, rfl⟩
  | o :: r, env, env', M, M', D, D', ho, h => by
    simp only [List.all_cons, Bool.and_eq_true] at ho
    simp only [evS, wantA_sh] at h ⊢
    split at h
    · rename_i hw
      (try rw [hw])
      split at h
      · rename_i v hv
        have := evI_sh HC hs ho.1 hv
        simp only [shO] at this
        simp only [this, updO_sh]
        exact evS_sh HC hs ho.2 h
      · rename_i v M1 D1 hv
        have := evI_sh HC hs ho.1 hv
        simp only [shO] at this
        simp only [this, updO_sh]
        exact evS_sh HC hs ho.2 h
      · cases h
    · rename_i hw
      (try rw [hw])
      have := updO_sh (s := s) (env := env) o.dst (.flat undef)
      simp only [sh_flat] at this
      simp only [this]
      exact evS_sh HC hs ho.2 h
    · cases h
theorem killA_sh (hs : Pre.length = s) : ∀ (ks : List Nat) (M : MS), killA (Pre ++ shM s M) (ks.map (· + s)) = Pre ++ shM s (killA M ks)
  | [], M => rfl
  | k :: ks, M => by
    have h1 := shM_set (M := M) hs k none
    simp only [Option.map_none] at h1
    have := killA_sh hs ks (M.set k none)
    simp only [killA, List.map_cons, List.foldl_cons] at this ⊢
    rw [h1, this]
theorem dirtK_sh (D : List Nat) : ∀ ks : List Nat, dirtK (base + s) (ks.map (· + s)) (D.map (· + s)) = (dirtK base ks D).map (· + s)
  | [] => rfl
  | k :: ks => by
    have := dirtK_sh D ks
    simp only [dirtK, List.map_cons, List.foldr_cons] at this ⊢
    rw [this, dirt_sh]
def shF (s : Nat) : AV × List AV × Option Nat → AV × List AV × Option Nat := fun p => (sh s p.1, shL s p.2.1, p.2.2.map (· + s))
theorem evFr_sh {Mo : MS} (hs : Pre.length = s) {id : Nat} {i : I} (hi : i.shut = true) :
    evFr (Pre ++ shM s M) (Pre ++ shM s Mo) (fun t => sh s (env t)) (id + s) i = (evFr M Mo env id i).map (shF s) := by
  cases i <;> simp only [I.shut, I.os, List.all_cons, List.all_nil, Bool.and_true, Bool.and_eq_true, List.all_eq_true, List.all_append] at hi <;> simp only [evFr] <;> try (rfl; done)
  case alloc zs =>
    by_cases ha : allI zs = true
    · rw [if_pos ha, if_pos ha]; simp only [Option.map_some, shF, sh_mptr, shL_shut hi, Option.map_none]
    · rw [if_neg ha, if_neg ha]; rfl
  case box n x =>
    simp only [O.ev_sh hi, cellsOf_sh]
    cases hc : cellsOf (x.ev env) with
    | none => rfl
    | some c =>
      simp only [Option.map_some, shL_len]
      by_cases hl : okO x = true ∧ c.length = n
      · rw [if_pos hl, if_pos hl]; rfl
      · rw [if_neg hl, if_neg hl]; rfl
  case mslice sz b zs n c =>
    simp only [O.ev_sh hi.1.2, O.ev_sh hi.2]
    cases hn : n.ev env with
    | flat u =>
      cases u with
      | int k n' =>
        cases hc : c.ev env with
        | flat u' =>
          cases u' with
          | int k' c' =>
            simp only [sh_flat]
            by_cases hcc : 0 ≤ n' ∧ n' ≤ c' ∧ c' ≤ (LIM : Int) ∧ (b : Int) * c' ≤ 140737488355328 ∧ allI zs = true
            · rw [if_pos hcc, if_pos hcc]
              have := rep_sh (s := s) n'.toNat (shL_shut hi.1.1)
              simp only [Option.map_some, shF, this, sh_ms, Option.map_none]
            · rw [if_neg hcc, if_neg hcc]; rfl
          | _ => rfl
        | _ => simp [sh_flat, sh_list, sh_agg, sh_elem, sh_mptr, sh_ms, sh_clo, sh_tup, sh_any, sh_yld, sh_mp]
      | _ => rfl
    | _ => simp [sh_flat, sh_list, sh_agg, sh_elem, sh_mptr, sh_ms, sh_clo, sh_tup, sh_any, sh_yld, sh_mp]
  case app sz b y x =>
    simp only [O.ev_sh hi.1, O.ev_sh hi.2, view_sh hs, lenOf_sh]
    cases h1 : view Mo (x.ev env) with
    | none => rfl
    | some news =>
      cases h2 : lenOf (x.ev env) with
      | none => rfl
      | some m =>
        simp only [Option.map_some, shL_len]
        by_cases hm : m = 0 ∨ (!(okO y && okO x)) = true
        · rw [if_pos hm, if_pos hm]; rfl
        · rw [if_neg hm, if_neg hm]
          cases hy : y.ev env with
          | list sz' cs nl cd =>
            simp only [sh_list, shL_len]
            split
            · simp only [Option.map_some, shF, shL_app, sh_ms, Option.map_none]
            · rfl
          | ms j off len sz' cd =>
            simp only [sh_ms, shM_get hs]
            by_cases hcd : cd = true
            · rw [if_pos hcd, if_pos hcd]
              cases hM : Mo[j]? with
              | none => rfl
              | some o => cases o with
                | none => rfl
                | some old =>
                  simp only [Option.map_some, shL_len]
                  split
                  · simp only [Option.map_some, shF, shL_app, shL_take, shL_drop, sh_ms, Option.map_none]
                  · rfl
            · rw [if_neg hcd, if_neg hcd]
              cases hM : M[j]? with
              | none => rfl
              | some o => cases o with
                | none => rfl
                | some old =>
                  simp only [Option.map_some, shL_len]
                  split
                  · simp only [Option.map_some, shF, shL_app, shL_take, sh_ms]
                  · rfl
          | _ => simp [sh_flat, sh_list, sh_agg, sh_elem, sh_mptr, sh_ms, sh_clo, sh_tup, sh_any, sh_yld, sh_mp]
  case xop o xs =>
    cases o <;> cases xs <;> first | rfl | simp [evFr]
theorem evQh_sh {Mo : MS} (hs : Pre.length = s) {i : I} {v : AV} (hi : i.shut = true) (hc : i.isCall = false) (h : evQh Mo env i = some v) :
    evQh (Pre ++ shM s Mo) (fun t => sh s (env t)) i = some (sh s v) := by
  have h0 : CSh (fun _ _ _ => none) := fun _ _ _ _ _ _ _ h => by cases h
  have := evI_sh (D := []) h0 hs hi (evQh_inv h)
  simp only [shO, List.map_nil] at this
  have := evI_sub (Mo := Pre ++ shM s Mo) (fun _ _ h => h) (call := fun _ _ _ => none) (base := 0) (D := []) hc this
  unfold evQh
  rw [this]
theorem evHd_sh {call : Call} (HC : CSh call) {L : Nat} {Mo : MS} (hs : Pre.length = s) : ∀ {ops : List AOp} {env env' : Env} {C C' Y Y' : MS} {ks ks' : List Nat}, ops.all AOp.shut = true → evHd call L M Mo ops env C Y ks = some (env', C', Y', ks') →
    evHd call (L + s) (Pre ++ shM s M) (Pre ++ shM s Mo) ops (fun t => sh s (env t)) (Pre ++ shM s C) (shM s Y) (ks.map (· + s)) = some (fun t => sh s (env' t), Pre ++ shM s C', shM s Y', ks'.map (· + s))
  | [], env, env', C, C', Y, Y', ks, ks', _, h => by
    simp only [evHd, Option.some.injEq, Prod.mk.injEq] at h
    obtain ⟨rfl, rfl, rfl, rfl⟩ := h
    rfl
  | o :: r, env, env', C, C', Y, Y', ks, ks', ho, h => by
    simp only [List.all_cons, Bool.and_eq_true] at ho
    have hi : o.i.shut = true := ho.1
    have hupd : ∀ v : AV, updO (fun t => sh s (env t)) o.dst (sh s v) = fun t => sh s (updO env o.dst v t) := fun v => by
      funext t
      cases o.dst with
      | none => rfl
      | some d => simp only [updO, upd]; split <;> rfl
    have hlen : L + s + (shM s Y).length = L + Y.length + s := by simp [shM]; omega
    have hcl : (Pre ++ shM s C).length = C.length + s := shM_len hs
    simp only [evHd] at h ⊢
    split at h
    · rename_i hg
      rw [if_pos hg]
      split at h
      · rename_i hic
        rw [if_pos hic, hcl]
        split at h
        · rename_i v hv
          have := evI_sh (D := []) HC hs hi hv
          simp only [shO, List.map_nil] at this
          rw [this]
          simp only [hupd]
          exact evHd_sh HC hs ho.2 h
        · rename_i v C1 hv
          have := evI_sh (D := []) HC hs hi hv
          simp only [shO, List.map_nil] at this
          rw [this]
          simp only [hupd]
          exact evHd_sh HC hs ho.2 h
        · cases h
      · rename_i hic
        rw [if_neg hic, hlen, evFr_sh hs hi]
        split at h
        · rename_i v cs k hf
          rw [hf]
          simp only [Option.map_some, shF]
          have e1 : shM s Y ++ [some (shL s cs)] = shM s (Y ++ [some cs]) := by simp [shM]
          have e2 : ks.map (· + s) ++ (k.map (· + s)).toList = (ks ++ k.toList).map (· + s) := by cases k <;> simp
          rw [hupd, e1, e2]
          exact evHd_sh HC hs ho.2 h
        · rename_i hf
          rw [hf]
          simp only [Option.map_none]
          split at h
          · rename_i v hv
            rw [evQh_sh hs hi (by simpa using hic) hv]
            simp only [hupd]
            exact evHd_sh HC hs ho.2 h
          · cases h
    · cases h
theorem evAC_sh {call : Call} (HC : CSh call) (hs : Pre.length = s) {n : Nat} : ∀ {c : AC} {env env' : Env} {M M' : MS} {D D' : List Nat} {ex : Ex}, c.shut = true → evAC call base n c env M D = some (ex, env', M', D') →
    evAC call (base + s) n c (fun t => sh s (env t)) (Pre ++ shM s M) (D.map (· + s)) = some (ex, fun t => sh s (env' t), Pre ++ shM s M', D'.map (· + s)) := by
  intro c
  induction c with
  | skip => intro env env' M M' D D' ex _ h; simp only [evAC, Option.some.injEq, Prod.mk.injEq] at h ⊢; obtain ⟨rfl, rfl, rfl, rfl⟩ := h; exact ⟨rfl, rfl, rfl, rfl⟩
  | exit id => intro env env' M M' D D' ex _ h; simp only [evAC, Option.some.injEq, Prod.mk.injEq] at h ⊢; obtain ⟨rfl, rfl, rfl, rfl⟩ := h; exact ⟨rfl, rfl, rfl, rfl⟩
  | ret => intro env env' M M' D D' ex _ h; simp only [evAC, Option.some.injEq, Prod.mk.injEq] at h ⊢; obtain ⟨rfl, rfl, rfl, rfl⟩ := h; exact ⟨rfl, rfl, rfl, rfl⟩
  | stop => intro env env' M M' D D' ex _ h; simp [evAC] at h
  | seq x y ihx ihy =>
    intro env env' M M' D D' ex hc h
    simp only [AC.shut, Bool.and_eq_true] at hc
    simp only [evAC] at h ⊢
    split at h
    · rename_i e1 M1 D1 h1
      rw [ihx hc.1 h1]; exact ihy hc.2 h
    · rename_i hne
      rw [ihx hc.1 h]
      cases ex with
      | nrm => exact absurd h (hne _ _ _)
      | exit id => rfl
      | ret => rfl
  | cond o x y ihx ihy =>
    intro env env' M M' D D' ex hc h
    simp only [AC.shut, Bool.and_eq_true] at hc
    simp only [evAC, O.ev_sh hc.1, asBool_sh] at h ⊢
    split at h
    · rename_i hb; (try rw [hb]); exact ihx hc.2.1 h
    · rename_i hb; (try rw [hb]); exact ihy hc.2.2 h
    · cases h
  | block id x ih =>
    intro env env' M M' D D' ex hc h
    simp only [AC.shut] at hc
    simp only [evAC] at h ⊢
    split at h
    · rename_i id' e1 M1 D1 h1
      rw [ih hc h1]
      simp only
      split at h <;> rename_i hid <;> (simp only [Option.some.injEq, Prod.mk.injEq] at h; obtain ⟨rfl, rfl, rfl, rfl⟩ := h)
      · rw [if_pos hid]
      · rw [if_neg hid]
    · rename_i hne
      rw [ih hc h]
      cases ex with
      | nrm => rfl
      | exit id' => exact absurd h (hne _ _ _ _)
      | ret => rfl
  | loop x ih =>
    intro env env' M M' D D' ex hc h
    simp only [AC.shut] at hc
    simp only [evAC] at h ⊢
    have key : ∀ (k : Nat) {env : Env} {M : MS} {D : List Nat}, evLoop (evAC call base n x) k env M D = some (ex, env', M', D') → evLoop (evAC call (base + s) n x) k (fun t => sh s (env t)) (Pre ++ shM s M) (D.map (· + s)) = some (ex, fun t => sh s (env' t), Pre ++ shM s M', D'.map (· + s)) := by
      intro k
      induction k with
      | zero => intro env M D h; simp [evLoop] at h
      | succ k ihk =>
        intro env M D h
        simp only [evLoop] at h ⊢
        split at h
        · rename_i e1 M1 D1 h1
          rw [ih hc h1]; exact ihk h
        · rename_i hne
          rw [ih hc h]
          cases ex with
          | nrm => exact absurd h (hne _ _ _)
          | exit id => rfl
          | ret => rfl
    exact key n h
  | region k ops =>
    intro env env' M M' D D' ex hc h
    simp only [AC.shut, List.all_eq_true] at hc
    simp only [evAC] at h ⊢
    split at h
    · rename_i e1 h1
      rw [evQ_sh HC hs (by simp only [List.all_eq_true]; exact fun x hx => hc x (List.mem_of_mem_take hx)) h1]
      simp only
      split at h
      · rename_i e2 M2 D2 h2
        rw [evS_sh HC hs (by simp only [List.all_eq_true]; exact fun x hx => hc x (List.mem_of_mem_drop hx)) h2]
        simp only [Option.some.injEq, Prod.mk.injEq] at h
        obtain ⟨rfl, rfl, rfl, rfl⟩ := h
        rfl
      · cases h
    · cases h
  | regionC k ops =>
    intro env env' M M' D D' ex hc h
    simp only [AC.shut, List.all_eq_true] at hc
    simp only [evAC] at h ⊢
    have htk : (ops.take k).all AOp.shut = true := by simp only [List.all_eq_true]; exact fun x hx => hc x (List.mem_of_mem_take hx)
    split at h
    · rename_i e1 h1
      rw [evQ_sh HC hs htk h1]
      simp only
      split at h
      · rename_i id ht
        rw [tgtK_sh (fun x hx => hc x (List.mem_of_getElem? hx)) ht]
        simp only
        split at h
        · rename_i hcq
          rw [if_pos (calmQ_sh HC hs htk hcq)]
          split at h
          · rename_i e2 M2 D2 h2
            rw [evS_sh HC hs (by simp only [List.all_eq_true]; exact fun x hx => hc x (List.mem_of_mem_drop hx)) h2]
            simp only [Option.some.injEq, Prod.mk.injEq] at h
            obtain ⟨rfl, rfl, rfl, rfl⟩ := h
            rfl
          · cases h
        · cases h
      · cases h
    · cases h
  | regionF k ops =>
    intro env env' M M' D D' ex hc h
    simp only [AC.shut, List.all_eq_true] at hc
    simp only [evAC] at h ⊢
    have htk : (ops.take k).all AOp.shut = true := by simp only [List.all_eq_true]; exact fun x hx => hc x (List.mem_of_mem_take hx)
    have e0 : shM s ([] : MS) = [] := rfl
    rw [shM_len hs]
    split at h
    · rename_i e0' C0 Y0 ks0 h0
      have q0 := evHd_sh (Mo := M) HC hs htk h0
      rw [e0, List.map_nil] at q0
      rw [q0]
      simp only
      rw [killA_sh hs, shM_len hs]
      split at h
      · rename_i e1 C Y ks h1
        have q1 := evHd_sh (Mo := killA M ks0) HC hs htk h1
        rw [e0, List.map_nil] at q1
        rw [q1]
        simp only
        split at h
        · rename_i hk
          obtain ⟨rfl, hnd, hcl, hkc⟩ := hk
          have hnd' : (ks.map (· + s)).Nodup := by
            rw [List.nodup_iff_pairwise_ne] at hnd ⊢
            rw [List.pairwise_map]
            exact hnd.imp fun hne he => hne (by omega)
          have hkc' : ks.map (· + s) = [] ∨ (ops.take k).all (fun o => !o.i.isCall) = true := by
            rcases hkc with h | h
            · exact .inl (by rw [h]; rfl)
            · exact .inr h
          rw [if_pos ⟨rfl, hnd', by rw [shM_len hs, hcl], hkc'⟩]
          split at h
          · rename_i e2 M2 D2 h2
            have := evS_sh HC hs (by simp only [List.all_eq_true]; exact fun x hx => hc x (List.mem_of_mem_drop hx)) h2
            rw [← shM_app (s := s) (Pre := Pre) (M := killA C ks) Y, ← dirtK_sh] at this
            rw [killA_sh hs, this]
            simp only [Option.some.injEq, Prod.mk.injEq] at h
            obtain ⟨rfl, rfl, rfl, rfl⟩ := h
            rfl
          · cases h
        · cases h
      · cases h
    · cases h
  | range y g pl =>
    intro env env' M M' D D' ex hc h
    simp only [AC.shut] at hc
    simp only [evAC] at h ⊢
    rw [O.ev_sh hc]
    split at h
    rotate_left
    · cases h
    rename_i f caps hg
    rw [hg]
    simp only [sh_clo]
    have hl : (pl.map fun t => sh s (env t)) = shL s (pl.map env) := by simp [shL]
    have hb : Pre ++ shM s M ++ [some [AV.flat (.int .i64 0), AV.flat (.int .i64 0)]] = Pre ++ shM s (M ++ [some [AV.flat (.int .i64 0), AV.flat (.int .i64 0)]]) := by simp [shM, shL, sh_flat]
    have ha : ∀ {out : Out}, call f (.yld M.length y (pl.map env) :: caps) (M ++ [some [AV.flat (.int .i64 0), AV.flat (.int .i64 0)]]) = some out →
        call f (.yld (Pre ++ shM s M).length y (pl.map fun t => sh s (env t)) :: shL s caps) (Pre ++ shM s M ++ [some [AV.flat (.int .i64 0), AV.flat (.int .i64 0)]]) = some (shO s Pre out) := by
      intro out ho
      have := HC _ _ _ _ Pre s hs ho
      rw [hb, hl, shM_len hs]
      simpa only [List.map_cons, sh_yld, shL] using this
    split at h
    · rename_i x M1 D1 h1
      rw [ha h1]
      simp only [shO]
      split at h
      rotate_left
      · cases h
      rename_i st pd hM
      have hM2 := shM_some hs hM
      rw [shM_len hs, hM2]
      simp only [shL, List.map_cons, List.map_nil, sh_flat]
      split at h
      · cases h
      rename_i hst
      rw [if_neg hst]
      simp only [Option.some.injEq, Prod.mk.injEq] at h
      obtain ⟨rfl, rfl, rfl, rfl⟩ := h
      have hset := shM_set (M := M1) hs M.length (some [.flat (.int .i64 3), .flat (.int .i64 pd)])
      simp only [Option.map_some, shL, List.map_cons, List.map_nil, sh_flat] at hset
      rw [hset]
      simp only [Option.some.injEq, Prod.mk.injEq, true_and, List.map_append]
      congr 1
      rw [List.filter_map]
      congr 1
      exact List.filter_congr fun x _ => by simp
    · rename_i x h1
      rw [ha h1]
      simp only [shO]
      simp only [Option.some.injEq, Prod.mk.injEq] at h
      obtain ⟨rfl, rfl, rfl, rfl⟩ := h
      simp [shM, shL, sh_flat]
    · cases h
theorem envY_sh (ps pl : List Nat) (caps args : List AV) : envY ps pl (shL s caps) (shL s args) = fun t => sh s (envY ps pl caps args t) := by
  have key : ∀ (q : List Nat) (xs : List AV) (e : Env), (q.zip (shL s xs)).foldl (fun e p => upd e p.1 p.2) (fun t => sh s (e t)) = fun t => sh s ((q.zip xs).foldl (fun e p => upd e p.1 p.2) e t) := by
    intro q
    induction q with
    | nil => intro xs e; simp
    | cons a q ih =>
      intro xs e
      cases xs with
      | nil => simp [shL]
      | cons x xs =>
        simp only [shL, List.map_cons, List.zip_cons_cons, List.foldl_cons]
        have : upd (fun t => sh s (e t)) a (sh s x) = fun t => sh s (upd e a x t) := by
          funext t; unfold upd; split <;> rfl
        rw [this]
        exact ih xs _
  unfold envY
  have := key pl caps fun _ => .any
  rw [← key]
  congr 1
theorem rvA_sh (hs : Pre.length = s) (r : RV) : rvA (fun t => sh s (env t)) (Pre ++ shM s M) r = (rvA env M r).map (sh s) := by
  cases r with
  | t n => rfl
  | cell a agg n =>
    simp only [rvA, aview_sh hs]
    cases aview M (env a) with
    | none => rfl
    | some cs => simp only [Option.map_some, ldA_sh]
theorem resA_sh (hs : Pre.length = s) : ∀ rs : List RV, resA (fun t => sh s (env t)) (Pre ++ shM s M) rs = (resA env M rs).map (shL s)
  | [] => rfl
  | r :: rs => by
    simp only [resA, rvA_sh hs, resA_sh hs rs]
    cases rvA env M r with
    | none => rfl
    | some v => cases resA env M rs with
      | none => rfl
      | some vs => simp [shL]
theorem tupA_sh (vs : List AV) : tupA (shL s vs) = sh s (tupA vs) := by
  match vs with
  | [] => simp [tupA, shL, sh_tup]
  | [v] => simp [tupA, shL]
  | v :: u :: r => simp [tupA, shL, sh_tup]
theorem fin_sh (hs : Pre.length = s) {keep : Bool} {r : AV} {out : Out} (h : fin base keep r M D = some out) : fin (base + s) keep (sh s r) (Pre ++ shM s M) (D.map (· + s)) = some (shO s Pre out) := by
  unfold fin at h ⊢
  cases keep with
  | true => simp only [if_true] at h ⊢; cases h; rfl
  | false =>
    simp only [Bool.false_eq_true, if_false] at h ⊢
    split at h
    · rename_i r' M' hz
      rw [frzV_sh hs hz]
      simp only [isI_sh]
      split at h
      · rename_i hi
        (try rw [if_pos hi])
        split at h
        · cases h; rfl
        · rename_i hne
          have hal : ((D.map (· + s)).all fun id => match (Pre ++ shM s M')[id]? with | some (some cs) => allI cs | _ => true) = (D.all fun id => match M'[id]? with | some (some cs) => allI cs | _ => true) := by
            rw [List.all_map]
            congr 1
            funext id
            simp only [Function.comp, shM_get hs]
            cases M'[id]? with
            | none => rfl
            | some b => cases b with
              | none => rfl
              | some cs => simp [allI_sh]
          have htk : (Pre ++ shM s M').take (base + s) = Pre ++ shM s (M'.take base) := by
            rw [List.take_append]
            simp [hs, shM, List.map_take, List.take_of_length_le]
          cases D with
          | nil => exact absurd rfl hne
          | cons d D =>
            simp only [List.map_cons] at hal ⊢
            split at h
            · rename_i ha; cases h; refine (if_pos ?_).trans ?_
              · exact hal.trans ha
              · simp only [htk, shO, List.map_cons]
            · rename_i ha; cases h; refine (if_neg ?_).trans ?_
              · exact fun hh => ha (hal.symm.trans hh)
              · simp only [shO, List.map_cons]
      · cases h
    · cases h
theorem evRound_sh {call : Call} (HC : CSh call) (hs : Pre.length = s) {n id : Nat} {ay : AY} {caps args : List AV} {out : Out} (h1 : ay.assign.shut = true) (h2 : ay.body.shut = true) (h : evRound call n ay id caps args M = some out) :
    evRound call n ay (id + s) (shL s caps) (shL s args) (Pre ++ shM s M) = some (shO s Pre out) := by
  unfold evRound at h ⊢
  simp only [shL_len]
  split at h
  rotate_left
  · cases h
  rename_i hl
  rw [if_pos hl]
  split at h
  rotate_left
  · cases h
  rename_i env M1 D1 ha
  have ha2 := evAC_sh HC hs h1 ha
  simp only [List.map_nil] at ha2
  rw [shM_len hs, envY_sh, ha2]
  simp only
  split at h
  rotate_left
  · cases h
  rename_i st pd hM
  have hM2 := shM_some hs hM
  rw [hM2]
  simp only [shL, List.map_cons, List.map_nil, sh_flat]
  split at h
  rotate_left
  · cases h
  rename_i hst
  rw [if_pos hst]
  split at h
  rotate_left
  · cases h
  rename_i ex env2 M2 D2 hb
  cases h
  have hb2 := evAC_sh HC hs h2 hb
  have hset := shM_set (M := M1) hs id (some [.flat (.int .i64 1), .flat (.int .i64 pd)])
  simp only [Option.map_some, shL, List.map_cons, List.map_nil, sh_flat] at hset
  rw [hset, dirt_sh, hb2]
  have hset2 := shM_set (M := M2) hs id (some [.flat (.int .i64 (if ex = .nrm then 0 else 2)), .flat (.int .i64 (unpend ex))])
  simp only [Option.map_some, shL, List.map_cons, List.map_nil, sh_flat] at hset2
  simp only [hset2, dirt_sh, shO, sh_flat]
theorem evFn_sh {p : Pr} (hA : ∀ f af, p.A f = some af → af.body.shut = true) (hE : CSh p.ext) (hY : ∀ y ay, p.Y y = some ay → ay.assign.shut = true ∧ ay.body.shut = true) : ∀ n, CSh (evFn p n)
  | 0 => fun f args M out Pre s hs h => by simp [evFn] at h
  | n + 1 => fun f args M out Pre s hs h => by
    simp only [evFn] at h ⊢
    split at h
    · rename_i af haf
      (try rw [haf])
      have henv : env0 (args.map (sh s)) = fun t => sh s (env0 args t) := by
        funext t
        simp only [env0, List.getD_eq_getElem?_getD, List.getElem?_map]
        cases args[t]? <;> rfl
      split at h
      · cases h
      · rename_i ex env' M' D' hne hev
        have h1 := evAC_sh (evFn_sh hA hE hY n) hs (hA f af haf) hev
        simp only [List.map_nil] at h1
        rw [shM_len hs, henv, h1]
        split at h
        · rename_i vs hvs
          have h2 : resA (fun t => sh s (env' t)) (Pre ++ shM s M') af.res = some (shL s vs) := by rw [resA_sh hs, hvs]; rfl
          cases ex with
          | exit id => exact absurd rfl (hne id)
          | nrm => simp only [h2, tupA_sh]; exact fin_sh hs h
          | ret => simp only [h2, tupA_sh]; exact fin_sh hs h
        · cases h
      · cases h
    · rename_i haf
      (try rw [haf])
      split at h
      · rename_i ay hay
        (try rw [hay])
        split at h
        · rename_i id y caps vals
          split at h
          · rename_i hy
            subst hy
            simp only [List.map_cons, sh_yld, if_true]
            exact evRound_sh (evFn_sh hA hE hY n) hs (hY _ _ hay).1 (hY _ _ hay).2 h
          · cases h
        · cases h
      · rename_i hay
        (try rw [hay])
        exact hE f args M out Pre s hs h
/-- What comes of values that name no places, in no memory, comes of them in any. -/
theorem ev_any {p : Pr} (hA : ∀ f af, p.A f = some af → af.body.shut = true) (hE : CSh p.ext) (hY : ∀ y ay, p.Y y = some ay → ay.assign.shut = true ∧ ay.body.shut = true) {f : Nat} {args : List AV} {v : AV} (ha : Av.shut.all args = true) (hv : Av.shut v = true) (h : ev p f args [] = some (.q v)) (M : MS) : ev p f args M = some (.q v) := by
  obtain ⟨n, hn⟩ := ev_some.1 h
  have := evFn_sh hA hE hY n f args [] (.q v) M M.length rfl hn
  rw [shut_map _ ha] at this
  simp only [shM, List.map_nil, List.append_nil, shO, sh_shut _ v hv] at this
  exact ev_some.2 ⟨n, this⟩
theorem orC_sh {c d : Call} (hc : CSh c) (hd : CSh d) (hx : ∀ f args M out Pre s, Pre.length = s → c f args M = none → d f args M = some out → c f (args.map (sh s)) (Pre ++ shM s M) = none) : CSh (orC c d) := by
  intro f args M out Pre s hs h
  unfold orC at h ⊢
  split at h
  · rename_i r hr; cases h; rw [hc _ _ _ _ Pre s hs hr]
  · rename_i hn
    rw [hx _ _ _ _ Pre s hs hn h]
    exact hd _ _ _ _ Pre s hs h
theorem extS_sh (sf : Nat) : CSh (extS sf) := by
  intro f args M out Pre s hs h
  unfold extS at h ⊢
  split at h
  · rename_i hf
    rw [if_pos hf]
    unfold sortA at h
    split at h
    · rename_i id off len sz cd
      split at h
      · rename_i cs hcs
        split at h
        · rename_i hc
          split at h
          · rename_i l hl
            cases h
            simp only [List.map_cons, List.map_nil, sh_ms, sortA, shM_some hs hcs, shL_len, shL_drop, shL_take, asInts_sh]
            rw [if_pos hc, hl]
            have h1 : shL s (intsA (sorted l)) = intsA (sorted l) := by simp [shL, intsA, sh_flat]
            have := shM_set (M := M) hs id (some (splice cs off (intsA (sorted l))))
            simp only [Option.map_some, ← splice_sh, h1] at this
            simp only [this, shO, sh_flat, List.map_cons, List.map_nil]
          · cases h
        · cases h
      · cases h
    · cases h
  · cases h
theorem extS0_sh (sf : Nat) : CSh (extS0 sf) := by
  intro f args M out Pre s hs h
  unfold extS0 at h ⊢
  split at h
  · rename_i hf
    rw [if_pos hf]
    split at h
    · cases h; rfl
    · cases h
  · cases h
end
end Go.Proofs.Ytlcdafidoddefaa.Av
namespace Go.Proofs.Ytlcdafidoddefaa.Av
open Go.RowKit
set_option linter.unusedSimpArgs false
def I64 (n : Int) : Prop := -9223372036854775808 ≤ n ∧ n ≤ 9223372036854775807
theorem i64_wf {n : Int} (h : (Lit.int .i64 n).wf = true) : I64 n := by
  simp only [Lit.wf, Bool.and_eq_true, decide_eq_true_eq] at h
  exact ⟨h.1, h.2⟩
theorem ints_has : ∀ {rows : List (List AV)}, (∀ r ∈ rows, (DT.int .i64).Has r ∧ r.length = 1) → ∃ l, rows.flatten = intsA l ∧ l.length = rows.length ∧ ∀ n ∈ l, I64 n
  | [], _ => ⟨[], rfl, rfl, fun n h => by simp at h⟩
  | r :: rows, h => by
    obtain ⟨⟨n, h1, h2⟩, _⟩ := h r (by simp)
    obtain ⟨l, h3, h4, h5⟩ := ints_has (rows := rows) fun r hr => h r (by simp [hr])
    refine ⟨n :: l, by rw [List.flatten_cons, h3, h1]; rfl, by simp [h4], fun m hm => ?_⟩
    rcases List.mem_cons.1 hm with rfl | hm
    · exact i64_wf h2
    · exact h5 m hm
/-- A slice of whole numbers. -/
def IsInts (x : AV) (l : List Int) : Prop := ∃ nl cd, x = .list 1 (intsA l) nl cd ∧ (nl = true → l = [] ∧ cd = true)
theorem ints_arg' {x : AV} (h : (DT.sl 1 (.int .i64)).Has [x]) : ∃ l, IsInts x l ∧ (∀ n ∈ l, I64 n) ∧ l.length ≤ maxLen := by
  obtain ⟨rows, nl, cd, h1, h2, h3, h4, h5⟩ := h
  simp only [List.cons.injEq, and_true] at h1
  obtain ⟨l, h6, h7, h8⟩ := ints_has h5
  refine ⟨l, ⟨nl, cd, by rw [h1, h6], fun hn => ?_⟩, h8, by omega⟩
  obtain ⟨h9, h10⟩ := h2 hn
  subst h9
  exact ⟨List.eq_nil_of_length_eq_zero (by simpa using h7), h10⟩
theorem ints_arg {x : AV} (h : (DT.sl 1 (.int .i64)).Arg x) : ∃ l, IsInts x l ∧ (∀ n ∈ l, I64 n) ∧ l.length ≤ maxLen := ints_arg' h
end Go.Proofs.Ytlcdafidoddefaa.Av
namespace Go.Proofs.Ytlcdafidoddefaa.Av
open Go.RowKit
set_option linter.unusedSimpArgs false
/-- A row that a function of this call's own made by append, or that can't be written: its cells. -/
def Buf (m : MS) (x : AV) (sz : Nat) (cs : List AV) : Prop := 0 < sz ∧ allI cs = true ∧ (∃ n, cs.length = n * sz) ∧
  ((x = .list sz cs true true ∧ cs = []) ∨ x = .list sz cs false true ∨ ∃ id, x = .ms id 0 (cs.length / sz) sz false ∧ m[id]? = some (some cs))
theorem Buf.pos {m : MS} {x : AV} {sz : Nat} {cs : List AV} (h : Buf m x sz cs) : 0 < sz := h.1
theorem Buf.len {m : MS} {x : AV} {sz : Nat} {cs : List AV} (h : Buf m x sz cs) : cs.length / sz * sz = cs.length := by
  obtain ⟨h0, _, ⟨n, hn⟩, _⟩ := h
  rw [hn, Nat.mul_div_cancel _ h0]
theorem Buf.view {m : MS} {x : AV} {sz : Nat} {cs : List AV} (h : Buf m x sz cs) : view m x = some cs := by
  have hl := h.len
  obtain ⟨h0, _, _, h | h | ⟨id, rfl, h⟩⟩ := h
  · rw [h.1]; rfl
  · rw [h]; rfl
  · simp only [Av.view, h, hl, Nat.zero_add, Nat.le_refl, if_true, List.drop_zero, List.take_length]
theorem Buf.lenOf {m : MS} {x : AV} {sz : Nat} {cs : List AV} (h : Buf m x sz cs) : lenOf x = some (cs.length / sz) := by
  obtain ⟨_, _, _, h | h | ⟨id, rfl, h⟩⟩ := h
  · rw [h.1]; rfl
  · rw [h]; rfl
  · rfl
theorem Buf.lenM {m : MS} {x : AV} {sz : Nat} {cs : List AV} (h : Buf m x sz cs) : lenM m x = some (cs.length / sz) := by
  simp only [Av.lenM, h.view, h.lenOf]
theorem Buf.nil (m : MS) {sz : Nat} (h : 0 < sz) : Buf m (.list sz [] true true) sz [] := ⟨h, rfl, ⟨0, by simp⟩, .inl ⟨rfl, rfl⟩⟩
theorem allI_app : ∀ {a b : List AV}, allI a = true → allI b = true → allI (a ++ b) = true
  | [], _, _, h => h
  | c :: a, b, h1, h2 => by
    simp only [allI, Bool.and_eq_true] at h1
    simp only [List.cons_append, allI, Bool.and_eq_true]
    exact ⟨h1.1, allI_app h1.2 h2⟩
section
variable {p : Pr} {base : Nat} {env : Env} {M : MS} {D : List Nat} {d : Option Nat} {r : List AOp} {R : Env → MS → List Nat → Prop}
end
/-- A row that a function has made by append alone: nil as long as nothing came. -/
def Own (base : Nat) (m : MS) (x : AV) (sz : Nat) (cs : List AV) : Prop := 0 < sz ∧ allI cs = true ∧ (∃ n, cs.length = n * sz) ∧
  ((cs = [] ∧ x = .list sz [] true true) ∨ (cs ≠ [] ∧ ∃ id, base ≤ id ∧ id < m.length ∧ x = .ms id 0 (cs.length / sz) sz false ∧ m[id]? = some (some cs)))
theorem Own.buf {base : Nat} {m : MS} {x : AV} {sz : Nat} {cs : List AV} (h : Own base m x sz cs) : Buf m x sz cs := by
  obtain ⟨h0, h1, h2, ⟨rfl, rfl⟩ | ⟨_, id, _, _, h3, h4⟩⟩ := h
  · exact ⟨h0, h1, h2, .inl ⟨rfl, rfl⟩⟩
  · exact ⟨h0, h1, h2, .inr (.inr ⟨id, h3, h4⟩)⟩
theorem Own.view {base : Nat} {m : MS} {x : AV} {sz : Nat} {cs : List AV} (h : Own base m x sz cs) : view m x = some cs := h.buf.view
theorem Own.lenM {base : Nat} {m : MS} {x : AV} {sz : Nat} {cs : List AV} (h : Own base m x sz cs) : lenM m x = some (cs.length / sz) := h.buf.lenM
theorem Own.lenOf {base : Nat} {m : MS} {x : AV} {sz : Nat} {cs : List AV} (h : Own base m x sz cs) : lenOf x = some (cs.length / sz) := h.buf.lenOf
theorem Own.nil (base : Nat) (m : MS) {sz : Nat} (h : 0 < sz) : Own base m (.list sz [] true true) sz [] := ⟨h, rfl, ⟨0, by simp⟩, .inl ⟨rfl, rfl⟩⟩
/-- What such a row is when it is handed on. -/
def lst (sz : Nat) (cs : List AV) : AV := .list sz cs cs.isEmpty cs.isEmpty
theorem Own.frz {base : Nat} {m : MS} {x : AV} {sz : Nat} {cs : List AV} (h : Own base m x sz cs) : ∃ m', frz base m x = some (lst sz cs, m') ∧ m'.length = m.length ∧ ∀ id, (∀ off len sz' cd, x ≠ .ms id off len sz' cd) → m'[id]? = m[id]? := by
  have hl := h.buf.len
  obtain ⟨h0, h1, h2, ⟨rfl, rfl⟩ | ⟨hne, id, hb, hlt, rfl, h4⟩⟩ := h
  · exact ⟨m, rfl, rfl, fun _ _ => rfl⟩
  · refine ⟨m.set id none, ?_, by simp, fun id' hid => ?_⟩
    · simp only [Av.frz, h4, hl, Nat.zero_add, Nat.le_refl, h1, and_self, and_true, hb, if_true, List.drop_zero, List.take_length]
      cases cs with
      | nil => exact absurd rfl hne
      | cons c cs => rfl
    · rw [List.getElem?_set_ne (fun e => hid _ _ _ _ (by rw [← e]))]
theorem Own.fin {base : Nat} {m : MS} {x : AV} {sz : Nat} {cs : List AV} (h : Own base m x sz cs) : fin base false x m [] = some (.q (lst sz cs)) := by
  obtain ⟨m', h1, _⟩ := h.frz
  have h2 : frzV base m x = some (lst sz cs, m') := by
    obtain ⟨_, _, _, ⟨_, rfl⟩ | ⟨_, id, _, _, rfl, _⟩⟩ := h
    · exact h1
    · exact h1
  simp only [Av.fin, Bool.false_eq_true, if_false, h2, lst, isI, if_true]
section
variable {p : Pr} {base : Nat} {env : Env} {M : MS} {D : List Nat} {d : Option Nat} {r : List AOp} {R : Env → MS → List Nat → Prop}
theorem frzAll_I {base : Nat} {M : MS} : ∀ {cs : List AV}, allI cs = true → frzAll base M cs = some (cs, M)
  | [], _ => rfl
  | c :: cs, h => by
    simp only [allI, Bool.and_eq_true] at h
    have h1 : frz base M c = some (c, M) := by
      cases c <;> simp_all [frz, isI]
    simp only [frzAll, h1, frzAll_I h.2]
end
end Go.Proofs.Ytlcdafidoddefaa.Av
namespace Go.Proofs.Ytlcdafidoddefaa.Av
open Go.RowKit
/-- What a round's number has to do with its loop. -/
def tieOf (P : Program) (ys : List (Nat × AY)) : TieT :=
  ⟨fun y L pl => ∃ f ay fn c, (f, ay) ∈ ys ∧ y = YB + f ∧ P.funcs[f]? = some fn ∧ fn.body = some c ∧ ay.pl = pl ∧ fn.ntmps ≤ L.tmps.size ∧ rfsOf c = [(L.params, L.assign, L.body)]⟩
def yOf (ys : List (Nat × AY)) (y : Nat) : Option AY := if YB ≤ y then (ys.find? fun x => x.1 == y - YB).map (·.2) else none
/-- A round is as it was read. -/
def OkY (P : Program) (f : Nat) (ay : AY) : Prop := ∃ fn, P.funcs[f]? = some fn ∧ trY P fn ay.K = some (ay.ps, ay.assign, ay.body) ∧ ay.N = fn.ntmps ∧ ∀ t ∈ ay.ps, t < ay.N
theorem trY_inv {P : Program} {fn : Func} {K : Bool} {x : List Nat × AC × AC} (h : trY P fn K = some x) : ∃ c ps a b, fn.body = some c ∧ rfsOf c = [(ps, a, b)] ∧ x = (ps.toList, trCode P fn.ntmps K none a, trCode P fn.ntmps K none b) := by
  unfold trY at h
  split at h
  · rename_i c hc
    split at h
    · rename_i ps a b hr; cases h; exact ⟨c, ps, a, b, hc, hr, rfl⟩
    · cases h
  · cases h
theorem prOk_of {P : Program} {p : Pr} {ys : List (Nat × AY)} (hm : P.follows .mixedOrders = true)
    (hA : ∀ f af, p.A f = some af → ∃ fn, P.funcs[f]? = some fn ∧ fn.name ≠ "runtime.NumGoroutine" ∧ trFn P fn af.keep af.K af.rf = some af)
    (hext : @CallOk ⟨tieOf P ys⟩ P p.ext) (hY : p.Y = yOf ys) (hys : ∀ x ∈ ys, OkY P x.1 x.2 ∧ yOf ys (YB + x.1) = some x.2 ∧ p.A (YB + x.1) = none)
    (hrf : ∀ f af, p.A f = some af → ∀ y pl, af.rf = some (y, pl) → ∃ ay, (f, ay) ∈ ys ∧ y = YB + f ∧ ay.pl = pl) : @PrOk ⟨tieOf P ys⟩ P p :=
  letI : Inhabited TieT := ⟨tieOf P ys⟩
  { hm := hm, A := hA, ext := hext
    Y := fun y ay h => by
      rw [hY] at h
      unfold yOf at h
      split at h
      · rename_i hh; exact hh
      · cases h
    tie := fun y L pl h => by
      obtain ⟨f, ay, fn, c, hmem, rfl, hf, hc, hpl, hN, hr⟩ := h
      obtain ⟨⟨fn', hf', ht, hNe, hb⟩, h2, h3⟩ := hys _ hmem
      rw [hf] at hf'; cases hf'
      obtain ⟨c', ps, a, b, hc', hr', he⟩ := trY_inv ht
      rw [hc] at hc'; cases hc'
      rw [hr] at hr'
      simp only [List.cons.injEq, Prod.mk.injEq, and_true] at hr' he
      obtain ⟨rfl, rfl, rfl⟩ := hr'
      obtain ⟨e1, e2, e3⟩ := he
      exact ⟨ay, by rw [hY]; exact h2, h3, hpl, e1.symm, by rw [hNe]; exact e2.symm, by rw [hNe]; exact e3.symm, by rw [hNe]; exact hN, hb⟩
    rf := fun f af fn c haf hf hc y pl hy => by
      obtain ⟨ay, hmem, rfl, hpl⟩ := hrf f af haf y pl hy
      obtain ⟨⟨fn', hf', ht, hNe, hb⟩, h2, h3⟩ := hys _ hmem
      rw [hf] at hf'; cases hf'
      obtain ⟨c', ps, a, b, hc', hr', he⟩ := trY_inv ht
      rw [hc] at hc'; cases hc'
      refine ⟨Nat.le_add_right _ _, fun x hx L e1 e2 e3 hN => ?_⟩
      rw [hr'] at hx
      have hx' : x = (ps, a, b) := by simpa using hx
      subst hx'
      exact ⟨f, ay, fn, c, hmem, rfl, hf, hc, hpl, hN, by rw [hr', e1, e2, e3]⟩ }
end Go.Proofs.Ytlcdafidoddefaa.Av
namespace Go.Proofs.Ytlcdafidoddefaa.Av
open Go.RowKit
set_option linter.unusedSimpArgs false
theorem updO_ite (e : Env) (t x : Nat) (v : AV) : updO e (some t) v x = if x = t then v else e x := rfl
attribute [go_sem ↓] evI ev_t ev_k updO_ite updO_none
attribute [go_sem] evI.callA if_true if_false bin intBin unop eqV asInt asBool env0_zero env0_succ env0_nil Option.map_some Option.map_none lenM_list view_list lenOf_list lenOf_ms aview_elem ldA decide_true decide_false cond_true cond_false optNat List.map_cons List.map_nil List.getElem?_cons_zero List.getElem?_cons_succ Bool.not_true Bool.not_false beq_true beq_false beq_self_eq_true ints_len Nat.div_one Nat.mul_one Int.toNat_natCast Int.natCast_add wrap64 Nat.zero_add Nat.add_zero Bool.false_eq_true Bool.true_eq_false Int.cast_ofNat_Int and_self true_and and_true false_and and_false ne_eq not_true_eq_false not_false_eq_true eq_self Nat.succ_ne_self List.length_append List.length_cons List.length_nil fillA List.replicate_succ List.replicate_zero List.flatten_cons List.flatten_nil List.append_nil List.nil_append List.cons_append List.take_succ_cons List.take_zero List.drop_succ_cons List.drop_zero allI isI Bool.and_true Bool.true_and Bool.and_self ints_head ints_get ints_drop ints_take beq_dec bne_dec allI_ints cutCapd Option.isSome_none Option.isSome_some or_true true_or imp_self false_imp_iff Bool.false_or Bool.or_true List.head?_cons List.head?_drop List.getElem_cons_zero List.getElem_cons_succ
attribute [go_sem low] List.getElem?_eq_getElem ints_head0
theorem cells_agg (cs : List AV) : cellsOf (.agg cs) = some cs := rfl
theorem cells_list (sz : Nat) (cs : List AV) (nl cd : Bool) : cellsOf (.list sz cs nl cd) = some [.list sz cs nl cd] := rfl
theorem cells_ms (id off len sz : Nat) (cd : Bool) : cellsOf (.ms id off len sz cd) = some [.ms id off len sz cd] := rfl
theorem cells_elem (x : AV) (k : Nat) : cellsOf (.elem x k) = some [.elem x k] := rfl
theorem cells_mptr (id off : Nat) : cellsOf (.mptr id off) = some [.mptr id off] := rfl
theorem cells_clo (f : Nat) (cs : List AV) : cellsOf (.clo f cs) = some [.clo f cs] := rfl
theorem cells_int (k : IntKind) (n : Int) : cellsOf (.flat (.int k n)) = some [.flat (.int k n)] := rfl
theorem cells_bool (b : Bool) : cellsOf (.flat (.bool b)) = some [.flat (.bool b)] := rfl
theorem cells_str (s : ByteArray) : cellsOf (.flat (.string s)) = some [.flat (.string s)] := rfl
attribute [go_sem] cells_agg cells_list cells_ms cells_elem cells_mptr cells_clo cells_int cells_bool cells_str
/-- The slots that instructions may write. -/
def asgO : List AOp → List Nat
  | [] => []
  | ⟨some t, _, _⟩ :: r => t :: asgO r
  | ⟨none, _, _⟩ :: r => asgO r
def asg : AC → List Nat
  | .seq a b => asg a ++ asg b
  | .cond _ a b => asg a ++ asg b
  | .block _ a => asg a
  | .loop a => asg a
  | .region _ ops => asgO ops
  | .regionC _ ops => asgO ops
  | .regionF _ ops => asgO ops
  | _ => []
theorem updO_asg {d : Option Nat} {i : I} {g : Option (Nat × Bool)} {r : List AOp} {t : Nat} (h : t ∉ asgO (⟨d, i, g⟩ :: r)) (e : Env) (v : AV) : updO e d v t = e t ∧ t ∉ asgO r := by
  cases d with
  | none => exact ⟨rfl, h⟩
  | some d =>
    simp only [asgO, List.mem_cons, not_or] at h
    exact ⟨by simp only [updO, upd, if_neg h.1], h.2⟩
theorem evHd_asg {call : Call} {L : Nat} {M Mo : MS} {t : Nat} : ∀ {ops : List AOp} {env env' : Env} {C C' Y Y' : MS} {ks ks' : List Nat}, evHd call L M Mo ops env C Y ks = some (env', C', Y', ks') → t ∉ asgO ops → env' t = env t
  | [], env, env', _, _, _, _, _, _, h, _ => by simp only [evHd, Option.some.injEq, Prod.mk.injEq] at h; rw [h.1]
  | ⟨d, i, g⟩ :: r, env, env', C, C', Y, Y', ks, ks', h, ht => by
    simp only [evHd] at h
    have go : ∀ {v : AV} {C1 Y1 : MS} {k1 : List Nat}, evHd call L M Mo r (updO env d v) C1 Y1 k1 = some (env', C', Y', ks') → env' t = env t := fun {v _ _ _} h => by
      obtain ⟨h1, h2⟩ := updO_asg ht env v
      rw [evHd_asg h h2, h1]
    split at h
    · split at h
      · split at h
        · exact go h
        · exact go h
        · cases h
      · split at h
        · exact go h
        · split at h
          · exact go h
          · cases h
    · cases h
theorem evQ_asg {call : Call} {base : Nat} {M : MS} {t : Nat} : ∀ {ops : List AOp} {env env' : Env}, evQ call base M ops env = some env' → t ∉ asgO ops → env' t = env t
  | [], env, env', h, _ => by simp only [evQ, Option.some.injEq] at h; rw [h]
  | ⟨d, i, g⟩ :: r, env, env', h, ht => by
    simp only [evQ] at h
    split at h
    · split at h
      · rename_i v _
        obtain ⟨h1, h2⟩ := updO_asg ht env v
        rw [evQ_asg h h2, h1]
      · cases h
    · obtain ⟨h1, h2⟩ := updO_asg ht env (.flat undef)
      rw [evQ_asg h h2, h1]
    · cases h
theorem evS_asg {call : Call} {base : Nat} {t : Nat} : ∀ {ops : List AOp} {env env' : Env} {M M' : MS} {D D' : List Nat}, evS call base ops env M D = some (env', M', D') → t ∉ asgO ops → env' t = env t
  | [], env, env', M, M', D, D', h, _ => by simp only [evS, Option.some.injEq, Prod.mk.injEq] at h; rw [h.1]
  | ⟨d, i, g⟩ :: r, env, env', M, M', D, D', h, ht => by
    simp only [evS] at h
    split at h
    · split at h
      · rename_i v _
        obtain ⟨h1, h2⟩ := updO_asg ht env v
        rw [evS_asg h h2, h1]
      · rename_i v _ _ _
        obtain ⟨h1, h2⟩ := updO_asg ht env v
        rw [evS_asg h h2, h1]
      · cases h
    · obtain ⟨h1, h2⟩ := updO_asg ht env (.flat undef)
      rw [evS_asg h h2, h1]
    · cases h
theorem asgO_take {t : Nat} : ∀ {ops : List AOp} {k : Nat}, t ∉ asgO ops → t ∉ asgO (ops.take k) ∧ t ∉ asgO (ops.drop k)
  | ops, 0, h => ⟨by simp [asgO], h⟩
  | [], k + 1, h => ⟨h, h⟩
  | ⟨d, i, g⟩ :: r, k + 1, h => by
    obtain ⟨_, h2⟩ := updO_asg h (fun _ => .flat undef) (.flat undef)
    obtain ⟨h3, h4⟩ := asgO_take (k := k) h2
    refine ⟨?_, h4⟩
    cases d with
    | none => exact h3
    | some d => simp only [asgO, List.mem_cons, not_or, List.take_succ_cons] at h ⊢; exact ⟨h.1, h3⟩
theorem evLoop_asg {f : Env → MS → List Nat → Option (Ex × Env × MS × List Nat)} {t : Nat} (hf : ∀ e m d x e' m' d', f e m d = some (x, e', m', d') → e' t = e t) : ∀ {n : Nat} {e e' : Env} {m m' : MS} {d d' : List Nat} {x : Ex}, evLoop f n e m d = some (x, e', m', d') → e' t = e t
  | 0, e, e', m, m', d, d', x, h => by simp [evLoop] at h
  | n + 1, e, e', m, m', d, d', x, h => by
    simp only [evLoop] at h
    split at h
    · rename_i e1 m1 d1 h1
      rw [evLoop_asg hf h, hf _ _ _ _ _ _ _ h1]
    · exact hf _ _ _ _ _ _ _ h
theorem evAC_asg {call : Call} {base n : Nat} {t : Nat} : ∀ {a : AC} {env env' : Env} {M M' : MS} {D D' : List Nat} {ex : Ex}, evAC call base n a env M D = some (ex, env', M', D') → t ∉ asg a → env' t = env t := by
  intro a
  induction a with
  | skip => intro env env' M M' D D' ex h _; simp only [evAC, Option.some.injEq, Prod.mk.injEq] at h; rw [h.2.1]
  | exit id => intro env env' M M' D D' ex h _; simp only [evAC, Option.some.injEq, Prod.mk.injEq] at h; rw [h.2.1]
  | ret => intro env env' M M' D D' ex h _; simp only [evAC, Option.some.injEq, Prod.mk.injEq] at h; rw [h.2.1]
  | stop => intro env env' M M' D D' ex h _; simp [evAC] at h
  | seq x y ihx ihy =>
    intro env env' M M' D D' ex h ht
    simp only [asg, List.mem_append, not_or] at ht
    simp only [evAC] at h
    split at h
    · rename_i e1 m1 d1 hx
      rw [ihy h ht.2, ihx hx ht.1]
    · exact ihx h ht.1
  | cond c x y ihx ihy =>
    intro env env' M M' D D' ex h ht
    simp only [asg, List.mem_append, not_or] at ht
    simp only [evAC] at h
    split at h
    · exact ihx h ht.1
    · exact ihy h ht.2
    · cases h
  | block id x ih =>
    intro env env' M M' D D' ex h ht
    simp only [evAC] at h
    split at h
    · rename_i hx
      split at h <;> (simp only [Option.some.injEq, Prod.mk.injEq] at h; obtain ⟨_, rfl, _, _⟩ := h; exact ih hx ht)
    · exact ih h ht
  | loop x ih =>
    intro env env' M M' D D' ex h ht
    simp only [evAC] at h
    exact evLoop_asg (fun _ _ _ _ _ _ _ hh => ih hh ht) h
  | region k ops =>
    intro env env' M M' D D' ex h ht
    simp only [evAC] at h
    obtain ⟨h1, h2⟩ := asgO_take (k := k) ht
    split at h
    · rename_i e1 he
      split at h
      · rename_i e2 m2 d2 hS
        simp only [Option.some.injEq, Prod.mk.injEq] at h
        obtain ⟨_, rfl, _, _⟩ := h
        rw [evS_asg hS h2, evQ_asg he h1]
      · cases h
    · cases h
  | regionC k ops =>
    intro env env' M M' D D' ex h ht
    simp only [evAC] at h
    obtain ⟨h1, h2⟩ := asgO_take (k := k) ht
    split at h
    · rename_i e1 he
      split at h
      · split at h
        · split at h
          · rename_i e2 m2 d2 hS
            simp only [Option.some.injEq, Prod.mk.injEq] at h
            obtain ⟨_, rfl, _, _⟩ := h
            rw [evS_asg hS h2, evQ_asg he h1]
          · cases h
        · cases h
      · cases h
    · cases h
  | regionF k ops =>
    intro env env' M M' D D' ex h ht
    simp only [evAC] at h
    obtain ⟨h1, h2⟩ := asgO_take (k := k) ht
    split at h
    · split at h
      · rename_i e1 C Y ks he
        split at h
        · split at h
          · rename_i e2 m2 d2 hS
            simp only [Option.some.injEq, Prod.mk.injEq] at h
            obtain ⟨_, rfl, _, _⟩ := h
            rw [evS_asg hS h2, evHd_asg he h1]
          · cases h
        · cases h
      · cases h
    · cases h
  | range y g pl =>
    intro env env' M M' D D' ex h ht
    simp only [evAC] at h
    split at h
    rotate_left
    · cases h
    split at h
    · split at h
      rotate_left
      · cases h
      split at h
      · cases h
      simp only [Option.some.injEq, Prod.mk.injEq] at h
      rw [h.2.1]
    · simp only [Option.some.injEq, Prod.mk.injEq] at h
      rw [h.2.1]
    · cases h
section
variable {p : Pr} {base : Nat}
theorem W_keep {a : AC} {env : Env} {M : MS} {D : List Nat} {Q : Post} (h : W p base a env M D Q) : W p base a env M D fun ex e m d => (∀ t, t ∉ asg a → e t = env t) ∧ Q ex e m d := by
  obtain ⟨ex, e, m, d, h1, h2⟩ := h
  obtain ⟨n, h3⟩ := evC_some.1 h1
  exact ⟨ex, e, m, d, h1, fun t ht => evAC_asg h3 ht, h2⟩
/-- A loop by what holds ahead of each round; what it does not write stays. -/
theorem W_loopA {a : AC} {env : Env} {M : MS} {D : List Nat} {Q : Post} {L : List Nat} (hL : asg a = L) (J : Nat → Env → MS → List Nat → Prop) (k : Nat) (hJ : J k env M D)
    (h : ∀ k e m d, (∀ t, L.elem t = false → e t = env t) → J k e m d → W p base a e m d (roundW J k Q)) : W p base (.loop a) env M D Q := by
  refine W_loop (fun k e m d => (∀ t, L.elem t = false → e t = env t) ∧ J k e m d) k ⟨fun _ _ => rfl, hJ⟩ ?_
  rintro k e m d ⟨hk, hj⟩
  refine (W_keep (h k e m d hk hj)).mono ?_
  rintro ex e' m' d' ⟨h1, h2⟩
  cases ex with
  | nrm =>
    obtain ⟨k', h3, h4⟩ := h2
    refine ⟨k', h3, fun t ht => ?_, h4⟩
    rw [h1 t (by rw [hL]; intro hm; simp [List.elem_eq_mem, hm] at ht), hk t ht]
  | exit id => exact h2
  | ret => exact h2
/-- Behind a round of a loop over an index. -/
def rngW (ix i N : Nat) (I : Nat → Env → MS → Prop) (D : List Nat) (Q : Post) : Post := fun ex e m d => match ex with
  | .nrm => i < N ∧ e ix = .flat (.int .i64 ((i + 1 : Nat) : Int)) ∧ I (i + 1) e m ∧ d = D
  | ex => Q ex e m d
theorem G_e {ix i N : Nat} {I : Nat → Env → MS → Prop} {D d : List Nat} {Q : Post} {e : Env} {m : MS} {j : Nat} (h : Q (.exit j) e m d) : rngW ix i N I D Q (.exit j) e m d := h
theorem G_r {ix i N : Nat} {I : Nat → Env → MS → Prop} {D d : List Nat} {Q : Post} {e : Env} {m : MS} (h : Q .ret e m d) : rngW ix i N I D Q .ret e m d := h
theorem G_n {ix i N : Nat} {I : Nat → Env → MS → Prop} {D : List Nat} {Q : Post} {e : Env} {m : MS} (h1 : e ix = .flat (.int .i64 ((i + 1 : Nat) : Int))) (h2 : i < N) (h3 : I (i + 1) e m) : rngW ix i N I D Q .nrm e m D := ⟨h2, h1, h3, rfl⟩
/-- A loop over an index from s on; memory may grow. -/
theorem W_rngM {a : AC} {env : Env} {M : MS} {D : List Nat} {Q : Post} {L : List Nat} (ix s N : Nat) (I : Nat → Env → MS → Prop) (hL : asg a = L) (h0 : env ix = .flat (.int .i64 (s : Int))) (hs : s ≤ N) (hI : I s env M)
    (h : ∀ i e m, s ≤ i → i ≤ N → (∀ t, L.elem t = false → e t = env t) → e ix = .flat (.int .i64 i) → I i e m → W p base a e m D (rngW ix i N I D Q)) : W p base (.loop a) env M D Q := by
  refine W_loopA hL (fun k e m d => ∃ i : Nat, k = N - i ∧ s ≤ i ∧ i ≤ N ∧ e ix = .flat (.int .i64 i) ∧ I i e m ∧ d = D) (N - s) ⟨s, rfl, Nat.le_refl _, hs, h0, hI, rfl⟩ ?_
  rintro k e m d hk ⟨i, rfl, hs, hi, hx, hI, rfl⟩
  refine (h i e m hs hi hk hx hI).mono ?_
  intro ex e' m' d' hQ
  cases ex with
  | nrm =>
    obtain ⟨h1, h2, h3, h4⟩ := hQ
    exact ⟨N - (i + 1), by omega, i + 1, rfl, by omega, h1, h2, h3, h4⟩
  | exit id => exact hQ
  | ret => exact hQ
/-- .. where memory stays. -/
def rng0 (ix i N : Nat) (I : Nat → Env → Prop) (M : MS) (D : List Nat) (Q : Post) : Post := fun ex e m d => match ex with
  | .nrm => i < N ∧ e ix = .flat (.int .i64 ((i + 1 : Nat) : Int)) ∧ I (i + 1) e ∧ m = M ∧ d = D
  | ex => Q ex e m d
theorem H_e {ix i N : Nat} {I : Nat → Env → Prop} {D d : List Nat} {Q : Post} {e : Env} {M m : MS} {j : Nat} (h : Q (.exit j) e m d) : rng0 ix i N I M D Q (.exit j) e m d := h
theorem H_r {ix i N : Nat} {I : Nat → Env → Prop} {D d : List Nat} {Q : Post} {e : Env} {M m : MS} (h : Q .ret e m d) : rng0 ix i N I M D Q .ret e m d := h
theorem H_n {ix i N : Nat} {I : Nat → Env → Prop} {D : List Nat} {Q : Post} {e : Env} {m : MS} (h1 : e ix = .flat (.int .i64 ((i + 1 : Nat) : Int))) (h2 : i < N) (h3 : I (i + 1) e) : rng0 ix i N I m D Q .nrm e m D := ⟨h2, h1, h3, rfl, rfl⟩
theorem W_rng {a : AC} {env : Env} {M : MS} {D : List Nat} {Q : Post} {L : List Nat} (ix s N : Nat) (I : Nat → Env → Prop) (hL : asg a = L) (h0 : env ix = .flat (.int .i64 (s : Int))) (hs : s ≤ N) (hI : I s env)
    (h : ∀ i e, s ≤ i → i ≤ N → (∀ t, L.elem t = false → e t = env t) → e ix = .flat (.int .i64 i) → I i e → W p base a e M D (rng0 ix i N I M D Q)) : W p base (.loop a) env M D Q := by
  refine W_rngM ix s N (fun i e m => I i e ∧ m = M) hL h0 hs ⟨hI, rfl⟩ ?_
  rintro i e m hs hi hk hx ⟨hI, rfl⟩
  refine (h i e hs hi hk hx hI).mono ?_
  intro ex e' m' d' hQ
  cases ex with
  | nrm =>
    obtain ⟨h1, h2, h3, rfl, rfl⟩ := hQ
    exact ⟨h1, h2, ⟨h3, rfl⟩, rfl⟩
  | exit id => exact hQ
  | ret => exact hQ
/-- A loop without an index: what goes down is named. -/
theorem W_whl {a : AC} {env : Env} {M : MS} {D : List Nat} {Q : Post} {L : List Nat} (J : Nat → Env → MS → List Nat → Prop) (k : Nat) (hL : asg a = L) (hJ : J k env M D)
    (h : ∀ k e m d, (∀ t, L.elem t = false → e t = env t) → J k e m d → W p base a e m d (roundW J k Q)) : W p base (.loop a) env M D Q := W_loopA hL J k hJ h
end
theorem ext1 {C : Nat → Prop} {i : Nat} (h : ∀ j, j < i → C j) (h1 : C i) : ∀ j, j < i + 1 → C j := fun j hj => by
  rcases Nat.lt_succ_iff_lt_or_eq.1 hj with h2 | rfl
  · exact h j h2
  · exact h1
theorem all_of {α : Type} {Q : α → Prop} {x : List α} {i : Nat} (hi : x.length ≤ i) (h : ∀ j, j < i → ∀ h : j < x.length, Q x[j]) : ∀ a ∈ x, Q a := fun a ha => by
  obtain ⟨j, hj, rfl⟩ := List.mem_iff_getElem.1 ha
  exact h j (by omega) hj
/-! ### Memory -/
def rowD : Option (Option (List AV)) → Nat → Option (List AV)
  | some (some cs), off => some (cs.drop off)
  | _, _ => none
def aliveD : Option (Option (List AV)) → Bool
  | some (some _) => true
  | _ => false
def viewD : Option (Option (List AV)) → Nat → Nat → Option (List AV)
  | some (some cs), off, n => if off + n ≤ cs.length then some ((cs.drop off).take n) else none
  | _, _, _ => none
theorem aview_mptr (M : MS) (id off : Nat) : aview M (.mptr id off) = rowD M[id]? off := by
  simp only [aview]
  rcases M[id]? with _ | _ | cs <;> rfl
theorem alive_eq (M : MS) (id : Nat) : aliveA M id = aliveD M[id]? := by
  simp only [aliveA]
  rcases M[id]? with _ | _ | cs <;> rfl
theorem view_ms (M : MS) (id off len sz : Nat) (cd : Bool) : view M (.ms id off len sz cd) = viewD M[id]? off (len * sz) := by
  simp only [view]
  rcases M[id]? with _ | _ | cs <;> rfl
theorem lenM_eq (M : MS) (x : AV) : lenM M x = (view M x).bind fun _ => lenOf x := by unfold lenM; split <;> simp_all
theorem lenM_ms (M : MS) (id off len sz : Nat) (cd : Bool) : lenM M (.ms id off len sz cd) = (viewD M[id]? off (len * sz)).map fun _ => len := by
  simp only [lenM, view_ms, lenOf]
  cases viewD M[id]? off (len * sz) <;> rfl
theorem rowD_s (cs : List AV) (off : Nat) : rowD (some (some cs)) off = some (cs.drop off) := rfl
theorem aliveD_s (cs : List AV) : aliveD (some (some cs)) = true := rfl
theorem viewD_s (cs : List AV) (off n : Nat) : viewD (some (some cs)) off n = if off + n ≤ cs.length then some ((cs.drop off).take n) else none := rfl
theorem get_app0 (M L : MS) : (M ++ L)[M.length]? = L[0]? := by rw [List.getElem?_append_right (Nat.le_refl _), Nat.sub_self]
theorem get_app (M L : MS) (k : Nat) : (M ++ L)[M.length + k]? = L[k]? := by rw [List.getElem?_append_right (Nat.le_add_right _ _), Nat.add_sub_cancel_left]
theorem set_app0 (M L : MS) (v : Option (List AV)) : (M ++ L).set M.length v = M ++ L.set 0 v := by rw [List.set_append_right _ _ (Nat.le_refl _), Nat.sub_self]
theorem set_app (M L : MS) (k : Nat) (v : Option (List AV)) : (M ++ L).set (M.length + k) v = M ++ L.set k v := by rw [List.set_append_right _ _ (Nat.le_add_right _ _), Nat.add_sub_cancel_left]
theorem dirt_own0 (n : Nat) (D : List Nat) : dirt n n D = D := if_neg (Nat.lt_irrefl n)
theorem dirt_own (n k : Nat) (D : List Nat) : dirt n (n + k) D = D := if_neg (by omega)
theorem list_set0 {α : Type} (a b : α) (l : List α) : (a :: l).set 0 b = b :: l := rfl
theorem list_setS {α : Type} (a b : α) (l : List α) (n : Nat) : (a :: l).set (n + 1) b = a :: l.set n b := rfl
theorem toNat_pred (n : Nat) : ((n : Int) - 1).toNat = n - 1 := by omega
theorem toNat_sub' (n m : Nat) : ((n : Int) - (m : Int)).toNat = n - m := by omega
theorem toNat_succ (n : Nat) : ((n : Int) + 1).toNat = n + 1 := by omega
theorem head?_at {α : Type} {l : List α} (h : 0 < l.length) : l.head? = some l[0] := by
  cases l with
  | nil => simp at h
  | cons a l => rfl
theorem ints_getE (l : List Int) (i : Nat) (h : i < (intsA l).length) : (intsA l)[i] = .flat (.int .i64 (l[i]'(by simpa [intsA] using h))) := by simp [intsA]
attribute [go_sem 10] head?_at
attribute [go_sem] ints_getE
attribute [go_sem] lenM_ms Nat.le_refl toNat_pred toNat_sub' toNat_succ Nat.sub_zero Nat.zero_mul Int.sub_zero aview_mptr alive_eq view_ms rowD_s aliveD_s viewD_s get_app0 get_app set_app0 set_app dirt_own0 dirt_own storeA list_set0 list_setS List.append_assoc splice Nat.add_assoc
/-- What a row cut out of a row is, whether the row is nil or not. -/
def sliceC (sz : Nat) (cs : List AV) (nl cd : Bool) (lo hi mx : Option AV) : Option Out :=
  match optNat 0 lo, optNat (cs.length / sz) hi, optNat (cs.length / sz) mx with
  | some l, some h, some m =>
    if l ≤ h ∧ h ≤ m ∧ m ≤ cs.length / sz ∧ (mx.isSome → hi.isSome) then
      some (.q (.list sz ((cs.drop (l * sz)).take ((h - l) * sz)) nl (if nl then cd else cutCapd mx m h (cd && decide (h = cs.length / sz))))) else none
  | _, _, _ => none
theorem slice_eq {sz : Nat} {cs : List AV} {nl cd : Bool} {lo hi mx : Option AV} (hn : nl = true → cs = []) : sliceA sz (.list sz cs nl cd) lo hi mx = sliceC sz cs nl cd lo hi mx := by
  cases nl with
  | false =>
    simp only [sliceA, sliceC, Bool.false_eq_true, if_false, false_or, true_and]
    generalize optNat 0 lo = a
    generalize optNat _ hi = b
    generalize optNat _ mx = c
    cases a <;> cases b <;> cases c <;> rfl
  | true =>
    rw [hn rfl]
    simp only [sliceA, sliceC, List.length_nil, Nat.zero_div, if_true, List.drop_nil, List.take_nil, true_or, true_and]
    generalize optNat 0 lo = a
    generalize optNat _ hi = b
    generalize optNat _ mx = c
    cases a <;> cases b <;> cases c <;> rfl
theorem slice_ints {l : List Int} {nl cd : Bool} {lo hi mx : Option AV} (hn : nl = true → l = []) : sliceA 1 (.list 1 (intsA l) nl cd) lo hi mx = sliceC 1 (intsA l) nl cd lo hi mx := slice_eq fun h => by rw [hn h]; rfl
theorem slice_map {α : Type} {f : α → AV} {l : List α} {nl cd : Bool} {lo hi mx : Option AV} (hn : nl = true → l = []) : sliceA 1 (.list 1 (l.map f) nl cd) lo hi mx = sliceC 1 (l.map f) nl cd lo hi mx := slice_eq fun h => by rw [hn h]; rfl
theorem slice_f {sz : Nat} {cs : List AV} {cd : Bool} {lo hi mx : Option AV} : sliceA sz (.list sz cs false cd) lo hi mx = sliceC sz cs false cd lo hi mx := slice_eq fun h => by cases h
theorem slice_t {sz : Nat} {lo hi mx : Option AV} : sliceA sz (.list sz [] true true) lo hi mx = sliceC sz [] true true lo hi mx := slice_eq fun _ => rfl
/-- .. out of a row of the call's own. -/
def sliceM (sz id off len : Nat) (cd : Bool) (lo hi mx : Option AV) : Option Out :=
  match optNat 0 lo, optNat len hi, optNat len mx with
  | some l, some h, some m =>
    if l ≤ h ∧ h ≤ m ∧ m ≤ len ∧ (mx.isSome → hi.isSome) then
      if l = 0 then some (.q (.ms id off h sz (cutCapd mx m h (cd && decide (h = len)))))
      else if h = l then some (.q (.list sz [] false (cutCapd mx m h (cd && decide (h = len)))))
      else some (.q (.ms id (off + l * sz) (h - l) sz (cutCapd mx m h (cd && decide (h = len)))))
    else none
  | _, _, _ => none
theorem slice_m {sz id off len : Nat} {cd : Bool} {lo hi mx : Option AV} : sliceA sz (.ms id off len sz cd) lo hi mx = sliceM sz id off len cd lo hi mx := by
  simp only [sliceA, sliceM, true_and]
  generalize optNat 0 lo = a
  generalize optNat _ hi = b
  generalize optNat _ mx = c
  cases a <;> cases b <;> cases c <;> rfl
attribute [go_sem] slice_ints slice_map slice_f slice_t slice_m sliceM
attribute [go_sem] sliceC List.take_length List.filter_nil false_or or_false ge_iff_le gt_iff_lt
end Go.Proofs.Ytlcdafidoddefaa.Av
namespace Go.Proofs.Ytlcdafidoddefaa.Av
open Go.RowKit
set_option linter.unusedSimpArgs false
/-- The first append to a row that can't be written. -/
theorem app_new {base sz sz' bytes m : Nat} {nl : Bool} {M : MS} {D : List Nat} {cs news : List AV} (hm : 0 < m) (hz : sz' = sz) (hn : m * sz = news.length) (h1 : cs.length / sz + m ≤ 1099511627776) (h2 : (cs.length / sz + m) * bytes ≤ 140737488355328) :
    appA base M D sz bytes (.list sz' cs nl true) m news = some (.x (.ms M.length 0 (cs.length / sz + m) sz false) (M ++ [some (cs ++ news)]) D) := by
  simp only [appA]
  rw [if_neg (by omega), if_pos ⟨.inr hz, trivial, hn, h1, h2⟩]
theorem app_none {base sz sz' bytes : Nat} {nl cd : Bool} {M : MS} {D : List Nat} {cs news : List AV} : appA base M D sz bytes (.list sz' cs nl cd) 0 news = some (.q (.list sz' cs nl cd)) := by
  simp only [appA, if_true]
attribute [go_sem] app_new app_none
theorem Own.own {lo : Nat} {m : MS} {x : AV} {sz : Nat} {cs : List AV} (h : Own lo m x sz cs) : (x = .list sz [] true true ∧ cs = []) ∨ ∃ id, lo ≤ id ∧ id < m.length ∧ x = .ms id 0 (cs.length / sz) sz false ∧ m[id]? = some (some cs) := by
  obtain ⟨_, _, _, ⟨h1, h2⟩ | ⟨_, id, h1, h2, h3, h4⟩⟩ := h
  · exact .inl ⟨h2, h1⟩
  · exact .inr ⟨id, h1, h2, h3, h4⟩
section
variable {p : Pr} {base : Nat} {env : Env} {M : MS} {D : List Nat} {d : Option Nat} {r : List AOp} {R : Env → MS → List Nat → Prop}
/-- An append to a row of the call's own; what lies below stays. -/
theorem S_ownG {sz bytes : Nat} {s x : O} {cs news : List AV} {k : Nat} (B G : MS) {v : AV} (hb : Own B.length (B ++ G) v sz cs) (hM : M = B ++ G) (hs : s.ev env = v) (hv : view (B ++ G) (x.ev env) = some news) (hl : lenOf (x.ev env) = some k) (hk : k * sz = news.length) (ha : allI news = true)
    (h1 : cs.length / sz + k ≤ 1099511627776) (h2 : (cs.length / sz + k) * bytes ≤ 140737488355328) (hbase : base ≤ B.length)
    (h : ∀ v' G', Own B.length (B ++ G') v' sz (cs ++ news) → WS p base 0 r (updO env d v') (B ++ G') D R) :
    WS p base 0 (⟨d, .app sz bytes s x, none⟩ :: r) env M D R := by
  subst hM
  have hb' : Own base (B ++ G) (s.ev env) sz cs := by
    rw [hs]
    obtain ⟨a, b, c, e | ⟨f, id, g1, g2⟩⟩ := hb
    · exact ⟨a, b, c, .inl e⟩
    · exact ⟨a, b, c, .inr ⟨f, id, by omega, g2⟩⟩
  have hlen := hb'.buf.len
  obtain ⟨h0, hA, ⟨n, hn⟩, hc⟩ := hb
  have hdiv : cs.length / sz = n := by rw [hn, Nat.mul_div_cancel _ h0]
  have hcat : (cs ++ news).length = (n + k) * sz := by rw [List.length_append, hn, ← hk, Nat.add_mul]
  by_cases hk0 : k = 0
  · have hnews : news = [] := List.eq_nil_of_length_eq_zero (by rw [← hk, hk0]; simp)
    subst hnews
    have hq : evI (ev p) base env (B ++ G) D (.app sz bytes s x) = some (.q v) := by
      simp only [evI, hv, hl, appA, hk0, if_true, hs]
      rcases hc with ⟨_, h⟩ | ⟨_, id, _, _, h, hm⟩
      · rw [h]
      · rw [h]; simp only [aliveA, hm, if_true]
    refine S_0 hq (SO_q (h _ G ?_))
    rw [List.append_nil]
    exact ⟨h0, hA, ⟨n, hn⟩, hc⟩
  · have hne : cs ++ news ≠ [] := by
      intro e
      have := congrArg List.length e
      rw [hcat, List.length_nil] at this
      rcases Nat.mul_eq_zero.1 this with h | h <;> omega
    have new : ∀ (M' : MS), B.length ≤ M'.length → Own B.length (M' ++ [some (cs ++ news)]) (.ms M'.length 0 (cs.length / sz + k) sz false) sz (cs ++ news) := fun M' hb' =>
      ⟨h0, allI_app hA ha, ⟨n + k, hcat⟩, .inr ⟨hne, M'.length, hb', by simp, by rw [hcat, Nat.mul_div_cancel _ h0, hdiv], by simp⟩⟩
    rcases hc with ⟨hnil, hv'⟩ | ⟨_, id, hid, hlt, hv', hm⟩
    · subst hnil
      have hq : evI (ev p) base env (B ++ G) D (.app sz bytes s x) = some (.x (.ms (B ++ G).length 0 (([] : List AV).length / sz + k) sz false) (B ++ G ++ [some ([] ++ news)]) D) := by
        simp only [evI, hv, hl, hs, hv', appA, hk0, if_false]
        rw [if_pos ⟨.inl trivial, trivial, hk, h1, h2⟩]
      have := new (B ++ G) (by simp)
      rw [List.append_assoc] at this
      refine S_0 hq (SO_x ?_)
      rw [List.append_assoc]
      exact h _ _ this
    · have hq : evI (ev p) base env (B ++ G) D (.app sz bytes s x) = some (.x (.ms (B ++ G).length 0 (cs.length / sz + k) sz false) ((B ++ G).set id none ++ [some (cs ++ news)]) D) := by
        simp only [evI, hv, hl, hs, hv', appA, hk0, if_false, hm]
        rw [if_pos ⟨trivial, hk, h1, h2, by omega⟩]
        simp only [Bool.false_eq_true, if_false, if_true, hlen, List.take_length, dirt]
        rw [if_neg (by omega)]
      have hset : (B ++ G).set id none = B ++ G.set (id - B.length) none := by
        rw [List.set_append_right _ _ hid]
      have hn' := new (B ++ G.set (id - B.length) none) (by simp)
      refine S_0 hq (SO_x ?_)
      rw [hset, List.append_assoc]
      rw [List.append_assoc] at hn'
      have e1 : (B ++ G.set (id - B.length) none).length = (B ++ G).length := by simp
      rw [e1] at hn'
      exact h _ _ hn'
end
/-- Such a row, handed on. -/
theorem Own.frzG {base lo : Nat} {m : MS} {x : AV} {sz : Nat} {cs : List AV} (h : Own lo m x sz cs) (hb : base ≤ lo) : ∃ m', Av.frz base m x = some (lst sz cs, m') := by
  have : Own base m x sz cs := by
    obtain ⟨a, b, c, e | ⟨f, id, g1, g2⟩⟩ := h
    · exact ⟨a, b, c, .inl e⟩
    · exact ⟨a, b, c, .inr ⟨f, id, by omega, g2⟩⟩
  obtain ⟨m', h1, _⟩ := this.frz
  exact ⟨m', h1⟩
theorem Own.finG {base lo : Nat} {m : MS} {x : AV} {sz : Nat} {cs : List AV} (h : Own lo m x sz cs) (hb : base ≤ lo) : Av.fin base false x m [] = some (Out.q (lst sz cs)) := by
  have : Own base m x sz cs := by
    obtain ⟨a, b, c, e | ⟨f, id, g1, g2⟩⟩ := h
    · exact ⟨a, b, c, .inl e⟩
    · exact ⟨a, b, c, .inr ⟨f, id, by omega, g2⟩⟩
  exact this.fin
/-- A call of which some answer is told. -/
theorem ev_fnE {p : Pr} {f : Nat} {bd : AC} {rs : List RV} {kp K : Bool} {rf : Option (Nat × List Nat)} {args : List AV} {M : MS} {P : Out → Prop} (hA : p.A f = some ⟨bd, rs, kp, K, rf⟩)
    (h : W p M.length bd (env0 args) M [] fun ex e m d => (ex = .nrm ∨ ex = .ret) ∧ ∃ out, (resA e m rs).bind (fun vs => fin M.length kp (tupA vs) m d) = some out ∧ P out) : ∃ out, ev p f args M = some out ∧ P out := by
  obtain ⟨ex, e, m, d, h1, h2, out, h3, h4⟩ := h
  exact ⟨out, ev_fn' hA ⟨ex, e, m, d, h1, h2, h3⟩, h4⟩
theorem dirt_in {base id : Nat} {D : List Nat} (h : id < base) : dirt base id D = id :: D := if_pos h
theorem get_set (M : MS) (id : Nat) (h : id < M.length) (v : Option (List AV)) : (M.set id v)[id]? = some v := by rw [List.getElem?_set_self h]
theorem set_set' (M : MS) (id : Nat) (v w : Option (List AV)) : (M.set id v).set id w = M.set id w := List.set_set ..
theorem frzAll_flat (base : Nat) (M : MS) (v : Value) : frzAll base M [.flat v] = some ([.flat v], M) := rfl
theorem frzAll_list (base : Nat) (M : MS) (sz : Nat) (cs : List AV) (nl cd : Bool) : frzAll base M [.list sz cs nl cd] = some ([.list sz cs nl cd], M) := rfl
theorem rep_flat (n : Nat) (a : AV) : (List.replicate n [a]).flatten = List.replicate n a := by
  induction n with
  | zero => rfl
  | succ n ih => rw [List.replicate_succ, List.flatten_cons, ih, List.replicate_succ]; rfl
attribute [go_sem] dirt_in get_set set_set' frzAll_flat frzAll_list rep_flat List.length_replicate
end Go.Proofs.Ytlcdafidoddefaa.Av
namespace Go.Proofs.Ytlcdafidoddefaa.Av
open Go.RowKit
set_option linter.unusedSimpArgs false
theorem Own.growG {lo : Nat} {B G : MS} {x : AV} {sz : Nat} {cs : List AV} (h : Own lo (B ++ G) x sz cs) (H : MS) : Own lo (B ++ (G ++ H)) x sz cs := by
  obtain ⟨a, b, c, e | ⟨f, id, g1, g2, g3, g4⟩⟩ := h
  · exact ⟨a, b, c, .inl e⟩
  · refine ⟨a, b, c, .inr ⟨f, id, g1, by simp at g2 ⊢; omega, g3, ?_⟩⟩
    rw [← List.append_assoc, List.getElem?_append_left g2]; exact g4
/-- What a row comes to that is given up. -/
def frzD (b : Nat) (M : MS) (id off len sz : Nat) (cd : Bool) : Option (Option (List AV)) → Option (List AV × MS)
  | some (some cs) => if b ≤ id ∧ off + len * sz ≤ cs.length ∧ allI cs then some ([.list sz ((cs.drop off).take (len * sz)) false cd], M.set id none) else none
  | _ => none
theorem frzAll_ms (b : Nat) (M : MS) (id off len sz : Nat) (cd : Bool) : frzAll b M [.ms id off len sz cd] = frzD b M id off len sz cd M[id]? := by
  simp only [frzAll, frz]
  rcases M[id]? with _ | _ | cs
  · rfl
  · rfl
  · simp only [frzD]
    by_cases h : b ≤ id ∧ off + len * sz ≤ cs.length ∧ allI cs = true
    · simp only [if_pos h]
    · simp only [if_neg h]
theorem frzD_s (b : Nat) (M : MS) (id off len sz : Nat) (cd : Bool) (cs : List AV) : frzD b M id off len sz cd (some (some cs)) = if b ≤ id ∧ off + len * sz ≤ cs.length ∧ allI cs then some ([.list sz ((cs.drop off).take (len * sz)) false cd], M.set id none) else none := rfl
theorem dirts_ms (base id off len sz : Nat) (cd : Bool) (D : List Nat) : dirts base [.ms id off len sz cd] D = dirt base id D := rfl
theorem dirts_list (base sz : Nat) (cs : List AV) (nl cd : Bool) (D : List Nat) : dirts base [.list sz cs nl cd] D = D := rfl
attribute [go_sem] frzAll_ms frzD_s dirts_ms dirts_list
section
variable {p : Pr} {base : Nat} {env : Env} {M : MS} {D : List Nat} {d : Option Nat} {r : List AOp} {R : Env → MS → List Nat → Prop}
end
end Go.Proofs.Ytlcdafidoddefaa.Av
namespace Go.Proofs.Ytlcdafidoddefaa.Av
open Go.RowKit Go.Sort
set_option linter.unusedSimpArgs false
set_option linter.unusedVariables false
abbrev I2 := Int × Int
def lt2 (a b : I2) : Bool := decide (a.1 < b.1) || (decide (a.1 = b.1) && decide (a.2 < b.2))
/-- A sort that the kernel reckons. -/
def ins2 (a : I2) : List I2 → List I2
  | [] => [a]
  | b :: l => if lt2 b a then b :: ins2 a l else a :: b :: l
def sorted2 : List I2 → List I2
  | [] => []
  | a :: l => ins2 a (sorted2 l)
theorem ins2_perm (a : I2) : ∀ l : List I2, (ins2 a l).Perm (a :: l)
  | [] => List.Perm.refl _
  | b :: l => by
    simp only [ins2]
    split
    · exact ((ins2_perm a l).cons b).trans (List.Perm.swap a b l)
    · exact List.Perm.refl _
abbrev le2 (a b : I2) : Prop := lt2 b a = false
theorem le2_iff {a b : I2} : le2 a b ↔ (a.1 < b.1 ∨ (a.1 = b.1 ∧ a.2 ≤ b.2)) := by
  simp only [le2, lt2, Bool.or_eq_false_iff, Bool.and_eq_false_iff, decide_eq_false_iff_not]
  omega
theorem ins2_pw {a : I2} : ∀ {l : List I2}, l.Pairwise le2 → (ins2 a l).Pairwise le2
  | [], _ => by simp [ins2]
  | b :: l, h => by
    simp only [ins2]
    split
    · rename_i hab
      refine List.Pairwise.cons ?_ (ins2_pw (List.pairwise_cons.1 h).2)
      intro c hc
      rcases List.mem_cons.1 ((ins2_perm a l).subset hc) with rfl | hc
      · rw [le2_iff]
        simp only [lt2, Bool.or_eq_true, Bool.and_eq_true, decide_eq_true_eq] at hab
        omega
      · exact (List.pairwise_cons.1 h).1 c hc
    · rename_i hab
      have hab : le2 a b := by simpa using hab
      refine List.Pairwise.cons ?_ h
      intro c hc
      rcases List.mem_cons.1 hc with rfl | hc
      · exact hab
      · have := (List.pairwise_cons.1 h).1 c hc
        rw [le2_iff] at *; omega
theorem sorted2_perm : ∀ l : List I2, (sorted2 l).Perm l
  | [] => List.Perm.refl _
  | a :: l => (ins2_perm a _).trans ((sorted2_perm l).cons a)
theorem sorted2_pw : ∀ l : List I2, (sorted2 l).Pairwise le2
  | [] => List.Pairwise.nil
  | _ :: l => ins2_pw (sorted2_pw l)
theorem sorted2_len (l : List I2) : (sorted2 l).length = l.length := (sorted2_perm l).length_eq
theorem sorted2_eq (l : List I2) : sorted2 l = l.mergeSort fun x y => !lt2 y x := by
  refine List.Perm.eq_of_pairwise (le := le2) (fun a b _ _ h1 h2 => ?_) (sorted2_pw l) ?_ ((sorted2_perm l).trans (List.mergeSort_perm ..).symm)
  · rw [le2_iff] at h1 h2
    exact Prod.ext (by omega) (by omega)
  · have := List.pairwise_mergeSort (le := fun x y : I2 => !lt2 y x) (fun a b c h1 h2 => by
      have h1 : le2 a b := by simpa using h1
      have h2 : le2 b c := by simpa using h2
      have : le2 a c := by rw [le2_iff] at *; omega
      simpa using this) (fun a b => by
      by_cases h : lt2 b a = true
      · have : le2 b a := by
          rw [le2_iff]
          simp only [lt2, Bool.or_eq_true, Bool.and_eq_true, decide_eq_true_eq] at h
          omega
        simp [h, show lt2 a b = false from this]
      · simp [h]) l
    exact this.imp fun h => by simpa using h
def cells2 (l : List I2) : List AV := l.flatMap fun p => [.flat (.int .i64 p.1), .flat (.int .i64 p.2)]
def vals2 (l : List I2) : List Value := l.flatMap fun p => [.int .i64 p.1, .int .i64 p.2]
def of2 : List AV → Option (List I2)
  | [] => some []
  | .flat (.int .i64 a) :: .flat (.int .i64 b) :: r => (of2 r).map ((a, b) :: ·)
  | _ => none
theorem of2_inv : ∀ {cs : List AV} {l : List I2}, of2 cs = some l → cs = cells2 l
  | [], l, h => by simp only [of2, Option.some.injEq] at h; subst h; rfl
  | [x], l, h => by cases x with
    | flat v => cases v with
      | int k n => cases k <;> simp [of2] at h
      | _ => simp [of2] at h
    | _ => simp [of2] at h
  | x :: y :: r, l, h => by
    unfold of2 at h
    split at h
    · rename_i heq; cases heq
    · rename_i a b r' heq
      cases heq
      rw [Option.map_eq_some_iff] at h
      obtain ⟨l', h1, rfl⟩ := h
      rw [of2_inv h1]; rfl
    · cases h
theorem of2_cells : ∀ l : List I2, of2 (cells2 l) = some l
  | [] => rfl
  | p :: l => by
    have : cells2 (p :: l) = .flat (.int .i64 p.1) :: .flat (.int .i64 p.2) :: cells2 l := rfl
    rw [this]; simp only [of2, of2_cells l]; rfl
theorem cells2_len (l : List I2) : (cells2 l).length = 2 * l.length := by
  induction l with
  | nil => rfl
  | cons p l ih =>
    have : cells2 (p :: l) = .flat (.int .i64 p.1) :: .flat (.int .i64 p.2) :: cells2 l := rfl
    rw [this]; simp only [List.length_cons, ih]; omega
theorem vals2_len (l : List I2) : (vals2 l).length = 2 * l.length := by
  induction l with
  | nil => rfl
  | cons p l ih =>
    have : vals2 (p :: l) = .int .i64 p.1 :: .int .i64 p.2 :: vals2 l := rfl
    rw [this]; simp only [List.length_cons, ih]; omega
theorem cells2_get (l : List I2) (j : Nat) : (cells2 l)[j]? = ((vals2 l)[j]?).map .flat := by
  have : cells2 l = (vals2 l).map .flat := by
    induction l with
    | nil => rfl
    | cons p l ih =>
      have h1 : cells2 (p :: l) = .flat (.int .i64 p.1) :: .flat (.int .i64 p.2) :: cells2 l := rfl
      have h2 : vals2 (p :: l) = .int .i64 p.1 :: .int .i64 p.2 :: vals2 l := rfl
      rw [h1, h2, ih]; rfl
  rw [this, List.getElem?_map]
theorem vals2_one (l : List I2) : ∀ v ∈ vals2 l, v.oneCell' = true := by
  intro v hv
  simp only [vals2, List.mem_flatMap] at hv
  obtain ⟨p, _, hv⟩ := hv
  simp at hv
  rcases hv with rfl | rfl <;> rfl
def sortA2 (g : Nat) : List AV → MS → Option Out
  | [.ms id off len sz _, .clo h []], M => match M[id]? with
    | some (some cs) => if sz = 2 ∧ h = g ∧ off + len * 2 ≤ cs.length ∧ len ≤ LIM then
        match of2 ((cs.drop off).take (len * 2)) with
        | some l => some (.x (.flat undef) (M.set id (some (splice cs off (cells2 (sorted2 l))))) [id])
        | none => none
      else none
    | _ => none
  | [.list _ [] _ _, .clo _ []], _ => some (.q (.flat undef))
  | _, _ => none
def extS2 (sf g : Nat) : Call := fun f args M => if f = sf then sortA2 g args M else none
theorem extS2_ok [Inhabited TieT] {P : Program} {sf g : Nat} (hf : okFn P sf = true)
    (hS : ∀ (blk off cap : Nat) (zs : List I2) (w : World), Holds id w blk off (vals2 zs).toArray → blk < w.heap.size → zs.length < 4611686018427387904 →
      Calls P sf #[.slice (some ⟨blk, off, none⟩) zs.length cap, .func (.func g) #[] #[]] w fun e w' => e = .returned (.tuple #[]) ∧ ∃ n os, w' = grow (putRow id (Sort.ahead w n) blk off (vals2 (sorted2 zs)).toArray) os)
    (hN : ∀ (p : Option Addr) (cap : Nat) (fv : Value) (w : World), Calls P sf #[.slice p 0 cap, fv] w fun e w' => e = .returned (.tuple #[]) ∧ w' = w) :
    CallOk P (extS2 sf g) := by
  have inv : ∀ {f : Nat} {args : List AV} {M : MS} {out : Out}, extS2 sf g f args M = some out → f = sf ∧ ((∃ id off len cd cs l, args = [.ms id off len 2 cd, .clo g []] ∧ M[id]? = some (some cs) ∧ off + len * 2 ≤ cs.length ∧ len ≤ LIM ∧ of2 ((cs.drop off).take (len * 2)) = some l ∧
      out = .x (.flat undef) (M.set id (some (splice cs off (cells2 (sorted2 l))))) [id]) ∨ ∃ sz nl cd h, args = [.list sz [] nl cd, .clo h []] ∧ out = .q (.flat undef)) := by
    intro f args M out h
    unfold extS2 at h
    split at h
    · rename_i hfe
      refine ⟨hfe, ?_⟩
      unfold sortA2 at h
      split at h
      · rename_i id off len sz cd hg
        split at h
        · rename_i cs hM
          split at h
          · rename_i hh
            obtain ⟨rfl, rfl, h1, h2⟩ := hh
            split at h
            · rename_i l hl
              cases h
              exact .inl ⟨id, off, len, cd, cs, l, rfl, hM, h1, h2, hl, rfl⟩
            · cases h
          · cases h
        · cases h
      · cases h; exact .inr ⟨_, _, _, _, rfl, rfl⟩
      · cases h
    · cases h
  refine ⟨fun f args M out h => by obtain ⟨rfl, _⟩ := inv h; exact hf, fun f args M out h w0 w G vals HI hs hr => ?_, fun f args M v M' D h => ?_⟩
  · obtain ⟨rfl, ⟨id, off, len, cd, cs, l, rfl, hM, h1, h2, hl, rfl⟩ | ⟨sz, nl, cd, hq, rfl, rfl⟩⟩ := inv h
    · obtain ⟨v, u, rfl⟩ : ∃ v u, vals = #[v, u] := by
        obtain ⟨l⟩ := vals
        match l, hs with
        | [v, u], _ => exact ⟨v, u, rfl⟩
      have hR : R G (.ms id off len 2 cd) v := by simpa using hr 0 (by simp)
      have hRc : R G (.clo g []) u := by simpa using hr 1 (by simp)
      obtain ⟨us, rfl, hus, _⟩ := hRc.clo_inv
      have hus0 : us = #[] := Array.eq_empty_of_size_eq_zero (by simpa using hus)
      subst hus0
      obtain ⟨b, bn, cur, T, hm, hB, hh, hsz, hle, hrr⟩ := HI.row hM hR.ms_s
      obtain ⟨_, _, _, hcl⟩ := hR.ms_inv
      obtain ⟨c, rfl, c1, c2, c3, c4⟩ := hcl b bn hm
      have hb : b < w.heap.size := (Array.getElem?_eq_some_iff.1 hh).1
      have hli := of2_inv hl
      have hll : l.length = len := by
        have := congrArg List.length hli
        rw [cells2_len] at this
        simp only [List.length_take, List.length_drop] at this
        omega
      have hvl : (vals2 l).length = len * 2 := by rw [vals2_len]; omega
      have hcell : ∀ j (hj : j < (vals2 l).length), cur.getD (off + j) undef = (vals2 l)[j] := by
        intro j hj
        have h3 := (hrr (off + j) (by omega)).1
        have h4 : cs[off + j]'(by omega) = .flat ((vals2 l)[j]) := by
          have h5 : ((cs.drop off).take (len * 2))[j]? = some (.flat ((vals2 l)[j])) := by
            rw [hli, cells2_get]; simp [hj]
          simp only [List.getElem?_take, List.getElem?_drop, show j < len * 2 by omega, if_true] at h5
          rw [List.getElem?_eq_getElem (by omega)] at h5
          exact Option.some.inj h5
        rw [h4] at h3
        exact h3.flat_inv
      have hHolds : Holds (fun v => v) w b off (vals2 l).toArray := by
        intro j hj
        have hj' : j < (vals2 l).length := by simpa using hj
        refine ⟨?_, by simp [World.frozen?, hh]⟩
        rw [cell_of_row' hh, getD_some (by omega), hcell j hj']
        simp [hj']
      simp only [LIM] at h2
      have hc := hS b off c l w hHolds hb (by omega)
      rw [hll] at hc
      refine hc.mono ?_
      rintro e w' ⟨rfl, n, os, rfl⟩
      refine ⟨undef, G, rfl, Gle.refl G, .imm _ _ (.flat _), ?_⟩
      have hsl : (vals2 (sorted2 l)).length = len * 2 := by rw [vals2_len, sorted2_len]; omega
      have hsc : (cells2 (sorted2 l)).length = len * 2 := by rw [cells2_len, sorted2_len]; omega
      have hbig : Inv w0 G (M.set id (some (splice cs off (cells2 (sorted2 l))))) (putRow (fun v => v) (Sort.ahead w n) b off (vals2 (sorted2 l)).toArray) := by
        have hah : Inv w0 G M (Sort.ahead w n) := HI.grow ⟨rfl, rfl, rfl, Nat.le_refl _, fun _ _ => rfl⟩
        have hha : (Sort.ahead w n).heap[b]? = some (.cells cur T (0, 0)) := hh
        have hput : (putRow (fun v => v) (Sort.ahead w n) b off (vals2 (sorted2 l)).toArray).heap[b]? = some (.cells (putCells (fun v => v) off (vals2 (sorted2 l)).toArray cur) T (0, 0)) := by
          simp only [putRow, mapBlock, Array.getElem?_modify, if_true, hha, Option.map_some]
          rfl
        have hsz' : (putCells (fun v => v) off (vals2 (sorted2 l)).toArray cur).size = bn := by simp [putCells, hsz]
        have hspl : (splice cs off (cells2 (sorted2 l))).length = cs.length := by simp [splice, hsc]; omega
        refine hah.write hm (by rfl) (by rfl) (by rfl) (by simp) (fun k hk => ?_) hput hsz' (by omega) fun j hj => ?_
        · simp only [putRow, mapBlock, Array.getElem?_modify]
          rw [if_neg (Ne.symm hk)]
        · have hjc : j < cs.length := by omega
          have hcj : j < cur.size := by omega
          have hg : (putCells (fun v => v) off (vals2 (sorted2 l)).toArray cur).getD j undef = if off ≤ j ∧ j < off + len * 2 then ((vals2 (sorted2 l)).toArray[j - off]!) else cur.getD j undef := by
            simp [putCells, Array.getD_eq_getD_getElem?, Array.getElem?_mapIdx, hcj, hsl]
          rw [hg]
          by_cases hin : off ≤ j ∧ j < off + len * 2
          · rw [if_pos hin]
            have hlt : j - off < (vals2 (sorted2 l)).length := by omega
            have h6 : (splice cs off (cells2 (sorted2 l)))[j] = .flat ((vals2 (sorted2 l)).toArray[j - off]!) := by
              have h7 : (splice cs off (cells2 (sorted2 l)))[j]? = some (.flat ((vals2 (sorted2 l)).toArray[j - off]!)) := by
                simp only [splice, List.append_assoc]
                rw [List.getElem?_append_right (by simp; omega)]
                rw [List.getElem?_append_left (by simp; omega)]
                have e : j - (List.take off cs).length = j - off := by simp; omega
                rw [e, cells2_get]
                simp [hlt]
              rw [List.getElem?_eq_getElem hj] at h7
              exact Option.some.inj h7
            rw [h6]
            refine ⟨.imm _ _ (.flat _), vals2_one (sorted2 l) _ ?_⟩
            simp [hlt]
          · rw [if_neg hin]
            have h6 : (splice cs off (cells2 (sorted2 l)))[j] = cs[j] := by
              have h7 : (splice cs off (cells2 (sorted2 l)))[j]? = some cs[j] := by
                simp only [splice, List.append_assoc]
                by_cases hlo : j < off
                · rw [List.getElem?_append_left (by simp; omega)]
                  simp [hlo, hjc]
                · rw [List.getElem?_append_right (by simp; omega)]
                  rw [List.getElem?_append_right (by simp; omega)]
                  simp only [List.getElem?_drop, List.length_take, hsc]
                  rw [List.getElem?_eq_getElem (by omega)]
                  congr 2
                  omega
              rw [List.getElem?_eq_getElem hj] at h7
              exact Option.some.inj h7
            rw [h6]
            exact hrr j hjc
      exact hbig.grow ⟨rfl, rfl, rfl, by simp, fun k hk => heap_grow_old _ _ hk⟩
    · obtain ⟨v, u, rfl⟩ : ∃ v u, vals = #[v, u] := by
        obtain ⟨l⟩ := vals
        match l, hs with
        | [v, u], _ => exact ⟨v, u, rfl⟩
      have hR : R G (.list sz [] nl cd) v := by simpa using hr 0 (by simp)
      obtain ⟨p, c, rfl⟩ : ∃ p c, v = .slice p 0 c := by
        rcases RI.list_cases hR.list_inv with ⟨_, _, _, rfl⟩ | ⟨_, a, n, c, vs, rfl, h0, h1, _⟩
        · exact ⟨none, 0, rfl⟩
        · have : n = 0 := by
            rcases Nat.mul_eq_zero.1 (show n * sz = 0 by simpa using h1.symm) with h | h
            · exact h
            · omega
          subst this
          exact ⟨some a, c, rfl⟩
      refine (hN p c u w).mono ?_
      rintro e w' ⟨rfl, rfl⟩
      exact ⟨undef, G, rfl, Gle.refl G, .imm _ _ (.flat _), HI⟩
  · obtain ⟨rfl, ⟨id, off, len, cd, cs, l, rfl, hM, h1, h2, hl, he⟩ | ⟨_, _, _, _, _, he⟩⟩ := inv h
    · cases he
      exact ⟨by simp, fun k hk hn => by rw [List.getElem?_set_ne (by intro e; apply hn; simp [e])]⟩
    · cases he
end Go.Proofs.Ytlcdafidoddefaa.Av
