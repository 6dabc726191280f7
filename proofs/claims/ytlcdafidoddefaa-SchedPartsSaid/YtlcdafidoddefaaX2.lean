/- Every instruction but a call: what the evaluator comes to, the machine's operation does. -/
import Derived.Test.YtlcdafidoddefaaX1
import Derived.Lib.ConvBytes
import Derived.Laws.BytesString
import Derived.Still
import Derived.OrdersIn
import Derived.RangeFuncLeaves
import Derived.RangeFuncRecord
namespace Go.Proofs.Ytlcdafidoddefaa.Av
open Go.RowKit
set_option linter.unusedSimpArgs false
section
variable {P : Program} {w0 w : World} {G : Gh} {M : MS} {env : Env} {a : Act}
theorem alive_m [Inhabited TieT] (HI : Inv w0 G M w) {id : Nat} (h : aliveA M id = true) (hsn : G.s id = none) : ∃ b n, G.m[id]? = some (some (b, n)) := by
  unfold aliveA at h
  split at h
  · rename_i cs hM
    exact HI.live id cs hM hsn
  · cases h
theorem Does.ofQ [Inhabited TieT] {r : Result Next} {out : Out} {v : Value} {z : AV} (HI : Inv w0 G M w) (hr : r = .ok (.value v) w) (ho : out = .q z) (hz : R G z v) : Does w0 G M out r := by
  subst ho; exact .val HI hr hz
theorem evI_does [Inhabited TieT] {call : Call} {base : Nat} {D : List Nat} {o : Oper} {i : I} {out : Out} (HE : EnvR G env a) (HI : Inv w0 G M w) (ht : trI P o.op = some i) (hc : i.isCall = false)
    (h : evI call base env M D i = some out) : Does w0 G M out ((execOp a.eval o).run P w) := by
  obtain ⟨dst, op, type, pos, after, guard⟩ := o
  cases op
  case move x =>
    simp only [trI, Option.map_eq_some_iff] at ht
    obtain ⟨x', hx, rfl⟩ := ht
    simp only [evI, Option.some.injEq] at h; subst h
    exact .val HI rfl (trO_R HE hx)
  case assign x =>
    simp only [trI, Option.map_eq_some_iff] at ht
    obtain ⟨x', hx, rfl⟩ := ht
    simp only [evI, Option.some.injEq] at h; subst h
    exact .val HI rfl (trO_R HE hx)
  case pick c x y =>
    simp only [trI] at ht
    split at ht
    · rename_i c' x' y' h1 h2 h3
      cases ht
      simp only [evI] at h
      split at h
      · rename_i b hb
        cases h
        have hcv := trO_R HE h1
        rw [asBool_inv hb] at hcv
        have := hcv.flat_inv
        refine .val HI (v := if b then a.eval x else a.eval y) ?_ ?_
        · simp [execOp, this, Go.asBool]
        · cases b
          · simpa using trO_R HE h3
          · simpa using trO_R HE h2
      · cases h
    · cases ht
  case binOp op t x y ty =>
    simp only [trI] at ht
    split at ht
    · rename_i x' y' h1 h2
      have nil : ∀ m eq, nilKT P t = some m → ((op = .eql ∧ eq = true) ∨ (op = .neq ∧ eq = false)) → i = .xop (.nilc m eq) [x', y'] → Does w0 G M out ((execOp a.eval { dst := dst, op := .binOp op t x y ty, type := type, pos := pos, after := after, guard := guard }).run P w) := by
        intro m eq hk ho hi
        subst hi
        simp only [evI, List.map_cons, List.map_nil] at h
        obtain ⟨b, hr, rfl⟩ := does_nilc (ox := x) (oy := y) hk ho HI (trO_R HE h1) (trO_R HE h2) h
        exact .flat HI (by simp only [execOp]; rw [Sem.run_bind, hr]; rfl)
      split at ht
      · rename_i m hk
        split at ht
        · cases ht; exact nil m true hk (.inl ⟨rfl, rfl⟩) rfl
        · cases ht; exact nil m false hk (.inr ⟨rfl, rfl⟩) rfl
        · cases ht
      cases ht
      simp only [evI, Option.map_eq_some_iff] at h
      obtain ⟨z, hz, rfl⟩ := h
      obtain ⟨r, hr, hR⟩ := does_bin (P := P) (w := w) (t := t) (ox := x) (oy := y) (trO_R HE h1) (trO_R HE h2) hz
      refine .val HI (v := r) ?_ hR
      simp only [execOp]
      rw [Sem.run_bind, hr]
      rfl
    · cases ht
  case unOp op t x =>
    simp only [trI, Option.map_eq_some_iff] at ht
    obtain ⟨x', hx, rfl⟩ := ht
    simp only [evI, Option.map_eq_some_iff] at h
    obtain ⟨z, hz, rfl⟩ := h
    obtain ⟨r, hr, hR⟩ := does_unop (P := P) (w := w) (trO_R HE hx) hz
    refine .val HI (v := r) ?_ hR
    simp only [execOp]
    rw [Sem.run_bind, hr]
    rfl
  case convert s d x =>
    simp only [trI] at ht
    split at ht
    · rename_i k0 k x' h1 h2 h3
      cases ht
      simp only [evI] at h
      split at h
      · rename_i k1 n hn
        cases h
        have hx := trO_R HE h3
        rw [hn] at hx
        have := hx.flat_inv
        exact .flat HI (by simp [execOp, convert, run_underlying h1, run_underlying h2, this, Conv.intToInt])
      · cases h
    · rename_i x' h1 h2 h3
      cases ht
      simp only [evI] at h
      split at h
      · rename_i n hn
        cases h
        have hx := trO_R HE h3
        rw [hn] at hx
        have := hx.flat_inv
        exact .flat HI (by simp [execOp, convert, run_underlying h1, run_underlying h2, this])
      · cases h
    · rename_i e x' h1 h2 h3
      split at ht
      · rename_i he
        cases ht
        simp only [evI] at h
        split at h
        · rename_i sb hsb
          split at h
          · rename_i hlim
            cases h
            simp only [LIM] at hlim
            have hx := trO_R HE h3
            rw [hsb] at hx
            have e1 := hx.flat_inv
            have hrun := Lib.run_convert_string_bytes (P := P) w s d e sb h1 h2 he
            have hb : Below w.heap.size w (Lib.bytesWorld w e sb) := ⟨rfl, rfl, rfl, by rw [Lib.bytesWorld_size]; omega, fun k hk => Lib.bytesWorld_at_old w e sb k hk⟩
            obtain ⟨k1, k2, k3⟩ := HI.withRow hb (b := w.heap.size) (k := sb.size) (vs := fun j => .int .u8 (sb.data.toList.getD j 0).toNat) (Nat.le_refl _) (fun j hj => ⟨Lib.bytesWorld_cell w e sb j hj, rfl⟩)
            have hge := grownCap_ge w sb.size 0 e
            refine ⟨_, _, _, .inl (by simp only [execOp, e1]; rw [Sem.run_bind, hrun]; rfl), k1, .imm _ _ (.list 1 _ false _ sb.size _ (fun j => .int .u8 (sb.data.toList.getD j 0).toNat) (by omega) (by simp [bytesVals]) hge (grownCap_le_maxLen w sb.size 0 e (by simp [maxLen]; omega)) (fun hh => by cases hh) (fun j hj => k3 j (by simpa [bytesVals] using hj)) fun j hj => ?_), k2⟩
            have hj' : j < sb.data.toList.length := by simpa [bytesVals] using hj
            have e2 : (bytesVals sb)[j] = .flat (.int .u8 (sb.data.toList.getD j 0).toNat) := by
              simp only [bytesVals, List.getElem_map, List.getD, List.getElem?_eq_getElem hj', Option.getD_some]
            rw [e2]
            exact .flat _
          · cases h
        · cases h
      · cases ht
    · rename_i e x' h1 h2 h3
      split at ht
      · rename_i he hs1
        cases ht
        simp only [evI] at h
        split at h
        · rename_i cs n hv hn
          split at h
          · rename_i hnl
            rw [Option.map_eq_some_iff] at h
            obtain ⟨l, hl, rfl⟩ := h
            have hcs := asInts_inv hl
            have hx := trO_R HE h3
            obtain ⟨A, n', c, sx, vs, hux, hlx, hln, hA, hnc, hcm, hcr, hcell⟩ := view_CR HI hx hv
            have hnn : n' = n := by
              unfold lenM at hn
              rw [hv] at hn
              simp only at hn
              rw [hlx] at hn; exact Option.some.inj hn
            subst hnn
            have hvs : vs = l.map (Value.int .u8) := by
              have : ∀ {l : List Int} {vs : List Value}, CR G (l.map fun n => AV.flat (.int .u8 n)) vs → vs = l.map (Value.int .u8) := by
                intro l
                induction l with
                | nil => intro vs h; cases h; rfl
                | cons a l ih => intro vs h; cases h with | cons h1 _ t => rw [ih t, h1.flat_inv]; rfl
              exact this (hcs ▸ hcr)
            have hcl : l.length = n' := by rw [hnl, hcs]; simp
            refine .flat HI ?_
            cases A with
            | none =>
              have h0 := hA rfl
              have : l = [] := List.eq_nil_of_length_eq_zero (by omega)
              subst this
              simp [execOp, hux, run_convert_bytes_string w s d e none n' c h1 he h2, Conv.bytesToString]
            | some ad =>
              have hld := run_loadCells_list (P := P) w ad vs (hcell ad rfl).2
              rw [hvs] at hld
              simp only [List.length_map, hcl] at hld
              have hb := run_bytesToString (P := P) w ad n' c l (by simpa using hld)
              simp only [execOp, hux]
              rw [Sem.run_bind, run_convert_bytes_string w s d e (some ad) n' c h1 he h2, hb]
              rfl
          · cases h
        · cases h
      · cases ht
    · cases ht
  case load t x =>
    simp only [trI] at ht
    split at ht
    · rename_i ag n x' h1 h2 h3
      cases ht
      simp only [evI] at h
      split at h
      · rename_i cs hcs
        rw [Option.map_eq_some_iff] at h
        obtain ⟨z, hz, ho⟩ := h
        obtain ⟨r, hr, hR⟩ := does_load (P := P) h1 h2 HI (trO_R HE h3) hcs hz
        exact .ofQ HI (by simp [execOp, hr]) ho.symm hR
      · cases h
    · cases ht
  case store t x y =>
    simp only [trI] at ht
    split at ht
    · rename_i n x' y' h1 h2 h3
      cases ht
      simp only [evI] at h
      split at h
      · rename_i cs hcs
        split at h
        · rename_i hl
          obtain ⟨w', M', D', G', hr, ho, hG, hI⟩ := does_store (P := P) h1 HI (trO_R HE h2) (trO_R HE h3) hcs hl h
          subst ho
          exact ⟨undef, w', G', .inr ⟨by simp [execOp, hr], rfl⟩, hG, .imm _ _ (.flat _), hI⟩
        · cases h
      · cases h
    · cases ht
  case alloc e =>
    simp only [trI] at ht
    split at ht
    · rename_i n b zs hel
      cases ht
      obtain ⟨inf, z, h1, h2, h3, h4, h5, h6, h7, h8⟩ := elInfo_inv hel
      simp only [evI, Option.some.injEq] at h
      subst h
      have hz := CR.zs (G := G) h8
      obtain ⟨k1, k2, k3⟩ := new_blk (T := e) HI (cur := zs) (cs := zs.map avC1) (by simpa using hz) (by simp)
      refine ⟨.pointer (some ⟨w.heap.size, 0, none⟩), _, _, .inl ?_, k1, ?_, k2⟩
      · simp [execOp, Instr.alloc, zeroValue, typeInfo, h1, h2, newVar, newRow, ← h5]
      · refine .mptr _ _ _ ?_ (Gh.withBlk_s (by rw [HI.len]; exact Nat.le_refl _)) rfl fun b n hb => ?_
        · have := (List.getElem?_eq_some_iff.1 k3).1; exact this
        · rw [k3] at hb; cases hb; rfl
    · cases ht
  case box e x =>
    simp only [trI] at ht
    split at ht
    · rename_i n x' h1 h2
      cases ht
      simp only [evI] at h
      split at h
      · rename_i cs hcs
        split at h
        · rename_i hl
          cases h
          have hc := cellsOf_CR (trO_R HE h2) hcs
          have hlen := hc.len
          obtain ⟨k1, k2, k3⟩ := new_blk (T := e) HI (cur := (a.eval x).cells.toList) (cs := cs) (by rw [← hlen, List.take_length]; exact hc) (by omega)
          refine ⟨.pointer (some ⟨w.heap.size, 0, none⟩), _, _, .inl ?_, k1, ?_, k2⟩
          · simp [execOp, Instr.box, newVar, newRow]
          · refine .mptr _ _ _ ?_ (Gh.withBlk_s (by rw [HI.len]; exact Nat.le_refl _)) rfl fun b n hb => ?_
            · have := (List.getElem?_eq_some_iff.1 k3).1; exact this
            · rw [k3] at hb; cases hb; rfl
        · cases h
      · cases h
    · cases ht
  case build t parts =>
    obtain ⟨v, z, hr, ho, hR⟩ := does_build (P := P) (w := w) HE ht h
    exact .ofQ HI (by simp only [execOp]; rw [Sem.run_bind, hr]; rfl) ho hR
  case buildSlice t len parts =>
    obtain ⟨v, w', G', hr, hG, hO⟩ := does_bslice (P := P) HE HI ht h
    exact ⟨v, w', G', .inl (by simp only [execOp]; rw [Sem.run_bind, hr]; rfl), hG, hO⟩
  case makeSlice t l c =>
    simp only [trI] at ht
    split at ht
    · rename_i e l' c' hu h1 h2
      split at ht
      · rename_i n b zs hel
        cases ht
        obtain ⟨inf, z, g1, g2, g3, g4, g5, g6, g7, g8⟩ := elInfo_inv hel
        simp only [evI] at h
        split at h
        · rename_i kl l kc c hl hcc
          split at h
          · rename_i hh
            obtain ⟨h0, hlc, hlim, hby⟩ := hh
            cases h
            have hx := trO_R HE h1; rw [hl] at hx; have e1 := hx.flat_inv
            have hx := trO_R HE h2; rw [hcc] at hx; have e2 := hx.flat_inv
            simp only [LIM] at hlim
            have hr := run_make (P := P) w t e inf z hu g1 g2 kl kc l c h0 hlc (by rw [g4]; omega) (by omega)
            have hmade : (madeCells z.cells (c.toNat * inf.size)) = ((List.replicate c.toNat zs).flatten).toArray := by
              apply Array.ext'
              have := made_eq z.cells (by omega) c.toNat
              rw [g6] at this
              rw [g3]
              unfold madeCells
              rw [g6, this, g5]
            have hz := (CR.zs (G := G) g8).rep l.toNat
            have hzc := (CR.zs (G := G) g8).rep c.toNat
            have hlen1 : ((List.replicate l.toNat (zs.map avC1)).flatten).length = l.toNat * n := by
              have := g6; rw [← Array.length_toList, g5] at this
              simp [List.length_flatten, this]
            have hlen2 : ((List.replicate c.toNat zs).flatten).length = c.toNat * n := by
              have := g6; rw [← Array.length_toList, g5] at this
              simp [List.length_flatten, this]
            have hnc : l.toNat ≤ c.toNat := by omega
            have htk : ((List.replicate c.toNat zs).flatten).take ((List.replicate l.toNat (zs.map avC1)).flatten).length = (List.replicate l.toNat zs).flatten := by
              have e3 : c.toNat = l.toNat + (c.toNat - l.toNat) := by omega
              rw [e3, ← List.replicate_append_replicate, List.flatten_append, ← hz.len]
              exact List.take_left
            obtain ⟨k1, k2, k3⟩ := new_blk (T := e) HI (cur := (List.replicate c.toNat zs).flatten) (cs := (List.replicate l.toNat (zs.map avC1)).flatten) (by rw [htk]; exact hz) (by rw [hlen1, hlen2]; exact Nat.mul_le_mul_right _ hnc)
            rw [hlen2] at k1 k2 k3
            refine ⟨.slice (some ⟨w.heap.size, 0, none⟩) l.toNat c.toNat, _, _, .inl ?_, k1, ?_, k2⟩
            · simp only [execOp, e1, e2]
              rw [Sem.run_bind, hr, hmade]
              rfl
            · refine .ms _ _ _ _ _ _ ?_ (Gh.withBlk_s (by rw [HI.len]; exact Nat.le_refl _)) ⟨_, _, rfl⟩ g7 fun b' n' hb' => ?_
              · have := (List.getElem?_eq_some_iff.1 k3).1; exact this
              · rw [k3] at hb'; cases hb'
                exact ⟨c.toNat, rfl, hnc, by simp only [maxLen]; omega, by simp, fun hq => by simp at hq; omega⟩
          · cases h
        · cases h
      · cases ht
    · cases ht
  case slice t x lo hi mx =>
    simp only [trI] at ht
    split at ht
    · rename_i e x' lo' hi' mx' hu h1 h2 h3 h4
      rw [Option.map_eq_some_iff] at ht
      obtain ⟨n, hn, rfl⟩ := ht
      simp only [evI] at h
      split at h
      · rename_i cs hcs
        obtain ⟨r, z, hr, ho, hR⟩ := does_slice (P := P) hu hn HI (trO_R HE h1) hcs h (trOo_R HE h2).1 (trOo_R HE h2).2 (trOo_R HE h3).1 (trOo_R HE h3).2 (trOo_R HE h4).1 (trOo_R HE h4).2
        exact .ofQ HI (by simp only [execOp]; rw [Sem.run_bind, hr]; rfl) ho hR
      · cases h
    · rename_i x' lo' hi' hu h1 h2 h3 h4
      cases ht
      have hmx : mx = none := by
        cases mx with
        | none => rfl
        | some m => simp only [trOo, Option.map_eq_some_iff] at h4; obtain ⟨_, _, h5⟩ := h4; cases h5
      subst hmx
      simp only [evI] at h
      split at h
      · rename_i s hs
        split at h
        · rename_i l hh g1 g2
          split at h
          · rename_i hb
            cases h
            have hx := trO_R HE h1; rw [hs] at hx; have e1 := hx.flat_inv
            have hb2 := run_sliceBounds (P := P) (w := w) (G := G) (isS := false) (c := s.size) (mx := none) (vmx := none) (m := s.size) g1 g2 rfl (trOo_R HE h2).1 (trOo_R HE h2).2 (trOo_R HE h3).1 (trOo_R HE h3).2 (fun y hy => by cases hy) (fun _ => rfl) hb.1 hb.2 (Nat.le_refl _) (Nat.le_refl _) (fun hy => by cases hy)
            refine .flat HI ?_
            simp only [execOp, Instr.sliceAt, Sem.run_bind, run_underlying hu, Result.andThen_ok, Instr.slice, e1, Option.map_none, Option.isSome_none, Bool.false_eq_true, if_false, hb2, Sem.run_pure]
          · cases h
        · cases h
      · cases h
    · rename_i hu h1 h2 h3 h4
      rw [Option.map_eq_some_iff] at ht
      obtain ⟨q, hq, rfl⟩ := ht
      have nn : ∀ {o : Option Operand}, trOo o = some none → o = none := by
        intro o ho
        cases o with
        | none => rfl
        | some m => simp only [trOo, Option.map_eq_some_iff] at ho; obtain ⟨_, _, h5⟩ := ho; cases h5
      have := nn h2; subst this
      have := nn h3; subst this
      have := nn h4; subst this
      simp only [evI, List.map_cons, List.map_nil] at h
      obtain ⟨r, z, hr, ho, hR⟩ := does_aslice hq HI (trO_R HE h1) h
      exact .ofQ HI (by simp only [execOp, Option.map_none]; rw [Sem.run_bind, hr]; rfl) ho hR
    · cases ht
  case makeMap t r =>
    have go : ∀ rv : Option Value, (∀ v, rv = some v → ∃ k n, v = .int k n) → (∃ k e, P.underlying t = some (.map k e)) → i = .xop .mkmap [] → r.map a.eval = rv → Does w0 G M out ((execOp a.eval { dst := dst, op := .makeMap t r, type := type, pos := pos, after := after, guard := guard }).run P w) := by
      intro rv hrv hu hi hre
      obtain ⟨k, e, hu⟩ := hu
      subst hi
      simp only [evI, List.map_nil, evX, Option.some.injEq] at h
      subst h
      obtain ⟨k1, k2⟩ := HI.withMap
      refine ⟨.map (some w.heap.size), _, _, .inl ?_, k1, .mp _ _ ?_ ?_, k2⟩
      · simp only [execOp, hre]
        cases rv with
        | none => simp [Instr.makeMap, run_newObj]
        | some v => obtain ⟨kk, n, rfl⟩ := hrv v rfl; simp [Instr.makeMap, run_newObj, run_underlying hu, Go.asInt, asIntOf]
      · simp [Gh.withMap, HI.len]
      · simp [Gh.withMap, HI.len]
    simp only [trI] at ht
    split at ht
    · rename_i k e hu
      cases ht
      exact go none (fun v hv => by cases hv) ⟨_, _, hu⟩ rfl rfl
    · rename_i k e kk n hu
      cases ht
      exact go _ (fun v hv => by cases hv; exact ⟨_, _, rfl⟩) ⟨_, _, hu⟩ rfl rfl
    · cases ht
  case lookup t x k ok =>
    simp only [trI] at ht
    split at ht
    · rename_i mk z x' k' h1 h2 h3 h4
      cases ht
      simp only [evI, List.map_cons, List.map_nil] at h
      obtain ⟨r, y, hr, ho, hR⟩ := does_mget h1 h2 HI (trO_R HE h3) (trO_R HE h4) h
      exact .ofQ HI (by simp only [execOp]; rw [Sem.run_bind, hr]; rfl) ho hR
    · cases ht
  case mapUpdate t m k x =>
    simp only [trI] at ht
    split at ht
    · rename_i mk m' k' x' h1 h2 h3 h4
      cases ht
      obtain ⟨kt, et, hu, hkt⟩ := mapKT_inv h1
      simp only [evI, List.map_cons, List.map_nil, evX] at h
      split at h
      · rename_i id cs hmA
        split at h
        · rename_i hkA
          rw [Option.map_eq_some_iff] at h
          obtain ⟨ds, hds, rfl⟩ := h
          obtain ⟨he, hM⟩ := mapA_inv hmA
          obtain ⟨w', hr, hI⟩ := does_mset hu hkt hkA HI (he ▸ trO_R HE h2) (trO_R HE h3) (trO_R HE h4) hM hds
          exact ⟨undef, w', G, .inr ⟨by simp only [execOp]; rw [Sem.run_bind, hr]; rfl, rfl⟩, Gle.refl G, .imm _ _ (.flat _), hI⟩
        · cases h
      · cases h
    · cases ht
  case insert t m k x =>
    simp only [trI] at ht
    split at ht
    · rename_i mk m' k' x' h1 h2 h3 h4
      cases ht
      obtain ⟨kt, et, hu, hkt⟩ := mapKT_inv h1
      simp only [evI, List.map_cons, List.map_nil, evX] at h
      split at h
      · rename_i id cs hmA
        split at h
        · rename_i hkA
          rw [Option.map_eq_some_iff] at h
          obtain ⟨ds, hds, rfl⟩ := h
          obtain ⟨he, hM⟩ := mapA_inv hmA
          obtain ⟨w', hr, hI⟩ := does_mset hu hkt hkA HI (he ▸ trO_R HE h2) (trO_R HE h3) (trO_R HE h4) hM hds
          exact ⟨undef, w', G, .inr ⟨by simp only [execOp]; rw [Sem.run_bind, hr]; rfl, rfl⟩, Gle.refl G, .imm _ _ (.flat _), hI⟩
        · cases h
      · cases h
    · cases ht
  case fieldAddr s x f =>
    simp only [trI] at ht
    split at ht
    · rename_i fs x' hu h1
      split at ht
      · rename_i fd hf
        split at ht
        · rename_i n hn
          split at ht
          · cases ht
          · rename_i hn0
            cases ht
            have hx := trO_R HE h1
            have hrun : ∀ ad, a.eval x = .pointer (some ad) → (execOp a.eval { dst := dst, op := .fieldAddr s x f, type := type, pos := pos, after := after, guard := guard : Oper }).run P w = .ok (.value (.pointer (some (ad.add fd.offset)))) w := by
              intro ad had
              simp [execOp, Instr.fieldAt, run_underlying hu, hf, had, Instr.sureAddr, fieldPlace, sizeT_run hn, hn0]
            simp only [evI] at h
            split at h
            · rename_i id o hid
              split at h
              · rename_i hal
                cases h
                rw [hid] at hx
                obtain ⟨b, n', hm⟩ := alive_m HI hal hx.mptr_s
                obtain ⟨ad, he, hR⟩ := mptr_add hx hm fd.offset
                exact .val HI (hrun _ he) hR
              · cases h
            · rename_i y k hy
              cases h
              rw [hy] at hx
              obtain ⟨ad, n', c, _, he⟩ := hx.elem_inv
              rw [he] at hx
              exact .val HI (hrun _ he) (elem_add hx _)
            · cases h
        · cases ht
      · cases ht
    · cases ht
  case field s x f =>
    simp only [trI] at ht
    split at ht
    · rename_i fs x' hu h1
      split at ht
      · rename_i fd hf
        split at ht
        · rename_i ag n hag hn
          split at ht
          · rename_i hone
            cases ht
            have hx := trO_R HE h1
            simp only [evI] at h
            split at h
            · rename_i cs hcs
              rw [hcs] at hx
              obtain ⟨vs, he, hs, hv, hv1⟩ := hx.agg_inv
              split at h
              · rename_i hfit
                cases ag with
                | true =>
                  simp only [if_true, Option.some.injEq] at h
                  subst h
                  refine .val HI (v := .agg (vs.extract fd.offset (fd.offset + n))) ?_ ?_
                  · simp [execOp, Instr.field, run_underlying hu, hf, he, part, isAggT_run hag, sizeT_run hn, asAgg]
                  · have hl : ((cs.drop fd.offset).take n).length = n := by simp; omega
                    have hg : ∀ j, j < n → (vs.extract fd.offset (fd.offset + n)).getD j undef = vs.getD (fd.offset + j) undef := by
                      intro j hj
                      simp only [Array.getD_eq_getD_getElem?, Array.getElem?_extract]
                      rw [if_pos (by omega)]
                    refine .agg _ _ (by rw [hl]; simp; omega) (fun j hj => ?_) fun j hj => ?_
                    · rw [hl] at hj
                      rw [hg j hj]
                      simpa using hv (fd.offset + j) (by omega)
                    · rw [hl] at hj
                      rw [hg j hj]
                      exact hv1 _ (by omega)
                | false =>
                  have hn1 : n = 1 := by simpa using hone
                  subst hn1
                  simp only [Bool.false_eq_true, if_false, Option.map_eq_some_iff] at h
                  obtain ⟨c, hc, rfl⟩ := h
                  have hlt : fd.offset < cs.length := by omega
                  have hcc : cs[fd.offset] = c := by rw [List.getElem?_eq_getElem hlt] at hc; exact Option.some.inj hc
                  have hvv := hv fd.offset hlt
                  rw [hcc] at hvv
                  have hg := getD_some (cur := vs) (j := fd.offset) (by omega)
                  generalize vs.getD fd.offset undef = q at hg hvv
                  refine .val HI (v := q) ?_ hvv
                  simp [execOp, Instr.field, run_underlying hu, hf, he, part, isAggT_run hag, asAgg, hg]
              · cases h
            · cases h
          · cases ht
        · cases ht
      · cases ht
    · cases ht
  case indexAddr t x i =>
    simp only [trI] at ht
    split at ht
    · rename_i e x' i' hu h1 h2
      rw [Option.map_eq_some_iff] at ht
      obtain ⟨n, hn, rfl⟩ := ht
      simp only [evI] at h
      split at h
      · rename_i len j g1 g2
        split at h
        · rename_i hb
          cases h
          obtain ⟨k, hk⟩ := asInt_inv g2
          have hi := trO_R HE h2; rw [hk] at hi; have e1 := hi.flat_inv
          obtain ⟨r, hr, hR⟩ := does_idx (P := P) (k := k) hu hn HI (trO_R HE h1) g1 hb.1 hb.2
          exact .val HI (by simp only [execOp, e1]; rw [Sem.run_bind, hr]; rfl) hR
        · cases h
      · cases h
    · rename_i len e x' i' hu h1 h2
      rw [Option.map_eq_some_iff] at ht
      obtain ⟨n, hn, rfl⟩ := ht
      simp only [evI] at h
      split at h
      · rename_i j g2
        split at h
        · rename_i hb
          obtain ⟨k, hk⟩ := asInt_inv g2
          have hi := trO_R HE h2; rw [hk] at hi; have e1 := hi.flat_inv
          have hx := trO_R HE h1
          split at h
          · rename_i id off hid
            split at h
            · rename_i hal
              cases h
              rw [hid] at hx
              obtain ⟨b, n', hm⟩ := alive_m HI hal hx.mptr_s
              obtain ⟨ad, he, hR⟩ := mptr_add hx hm (j.toNat * n)
              have hr := does_aidx (P := P) (w := w) (k := k) hu hn he hb.1 hb.2
              exact .val HI (by simp only [execOp, e1]; rw [Sem.run_bind, hr]; rfl) hR
            · cases h
          · rename_i y q hy
            cases h
            rw [hy] at hx
            obtain ⟨ad, n', c, _, he⟩ := hx.elem_inv
            rw [he] at hx
            have hr := does_aidx (P := P) (w := w) (k := k) hu hn he hb.1 hb.2
            exact .val HI (by simp only [execOp, e1]; rw [Sem.run_bind, hr]; rfl) (elem_add hx _)
          · cases h
        · cases h
      · cases h
    · cases ht
  case index t x i =>
    simp only [trI] at ht
    split at ht
    · rename_i x' i' hu h1 h2
      cases ht
      simp only [evI] at h
      split at h
      · rename_i s j g1 g2
        split at h
        · rename_i h0
          split at h
          · rename_i b hb
            cases h
            obtain ⟨k, hk⟩ := asInt_inv g2
            have hi := trO_R HE h2; rw [hk] at hi; have e1 := hi.flat_inv
            have hx := trO_R HE h1; rw [g1] at hx; have e2 := hx.flat_inv
            exact .flat HI (by simp [execOp, Instr.index, asIntOf, run_underlying hu, e1, e2, h0, hb])
          · cases h
        · cases h
      · cases h
    · cases ht
  case extract x i =>
    simp only [trI, Option.map_eq_some_iff] at ht
    obtain ⟨x', hx, rfl⟩ := ht
    have hR := trO_R HE hx
    simp only [evI] at h
    split at h
    · rename_i vs hvs
      rw [Option.map_eq_some_iff] at h
      obtain ⟨c, hc, rfl⟩ := h
      rw [hvs] at hR
      obtain ⟨us, he, hs, hv⟩ := hR.tup_inv
      have hlt : i < vs.length := (List.getElem?_eq_some_iff.1 hc).1
      have hcc : vs[i] = c := (List.getElem?_eq_some_iff.1 hc).2
      have hvv := hv i hlt
      rw [hcc] at hvv
      have hg := getD_some (cur := us) (j := i) (by omega)
      generalize us.getD i undef = q at hg hvv
      exact .val HI (by simp [execOp, Instr.extract, he, hg]) hvv
    · cases h
  case makeFunc fn first caps =>
    cases fn <;> simp only [trI] at ht <;> try (cases ht; done)
    split at ht
    · rename_i f hfirst'
      obtain ⟨hfirst, hfY⟩ := hfirst'
      rw [Option.map_eq_some_iff] at ht
      obtain ⟨os, hos, rfl⟩ := ht
      simp only [evI, Option.some.injEq] at h
      subst h
      obtain ⟨h1, h2⟩ := trOs_arr HE hos
      have hf0 : first = #[] := by simpa using hfirst
      subst hf0
      exact .val HI (v := .func (.func f) #[] (caps.map a.eval)) (by simp [execOp, Instr.makeFunc]) (.clo _ _ _ hfY h1 h2)
    · cases ht
  case nilCheck x =>
    simp only [trI, Option.map_eq_some_iff] at ht
    obtain ⟨x', hx, rfl⟩ := ht
    have hR := trO_R HE hx
    simp only [evI] at h
    split at h
    · rename_i id o hid
      split at h
      · rename_i hal
        cases h
        rw [hid] at hR
        obtain ⟨b, n', hm⟩ := alive_m HI hal hR.mptr_s
        have he := hR.mptr_inv.2.2 b n' hm
        exact .val HI (v := a.eval x) (by simp [execOp, he]) hR
      · cases h
    · rename_i y k hy
      cases h
      rw [hy] at hR
      obtain ⟨ad, n', c, _, he⟩ := hR.elem_inv
      exact .val HI (v := a.eval x) (by simp [execOp, he]) hR
    · cases h
  case call c =>
    obtain ⟨callee, args, argTypes⟩ := c
    simp only [trI] at ht
    split at ht
    · rename_i os hos
      obtain ⟨hl, hr⟩ := trOs_R HE hos
      split at ht
      · split at ht
        · cases ht; simp [I.isCall] at hc
        · cases ht
      · rw [Option.map_eq_some_iff] at ht
        obtain ⟨_, _, rfl⟩ := ht
        simp [I.isCall] at hc
      · -- len
        rename_i hcal
        split at ht
        · rename_i x e hu
          cases ht
          simp only [evI, Option.map_eq_some_iff] at h
          obtain ⟨n, hn, rfl⟩ := h
          have hargs : args.toList.length = 1 := by simpa using hl.symm
          obtain ⟨ax, hax⟩ : ∃ ax, args = #[ax] := by
            obtain ⟨l⟩ := args
            match l, hargs with
            | [ax], _ => exact ⟨ax, rfl⟩
          subst hax
          have hR : R G (x.ev env) (a.eval ax) := by simpa using hr 0 (by simp)
          obtain ⟨A, c, he⟩ := lenS_R0 hR hn
          cases hat : argTypes[0]? with
          | none => simp [hat] at hu
          | some t =>
            simp only [hat, Option.bind_some] at hu
            exact .flat HI (by simp [execOp, resolve, invoke, builtin, Builtin.len_, hat, run_underlying hu, he, goInt])
        · rename_i x hu
          cases ht
          simp only [evI] at h
          split at h
          · rename_i s hs
            cases h
            have hargs : args.toList.length = 1 := by simpa using hl.symm
            obtain ⟨ax, hax⟩ : ∃ ax, args = #[ax] := by
              obtain ⟨l⟩ := args
              match l, hargs with
              | [ax], _ => exact ⟨ax, rfl⟩
            subst hax
            have hR : R G (x.ev env) (a.eval ax) := by simpa using hr 0 (by simp)
            rw [hs] at hR
            have he := hR.flat_inv
            cases hat : argTypes[0]? with
            | none => simp [hat] at hu
            | some t =>
              simp only [hat, Option.bind_some] at hu
              exact .flat HI (by simp [execOp, resolve, invoke, builtin, Builtin.len_, hat, run_underlying hu, he, goInt])
          · cases h
        · rename_i x kt et hu
          cases ht
          simp only [evI, List.map_cons, List.map_nil, evX] at h
          have hargs : args.toList.length = 1 := by simpa using hl.symm
          obtain ⟨ax, hax⟩ : ∃ ax, args = #[ax] := by
            obtain ⟨l⟩ := args
            match l, hargs with
            | [ax], _ => exact ⟨ax, rfl⟩
          subst hax
          have hR : R G (x.ev env) (a.eval ax) := by simpa using hr 0 (by simp)
          cases hat : argTypes[0]? with
          | none => simp [hat] at hu
          | some t =>
            simp only [hat, Option.bind_some] at hu
            split at h
            · rename_i hn
              cases h
              rw [nilM_true hn] at hR
              have he := hR.flat_inv
              exact .flat HI (by simp [execOp, resolve, invoke, builtin, Builtin.len_, hat, run_underlying hu, he, goInt])
            · rw [Option.map_eq_some_iff] at h
              obtain ⟨⟨id, cs⟩, hmA, rfl⟩ := h
              obtain ⟨he, hM⟩ := mapA_inv hmA
              rw [he] at hR
              obtain ⟨q, es, clock, hv, ho, hr⟩ := map_cells HI hR hM
              have hobj : (getObj q).run P w = .ok (.map es clock) w := by simp [getObj, Sem.run, ho]
              have hlen : es.size = cs.length := by simpa using hr.len
              exact .flat HI (by simp [execOp, resolve, invoke, builtin, Builtin.len_, hat, run_underlying hu, hv, goInt, hobj, hlen])
        · cases ht
      · -- delete
        rename_i hcal
        split at ht
        · rename_i m k mk hu
          cases ht
          obtain ⟨am, ak, hax⟩ : ∃ am ak, args = #[am, ak] := by
            have hargs : args.toList.length = 2 := by simpa using hl.symm
            obtain ⟨l⟩ := args
            match l, hargs with
            | [am, ak], _ => exact ⟨am, ak, rfl⟩
          subst hax
          have hR0 : R G (m.ev env) (a.eval am) := by simpa using hr 0 (by simp)
          have hR1 : R G (k.ev env) (a.eval ak) := by simpa using hr 1 (by simp)
          cases hat : argTypes[0]? with
          | none => simp [hat] at hu
          | some t =>
            simp only [hat, Option.bind_some] at hu
            obtain ⟨kt, et, hut, hkt⟩ := mapKT_inv hu
            simp only [evI, List.map_cons, List.map_nil, evX] at h
            split at h
            · rename_i hkA
              split at h
              · rename_i hn
                cases h
                rw [nilM_true hn] at hR0
                have he := hR0.flat_inv
                have hc := fun em => does_checkKey (w := w) hkt hR1 hkA em
                exact .flat HI (by simp [execOp, resolve, invoke, builtin, Builtin.delete_, hat, run_underlying hut, he, hc])
              · split at h
                · rename_i id cs hmA
                  rw [Option.map_eq_some_iff] at h
                  obtain ⟨ds, hds, rfl⟩ := h
                  obtain ⟨he, hM⟩ := mapA_inv hmA
                  rw [he] at hR0
                  obtain ⟨w', hrun, hI⟩ := does_mdel (ty := type) hat hut hkt hkA HI hR0 hR1 hM hds
                  exact ⟨.tuple #[], w', G, .inl (by simp [execOp, resolve, invoke, builtin, hrun]), Gle.refl G, .imm _ _ (.flat _), hI⟩
                · cases h
            · cases h
        · cases ht
      · -- append
        rename_i hcal
        split at ht
        · rename_i s x t u e hat hat1 hu
          split at ht
          · rename_i htu
            subst htu
            split at ht
            · rename_i n b zs hel
              cases ht
              obtain ⟨inf, z, g1, g2, g3, g4, g5, g6, g7, g8⟩ := elInfo_inv hel
              simp only [hat, Option.bind_some] at hu
              obtain ⟨as, ax, hax⟩ : ∃ as ax, args = #[as, ax] := by
                have hargs : args.toList.length = 2 := by simpa using hl.symm
                obtain ⟨l⟩ := args
                match l, hargs with
                | [as, ax], _ => exact ⟨as, ax, rfl⟩
              subst hax
              have hR0 : R G (s.ev env) (a.eval as) := by simpa using hr 0 (by simp)
              have hR1 : R G (x.ev env) (a.eval ax) := by simpa using hr 1 (by simp)
              simp only [evI] at h
              split at h
              · rename_i news m hv hm
                have hsl : ∀ id off len sz cd, s.ev env = .ms id off len sz cd → m = 0 → ∃ cs, M[id]? = some (some cs) := by
                  intro id off len sz cd hs hm0
                  subst hm0
                  simp only [appA, if_true, hs] at h
                  split at h
                  · rename_i hal
                    unfold aliveA at hal
                    split at hal
                    · rename_i cs hM; exact ⟨cs, hM⟩
                    · cases hal
                  · cases h
                obtain ⟨v', w', G', hrun, hG, hO⟩ := does_append (P := P) (ty := type) hu g1 g2 g3 g4 g6 g7 HI hR1 hR0 hv hm hsl h
                refine ⟨v', w', G', .inl ?_, hG, hO⟩
                have hrun' : (Builtin.append_ argTypes type #[a.eval as, a.eval ax]).run P w = .ok v' w' := by
                  have : ∀ T : Array TypeId, T[0]? = some t → T[1]? = some t → Builtin.append_ T type #[a.eval as, a.eval ax] = Builtin.append_ #[t, t] type #[a.eval as, a.eval ax] := by
                    intro T h0 h1
                    unfold Builtin.append_
                    simp only [h0, h1]
                    rfl
                  rw [this argTypes hat hat1]; exact hrun
                simp [execOp, resolve, invoke, builtin, hrun']
              · cases h
            · cases ht
          · cases ht
        · cases ht
      · -- copy
        rename_i hcal
        split at ht
        · rename_i d s e hu
          split at ht
          · rename_i n hn
            split at ht
            · rename_i hpos
              cases ht
              obtain ⟨ad, as, hax⟩ : ∃ ad as, args = #[ad, as] := by
                have hargs : args.toList.length = 2 := by simpa using hl.symm
                obtain ⟨l⟩ := args
                match l, hargs with
                | [ad, as], _ => exact ⟨ad, as, rfl⟩
              subst hax
              have hR0 : R G (d.ev env) (a.eval ad) := by simpa using hr 0 (by simp)
              have hR1 : R G (s.ev env) (a.eval as) := by simpa using hr 1 (by simp)
              simp only [evI] at h
              split at h
              · rename_i id off len sz' cd cs k hd hv hk
                split at h
                · rename_i old hM
                  split at h
                  · rename_i hh
                    obtain ⟨rfl, hfit, hkk⟩ := hh
                    cases h
                    rw [hd] at hR0
                    cases hat : argTypes[0]? with
                    | none => simp [hat] at hu
                    | some t =>
                      simp only [hat, Option.bind_some] at hu
                      obtain ⟨w', hrun, hI'⟩ := does_copy (P := P) (sT := t) (ty := type) hu hn HI hR0 hR1 hv hk hM hfit hkk
                      refine ⟨_, w', G, .inl ?_, Gle.refl G, .imm _ _ (.flat _), hI'⟩
                      have hrun' : (Builtin.copy_ argTypes type #[a.eval ad, a.eval as]).run P w = .ok (.int .i64 (Nat.min k len : Nat)) w' := by
                        have : ∀ T : Array TypeId, T[0]? = some t → Builtin.copy_ T type #[a.eval ad, a.eval as] = Builtin.copy_ #[t, t] type #[a.eval ad, a.eval as] := by
                          intro T h0
                          unfold Builtin.copy_
                          simp only [h0]
                          rfl
                        rw [this argTypes hat]; exact hrun
                      simp [execOp, resolve, invoke, builtin, hrun']
                  · cases h
                · cases h
              · cases h
            · cases ht
          · cases ht
        · cases ht
      · -- clear
        rename_i hcal
        split at ht
        · rename_i x e hu
          split at ht
          · rename_i n b zs hel
            cases ht
            obtain ⟨inf, z, g1, g2, g3, g4, g5, g6, g7, g8⟩ := elInfo_inv hel
            obtain ⟨ax, hax⟩ : ∃ ax, args = #[ax] := by
              have hargs : args.toList.length = 1 := by simpa using hl.symm
              obtain ⟨l⟩ := args
              match l, hargs with
              | [ax], _ => exact ⟨ax, rfl⟩
            subst hax
            have hR : R G (x.ev env) (a.eval ax) := by simpa using hr 0 (by simp)
            cases hat : argTypes[0]? with
            | none => simp [hat] at hu
            | some t =>
              simp only [hat, Option.bind_some] at hu
              simp only [evI] at h
              split at h
              · rename_i sz' nl cd hx
                cases h
                rw [hx] at hR
                refine .flat HI ?_
                rcases RI.list_cases hR.list_inv with ⟨_, _, _, he⟩ | ⟨_, ad, k, c, _, he, h0, h1, _⟩
                · simp [execOp, resolve, invoke, builtin, Builtin.clear_, hat, run_underlying hu, he, undef]
                · have : k = 0 := by rcases Nat.mul_eq_zero.1 h1.symm with h | h; exact h; omega
                  subst this
                  simp [execOp, resolve, invoke, builtin, Builtin.clear_, hat, run_underlying hu, he, undef]
              · rename_i id off len sz' cd hx
                rw [hx] at hR
                split at h
                · rename_i old hM
                  split at h
                  · rename_i hh
                    obtain ⟨rfl, hzl, hfit⟩ := hh
                    obtain ⟨i0, i1, isz, icl⟩ := hR.ms_inv
                    obtain ⟨bb, bn, _, _, hmb, _⟩ := HI.row hM hR.ms_s
                    obtain ⟨cc, he, c1, c2, c3, c4⟩ := icl bb bn hmb
                    split at h
                    · rename_i h0
                      cases h
                      subst h0
                      refine .flat HI ?_
                      simp [execOp, resolve, invoke, builtin, Builtin.clear_, hat, run_underlying hu, he, undef]
                    · rename_i h0
                      cases h
                      have hz := (CR.zs (G := G) g8).rep len
                      have hzlen : ((List.replicate len (zs.map avC1)).flatten).length = len * sz' := by
                        simp only [List.length_flatten, List.map_replicate, List.sum_replicate_nat, hzl]
                      obtain ⟨w', hst, hI⟩ := write_cells (P := P) HI hmb hM hz (o := off) (by rw [hzlen]; exact hfit)
                      refine ⟨undef, w', G, .inl ?_, Gle.refl G, .imm _ _ (.flat _), hI⟩
                      have hmade : (Builtin.zeroCells z.cells len).toList = (List.replicate len zs).flatten := by
                        have := made_eq z.cells (by omega) len
                        unfold Builtin.zeroCells
                        rw [this, g5]
                      obtain ⟨len', rfl⟩ : ∃ k, len = k + 1 := ⟨len - 1, by omega⟩
                      simp [execOp, resolve, invoke, builtin, Builtin.clear_, hat, run_underlying hu, he, zeroValue, typeInfo, g1, g2, hmade, hst, undef]
                  · cases h
                · cases h
              · cases h
          · cases ht
        · rename_i x kt et hu
          cases ht
          simp only [evI, List.map_cons, List.map_nil, evX] at h
          have hargs : args.toList.length = 1 := by simpa using hl.symm
          obtain ⟨ax, hax⟩ : ∃ ax, args = #[ax] := by
            obtain ⟨l⟩ := args
            match l, hargs with
            | [ax], _ => exact ⟨ax, rfl⟩
          subst hax
          have hR : R G (x.ev env) (a.eval ax) := by simpa using hr 0 (by simp)
          cases hat : argTypes[0]? with
          | none => simp [hat] at hu
          | some t =>
            simp only [hat, Option.bind_some] at hu
            split at h
            · rename_i hn
              cases h
              rw [nilM_true hn] at hR
              have he := hR.flat_inv
              exact .flat HI (by simp [execOp, resolve, invoke, builtin, Builtin.clear_, hat, run_underlying hu, he])
            · rw [Option.map_eq_some_iff] at h
              obtain ⟨⟨id, cs⟩, hmA, rfl⟩ := h
              obtain ⟨he, hM⟩ := mapA_inv hmA
              rw [he] at hR
              obtain ⟨q, es, clock, hv, ho, hr⟩ := map_cells HI hR hM
              obtain ⟨r', hr', hid, hs⟩ := hR.mp_inv
              have hqr : q = r' := by rw [hv] at hr'; cases hr'; rfl
              subst hqr
              have hlt : id < M.length := (List.getElem?_eq_some_iff.1 hM).1
              have hobj : (getObj q).run P w = .ok (.map es clock) w := by simp [getObj, Sem.run, ho]
              have hset := fun o => MapKept.run_setObj_map (P := P) o ho
              refine ⟨.tuple #[], { w with heap := w.heap.setIfInBounds q (.map #[] clock) }, G, .inl ?_, Gle.refl G, .imm _ _ (.flat _), HI.putMap hs hlt (SpO_of .nil)⟩
              simp [execOp, resolve, invoke, builtin, Builtin.clear_, hat, run_underlying hu, hv, hobj, hset]
        · cases ht
      · -- min
        split at ht
        · rename_i x y
          cases ht
          obtain ⟨ax, ay, hax⟩ : ∃ ax ay, args = #[ax, ay] := by
            have hargs : args.toList.length = 2 := by simpa using hl.symm
            obtain ⟨l⟩ := args
            match l, hargs with
            | [ax, ay], _ => exact ⟨ax, ay, rfl⟩
          subst hax
          have hR0 : R G (x.ev env) (a.eval ax) := by simpa using hr 0 (by simp)
          have hR1 : R G (y.ev env) (a.eval ay) := by simpa using hr 1 (by simp)
          simp only [evI] at h
          split at h
          · rename_i k p k' q hp hq
            split at h
            · rename_i hkk
              subst hkk
              cases h
              rw [hp] at hR0; rw [hq] at hR1
              have e1 := hR0.flat_inv; have e2 := hR1.flat_inv
              exact .flat HI (by simp [execOp, resolve, invoke, builtin, Builtin.min_, Builtin.min2, e1, e2])
            · cases h
          · cases h
        · cases ht
      · split at ht
        · rename_i x y
          cases ht
          obtain ⟨ax, ay, hax⟩ : ∃ ax ay, args = #[ax, ay] := by
            have hargs : args.toList.length = 2 := by simpa using hl.symm
            obtain ⟨l⟩ := args
            match l, hargs with
            | [ax, ay], _ => exact ⟨ax, ay, rfl⟩
          subst hax
          have hR0 : R G (x.ev env) (a.eval ax) := by simpa using hr 0 (by simp)
          have hR1 : R G (y.ev env) (a.eval ay) := by simpa using hr 1 (by simp)
          simp only [evI] at h
          split at h
          · rename_i k p k' q hp hq
            split at h
            · rename_i hkk
              subst hkk
              cases h
              rw [hp] at hR0; rw [hq] at hR1
              have e1 := hR0.flat_inv; have e2 := hR1.flat_inv
              exact .flat HI (by simp [execOp, resolve, invoke, builtin, Builtin.max_, Builtin.max2, e1, e2])
            · cases h
          · cases h
        · cases ht
      · cases ht
    · cases ht
  all_goals (simp [trI] at ht)
end
end Go.Proofs.Ytlcdafidoddefaa.Av
namespace Go.Proofs.Ytlcdafidoddefaa.Av
open Go.RowKit
set_option linter.unusedSimpArgs false

/-- The operands of an instruction. -/
def I.os : I → List O
  | .mov x | .un _ x | .convI _ x | .convS x | .bytesOf x | .strOf x | .lenS x | .lenStr x | .load _ _ x | .box _ x | .fad _ x | .fld _ _ _ x | .ext _ x | .nilck x | .clear _ _ x => [x]
  | .pick c a b => [c, a, b]
  | .bin _ _ x y | .store _ x y | .storeK _ x y | .mslice _ _ _ x y | .idx _ x y | .aidx _ _ x y | .ival _ _ _ x y | .istr x y | .app _ _ x y | .copy _ x y | .min x y | .max x y => [x, y]
  | .alloc _ | .stop => []
  | .build _ ps | .bslice _ _ _ ps => ps.map fun p => p.2.2
  | .slice _ x lo hi mx => x :: lo.toList ++ hi.toList ++ mx.toList
  | .sstr x lo hi => x :: lo.toList ++ hi.toList
  | .clo _ cs => cs
  | .call _ cs => cs
  | .calld f cs => f :: cs
  | .xop _ xs => xs
def AOp.reads (o : AOp) : List Nat := o.i.os.flatMap O.reads ++ (match o.g with | some (t, _) => [t] | none => [])
theorem O.ev_congr {e e' : Env} {x : O} (h : ∀ t ∈ x.reads, e t = e' t) : x.ev e = x.ev e' := by
  cases x with
  | t n => exact h n (by simp [O.reads])
  | k v => rfl
theorem parts_congr {e e' : Env} {ps : List (Nat × Nat × O)} (h : ∀ x ∈ ps.map (fun p => p.2.2), x.ev e = x.ev e') : (ps.map fun (o, n, x) => (o, n, x.ev e)) = ps.map fun (o, n, x) => (o, n, x.ev e') := by
  refine List.map_congr_left fun p hp => ?_
  obtain ⟨o, n, x⟩ := p
  have := h x (List.mem_map.2 ⟨(o, n, x), hp, rfl⟩)
  simp only [this]
theorem os_congr {e e' : Env} {xs : List O} (h : ∀ x ∈ xs, x.ev e = x.ev e') : xs.map (·.ev e) = xs.map (·.ev e') := List.map_congr_left h
theorem oo_congr {e e' : Env} {x : Option O} (h : ∀ y ∈ x.toList, y.ev e = y.ev e') : x.map (·.ev e) = x.map (·.ev e') := by
  cases x with
  | none => rfl
  | some x => simp [h x (by simp)]
theorem evI_congr (call : Call) (base : Nat) (M : MS) (D : List Nat) {e e' : Env} {i : I} (h : ∀ x ∈ i.os, x.ev e = x.ev e') : evI call base e M D i = evI call base e' M D i := by
  cases i <;> simp only [I.os, List.mem_cons, List.not_mem_nil, or_false, forall_eq_or_imp, forall_eq, List.mem_append] at h <;> simp only [evI]
  case build zs ps => rw [parts_congr h]
  case bslice sz len zs ps => rw [parts_congr h]
  case slice sz x lo hi mx =>
    rw [h x (by simp), oo_congr (x := lo) fun y hy => h y (by simp [hy]), oo_congr (x := hi) fun y hy => h y (by simp [hy]), oo_congr (x := mx) fun y hy => h y (by simp [hy])]
  case sstr x lo hi =>
    rw [h x (by simp), oo_congr (x := lo) fun y hy => h y (by simp [hy]), oo_congr (x := hi) fun y hy => h y (by simp [hy])]
  case clo fn cs => rw [os_congr h]
  case call f cs => rw [os_congr h]
  case calld f cs => rw [h.1, os_congr h.2]
  case xop o xs => rw [os_congr h]
  all_goals simp [h]
theorem wantA_congr {e e' : Env} {g : Option (Nat × Bool)} (h : ∀ t b, g = some (t, b) → e t = e' t) : wantA e g = wantA e' g := by
  cases g with
  | none => rfl
  | some p => obtain ⟨t, b⟩ := p; simp [wantA, h t b rfl]
/-- One instruction that writes nothing. -/
def stepQ (call : Call) (base : Nat) (M : MS) (o : AOp) (env : Env) : Option AV :=
  match wantA env o.g with
  | some true => match evI call base env M [] o.i with
    | some (.q v) => some v
    | _ => none
  | some false => some (.flat undef)
  | none => none
theorem evQ_cons (call : Call) (base : Nat) (M : MS) (o : AOp) (r : List AOp) (env : Env) :
    evQ call base M (o :: r) env = (stepQ call base M o env).bind fun v => evQ call base M r (updO env o.dst v) := by
  simp only [evQ, stepQ]
  cases wantA env o.g with
  | none => rfl
  | some b => cases b
              · rfl
              · cases evI call base env M [] o.i with
                | none => rfl
                | some out => cases out <;> rfl
theorem stepQ_congr {call : Call} {base : Nat} {M : MS} {o : AOp} {e e' : Env} (h : ∀ t ∈ o.reads, e t = e' t) : stepQ call base M o e = stepQ call base M o e' := by
  have h1 : wantA e o.g = wantA e' o.g := wantA_congr fun t b hg => h t (by simp [AOp.reads, hg])
  have h2 : evI call base e M [] o.i = evI call base e' M [] o.i := evI_congr call base M [] fun x hx => O.ev_congr fun t ht => h t (by
    simp only [AOp.reads, List.mem_append, List.mem_flatMap]
    exact .inl ⟨x, hx, ht⟩)
  simp only [stepQ, h1, h2]

/-! ### Whatever order -/
/-- What a temporary holds when those of L have come. -/
def look : (Nat → Bool) → List (Option Nat × AV) → Nat → AV → AV
  | _, [], _, d => d
  | L, p :: ps, t, d => look (fun k => L (k + 1)) ps t (if L 0 = true ∧ p.1 = some t then p.2 else d)
theorem look_congr : ∀ {ps : List (Option Nat × AV)} {L L' : Nat → Bool} {t : Nat} {d : AV}, (∀ i p, ps[i]? = some p → p.1 = some t → L i = L' i) → look L ps t d = look L' ps t d
  | [], _, _, _, _, _ => rfl
  | p :: ps, L, L', t, d, h => by
    simp only [look]
    rw [look_congr (L := fun k => L (k + 1)) (L' := fun k => L' (k + 1)) fun i q hi ht => h (i + 1) q (by simpa using hi) ht]
    by_cases hp : p.1 = some t
    · rw [h 0 p (by simp) hp]
    · simp [hp]
theorem look_no : ∀ {ps : List (Option Nat × AV)} {L : Nat → Bool} {t : Nat} {d : AV}, (∀ i p, ps[i]? = some p → p.1 = some t → L i = false) → look L ps t d = d
  | [], _, _, _, _ => rfl
  | p :: ps, L, t, d, h => by
    simp only [look]
    rw [look_no (L := fun k => L (k + 1)) fun i q hi ht => h (i + 1) q (by simpa using hi) ht]
    by_cases hp : p.1 = some t
    · have := h 0 p (by simp) hp; simp [this]
    · simp [hp]
theorem look_put : ∀ {ps : List (Option Nat × AV)} {L : Nat → Bool} {j : Nat} {p : Option Nat × AV} {t : Nat} {d : AV}, ps[j]? = some p → (p.1 = some t → ∀ i q, j < i → ps[i]? = some q → q.1 = some t → L i = false) →
    look (fun k => if k = j then true else L k) ps t d = if p.1 = some t then p.2 else look L ps t d
  | [], _, _, _, _, _, hj, _ => by simp at hj
  | p0 :: ps, L, 0, p, t, d, hj, h => by
    simp at hj; subst hj
    simp only [look]
    by_cases hp : p0.1 = some t
    · simp only [hp, if_true]
      rw [look_no]
      · simp
      · intro i q hi ht
        simpa using h hp (i + 1) q (by omega) (by simpa using hi) ht
    · simp only [hp, and_false, if_false]
      exact look_congr fun i q hi ht => by simp
  | p0 :: ps, L, j + 1, p, t, d, hj, h => by
    simp only [look]
    have ih := look_put (ps := ps) (L := fun k => L (k + 1)) (j := j) (p := p) (t := t) (d := if L 0 = true ∧ p0.1 = some t then p0.2 else d) (by simpa using hj) (fun hp i q hi hq ht => h hp (i + 1) q (by omega) (by simpa using hq) ht)
    simpa using ih
/-- The run in the text's order, step by step. -/
theorem evQ_run (call : Call) (base : Nat) (M : MS) : ∀ (ops : List AOp) (env env1 : Env), evQ call base M ops env = some env1 →
    ∃ ps : List (Option Nat × AV), ps.map (·.1) = ops.map (·.dst) ∧ (∀ i o, ops[i]? = some o → ∃ v, ps[i]? = some (o.dst, v) ∧ stepQ call base M o (fun t => look (fun k => decide (k < i)) ps t (env t)) = some v) ∧
      ∀ t, env1 t = look (fun _ => true) ps t (env t)
  | [], env, env1, h => by simp [evQ] at h; subst h; exact ⟨[], rfl, fun i o h => by simp at h, fun t => rfl⟩
  | o :: r, env, env1, h => by
    rw [evQ_cons] at h
    cases hv : stepQ call base M o env with
    | none => rw [hv] at h; cases h
    | some v =>
      rw [hv] at h
      simp only [Option.bind_some] at h
      obtain ⟨ps, h1, h2, h3⟩ := evQ_run call base M r (updO env o.dst v) env1 h
      have hu : ∀ t, updO env o.dst v t = if o.dst = some t then v else env t := by
        intro t
        cases hd : o.dst with
        | none => simp [updO]
        | some d => simp only [updO, upd, Option.some.injEq]; by_cases htd : t = d
                    · subst htd; simp
                    · simp [htd, Ne.symm htd]
      refine ⟨(o.dst, v) :: ps, by simp [h1], fun i o' hi => ?_, fun t => ?_⟩
      · cases i with
        | zero =>
          simp at hi; subst hi
          refine ⟨v, by simp, ?_⟩
          rw [← hv]
          exact stepQ_congr fun t _ => look_no fun i p _ _ => by simp
        | succ i =>
          obtain ⟨v', e1, e2⟩ := h2 i o' (by simpa using hi)
          refine ⟨v', by simpa using e1, ?_⟩
          rw [← e2]
          exact stepQ_congr fun t _ => by simp only [look, hu]; simp
      · rw [h3 t]
        simp only [look, hu]; simp
theorem calm_step {call : Call} {base id : Nat} {M : MS} {X : Option (List AV)} {o : AOp} {env : Env} (hg : o.g = none) (h : o.i.calm id env = true) : stepQ call base (M.set id X) o env = stepQ call base M o env := by
  have hget : ∀ {i : Nat}, (i != id) = true → (M.set id X)[i]? = M[i]? := fun hi => by
    rw [List.getElem?_set_ne]
    exact fun e => by simp [e] at hi
  have hal : ∀ {i : Nat}, (i != id) = true → aliveA (M.set id X) i = aliveA M i := fun hi => by unfold aliveA; rw [hget hi]
  have key : evI call base env (M.set id X) [] o.i = evI call base env M [] o.i := by
    obtain ⟨dst, i, g⟩ := o
    cases i <;> simp only [I.calm] at h <;> first | (cases h; done) | rfl | skip
    all_goals (simp only [evI]; split at h)
    all_goals first | (cases h; done) | skip
    all_goals (rename_i hx; simp only [hx, aview, hal h, hget h])
  unfold stepQ
  rw [key]
theorem calmQ_run (call : Call) (base : Nat) (M : MS) (id : Nat) : ∀ (ops : List AOp) (env env1 : Env), evQ call base M ops env = some env1 → calmQ call base M id ops env = true →
    ∃ ps : List (Option Nat × AV), ps.map (·.1) = ops.map (·.dst) ∧ (∀ i o, ops[i]? = some o → ∃ v, ps[i]? = some (o.dst, v) ∧ stepQ call base M o (fun t => look (fun k => decide (k < i)) ps t (env t)) = some v) ∧
      (∀ t, env1 t = look (fun _ => true) ps t (env t)) ∧ ∀ (i : Nat) (o : AOp), ops[i]? = some o → o.g = none ∧ o.i.calm id (fun t => look (fun k => decide (k < i)) ps t (env t)) = true
  | [], env, env1, h, _ => by simp [evQ] at h; subst h; exact ⟨[], rfl, fun i o h => by simp at h, fun t => rfl, fun i o h => by simp at h⟩
  | o :: r, env, env1, h, hc => by
    simp only [calmQ, Bool.and_eq_true, Option.isNone_iff_eq_none] at hc
    obtain ⟨hg, hc1, hc2⟩ := hc
    rw [evQ_cons] at h
    cases hv : stepQ call base M o env with
    | none => rw [hv] at h; cases h
    | some v =>
      rw [hv] at h
      simp only [Option.bind_some] at h
      have hev : evI call base env M [] o.i = some (.q v) := by
        unfold stepQ at hv
        rw [hg] at hv
        simp only [wantA] at hv
        split at hv
        · rename_i v' hv'; cases hv; exact hv'
        · cases hv
      rw [hev] at hc2
      simp only at hc2
      obtain ⟨ps, h1, h2, h3, h4⟩ := calmQ_run call base M id r (updO env o.dst v) env1 h hc2
      have hu : ∀ t, updO env o.dst v t = if o.dst = some t then v else env t := by
        intro t
        cases hd : o.dst with
        | none => simp [updO]
        | some d => simp only [updO, upd, Option.some.injEq]; by_cases htd : t = d
                    · subst htd; simp
                    · simp [htd, Ne.symm htd]
      refine ⟨(o.dst, v) :: ps, by simp [h1], fun i o' hi => ?_, fun t => ?_, fun i o' hi => ?_⟩
      · cases i with
        | zero =>
          simp at hi; subst hi
          refine ⟨v, by simp, ?_⟩
          rw [← hv]
          exact stepQ_congr fun t _ => look_no fun i p _ _ => by simp
        | succ i =>
          obtain ⟨v', e1, e2⟩ := h2 i o' (by simpa using hi)
          refine ⟨v', by simpa using e1, ?_⟩
          rw [← e2]
          exact stepQ_congr fun t _ => by simp only [look, hu]; simp
      · rw [h3 t]
        simp only [look, hu]; simp
      · cases i with
        | zero =>
          simp at hi; subst hi
          have e : (fun t => look (fun k => decide (k < 0)) ((o.dst, v) :: ps) t (env t)) = env := by
            funext t; exact look_no fun i p _ _ => by simp
          rw [e]; exact ⟨hg, hc1⟩
        | succ i =>
          obtain ⟨e1, e2⟩ := h4 i o' (by simpa using hi)
          refine ⟨e1, ?_⟩
          rw [← e2]
          congr 1
          funext t
          simp only [look, hu]; simp
end Go.Proofs.Ytlcdafidoddefaa.Av
namespace Go.Proofs.Ytlcdafidoddefaa.Av
open Go.RowKit
set_option linter.unusedSimpArgs false

def okFn (P : Program) (f : Nat) : Bool :=
  match P.funcs[f]? with
  | some fn => fn.name != "runtime.NumGoroutine" && fn.body.isSome
  | none => false
/-- What the evaluator says of calls is so. -/
structure CallOk [Inhabited TieT] (P : Program) (call : Call) : Prop where
  ok : ∀ f args M out, call f args M = some out → okFn P f = true
  snd : ∀ f args M out, call f args M = some out → ∀ (w0 w : World) (G : Gh) (vals : Array Value), Inv w0 G M w → vals.size = args.length → (∀ (j : Nat) (h : j < args.length), R G args[j] (vals.getD j undef)) →
    Calls P f vals w fun e w' => ∃ v G', e = .returned v ∧ Gle G G' ∧ OutR w0 G' M out v w'
  frame : ∀ f args M v M' D, call f args M = some (.x v M' D) → M.length ≤ M'.length ∧ ∀ id, id < M.length → id ∉ D → M'[id]? = M[id]?

/-- All functions, any depth; in a round or not. -/
def wideF (ro : Option Nat) : Fence := { Fence.wide with round := ro }
theorem callsIn_wideF {ro : Option Nat} {n : Nat} {P : Program} {f : FuncId} {args : Array Value} {w : World} {R : Ending → World → Prop} (h : Calls P f args w R) : CallsIn (wideF ro) n P f args w R := by
  have h1 := callsIn_wide (n := n) |>.2 h
  refine ⟨trivial, fun cs hr => ?_⟩
  obtain ⟨e, w', fr, r, s, x⟩ := h1.2 cs (fun d hd => by simp [Fence.wide] at hd)
  exact ⟨e, w', fr, r, s, x⟩
/-- What the evaluator says of calls is so: of functions, and of rounds. -/
structure CallB [Inhabited TieT] (P : Program) (call : Call) : Prop where
  ok : ∀ f args M out, f < YB → call f args M = some out → okFn P f = true
  snd : ∀ f args M out, f < YB → call f args M = some out → ∀ (w0 w : World) (G : Gh) (vals : Array Value), Inv w0 G M w → vals.size = args.length → (∀ (j : Nat) (h : j < args.length), R G args[j] (vals.getD j undef)) →
    Calls P f vals w fun e w' => ∃ v G', e = .returned v ∧ Gle G G' ∧ OutR w0 G' M out v w'
  frame : ∀ f args M v M' D, call f args M = some (.x v M' D) → M.length ≤ M'.length ∧ ∀ id, id < M.length → id ∉ D → M'[id]? = M[id]?
  rnd : ∀ y id caps args M out, call y (.yld id y caps :: args) M = some out → ∀ (w0 w : World) (G : Gh) (v : Value) (vals : Array Value), Inv w0 G M w → R G (.yld id y caps) v → vals.size = args.length → (∀ (j : Nat) (h : j < args.length), R G args[j] (vals.getD j undef)) →
    ∃ l fn tmps assign body, v = .func (.yield l) #[] #[] ∧ (Instr.yield l vals).run P w = .ok (.round l fn tmps assign body) w ∧ ∀ ro nn, RoundIn (wideF ro) nn P l fn tmps assign body w fun e w' => ∃ v G', e = .returned v ∧ Gle G G' ∧ OutR w0 G' M out v w'

def dstOk (N : Nat) : Option Nat → Bool
  | some d => decide (d < N)
  | none => true
/-- A nil slice, with the size of its elements. -/
def nilT (P : Program) (t : TypeId) (i : I) : I :=
  match i with
  | .mov (.k (.list 1 [] true true)) => match P.underlying t with
    | some (.slice e) => match sizeT P e with
      | some n => .mov (.k (.list n [] true true))
      | none => i
    | _ => i
  | i => i
theorem nilT_cases (P : Program) (t : TypeId) (i : I) : nilT P t i = i ∨ ∃ n, i = .mov (.k (.list 1 [] true true)) ∧ nilT P t i = .mov (.k (.list n [] true true)) := by
  unfold nilT
  split
  · split
    · split
      · exact .inr ⟨_, rfl, rfl⟩
      · exact .inl rfl
    · exact .inl rfl
  · exact .inl rfl
/-- Stores that give nothing up, where the function is said to keep what it stores. -/
def kI (K : Bool) (i : I) : I :=
  match K, i with
  | true, .store n a x => .storeK n a x
  | _, i => i
def trOp (P : Program) (ops : Array Oper) (N : Nat) (K : Bool) (o : Oper) : Option AOp :=
  if dstOk N o.dst = true then
    match o.guard with
    | none => some ⟨o.dst, kI K (nilT P o.type ((trI P o.op).getD .stop)), none⟩
    | some (j, b) => match (ops[j]?).bind (·.dst) with
      | some t => some ⟨o.dst, kI K (nilT P o.type ((trI P o.op).getD .stop)), some (t, b)⟩
      | none => none
  else none
theorem trOp_inv {P : Program} {ops : Array Oper} {N : Nat} {K : Bool} {o : Oper} {ao : AOp} (h : trOp P ops N K o = some ao) :
    kI K (nilT P o.type ((trI P o.op).getD .stop)) = ao.i ∧ ao.dst = o.dst ∧ (∀ d, o.dst = some d → d < N) ∧
    ((o.guard = none ∧ ao.g = none) ∨ ∃ j b t, o.guard = some (j, b) ∧ (ops[j]?).bind (·.dst) = some t ∧ ao.g = some (t, b)) := by
  unfold trOp at h
  split at h
  · rename_i hd
    have hd' : ∀ d, o.dst = some d → d < N := by intro d hdd; rw [hdd] at hd; simpa [dstOk] using hd
    split at h
    · rename_i hg; cases h; exact ⟨rfl, rfl, hd', .inl ⟨hg, rfl⟩⟩
    · rename_i j b hg
      split at h
      · rename_i t ht; cases h; exact ⟨rfl, rfl, hd', .inr ⟨j, b, t, hg, ht, rfl⟩⟩
      · cases h
  · cases h
section
variable {P : Program} {w0 w : World} {G : Gh} {M : MS} {env : Env} {a : Act} {ops : Array Oper} {N : Nat}
theorem wantA_R (HE : EnvR G env a) {o : Oper} {ao : AOp} {K : Bool} (ht : trOp P ops N K o = some ao) {b : Bool} (h : wantA env ao.g = some b) : Region.wanted o (yielded ops a.tmps) = b := by
  obtain ⟨_, _, _, hg⟩ := trOp_inv ht
  rcases hg with ⟨h1, h2⟩ | ⟨j, b', t, h1, h2, h3⟩
  · rw [h2] at h; simp [wantA] at h; subst h; simp [Region.wanted, h1]
  · rw [h3] at h
    have hr := HE.t t
    simp only [wantA] at h
    split at h
    · rename_i c hc
      cases h
      rw [hc] at hr
      have he := hr.flat_inv
      have hlt : a.tmps[t]? = some (.bool c) := by
        rcases Nat.lt_or_ge t a.tmps.size with hl | hl
        · rw [getD_some hl, he]
        · simp [Array.getD_eq_getD_getElem?, Array.getElem?_eq_none hl, undef] at he
      simp [Region.wanted, h1, yielded, h2, hlt]
    · rename_i c hc
      cases h
      rw [hc] at hr
      have he := hr.flat_inv
      have hy : yielded ops a.tmps j = none := by
        unfold yielded
        rw [h2]
        simp only [Option.bind_some]
        rcases Nat.lt_or_ge t a.tmps.size with hl | hl
        · rw [getD_some hl, he]
        · rw [Array.getElem?_eq_none hl]
      simp [Region.wanted, h1, hy]
    · cases h
theorem kI_call {K : Bool} {i : I} (h : i.isCall = true) : kI K i = i := by
  cases K <;> cases i <;> first | rfl | (simp [I.isCall] at h)
theorem evI_doesK [Inhabited TieT] {call : Call} {base : Nat} {D : List Nat} {o : Oper} {i : I} {out : Out} {K : Bool} (HE : EnvR G env a) (HI : Inv w0 G M w) (ht : trI P o.op = some i) (hc : i.isCall = false)
    (h : evI call base env M D (kI K i) = some out) : Does w0 G M out ((execOp a.eval o).run P w) := by
  by_cases hk : kI K i = i
  · rw [hk] at h; exact evI_does HE HI ht hc h
  · obtain ⟨n, x, y, rfl, hk2⟩ : ∃ n x y, i = .store n x y ∧ kI K i = .storeK n x y := by
      cases K with
      | false => exact absurd rfl hk
      | true => cases i <;> first | exact absurd rfl hk | exact ⟨_, _, _, rfl, rfl⟩
    rw [hk2] at h
    obtain ⟨dst, op, type, pos, after, guard⟩ := o
    cases op
    case store t x y =>
      simp only [trI] at ht
      split at ht
      · rename_i n x' y' h1 h2 h3
        cases ht
        simp only [evI] at h
        split at h
        · rename_i cs hcs
          split at h
          · rename_i hl
            obtain ⟨w', M', D', hr, ho, hI⟩ := does_storeK (P := P) h1 HI (trO_R HE h2) (trO_R HE h3) hcs hl h
            subst ho
            exact ⟨undef, w', G, .inr ⟨by simp [execOp, hr], rfl⟩, Gle.refl G, .imm _ _ (.flat _), hI⟩
          · cases h
        · cases h
      · cases ht
    all_goals (simp only [trI] at ht; (repeat' split at ht); all_goals first | (cases ht; done) | (rw [Option.map_eq_some_iff] at ht; obtain ⟨_, _, ht⟩ := ht; cases ht; done))
theorem evI_wpF0 [Inhabited TieT] {call : Call} (HC : CallB P call) {base : Nat} {D : List Nat} {o : Oper} {i : I} {out : Out} (HE : EnvR G env a) (HI : Inv w0 G M w) {K : Bool} (ht0 : (trI P o.op).getD .stop = i)
    (h : evI call base env M D (kI K i) = some out) {ro : Option Nat} {nn : Nat} {Kn : Act → World → Prop} {Q : Exit → Act → World → Prop} (hK : ∀ v w' G', Gle G G' → OutR w0 G' M out v w' → Kn (a.put o.dst v) w')   : o.wpIn (wideF ro) nn P a w Kn Q := by
  have ht : trI P o.op = some i := by
    cases hh : trI P o.op with
    | none => rw [hh] at ht0; simp at ht0; subst ht0; cases K <;> simp [kI, evI] at h
    | some j => rw [hh] at ht0; simp at ht0; rw [ht0]
  clear ht0
  cases hic : i.isCall with
  | false =>
    obtain ⟨v, w', G', hr, hG, hO⟩ := evI_doesK HE HI ht hic h
    have hnd : ∀ c, o.op ≠ .defer c := fun c hc => by rw [hc] at ht; simp [trI] at ht
    refine ⟨fun _ _ => trivial, ?_⟩
    rw [Oper.semAt_eq _ _ _ hnd]
    rcases hr with hr | ⟨hr, rfl⟩
    · rw [hr]; exact hK v w' G' hG hO
    · rw [hr]; exact hK undef w' G' hG hO
  | true =>
    rw [kI_call hic] at h
    have fin : ∀ (f : Nat) (args : List AV) (vals : Array Value), f < YB → evI.callA call base M D f args = some out → vals.size = args.length → (∀ (j : Nat) (h : j < args.length), R G args[j] (vals.getD j undef)) →
        (execOp a.eval o).run P w = (callFunc f vals).run P w → o.wpIn (wideF ro) nn P a w Kn Q := by
      intro f args vals hfY hcall hs hr he
      have hnd : ∀ c, o.op ≠ .defer c := fun c hc => by rw [hc] at ht; simp [trI] at ht
      refine ⟨fun _ _ => trivial, ?_⟩
      rw [Oper.semAt_eq _ _ _ hnd, he]
      have main : ∃ out', call f args M = some out' ∧ ∀ v w' G', OutR w0 G' M out' v w' → OutR w0 G' M out v w' := by
        simp only [evI.callA] at hcall
        split at hcall
        · rename_i v hv; cases hcall; exact ⟨_, hv, fun _ _ _ h => h⟩
        · rename_i v M' D' hv; cases hcall; exact ⟨_, hv, fun _ _ _ h => h⟩
        · cases hcall
      obtain ⟨out', hc, hout⟩ := main
      have hok := HC.ok f args M out' hfY hc
      unfold okFn at hok
      split at hok
      · rename_i fn hfn
        simp only [Bool.and_eq_true, bne_iff_ne, ne_eq] at hok
        obtain ⟨body, hb⟩ : ∃ c, fn.body = some c := by cases hbb : fn.body with
          | none => simp [hbb] at hok
          | some c => exact ⟨c, rfl⟩
        have hrun : (callFunc f vals).run P w = .ok (.enter f vals) w := by
          simp [callFunc, hfn, hok.1, hb]
        rw [hrun]
        refine ⟨fun h => by simp [wideF, Fence.wide] at h, callsIn_wideF ?_⟩
        refine (HC.snd f args M out' hfY hc w0 w G vals HI hs hr).mono ?_
        rintro e w' ⟨v, G', rfl, hG, hO⟩
        exact hK v w' G' hG (hout _ _ _ hO)
      · cases hok
    obtain ⟨dst, op, type, pos, after, guard⟩ := o
    cases op
    case call c =>
      obtain ⟨callee, args, argTypes⟩ := c
      simp only [trI] at ht
      split at ht
      · rename_i os hos
        obtain ⟨hl, hr⟩ := trOs_arr HE hos
        split at ht
        · rename_i f
          split at ht
          rotate_left
          · cases ht
          rename_i hfY
          cases ht
          simp only [evI] at h
          exact fin f _ (args.map a.eval) hfY h hl hr (by simp [execOp, resolve, Deferred.ofValue, Act.eval, invoke])
        · rename_i x hnf
          rw [Option.map_eq_some_iff] at ht
          obtain ⟨x', hx, rfl⟩ := ht
          have hR := trO_R HE hx
          simp only [evI] at h
          split at h
          · rename_i f caps hcl
            rw [hcl] at hR
            obtain ⟨vs, he, hs, hv⟩ := hR.clo_inv
            refine fin f _ (args.map a.eval ++ vs) hR.clo_lt h (by simp [hs, hl]) (fun j hj => ?_) (by simp [execOp, resolve, Deferred.ofValue, he, invoke])
            by_cases hjl : j < (os.map (·.ev env)).length
            · have e1 : (args.map a.eval ++ vs).getD j undef = (args.map a.eval).getD j undef := by
                simp only [Array.getD_eq_getD_getElem?]
                rw [Array.getElem?_append_left (by rw [hl]; exact hjl)]
              rw [e1, List.getElem_append_left hjl]
              exact hr j hjl
            · have hge : (os.map (·.ev env)).length ≤ j := by omega
              have e1 : (args.map a.eval ++ vs).getD j undef = vs.getD (j - (os.map (·.ev env)).length) undef := by
                simp only [Array.getD_eq_getD_getElem?]
                rw [Array.getElem?_append_right (by rw [hl]; exact hge), hl]
              rw [e1, List.getElem_append_right hge]
              exact hv _ _
          · rename_i id y caps hcl
            rw [hcl] at hR
            have hnd : ∀ c, ({ dst := dst, op := .call { callee := .value x, args := args, argTypes := argTypes }, type := type, pos := pos, after := after, guard := guard } : Oper).op ≠ .defer c := fun c hc => by cases hc
            have main : ∃ out', call y (.yld id y caps :: os.map (·.ev env)) M = some out' ∧ ∀ v w' G', OutR w0 G' M out' v w' → OutR w0 G' M out v w' := by
              simp only [evI.callA] at h
              split at h
              · rename_i v hv; cases h; exact ⟨_, hv, fun _ _ _ h => h⟩
              · rename_i v M' D' hv; cases h; exact ⟨_, hv, fun _ _ _ h => h⟩
              · cases h
            obtain ⟨out', hc, hout⟩ := main
            obtain ⟨l, fn, tmps, assign, body, hv, hy, hrnd⟩ := HC.rnd _ _ _ _ _ _ hc w0 w G _ (args.map a.eval) HI hR hl hr
            refine ⟨fun _ _ => trivial, ?_⟩
            rw [Oper.semAt_eq _ _ _ hnd]
            have hrun : (execOp a.eval ({ dst := dst, op := .call { callee := .value x, args := args, argTypes := argTypes }, type := type, pos := pos, after := after, guard := guard } : Oper)).run P w = .ok (.round l fn tmps assign body) w := by
              rw [← hy]
              simp [execOp, resolve, Deferred.ofValue, hv, invoke]
            rw [hrun]
            refine ⟨fun h => by simp [wideF, Fence.wide] at h, (hrnd ro (nn - 1)).mono ?_⟩
            rintro e w' ⟨v, G', rfl, hG, hO⟩
            exact hK v w' G' hG (hout _ _ _ hO)
          · cases h
        all_goals (repeat' split at ht)
        all_goals first | (cases ht; done) | (cases ht; simp [I.isCall] at hic)
      · cases ht
    all_goals (simp only [trI] at ht; (repeat' split at ht); all_goals first | (cases ht; done) | (cases ht; simp [I.isCall] at hic; done) | (rw [Option.map_eq_some_iff] at ht; obtain ⟨_, _, rfl⟩ := ht; simp [I.isCall] at hic; done))
theorem evI_wpF [Inhabited TieT] {call : Call} (HC : CallB P call) {base : Nat} {D : List Nat} {o : Oper} {i : I} {out : Out} (HE : EnvR G env a) (HI : Inv w0 G M w) {K : Bool} (ht0 : kI K (nilT P o.type ((trI P o.op).getD .stop)) = i)
    (h : evI call base env M D i = some out) {ro : Option Nat} {nn : Nat} {Kn : Act → World → Prop} {Q : Exit → Act → World → Prop} (hK : ∀ v w' G', Gle G G' → OutR w0 G' M out v w' → Kn (a.put o.dst v) w')   : o.wpIn (wideF ro) nn P a w Kn Q := by
  rcases nilT_cases P o.type ((trI P o.op).getD .stop) with h1 | ⟨n, h1, h2⟩
  · rw [h1] at ht0
    exact evI_wpF0 HC HE HI rfl (by rw [ht0]; exact h) hK
  · rw [h2] at ht0
    subst ht0
    have h' : evI call base env M D (.mov (.k (.list n [] true true))) = some out := by cases K <;> exact h
    clear h
    simp only [evI, O.ev, Option.some.injEq] at h'
    subst h'
    refine evI_wpF0 (out := .q (.list 1 [] true true)) (base := base) (D := D) (K := false) HC HE HI h1 rfl fun v w' G' hG hO => hK v w' G' hG ?_
    obtain ⟨hR, hI⟩ := hO
    refine ⟨?_, hI⟩
    rcases hR.list_inv.list_cases with ⟨_, _, _, rfl⟩ | ⟨hf, _⟩
    · exact .imm _ _ (.nil n)
    · cases hf
/-- Operations in the text's order. -/
theorem evS_wpF [Inhabited TieT] {call : Call} (HC : CallB P call) {base nn : Nat} {ro : Option Nat} {K : Bool} {Q : Exit → Act → World → Prop} : ∀ (l : List Nat) (as : List AOp) (env env' : Env) (M M' : MS) (D D' : List Nat) (a : Act) (w : World) (G : Gh),
    as.length = l.length → (∀ (j i : Nat) (ao : AOp), l[j]? = some i → as[j]? = some ao → ∃ o, ops[i]? = some o ∧ trOp P ops N K o = some ao) → evS call base as env M D = some (env', M', D') → N ≤ a.tmps.size → EnvR G env a → Inv w0 G M w →
    (∀ a' w' G', Gle G G' → EnvR G' env' a' → a'.tmps.size = a.tmps.size → Inv w0 G' M' w' → Q .normal a' w') → wpOpsIn (wideF ro) nn P ops Q l a w := by
  intro l
  induction l with
  | nil =>
    intro as env env' M M' D D' a w G hl _ h _ HE HI hQ
    have : as = [] := List.eq_nil_of_length_eq_zero (by simpa using hl)
    subst this
    simp only [evS, Option.some.injEq, Prod.mk.injEq] at h
    obtain ⟨rfl, rfl, rfl⟩ := h
    exact hQ a w G (Gle.refl G) HE rfl HI
  | cons i l ih =>
    intro as env env' M M' D D' a w G hl ht h hN HE HI hQ
    obtain ⟨ao, as, rfl⟩ : ∃ ao as', as = ao :: as' := by
      cases as with
      | nil => simp at hl
      | cons ao as => exact ⟨ao, as, rfl⟩
    obtain ⟨o, ho, hto⟩ := ht 0 i ao (by simp) (by simp)
    obtain ⟨t1, t2, t3, _⟩ := trOp_inv hto
    have hd : ∀ t, o.dst = some t → t < a.tmps.size := fun t htt => Nat.lt_of_lt_of_le (t3 t htt) hN
    have hps : ∀ v, (a.put o.dst v).tmps.size = a.tmps.size := fun v => by cases o.dst <;> simp [Act.put]
    have rest := fun env1 M1 D1 a1 w1 G1 => ih as env1 env' M1 M' D1 D' a1 w1 G1 (by simpa using hl) (fun j i ao h1 h2 => ht (j + 1) i ao (by simpa using h1) (by simpa using h2))
    rw [wpOpsIn_cons]
    unfold wpOpIn
    simp only [ho]
    simp only [evS] at h
    split at h
    · rename_i hw
      rw [wantA_R HE hto hw]
      simp only [if_true]
      split at h
      · rename_i v hv
        refine evI_wpF HC HE HI t1 hv fun u w' G' hG hO => ?_
        rw [t2] at h
        exact rest _ _ _ _ _ G' h (by rw [hps]; exact hN) ((HE.mono hG).put hO.1 _ hd) hO.2 (fun a' w'' G'' g1 g2 g3 g4 => hQ a' w'' G'' (hG.trans g1) g2 (by rw [g3, hps]) g4)
      · rename_i v M1 D1 hv
        refine evI_wpF HC HE HI t1 hv fun u w' G' hG hO => ?_
        rw [t2] at h
        exact rest _ _ _ _ _ G' h (by rw [hps]; exact hN) ((HE.mono hG).put hO.1 _ hd) hO.2 (fun a' w'' G'' g1 g2 g3 g4 => hQ a' w'' G'' (hG.trans g1) g2 (by rw [g3, hps]) g4)
      · cases h
    · rename_i hw
      rw [wantA_R HE hto hw]
      simp only [Bool.false_eq_true, if_false]
      rw [t2] at h
      refine ⟨fun _ _ => trivial, ?_⟩
      exact rest _ _ _ _ _ G h (by rw [hps]; exact hN) (HE.put (.imm _ _ (.flat undef)) _ hd) HI (fun a' w'' G'' g1 g2 g3 g4 => hQ a' w'' G'' g1 g2 (by rw [g3, hps]) g4)
    · cases h
end
end Go.Proofs.Ytlcdafidoddefaa.Av
namespace Go.Proofs.Ytlcdafidoddefaa.Av
open Go.RowKit
set_option linter.unusedSimpArgs false

theorem getD_both {listed : Array Bool} {i : Nat} (h : listed.getD i true = false) : listed.getD i false = false := by
  rcases Nat.lt_or_ge i listed.size with hl | hl
  · simpa [Array.getD, hl] using h
  · simp [Array.getD, Nat.not_lt.2 hl]
def waitsB (ops : Array Oper) (j i : Nat) : Bool :=
  match ops[j]? with
  | some oj => oj.after.any fun e => Region.binds .any e && e.on == i
  | none => false
def apartA (x y : AOp) : Bool :=
  (match x.dst with
   | some d => !(y.reads.contains d) && y.dst != some d
   | none => true) &&
  (match y.dst with
   | some d => !(x.reads.contains d)
   | none => true)
def backB (ops : Array Oper) : Bool :=
  (List.range ops.size).all fun j => match ops[j]? with
    | some o => o.after.all fun e => !Region.binds .any e || decide (e.on < j)
    | none => true
def pairsB (ops : Array Oper) (as : List AOp) (n : Nat) : Bool :=
  (List.range n).all fun j => (List.range j).all fun i => waitsB ops j i || (match as[i]?, as[j]? with
    | some x, some y => apartA x y
    | _, _ => false)
/-- An instruction that reads no memory. -/
def I.free : I → Bool
  | .mov _ | .pick .. | .bin .. | .un .. | .convI .. | .convS _ | .lenStr _ | .ext .. | .min .. | .max .. => true
  | _ => false
def freeA (as : List AOp) (i : Nat) : Bool := match as[i]? with
  | some o => o.i.free
  | none => false
/-- Operation n waits for i, by others of the head or itself. -/
def sunkB (ops : Array Oper) (n : Nat) : Nat → Nat → Bool
  | 0, _ => false
  | f + 1, i => (List.range (n + 1)).any fun j => decide (i < j) && (waitsB ops j i && (decide (j = n) || sunkB ops n f j))
def headB (ops : Array Oper) (as : List AOp) (n : Nat) : Bool := decide (n = ops.size) || (List.range n).all fun i => sunkB ops n (n + 1) i || (freeA as i && (List.range ops.size).all fun j => decide (j < n) || ((List.range (j + 1)).any fun k => decide (n ≤ k) && waitsB ops k i) || (match as[i]?, as[j]? with
    | some x, some y => apartA x y
    | _, _ => false))
def chainB (ops : Array Oper) (n : Nat) : Bool := (List.range ops.size).all fun t => decide (t ≤ n) || waitsB ops t (t - 1)
def orderB (ops : Array Oper) (as : List AOp) (n : Nat) : Bool := decide (n ≤ ops.size) && (chainB ops n && (backB ops && (pairsB ops as n && headB ops as n)))

/-- One store ahead of what waits for all: what it may come ahead of isn't touched by it. -/
def orderC (ops : Array Oper) (as : List AOp) (n : Nat) : Bool := decide (n < ops.size) && (chainB ops n && (backB ops && (pairsB ops as n && (List.range n).all fun i => (decide (n + 1 = ops.size) || waitsB ops (n + 1) i) && (waitsB ops n i || (match as[i]?, as[n]? with
    | some x, some y => apartA x y
    | _, _ => false)))))
def AOp.isK (o : AOp) : Bool := match o.i with
  | .storeK .. => true
  | _ => false
/-- Instructions that lay a block. -/
def I.isF : I → Bool
  | .alloc _ | .box .. | .mslice .. | .app .. | .xop .mkmap _ => true
  | _ => false
/-- The second one neither reads nor writes what the first one writes. -/
def apartF (x y : AOp) : Bool := match x.dst with
  | some d => !(y.reads.contains d) && y.dst != some d
  | none => true
theorem apartF_inv {x y : AOp} (h : apartF x y = true) : ∀ d, x.dst = some d → d ∉ y.reads ∧ y.dst ≠ some d := by
  unfold apartF at h
  intro d hd
  rw [hd] at h
  simpa using h
/-- Blocks may be laid in the head: nobody of the head reads them. -/
def orderF (ops : Array Oper) (as : List AOp) (n : Nat) : Bool := decide (n ≤ ops.size) && (chainB ops n && (backB ops && (pairsB ops as n && ((List.range n).all (fun i => match as[i]? with
    | some x => !x.i.isF || (x.dst.isSome && (List.range n).all fun j => decide (j = i) || (match as[j]? with
      | some y => apartF x y
      | none => false))
    | none => false) && ((List.range n).all (fun j => (List.range j).all fun i => match as[i]?, as[j]? with
    | some x, some y => !(x.i.isCall && y.i.isCall) || sunkB ops j (j + 1) i
    | _, _ => true) && headB ops as n)))))
theorem waitsB_inv {ops : Array Oper} {j i : Nat} (h : waitsB ops j i = true) : ∃ oj, ops[j]? = some oj ∧ ∃ e ∈ oj.after, Region.binds .any e = true ∧ e.on = i := by
  unfold waitsB at h
  split at h
  · rename_i oj hj
    obtain ⟨e, he, hb⟩ := Array.any_eq_true'.1 h
    simp only [Bool.and_eq_true, beq_iff_eq] at hb
    exact ⟨oj, hj, e, he, hb.1, hb.2⟩
  · cases h
theorem backB_inv {ops : Array Oper} (h : backB ops = true) {j : Nat} {o : Oper} (ho : ops[j]? = some o) {e : Edge} (he : e ∈ o.after) (hb : Region.binds .any e = true) : e.on < j := by
  have hj : j < ops.size := (Array.getElem?_eq_some_iff.1 ho).1
  have h1 := List.all_eq_true.1 h j (List.mem_range.2 hj)
  simp only [ho] at h1
  have h2 := Array.all_eq_true'.1 h1 e he
  simpa [hb] using h2
theorem apartA_inv {x y : AOp} (h : apartA x y = true) : (∀ d, x.dst = some d → d ∉ y.reads ∧ y.dst ≠ some d) ∧ ∀ d, y.dst = some d → d ∉ x.reads := by
  unfold apartA at h
  simp only [Bool.and_eq_true] at h
  refine ⟨fun d hd => ?_, fun d hd => ?_⟩
  · have := h.1; rw [hd] at this; simpa using this
  · have := h.2; rw [hd] at this; simpa using this
theorem pairsB_inv {ops : Array Oper} {as : List AOp} {n : Nat} (h : pairsB ops as n = true) {i j : Nat} (hij : i < j) (hj : j < n) {x y : AOp} (hx : as[i]? = some x) (hy : as[j]? = some y) : waitsB ops j i = true ∨ apartA x y = true := by
  have h1 := List.all_eq_true.1 h j (List.mem_range.2 hj)
  have h2 := List.all_eq_true.1 h1 i (List.mem_range.2 hij)
  simp only [hx, hy, Bool.or_eq_true] at h2
  exact h2
section
variable {P : Program} {w0 : World} {ops : Array Oper} {N : Nat}

def Rel (P : Program) (ops : Array Oper) (N : Nat) (K : Bool) (as : List AOp) (k : Nat) : Prop := ∀ (j : Nat) (ao : AOp), as[j]? = some ao → ∃ o, ops[k + j]? = some o ∧ trOp P ops N K o = some ao

theorem least {p : Nat → Prop} : ∀ {k : Nat}, p k → ∃ k0, k0 ≤ k ∧ p k0 ∧ ∀ j, j < k0 → ¬ p j := by
  intro k
  induction k using Nat.strongRecOn with
  | _ k ih =>
    intro hk
    by_cases h : ∃ j, j < k ∧ p j
    · obtain ⟨j, hj, hp⟩ := h
      obtain ⟨k0, h1, h2, h3⟩ := ih j hj hp
      exact ⟨k0, by omega, h2, h3⟩
    · exact ⟨k, Nat.le_refl _, hk, fun j hj hp => h ⟨j, hj, hp⟩⟩
def stepS (call : Call) (base : Nat) (M : MS) (D : List Nat) (o : AOp) (env : Env) : Option (AV × MS × List Nat) :=
  match wantA env o.g with
  | some true => match evI call base env M D o.i with
    | some (.q v) => some (v, M, D)
    | some (.x v M' D') => some (v, M', D')
    | none => none
  | some false => some (.flat undef, M, D)
  | none => none
theorem evS_cons (call : Call) (base : Nat) (M : MS) (D : List Nat) (o : AOp) (r : List AOp) (env : Env) :
    evS call base (o :: r) env M D = (stepS call base M D o env).bind fun x => evS call base r (updO env o.dst x.1) x.2.1 x.2.2 := by
  simp only [evS, stepS]
  cases wantA env o.g with
  | none => rfl
  | some b => cases b
              · rfl
              · cases evI call base env M D o.i with
                | none => rfl
                | some out => cases out <;> rfl
theorem stepS_congr {call : Call} {base : Nat} {M : MS} {D : List Nat} {o : AOp} {e e' : Env} (h : ∀ t ∈ o.reads, e t = e' t) : stepS call base M D o e = stepS call base M D o e' := by
  have h1 : wantA e o.g = wantA e' o.g := wantA_congr fun t b hg => h t (by simp [AOp.reads, hg])
  have h2 : evI call base e M D o.i = evI call base e' M D o.i := evI_congr call base M D fun x hx => O.ev_congr fun t ht => h t (by
    simp only [AOp.reads, List.mem_append, List.mem_flatMap]
    exact .inl ⟨x, hx, ht⟩)
  simp only [stepS, h1, h2]
theorem upd_if (env : Env) (d : Option Nat) (v : AV) (t : Nat) : updO env d v t = if d = some t then v else env t := by
  cases d with
  | none => simp [updO]
  | some d => simp only [updO, upd, Option.some.injEq]; by_cases htd : t = d
              · subst htd; simp
              · simp [htd, Ne.symm htd]
theorem evS_run (call : Call) (base : Nat) : ∀ (ops : List AOp) (env env' : Env) (M M' : MS) (D D' : List Nat), evS call base ops env M D = some (env', M', D') →
    ∃ (ps : List (Option Nat × AV)) (Ms : Nat → MS × List Nat), ps.map (·.1) = ops.map (·.dst) ∧ Ms 0 = (M, D) ∧ Ms ops.length = (M', D') ∧
      (∀ i o, ops[i]? = some o → ∃ v, ps[i]? = some (o.dst, v) ∧ stepS call base (Ms i).1 (Ms i).2 o (fun t => look (fun k => decide (k < i)) ps t (env t)) = some (v, Ms (i + 1))) ∧
      ∀ t, env' t = look (fun _ => true) ps t (env t)
  | [], env, env', M, M', D, D', h => by
    simp only [evS, Option.some.injEq, Prod.mk.injEq] at h
    obtain ⟨rfl, rfl, rfl⟩ := h
    exact ⟨[], fun _ => (M, D), rfl, rfl, rfl, fun i o h => by simp at h, fun t => rfl⟩
  | o :: r, env, env', M, M', D, D', h => by
    rw [evS_cons] at h
    cases hv : stepS call base M D o env with
    | none => rw [hv] at h; cases h
    | some x =>
      obtain ⟨v, M1, D1⟩ := x
      rw [hv] at h
      simp only [Option.bind_some] at h
      obtain ⟨ps, Ms, h1, h0, hl, h2, h3⟩ := evS_run call base r (updO env o.dst v) env' M1 M' D1 D' h
      refine ⟨(o.dst, v) :: ps, fun i => match i with | 0 => (M, D) | i + 1 => Ms i, by simp [h1], rfl, hl, fun i o' hi => ?_, fun t => ?_⟩
      · cases i with
        | zero =>
          simp at hi; subst hi
          refine ⟨v, by simp, ?_⟩
          simp only [h0]
          rw [← hv]
          exact stepS_congr fun t _ => look_no fun i p _ _ => by simp
        | succ i =>
          obtain ⟨v', e1, e2⟩ := h2 i o' (by simpa using hi)
          refine ⟨v', by simpa using e1, ?_⟩
          show stepS call base (Ms i).1 (Ms i).2 o' _ = _
          rw [← e2]
          exact stepS_congr fun t _ => by simp only [look, upd_if]; simp
      · rw [h3 t]
        simp only [look, upd_if]; simp
theorem free_step {call : Call} {base : Nat} {M M' : MS} {o : AOp} {env : Env} (h : o.i.free = true) : stepQ call base M o env = stepQ call base M' o env := by
  have : evI call base env M [] o.i = evI call base env M' [] o.i := by
    cases hi : o.i <;> simp only [hi, I.free] at h <;> first | (cases h; done) | rfl
  simp only [stepQ, this]
theorem look_app : ∀ {ps qs : List (Option Nat × AV)} {L : Nat → Bool} {t : Nat} {d : AV}, look L (ps ++ qs) t d = look (fun k => L (k + ps.length)) qs t (look L ps t d)
  | [], _, _, _, _ => rfl
  | p :: ps, qs, L, t, d => by
    simp only [List.cons_append, look]
    rw [look_app]
    simp only [List.length_cons, Nat.add_assoc, Nat.add_comm 1]
theorem order_main [Inhabited TieT] {call : Call} (HC : CallB P call) {base n nn : Nat} {ro : Option Nat} {K : Bool} {Q : Exit → Act → World → Prop} {as : List AOp} {M : MS} {env env' : Env} {M' : MS} {D D' : List Nat} {G0 : Gh} {sz : Nat} {ps : List (Option Nat × AV)} {Ms : Nat → MS × List Nat} (L0 : Nat → Bool)
    (hnsz : n ≤ ops.size) (hchain : chainB ops n = true) (hback : backB ops = true) (hpairs : pairsB ops as n = true) (hhead : headB ops as n = true) (hlen : as.length = ops.size) (hrel : Rel P ops N K as 0)
    (hpl : ps.length = ops.size) (hps' : ∀ {i : Nat} {p : Option Nat × AV}, ps[i]? = some p → ∃ ao, as[i]? = some ao ∧ p.1 = ao.dst ∧ i < ops.size)
    (hrunQ : ∀ i o, i < n → as[i]? = some o → ∃ v, ps[i]? = some (o.dst, v) ∧ (L0 i = true ∨ stepQ call base M o (fun t => look (fun k => decide (k < i)) ps t (env t)) = some v))
    (hrunS : ∀ i o, n ≤ i → as[i]? = some o → ∃ v, ps[i]? = some (o.dst, v) ∧ stepS call base (Ms (i - n)).1 (Ms (i - n)).2 o (fun t => look (fun k => decide (k < i)) ps t (env t)) = some (v, Ms (i - n + 1)))
    (henv' : ∀ t, env' t = look (fun _ => true) ps t (env t)) (hM0 : Ms 0 = (M, D)) (hMl : Ms (as.drop n).length = (M', D'))
    (hQ : ∀ a' w' G', Gle G0 G' → EnvR G' env' a' → a'.tmps.size = sz → Inv w0 G' M' w' → Q .normal a' w') (hN : N ≤ sz) :
    ∀ (f : Nat) (todo : List Nat) (m : Nat) (listed : Array Bool) (a : Act) (w : World) (G : Gh), todo.length = f → todo.Nodup → (∀ k, k ∈ todo ↔ (k < ops.size ∧ listed.getD k true = false)) → n ≤ m → m ≤ ops.size →
      (∀ k, n ≤ k → k < ops.size → (listed.getD k true = false ↔ m ≤ k)) → listed.size = ops.size →
      (∀ j oj, ops[j]? = some oj → listed.getD j false = true → ∀ e ∈ oj.after, Region.binds .any e = true → listed.getD e.on false = true) →
      Gle G0 G → a.tmps.size = sz → EnvR G (fun t => look (fun k => listed.getD k false) ps t (env t)) a → Inv w0 G (Ms (m - n)).1 w → (∀ i, L0 i = true → listed.getD i false = true) → wpAnyIn (wideF ro) nn P .any ops Q f listed a w := by
  -- what n waits for
  have sunk : ∀ (listed : Array Bool), (∀ j oj, ops[j]? = some oj → listed.getD j false = true → ∀ e ∈ oj.after, Region.binds .any e = true → listed.getD e.on false = true) →
      (∀ oj, ops[n]? = some oj → ∀ e ∈ oj.after, Region.binds .any e = true → listed.getD e.on false = true) → ∀ f i, sunkB ops n f i = true → listed.getD i false = true := by
    intro listed hcl hn f
    induction f with
    | zero => intro i h; simp [sunkB] at h
    | succ f ih =>
      intro i h
      simp only [sunkB, List.any_eq_true, List.mem_range, Bool.and_eq_true, decide_eq_true_eq, Bool.or_eq_true] at h
      obtain ⟨j, _, _, hw, hj⟩ := h
      obtain ⟨oj, hoj, e, he, hb, hon⟩ := waitsB_inv hw
      rcases hj with rfl | hj
      · rw [← hon]; exact hn oj hoj e he hb
      · rw [← hon]; exact hcl j oj hoj (ih j hj) e he hb
  intro f
  induction f with
  | zero =>
    intro todo m listed a w G hl hnd hin hnm hms htail hsz hclosed hG hasz HE HI hL0
    have htd : todo = [] := List.eq_nil_of_length_eq_zero hl
    have hall : ∀ k, k < ops.size → listed.getD k true = true := by
      intro k hk
      have h3 : ¬ (k < ops.size ∧ listed.getD k true = false) := by rw [← hin k, htd]; simp
      cases hq : listed.getD k true with
      | true => rfl
      | false => exact absurd ⟨hk, hq⟩ h3
    have hm : m = ops.size := by
      rcases Nat.lt_or_ge m ops.size with h | h
      · have := (htail m hnm h).2 (Nat.le_refl _)
        rw [hall m h] at this; cases this
      · omega
    refine ⟨?_, hQ a w G hG ⟨fun t => ?_, HE.d, HE.c⟩ hasz ?_⟩
    · rw [List.eq_nil_iff_forall_not_mem]
      intro i hi
      obtain ⟨hu, o, ho, _⟩ := mem_ready.1 hi
      have hi' : i < ops.size := (Array.getElem?_eq_some_iff.1 ho).1
      rw [hall i hi'] at hu; cases hu
    · have := HE.t t
      have e : look (fun k => listed.getD k false) ps t (env t) = env' t := by
        rw [henv' t]
        refine look_congr fun i p hp _ => ?_
        obtain ⟨_, _, _, hi⟩ := hps' hp
        have hks : i < listed.size := by omega
        have := hall i hi
        simpa [Array.getD, hks] using this
      rw [← e]; exact this
    · have e : Ms (m - n) = (M', D') := by rw [hm, ← hMl]; simp [hlen]
      rw [e] at HI; exact HI
  | succ f ih =>
    intro todo m listed a w G hl hnd hin hnm hms htail hsz hclosed hG hasz HE HI hL0
    obtain ⟨k, hk⟩ : ∃ k, k ∈ todo := by
      cases todo with
      | nil => simp at hl
      | cons k r => exact ⟨k, by simp⟩
    obtain ⟨k0, _, ⟨hk0n, hk0u⟩, hk0l⟩ := least (p := fun k => k < ops.size ∧ listed.getD k true = false) ((hin k).1 hk)
    have hk0r : k0 ∈ Region.ready .any ops listed := by
      refine mem_ready.2 ⟨hk0u, ops[k0], Array.getElem?_eq_getElem hk0n, fun e he hb => ?_⟩
      have hlt := backB_inv hback (o := ops[k0]) (Array.getElem?_eq_getElem hk0n) he hb
      have h3 := hk0l e.on hlt
      have hes : e.on < listed.size := by omega
      cases hq : listed.getD e.on true with
      | true => simpa [Array.getD, hes] using hq
      | false => exact absurd ⟨by omega, hq⟩ h3
    refine ⟨fun hr => (by rw [hr] at hk0r; cases hk0r), fun i hi => ?_⟩
    obtain ⟨hiu, oi, hoi, hiall⟩ := mem_ready.1 hi
    have his : i < ops.size := (Array.getElem?_eq_some_iff.1 hoi).1
    have hLi : listed.getD i false = false := getD_both hiu
    have him : n ≤ i → i = m := by
      intro hni
      have h1 := (htail i hni his).1 hiu
      rcases Nat.lt_or_ge m i with h | h
      · exfalso
        have hc := List.all_eq_true.1 hchain i (List.mem_range.2 his)
        simp only [Bool.or_eq_true, decide_eq_true_eq] at hc
        rcases hc with hc | hc
        · omega
        · obtain ⟨oj, hoj, e, he, hb, hon⟩ := waitsB_inv hc
          rw [hoi] at hoj; cases hoj
          have h3 := hiall e he hb
          rw [hon, getD_both ((htail (i - 1) (by omega) (by omega)).2 (by omega))] at h3; cases h3
      · omega
    have hgot : ∀ k, n ≤ k → k < m → listed.getD k false = true := by
      intro k h1 h2
      have h3 := htail k h1 (by omega)
      have hks : k < listed.size := by omega
      cases hq : listed.getD k true with
      | true => simpa [Array.getD, hks] using hq
      | false => have := h3.1 hq; omega
    have hsunkm : n < m → ∀ f i, sunkB ops n f i = true → listed.getD i false = true := fun h => sunk listed hclosed (fun oj hoj => hclosed n oj hoj (hgot n (Nat.le_refl _) h))
    obtain ⟨ao, hao⟩ : ∃ ao, as[i]? = some ao := ⟨as[i]'(by omega), by simp [show i < as.length by omega]⟩
    obtain ⟨o', ho', hto⟩ := hrel i ao hao
    rw [Nat.zero_add, hoi] at ho'; cases ho'
    obtain ⟨t1, t2, t3, _⟩ := trOp_inv hto
    have hwi : ∀ {j : Nat}, waitsB ops i j = true → listed.getD j false = true := by
      intro j hw
      obtain ⟨oj, hoj, e, he, hb, hon⟩ := waitsB_inv hw
      rw [hoi] at hoj; cases hoj
      rw [← hon]; exact hiall e he hb
    have hwj : ∀ {j k : Nat}, waitsB ops j k = true → listed.getD j false = true → listed.getD k false = true := by
      intro j k hw hj
      obtain ⟨oj, hoj, e, he, hb, hon⟩ := waitsB_inv hw
      rw [← hon]; exact hclosed j oj hoj hj e he hb
    have headOf : ∀ {j : Nat} {aj ak : AOp} {k : Nat}, j < n → n ≤ k → as[j]? = some aj → as[k]? = some ak → apartA aj ak = false →
        (∃ f, sunkB ops n f j = true) ∨ ∃ x, n ≤ x ∧ x ≤ k ∧ waitsB ops x j = true := by
      intro j aj ak k hj hk haj hak hap
      have hks : k < ops.size := by rw [← hlen]; exact (List.getElem?_eq_some_iff.1 hak).1
      simp only [headB, Bool.or_eq_true, decide_eq_true_eq] at hhead
      rcases hhead with hh | hh
      · omega
      · have h1 := List.all_eq_true.1 hh j (List.mem_range.2 hj)
        simp only [Bool.or_eq_true, Bool.and_eq_true] at h1
        rcases h1 with h1 | ⟨_, h1⟩
        · exact .inl ⟨_, h1⟩
        · have h2 := List.all_eq_true.1 h1 k (List.mem_range.2 hks)
          simp only [haj, hak, hap, Bool.or_eq_true, decide_eq_true_eq, Bool.false_eq_true, or_false, List.any_eq_true, List.mem_range, Bool.and_eq_true] at h2
          rcases h2 with h2 | ⟨x, hx1, hx2, hx3⟩
          · omega
          · exact .inr ⟨x, hx2, by omega, hx3⟩
    have before : ∀ {j : Nat} {aj : AOp}, as[j]? = some aj → j < i → apartA aj ao = false → listed.getD j false = true := by
      intro j aj haj hji hap
      rcases Nat.lt_or_ge i n with hin' | hin'
      · rcases pairsB_inv hpairs hji hin' haj hao with hw | hw
        · exact hwi hw
        · rw [hap] at hw; cases hw
      · rcases Nat.lt_or_ge j n with hjn | hjn
        · rcases headOf hjn hin' haj hao hap with ⟨f, hf⟩ | ⟨x, hx1, hx2, hx3⟩
          · have him := him hin'
            rcases Nat.lt_or_ge n m with h | h
            · exact hsunkm h f j hf
            · have : i = n := by omega
              subst this
              exact sunk listed hclosed (fun oj hoj => by rw [hoi] at hoj; cases hoj; exact hiall) f j hf
          · have him := him hin'
            by_cases hxi : x = i
            · subst hxi; exact hwi hx3
            · exact hwj hx3 (hgot x hx1 (by omega))
        · exact hgot j hjn (by have := him hin'; omega)
    have behind : ∀ {j : Nat} {aj : AOp}, as[j]? = some aj → i < j → apartA ao aj = false → listed.getD j false = false := by
      intro j aj haj hji hap
      have hjs : j < ops.size := by rw [← hlen]; exact (List.getElem?_eq_some_iff.1 haj).1
      cases hq : listed.getD j false with
      | false => rfl
      | true =>
        exfalso
        have hjl : n ≤ j → j < m := by
          intro h
          rcases Nat.lt_or_ge j m with h2 | h2
          · exact h2
          · have := (htail j h hjs).2 h2
            rw [getD_both this] at hq; cases hq
        have contra : listed.getD i false = true → False := by rw [hLi]; intro h; cases h
        rcases Nat.lt_or_ge j n with hjn | hjn
        · rcases pairsB_inv hpairs hji hjn hao haj with hw | hw
          · exact contra (hwj hw hq)
          · rw [hap] at hw; cases hw
        · rcases Nat.lt_or_ge i n with hin' | hin'
          · rcases headOf hin' hjn hao haj hap with ⟨f, hf⟩ | ⟨x, hx1, hx2, hx3⟩
            · exact contra (hsunkm (by have := hjl hjn; omega) f i hf)
            · exact contra (hwj hx3 (hgot x hx1 (by have := hjl hjn; omega)))
          · have := him hin'; have := hjl hjn; omega
    have hagree : ∀ t ∈ ao.reads, look (fun k => listed.getD k false) ps t (env t) = look (fun k => decide (k < i)) ps t (env t) := by
      refine fun t ht => look_congr fun j p hp hpt => ?_
      obtain ⟨aj, haj, hpd, hjn⟩ := hps' hp
      rw [hpd] at hpt
      rcases Nat.lt_trichotomy j i with h | h | h
      · rw [before haj h]
        · simp [h]
        · cases hq : apartA aj ao with
          | false => rfl
          | true => exact absurd ht ((apartA_inv hq).1 t hpt).1
      · subst h; rw [hLi]; simp
      · rw [behind haj h]
        · simp; omega
        · cases hq : apartA ao aj with
          | false => rfl
          | true => exact absurd ht ((apartA_inv hq).2 t hpt)
    have hd : ∀ t, oi.dst = some t → t < a.tmps.size := fun t htt => Nat.lt_of_lt_of_le (t3 t htt) (by omega)
    have hpsz : ∀ v, (a.put oi.dst v).tmps.size = a.tmps.size := fun v => by cases oi.dst <;> simp [Act.put]
    have hils : i < listed.size := by omega
    have hlook : ∀ v, ps[i]? = some (ao.dst, v) → ∀ t, look (fun k => (listed.setIfInBounds i true).getD k false) ps t (env t) = updO (fun t => look (fun k => listed.getD k false) ps t (env t)) ao.dst v t := by
      intro v hpv t
      have e1 : look (fun k => (listed.setIfInBounds i true).getD k false) ps t (env t) = look (fun k => if k = i then true else listed.getD k false) ps t (env t) := by
        refine look_congr fun j p _ _ => ?_
        by_cases hji : j = i
        · subst hji; simp [hils]
        · rw [getD_set_ne false (Ne.symm hji)]; simp [hji]
      rw [e1, look_put hpv, upd_if]
      intro hpt j q hij hq hqt
      obtain ⟨aj, haj, hpd, hjn⟩ := hps' hq
      rw [hpd] at hqt
      refine behind haj hij ?_
      cases hqq : apartA ao aj with
      | false => rfl
      | true => exact absurd hqt ((apartA_inv hqq).1 t hpt).2
    have next : ∀ (v : AV), ps[i]? = some (ao.dst, v) → ∀ (m' : Nat), (if i < n then m' = m else m' = m + 1) → ∀ (u : Value) (w' : World) (G' : Gh), Gle G G' → R G' v u → Inv w0 G' (Ms (m' - n)).1 w' → wpAnyIn (wideF ro) nn P .any ops Q f (listed.setIfInBounds i true) (a.put oi.dst u) w' := by
      intro v hpv m' hm' u w' G' hG' hu HI'
      refine ih (todo.erase i) m' (listed.setIfInBounds i true) _ w' G' ?_ (hnd.erase i) (fun k => ?_) ?_ ?_ (fun k hk hk2 => ?_) (by simpa using hsz) (fun j oj hj hlj e he hb => ?_) (hG.trans hG') (by rw [hpsz]; exact hasz) ⟨fun t => ?_, (by cases oi.dst <;> exact (HE.mono hG').d), (HE.mono hG').c⟩ HI' (fun j hj => getD_set_true (hL0 j hj))
      · rw [List.length_erase_of_mem ((hin i).2 ⟨his, hiu⟩), hl]; rfl
      · rw [hnd.mem_erase_iff, hin k]
        by_cases hki : k = i
        · subst hki; simp [hils]
        · rw [getD_set_ne true (Ne.symm hki)]; simp [hki]
      · split at hm' <;> omega
      · split at hm'
        · omega
        · have := him (by omega); omega
      · split at hm'
        · rw [getD_set_ne true (by omega), htail k hk hk2]; omega
        · have := him (by omega)
          by_cases hki : k = i
          · subst hki; simp [hils]; omega
          · rw [getD_set_ne true (Ne.symm hki), htail k hk hk2]; omega
      · by_cases hji : i = j
        · subst hji
          rw [hoi] at hj; cases hj
          exact getD_set_true (hiall e he hb)
        · rw [getD_set_ne false hji] at hlj
          exact getD_set_true (hclosed j oj hj hlj e he hb)
      · rw [hlook v hpv t]
        have := ((HE.mono hG').put hu ao.dst (by rw [t2]; exact hd)).t t
        rw [t2] at this ⊢
        exact this
    unfold wpOpIn
    simp only [hoi]
    rcases Nat.lt_or_ge i n with hin' | hin'
    · obtain ⟨v, hpv, hstep⟩ := hrunQ i ao hin' hao
      have hstep := hstep.resolve_left fun h => by have := hL0 i h; rw [hLi] at this; cases this
      have hstep' : stepQ call base (Ms (m - n)).1 ao (fun t => look (fun k => listed.getD k false) ps t (env t)) = some v := by
        have e1 : stepQ call base (Ms (m - n)).1 ao (fun t => look (fun k => listed.getD k false) ps t (env t)) = stepQ call base M ao (fun t => look (fun k => listed.getD k false) ps t (env t)) := by
          rcases Nat.lt_or_ge n m with h | h
          · refine free_step ?_
            simp only [headB, Bool.or_eq_true, decide_eq_true_eq] at hhead
            rcases hhead with hh | hh
            · omega
            · have h1 := List.all_eq_true.1 hh i (List.mem_range.2 hin')
              simp only [Bool.or_eq_true, Bool.and_eq_true] at h1
              rcases h1 with h1 | ⟨h1, _⟩
              · have := hsunkm h _ i h1; rw [hLi] at this; cases this
              · simpa [freeA, hao] using h1
          · have : m - n = 0 := by omega
            rw [this, hM0]
        rw [e1, ← hstep]
        exact stepQ_congr hagree
      have next := next v hpv m (by simp [hin'])
      unfold stepQ at hstep'
      split at hstep'
      · rename_i hw
        rw [wantA_R HE hto hw]
        simp only [if_true]
        split at hstep'
        · rename_i v' hv'
          cases hstep'
          exact evI_wpF HC HE HI t1 hv' fun u w' G' hG' hO => next u w' G' hG' hO.1 hO.2
        · cases hstep'
      · rename_i hw
        rw [wantA_R HE hto hw]
        simp only [Bool.false_eq_true, if_false]
        cases hstep'
        refine ⟨fun _ _ => trivial, ?_⟩
        exact next undef w G (Gle.refl G) (.imm _ _ (.flat undef)) HI
      · cases hstep'
    · obtain ⟨v, hpv, hstep⟩ := hrunS i ao hin' hao
      have him := him hin'
      rw [him] at hstep
      have hstep' : stepS call base (Ms (m - n)).1 (Ms (m - n)).2 ao (fun t => look (fun k => listed.getD k false) ps t (env t)) = some (v, Ms (m - n + 1)) := by
        rw [← hstep]
        exact stepS_congr fun t ht => by have := hagree t ht; rw [him] at this; exact this
      have next := next v hpv (m + 1) (by simp; omega)
      rw [show m + 1 - n = m - n + 1 by omega] at next
      unfold stepS at hstep'
      split at hstep'
      · rename_i hw
        rw [wantA_R HE hto hw]
        simp only [if_true]
        split at hstep'
        · rename_i v' hv'
          simp only [Option.some.injEq, Prod.mk.injEq] at hstep'
          obtain ⟨rfl, hMs⟩ := hstep'
          refine evI_wpF HC HE HI t1 hv' fun u w' G' hG' hO => next u w' G' hG' hO.1 ?_
          rw [← hMs]; exact hO.2
        · rename_i v' M1 D1 hv'
          simp only [Option.some.injEq, Prod.mk.injEq] at hstep'
          obtain ⟨rfl, hMs⟩ := hstep'
          refine evI_wpF HC HE HI t1 hv' fun u w' G' hG' hO => next u w' G' hG' hO.1 ?_
          rw [← hMs]; exact hO.2
        · cases hstep'
      · rename_i hw
        rw [wantA_R HE hto hw]
        simp only [Bool.false_eq_true, if_false]
        simp only [Option.some.injEq, Prod.mk.injEq] at hstep'
        obtain ⟨rfl, hMs⟩ := hstep'
        refine ⟨fun _ _ => trivial, ?_⟩
        refine next undef w G (Gle.refl G) (.imm _ _ (.flat undef)) ?_
        rw [← hMs]; exact HI
      · cases hstep'
theorem order_anyF [Inhabited TieT] {call : Call} (HC : CallB P call) {base n nn : Nat} {ro : Option Nat} {K : Bool} {Q : Exit → Act → World → Prop} {as : List AOp} {M : MS} {env env1 env' : Env} {M' : MS} {D D' : List Nat} {G0 : Gh} {sz : Nat} (hord : orderB ops as n = true) (hlen : as.length = ops.size) (hrel : Rel P ops N K as 0)
    (hqq : evQ call base M (as.take n) env = some env1) (hS : evS call base (as.drop n) env1 M D = some (env', M', D'))
    (hQ : ∀ a' w' G', Gle G0 G' → EnvR G' env' a' → a'.tmps.size = sz → Inv w0 G' M' w' → Q .normal a' w') (hN : N ≤ sz) {a : Act} {w : World} (hasz : a.tmps.size = sz) (HE0 : EnvR G0 env a) (HI0 : Inv w0 G0 M w) :
    wpAnyIn (wideF ro) nn P .any ops Q ops.size (Array.replicate ops.size false) a w := by
  simp only [orderB, Bool.and_eq_true, decide_eq_true_eq] at hord
  obtain ⟨hnsz, hchain, hback, hpairs, hhead⟩ := hord
  obtain ⟨p1, hp1, hr1, he1⟩ := evQ_run call base M _ _ _ hqq
  obtain ⟨p2, Ms, hp2, hM0, hMl, hr2, he2⟩ := evS_run call base _ _ _ _ _ _ _ hS
  have hl1 : p1.length = n := by
    have := congrArg List.length hp1
    simp only [List.length_map, List.length_take] at this
    omega
  have hl2 : p2.length = ops.size - n := by
    have := congrArg List.length hp2
    simp only [List.length_map, List.length_drop] at this
    omega
  obtain ⟨ps, hpsd⟩ : ∃ ps, ps = p1 ++ p2 := ⟨_, rfl⟩
  have hpl : ps.length = ops.size := by rw [hpsd, List.length_append]; omega
  have hps' : ∀ {i : Nat} {p : Option Nat × AV}, ps[i]? = some p → ∃ ao, as[i]? = some ao ∧ p.1 = ao.dst ∧ i < ops.size := by
    intro i p hp
    have hi : i < ops.size := by rw [← hpl]; exact (List.getElem?_eq_some_iff.1 hp).1
    have h1 : (ps.map (·.1))[i]? = some p.1 := by simp [hp]
    have h2 : ps.map (·.1) = as.map (·.dst) := by
      rw [hpsd, List.map_append, hp1, hp2, ← List.map_append, List.take_append_drop]
    rw [h2] at h1
    simp only [List.getElem?_map, Option.map_eq_some_iff] at h1
    obtain ⟨ao, h2, h3⟩ := h1
    exact ⟨ao, h2, h3.symm, hi⟩
  have hrunQ : ∀ i o, i < n → as[i]? = some o → ∃ v, ps[i]? = some (o.dst, v) ∧ stepQ call base M o (fun t => look (fun k => decide (k < i)) ps t (env t)) = some v := by
    intro i o hi ho
    obtain ⟨v, h1, h2⟩ := hr1 i o (by simp [hi, ho])
    refine ⟨v, by rw [hpsd, List.getElem?_append_left (by omega)]; exact h1, ?_⟩
    rw [← h2]
    refine stepQ_congr fun t _ => ?_
    rw [hpsd, look_app, look_no]
    intro k p _ _; simp; omega
  have hrunS : ∀ i o, n ≤ i → as[i]? = some o → ∃ v, ps[i]? = some (o.dst, v) ∧ stepS call base (Ms (i - n)).1 (Ms (i - n)).2 o (fun t => look (fun k => decide (k < i)) ps t (env t)) = some (v, Ms (i - n + 1)) := by
    intro i o hi ho
    obtain ⟨v, h1, h2⟩ := hr2 (i - n) o (by rw [List.getElem?_drop, show n + (i - n) = i by omega]; exact ho)
    refine ⟨v, by rw [hpsd, List.getElem?_append_right (by omega), hl1]; exact h1, ?_⟩
    rw [← h2]
    refine stepS_congr fun t _ => ?_
    rw [hpsd, look_app, he1 t]
    rw [look_congr (L := fun k => decide (k < i)) (L' := fun _ => true) (ps := p1)]
    · refine look_congr fun k p _ _ => ?_
      rw [hl1]; simp; omega
    · intro k p hp _
      have : k < p1.length := (List.getElem?_eq_some_iff.1 hp).1
      simp; omega
  have henv' : ∀ t, env' t = look (fun _ => true) ps t (env t) := by
    intro t; rw [he2 t, hpsd, look_app, he1 t]
  clear hr1 hr2 he1 he2 hp1 hp2 hqq hS
  have main := order_main (G0 := G0) HC (fun _ => false) hnsz hchain hback hpairs hhead hlen hrel hpl hps' (fun i o hi ho => by
    obtain ⟨v, h1, h2⟩ := hrunQ i o hi ho
    exact ⟨v, h1, .inr h2⟩) hrunS henv' hM0 hMl hQ hN (nn := nn) (ro := ro)
  refine main ops.size (List.range ops.size) n (Array.replicate ops.size false) a w G0 (by simp) List.nodup_range (fun k => ?_) (Nat.le_refl _) hnsz (fun k hk hks => ?_) (by simp) (fun j oj hj hlj => ?_) (Gle.refl G0) hasz ⟨fun t => ?_, HE0.d, HE0.c⟩ ?_ (fun i h => by cases h)
  · simp only [List.mem_range]
    constructor
    · intro hk; exact ⟨hk, by simp [Array.getD, hk]⟩
    · intro hk; exact hk.1
  · simp [Array.getD, hks]; omega
  · have hjs := (Array.getElem?_eq_some_iff.1 hj).1
    simp [Array.getD, hjs] at hlj
  · have e : look (fun k => (Array.replicate ops.size false).getD k false) ps t (env t) = env t := look_no fun i p hp _ => by
      simp [Array.getD]
    show R G0 (look (fun k => (Array.replicate ops.size false).getD k false) ps t (env t)) _
    rw [e]; exact HE0.t t
  · rw [Nat.sub_self, hM0]; exact HI0


theorem order_anyC [Inhabited TieT] {call : Call} (HC : CallB P call) {base n nn : Nat} {ro : Option Nat} {K : Bool} {Q : Exit → Act → World → Prop} {as : List AOp} {M : MS} {env env1 env' : Env} {M' : MS} {D D' : List Nat} {G0 : Gh} {sz : Nat} {id : Nat} (hord : orderC ops as n = true) (hlen : as.length = ops.size) (hrel : Rel P ops N K as 0)
    (hqq : evQ call base M (as.take n) env = some env1) (htg : tgtK env1 as[n]? = some id) (hcm : calmQ call base M id (as.take n) env = true) (hS : evS call base (as.drop n) env1 M D = some (env', M', D'))
    (hQ : ∀ a' w' G', Gle G0 G' → EnvR G' env' a' → a'.tmps.size = sz → Inv w0 G' M' w' → Q .normal a' w') (hN : N ≤ sz) {a : Act} {w : World} (hasz : a.tmps.size = sz) (HE0 : EnvR G0 env a) (HI0 : Inv w0 G0 M w) :
    wpAnyIn (wideF ro) nn P .any ops Q ops.size (Array.replicate ops.size false) a w := by
  simp only [orderC, Bool.and_eq_true, decide_eq_true_eq] at hord
  obtain ⟨hnlt, hchain, hback, hpairs, hhead⟩ := hord
  have hnsz : n ≤ ops.size := by omega
  obtain ⟨p1, hp1, hr1, he1, hcl1⟩ := calmQ_run call base M id _ _ _ hqq hcm
  obtain ⟨p2, Ms, hp2, hM0, hMl, hr2, he2⟩ := evS_run call base _ _ _ _ _ _ _ hS
  have hM1 : ∃ Y, (Ms 1).1 = M.set id Y := by
    obtain ⟨on, hon⟩ : ∃ on, as[n]? = some on := ⟨as[n]'(by omega), by simp [show n < as.length by omega]⟩
    obtain ⟨v, h1, h2⟩ := hr2 0 on (by rw [List.getElem?_drop]; exact hon)
    have e : (fun t => look (fun k => decide (k < 0)) p2 t (env1 t)) = env1 := by
      funext t; exact look_no fun i p _ _ => by simp
    rw [e, hM0] at h2
    rw [hon] at htg
    unfold tgtK at htg
    split at htg
    · rename_i sz' a' x' heq
      cases heq
      split at htg
      · rename_i id' off' ha
        cases htg
        simp only [stepS, wantA, evI, storeKA, ha] at h2
        split at h2
        · rename_i v' hv'
          split at hv'
          · split at hv'
            · split at hv'
              · split at hv'
                · cases hv'
                · cases hv'
              · cases hv'
            · cases hv'
          · cases hv'
        · rename_i v' M1 D1 hv'
          split at hv'
          · split at hv'
            · split at hv'
              · split at hv'
                · cases hv'
                  simp only [Option.some.injEq, Prod.mk.injEq] at h2
                  exact ⟨_, by rw [← h2.2]⟩
                · cases hv'
              · cases hv'
            · cases hv'
          · cases hv'
        · cases h2
      · cases htg
    · cases htg
  have hl1 : p1.length = n := by
    have := congrArg List.length hp1
    simp only [List.length_map, List.length_take] at this
    omega
  have hl2 : p2.length = ops.size - n := by
    have := congrArg List.length hp2
    simp only [List.length_map, List.length_drop] at this
    omega
  obtain ⟨ps, hpsd⟩ : ∃ ps, ps = p1 ++ p2 := ⟨_, rfl⟩
  have hpl : ps.length = ops.size := by rw [hpsd, List.length_append]; omega
  have hps' : ∀ {i : Nat} {p : Option Nat × AV}, ps[i]? = some p → ∃ ao, as[i]? = some ao ∧ p.1 = ao.dst ∧ i < ops.size := by
    intro i p hp
    have hi : i < ops.size := by rw [← hpl]; exact (List.getElem?_eq_some_iff.1 hp).1
    have h1 : (ps.map (·.1))[i]? = some p.1 := by simp [hp]
    have h2 : ps.map (·.1) = as.map (·.dst) := by
      rw [hpsd, List.map_append, hp1, hp2, ← List.map_append, List.take_append_drop]
    rw [h2] at h1
    simp only [List.getElem?_map, Option.map_eq_some_iff] at h1
    obtain ⟨ao, h2, h3⟩ := h1
    exact ⟨ao, h2, h3.symm, hi⟩
  have hrunQ : ∀ i o, i < n → as[i]? = some o → ∃ v, ps[i]? = some (o.dst, v) ∧ stepQ call base M o (fun t => look (fun k => decide (k < i)) ps t (env t)) = some v := by
    intro i o hi ho
    obtain ⟨v, h1, h2⟩ := hr1 i o (by simp [hi, ho])
    refine ⟨v, by rw [hpsd, List.getElem?_append_left (by omega)]; exact h1, ?_⟩
    rw [← h2]
    refine stepQ_congr fun t _ => ?_
    rw [hpsd, look_app, look_no]
    intro k p _ _; simp; omega
  have hrunS : ∀ i o, n ≤ i → as[i]? = some o → ∃ v, ps[i]? = some (o.dst, v) ∧ stepS call base (Ms (i - n)).1 (Ms (i - n)).2 o (fun t => look (fun k => decide (k < i)) ps t (env t)) = some (v, Ms (i - n + 1)) := by
    intro i o hi ho
    obtain ⟨v, h1, h2⟩ := hr2 (i - n) o (by rw [List.getElem?_drop, show n + (i - n) = i by omega]; exact ho)
    refine ⟨v, by rw [hpsd, List.getElem?_append_right (by omega), hl1]; exact h1, ?_⟩
    rw [← h2]
    refine stepS_congr fun t _ => ?_
    rw [hpsd, look_app, he1 t]
    rw [look_congr (L := fun k => decide (k < i)) (L' := fun _ => true) (ps := p1)]
    · refine look_congr fun k p _ _ => ?_
      rw [hl1]; simp; omega
    · intro k p hp _
      have : k < p1.length := (List.getElem?_eq_some_iff.1 hp).1
      simp; omega
  have henv' : ∀ t, env' t = look (fun _ => true) ps t (env t) := by
    intro t; rw [he2 t, hpsd, look_app, he1 t]
  have hcalm : ∀ (i : Nat) (o : AOp), i < n → as[i]? = some o → ∀ Y, stepQ call base (M.set id Y) o (fun t => look (fun k => decide (k < i)) ps t (env t)) = stepQ call base M o (fun t => look (fun k => decide (k < i)) ps t (env t)) := by
    intro i o hi ho Y
    obtain ⟨h1, h2⟩ := hcl1 i o (by simp [hi, ho])
    refine calm_step h1 ?_
    rw [← h2]
    congr 1
    funext t
    rw [hpsd, look_app, look_no]
    intro k p _ _; simp; omega
  clear hr1 hr2 he1 he2 hp1 hp2 hqq hS hcl1 hcm htg
  -- what n waits for
  have sunk : ∀ (listed : Array Bool), (∀ j oj, ops[j]? = some oj → listed.getD j false = true → ∀ e ∈ oj.after, Region.binds .any e = true → listed.getD e.on false = true) →
      (∀ oj, ops[n]? = some oj → ∀ e ∈ oj.after, Region.binds .any e = true → listed.getD e.on false = true) → ∀ f i, sunkB ops n f i = true → listed.getD i false = true := by
    intro listed hcl hn f
    induction f with
    | zero => intro i h; simp [sunkB] at h
    | succ f ih =>
      intro i h
      simp only [sunkB, List.any_eq_true, List.mem_range, Bool.and_eq_true, decide_eq_true_eq, Bool.or_eq_true] at h
      obtain ⟨j, _, _, hw, hj⟩ := h
      obtain ⟨oj, hoj, e, he, hb, hon⟩ := waitsB_inv hw
      rcases hj with rfl | hj
      · rw [← hon]; exact hn oj hoj e he hb
      · rw [← hon]; exact hcl j oj hoj (ih j hj) e he hb
  have main : ∀ (f : Nat) (todo : List Nat) (m : Nat) (listed : Array Bool) (a : Act) (w : World) (G : Gh), todo.length = f → todo.Nodup → (∀ k, k ∈ todo ↔ (k < ops.size ∧ listed.getD k true = false)) → n ≤ m → m ≤ ops.size →
      (∀ k, n ≤ k → k < ops.size → (listed.getD k true = false ↔ m ≤ k)) → listed.size = ops.size →
      (∀ j oj, ops[j]? = some oj → listed.getD j false = true → ∀ e ∈ oj.after, Region.binds .any e = true → listed.getD e.on false = true) →
      Gle G0 G → a.tmps.size = sz → EnvR G (fun t => look (fun k => listed.getD k false) ps t (env t)) a → Inv w0 G (Ms (m - n)).1 w → wpAnyIn (wideF ro) nn P .any ops Q f listed a w := by
    intro f
    induction f with
    | zero =>
      intro todo m listed a w G hl hnd hin hnm hms htail hsz hclosed hG hasz HE HI
      have htd : todo = [] := List.eq_nil_of_length_eq_zero hl
      have hall : ∀ k, k < ops.size → listed.getD k true = true := by
        intro k hk
        have h3 : ¬ (k < ops.size ∧ listed.getD k true = false) := by rw [← hin k, htd]; simp
        cases hq : listed.getD k true with
        | true => rfl
        | false => exact absurd ⟨hk, hq⟩ h3
      have hm : m = ops.size := by
        rcases Nat.lt_or_ge m ops.size with h | h
        · have := (htail m hnm h).2 (Nat.le_refl _)
          rw [hall m h] at this; cases this
        · omega
      refine ⟨?_, hQ a w G hG ⟨fun t => ?_, HE.d, HE.c⟩ hasz ?_⟩
      · rw [List.eq_nil_iff_forall_not_mem]
        intro i hi
        obtain ⟨hu, o, ho, _⟩ := mem_ready.1 hi
        have hi' : i < ops.size := (Array.getElem?_eq_some_iff.1 ho).1
        rw [hall i hi'] at hu; cases hu
      · have := HE.t t
        have e : look (fun k => listed.getD k false) ps t (env t) = env' t := by
          rw [henv' t]
          refine look_congr fun i p hp _ => ?_
          obtain ⟨_, _, _, hi⟩ := hps' hp
          have hks : i < listed.size := by omega
          have := hall i hi
          simpa [Array.getD, hks] using this
        rw [← e]; exact this
      · have e : Ms (m - n) = (M', D') := by rw [hm, ← hMl]; simp [hlen]
        rw [e] at HI; exact HI
    | succ f ih =>
      intro todo m listed a w G hl hnd hin hnm hms htail hsz hclosed hG hasz HE HI
      obtain ⟨k, hk⟩ : ∃ k, k ∈ todo := by
        cases todo with
        | nil => simp at hl
        | cons k r => exact ⟨k, by simp⟩
      obtain ⟨k0, _, ⟨hk0n, hk0u⟩, hk0l⟩ := least (p := fun k => k < ops.size ∧ listed.getD k true = false) ((hin k).1 hk)
      have hk0r : k0 ∈ Region.ready .any ops listed := by
        refine mem_ready.2 ⟨hk0u, ops[k0], Array.getElem?_eq_getElem hk0n, fun e he hb => ?_⟩
        have hlt := backB_inv hback (o := ops[k0]) (Array.getElem?_eq_getElem hk0n) he hb
        have h3 := hk0l e.on hlt
        have hes : e.on < listed.size := by omega
        cases hq : listed.getD e.on true with
        | true => simpa [Array.getD, hes] using hq
        | false => exact absurd ⟨by omega, hq⟩ h3
      refine ⟨fun hr => (by rw [hr] at hk0r; cases hk0r), fun i hi => ?_⟩
      obtain ⟨hiu, oi, hoi, hiall⟩ := mem_ready.1 hi
      have his : i < ops.size := (Array.getElem?_eq_some_iff.1 hoi).1
      have hLi : listed.getD i false = false := getD_both hiu
      have him : n ≤ i → i = m := by
        intro hni
        have h1 := (htail i hni his).1 hiu
        rcases Nat.lt_or_ge m i with h | h
        · exfalso
          have hc := List.all_eq_true.1 hchain i (List.mem_range.2 his)
          simp only [Bool.or_eq_true, decide_eq_true_eq] at hc
          rcases hc with hc | hc
          · omega
          · obtain ⟨oj, hoj, e, he, hb, hon⟩ := waitsB_inv hc
            rw [hoi] at hoj; cases hoj
            have h3 := hiall e he hb
            rw [hon, getD_both ((htail (i - 1) (by omega) (by omega)).2 (by omega))] at h3; cases h3
        · omega
      have hgot : ∀ k, n ≤ k → k < m → listed.getD k false = true := by
        intro k h1 h2
        have h3 := htail k h1 (by omega)
        have hks : k < listed.size := by omega
        cases hq : listed.getD k true with
        | true => simpa [Array.getD, hks] using hq
        | false => have := h3.1 hq; omega
      have hsunkm : n < m → ∀ f i, sunkB ops n f i = true → listed.getD i false = true := fun h => sunk listed hclosed (fun oj hoj => hclosed n oj hoj (hgot n (Nat.le_refl _) h))
      obtain ⟨ao, hao⟩ : ∃ ao, as[i]? = some ao := ⟨as[i]'(by omega), by simp [show i < as.length by omega]⟩
      obtain ⟨o', ho', hto⟩ := hrel i ao hao
      rw [Nat.zero_add, hoi] at ho'; cases ho'
      obtain ⟨t1, t2, t3, _⟩ := trOp_inv hto
      have hwi : ∀ {j : Nat}, waitsB ops i j = true → listed.getD j false = true := by
        intro j hw
        obtain ⟨oj, hoj, e, he, hb, hon⟩ := waitsB_inv hw
        rw [hoi] at hoj; cases hoj
        rw [← hon]; exact hiall e he hb
      have hwj : ∀ {j k : Nat}, waitsB ops j k = true → listed.getD j false = true → listed.getD k false = true := by
        intro j k hw hj
        obtain ⟨oj, hoj, e, he, hb, hon⟩ := waitsB_inv hw
        rw [← hon]; exact hclosed j oj hoj hj e he hb
      have headOf : ∀ {j : Nat} {aj ak : AOp} {k : Nat}, j < n → n ≤ k → as[j]? = some aj → as[k]? = some ak → apartA aj ak = false →
          (∃ f, sunkB ops n f j = true) ∨ ∃ x, n ≤ x ∧ x ≤ k ∧ waitsB ops x j = true := by
        intro j aj ak k hj hk haj hak hap
        have hks : k < ops.size := by rw [← hlen]; exact (List.getElem?_eq_some_iff.1 hak).1
        have h1 := List.all_eq_true.1 hhead j (List.mem_range.2 hj)
        simp only [Bool.or_eq_true, Bool.and_eq_true, decide_eq_true_eq] at h1
        obtain ⟨h1, h2⟩ := h1
        rcases Nat.lt_or_ge n k with hnk | hnk
        · rcases h1 with h1 | h1
          · omega
          · exact .inr ⟨n + 1, by omega, by omega, h1⟩
        · have hkn : k = n := by omega
          subst hkn
          simp only [haj, hak, hap, Bool.false_eq_true, or_false] at h2
          exact .inr ⟨k, Nat.le_refl _, Nat.le_refl _, h2⟩
      have before : ∀ {j : Nat} {aj : AOp}, as[j]? = some aj → j < i → apartA aj ao = false → listed.getD j false = true := by
        intro j aj haj hji hap
        rcases Nat.lt_or_ge i n with hin' | hin'
        · rcases pairsB_inv hpairs hji hin' haj hao with hw | hw
          · exact hwi hw
          · rw [hap] at hw; cases hw
        · rcases Nat.lt_or_ge j n with hjn | hjn
          · rcases headOf hjn hin' haj hao hap with ⟨f, hf⟩ | ⟨x, hx1, hx2, hx3⟩
            · have him := him hin'
              rcases Nat.lt_or_ge n m with h | h
              · exact hsunkm h f j hf
              · have : i = n := by omega
                subst this
                exact sunk listed hclosed (fun oj hoj => by rw [hoi] at hoj; cases hoj; exact hiall) f j hf
            · have him := him hin'
              by_cases hxi : x = i
              · subst hxi; exact hwi hx3
              · exact hwj hx3 (hgot x hx1 (by omega))
          · exact hgot j hjn (by have := him hin'; omega)
      have behind : ∀ {j : Nat} {aj : AOp}, as[j]? = some aj → i < j → apartA ao aj = false → listed.getD j false = false := by
        intro j aj haj hji hap
        have hjs : j < ops.size := by rw [← hlen]; exact (List.getElem?_eq_some_iff.1 haj).1
        cases hq : listed.getD j false with
        | false => rfl
        | true =>
          exfalso
          have hjl : n ≤ j → j < m := by
            intro h
            rcases Nat.lt_or_ge j m with h2 | h2
            · exact h2
            · have := (htail j h hjs).2 h2
              rw [getD_both this] at hq; cases hq
          have contra : listed.getD i false = true → False := by rw [hLi]; intro h; cases h
          rcases Nat.lt_or_ge j n with hjn | hjn
          · rcases pairsB_inv hpairs hji hjn hao haj with hw | hw
            · exact contra (hwj hw hq)
            · rw [hap] at hw; cases hw
          · rcases Nat.lt_or_ge i n with hin' | hin'
            · rcases headOf hin' hjn hao haj hap with ⟨f, hf⟩ | ⟨x, hx1, hx2, hx3⟩
              · exact contra (hsunkm (by have := hjl hjn; omega) f i hf)
              · exact contra (hwj hx3 (hgot x hx1 (by have := hjl hjn; omega)))
            · have := him hin'; have := hjl hjn; omega
      have hagree : ∀ t ∈ ao.reads, look (fun k => listed.getD k false) ps t (env t) = look (fun k => decide (k < i)) ps t (env t) := by
        refine fun t ht => look_congr fun j p hp hpt => ?_
        obtain ⟨aj, haj, hpd, hjn⟩ := hps' hp
        rw [hpd] at hpt
        rcases Nat.lt_trichotomy j i with h | h | h
        · rw [before haj h]
          · simp [h]
          · cases hq : apartA aj ao with
            | false => rfl
            | true => exact absurd ht ((apartA_inv hq).1 t hpt).1
        · subst h; rw [hLi]; simp
        · rw [behind haj h]
          · simp; omega
          · cases hq : apartA ao aj with
            | false => rfl
            | true => exact absurd ht ((apartA_inv hq).2 t hpt)
      have hd : ∀ t, oi.dst = some t → t < a.tmps.size := fun t htt => Nat.lt_of_lt_of_le (t3 t htt) (by omega)
      have hpsz : ∀ v, (a.put oi.dst v).tmps.size = a.tmps.size := fun v => by cases oi.dst <;> simp [Act.put]
      have hils : i < listed.size := by omega
      have hlook : ∀ v, ps[i]? = some (ao.dst, v) → ∀ t, look (fun k => (listed.setIfInBounds i true).getD k false) ps t (env t) = updO (fun t => look (fun k => listed.getD k false) ps t (env t)) ao.dst v t := by
        intro v hpv t
        have e1 : look (fun k => (listed.setIfInBounds i true).getD k false) ps t (env t) = look (fun k => if k = i then true else listed.getD k false) ps t (env t) := by
          refine look_congr fun j p _ _ => ?_
          by_cases hji : j = i
          · subst hji; simp [hils]
          · rw [getD_set_ne false (Ne.symm hji)]; simp [hji]
        rw [e1, look_put hpv, upd_if]
        intro hpt j q hij hq hqt
        obtain ⟨aj, haj, hpd, hjn⟩ := hps' hq
        rw [hpd] at hqt
        refine behind haj hij ?_
        cases hqq : apartA ao aj with
        | false => rfl
        | true => exact absurd hqt ((apartA_inv hqq).1 t hpt).2
      have next : ∀ (v : AV), ps[i]? = some (ao.dst, v) → ∀ (m' : Nat), (if i < n then m' = m else m' = m + 1) → ∀ (u : Value) (w' : World) (G' : Gh), Gle G G' → R G' v u → Inv w0 G' (Ms (m' - n)).1 w' → wpAnyIn (wideF ro) nn P .any ops Q f (listed.setIfInBounds i true) (a.put oi.dst u) w' := by
        intro v hpv m' hm' u w' G' hG' hu HI'
        refine ih (todo.erase i) m' (listed.setIfInBounds i true) _ w' G' ?_ (hnd.erase i) (fun k => ?_) ?_ ?_ (fun k hk hk2 => ?_) (by simpa using hsz) (fun j oj hj hlj e he hb => ?_) (hG.trans hG') (by rw [hpsz]; exact hasz) ⟨fun t => ?_, (by cases oi.dst <;> exact (HE.mono hG').d), (HE.mono hG').c⟩ HI'
        · rw [List.length_erase_of_mem ((hin i).2 ⟨his, hiu⟩), hl]; rfl
        · rw [hnd.mem_erase_iff, hin k]
          by_cases hki : k = i
          · subst hki; simp [hils]
          · rw [getD_set_ne true (Ne.symm hki)]; simp [hki]
        · split at hm' <;> omega
        · split at hm'
          · omega
          · have := him (by omega); omega
        · split at hm'
          · rw [getD_set_ne true (by omega), htail k hk hk2]; omega
          · have := him (by omega)
            by_cases hki : k = i
            · subst hki; simp [hils]; omega
            · rw [getD_set_ne true (Ne.symm hki), htail k hk hk2]; omega
        · by_cases hji : i = j
          · subst hji
            rw [hoi] at hj; cases hj
            exact getD_set_true (hiall e he hb)
          · rw [getD_set_ne false hji] at hlj
            exact getD_set_true (hclosed j oj hj hlj e he hb)
        · rw [hlook v hpv t]
          have := ((HE.mono hG').put hu ao.dst (by rw [t2]; exact hd)).t t
          rw [t2] at this ⊢
          exact this
      unfold wpOpIn
      simp only [hoi]
      rcases Nat.lt_or_ge i n with hin' | hin'
      · obtain ⟨v, hpv, hstep⟩ := hrunQ i ao hin' hao
        have hstep' : stepQ call base (Ms (m - n)).1 ao (fun t => look (fun k => listed.getD k false) ps t (env t)) = some v := by
          rw [stepQ_congr hagree]
          rcases Nat.lt_or_ge n m with h | h
          · have hm1 : m = n + 1 := by
              rcases Nat.lt_or_ge (n + 1) m with h2 | h2
              · exfalso
                have h1 := List.all_eq_true.1 hhead i (List.mem_range.2 hin')
                simp only [Bool.or_eq_true, Bool.and_eq_true, decide_eq_true_eq] at h1
                rcases h1.1 with h3 | h3
                · omega
                · have := hwj h3 (hgot (n + 1) (by omega) h2)
                  rw [hLi] at this; cases this
              · omega
            obtain ⟨Y, hY⟩ := hM1
            rw [hm1, show n + 1 - n = 1 by omega, hY, hcalm i ao hin' hao Y]
            exact hstep
          · have : m - n = 0 := by omega
            rw [this, hM0]
            exact hstep
        have next := next v hpv m (by simp [hin'])
        unfold stepQ at hstep'
        split at hstep'
        · rename_i hw
          rw [wantA_R HE hto hw]
          simp only [if_true]
          split at hstep'
          · rename_i v' hv'
            cases hstep'
            exact evI_wpF HC HE HI t1 hv' fun u w' G' hG' hO => next u w' G' hG' hO.1 hO.2
          · cases hstep'
        · rename_i hw
          rw [wantA_R HE hto hw]
          simp only [Bool.false_eq_true, if_false]
          cases hstep'
          refine ⟨fun _ _ => trivial, ?_⟩
          exact next undef w G (Gle.refl G) (.imm _ _ (.flat undef)) HI
        · cases hstep'
      · obtain ⟨v, hpv, hstep⟩ := hrunS i ao hin' hao
        have him := him hin'
        rw [him] at hstep
        have hstep' : stepS call base (Ms (m - n)).1 (Ms (m - n)).2 ao (fun t => look (fun k => listed.getD k false) ps t (env t)) = some (v, Ms (m - n + 1)) := by
          rw [← hstep]
          exact stepS_congr fun t ht => by have := hagree t ht; rw [him] at this; exact this
        have next := next v hpv (m + 1) (by simp; omega)
        rw [show m + 1 - n = m - n + 1 by omega] at next
        unfold stepS at hstep'
        split at hstep'
        · rename_i hw
          rw [wantA_R HE hto hw]
          simp only [if_true]
          split at hstep'
          · rename_i v' hv'
            simp only [Option.some.injEq, Prod.mk.injEq] at hstep'
            obtain ⟨rfl, hMs⟩ := hstep'
            refine evI_wpF HC HE HI t1 hv' fun u w' G' hG' hO => next u w' G' hG' hO.1 ?_
            rw [← hMs]; exact hO.2
          · rename_i v' M1 D1 hv'
            simp only [Option.some.injEq, Prod.mk.injEq] at hstep'
            obtain ⟨rfl, hMs⟩ := hstep'
            refine evI_wpF HC HE HI t1 hv' fun u w' G' hG' hO => next u w' G' hG' hO.1 ?_
            rw [← hMs]; exact hO.2
          · cases hstep'
        · rename_i hw
          rw [wantA_R HE hto hw]
          simp only [Bool.false_eq_true, if_false]
          simp only [Option.some.injEq, Prod.mk.injEq] at hstep'
          obtain ⟨rfl, hMs⟩ := hstep'
          refine ⟨fun _ _ => trivial, ?_⟩
          refine next undef w G (Gle.refl G) (.imm _ _ (.flat undef)) ?_
          rw [← hMs]; exact HI
        · cases hstep'
  refine main ops.size (List.range ops.size) n (Array.replicate ops.size false) a w G0 (by simp) List.nodup_range (fun k => ?_) (Nat.le_refl _) hnsz (fun k hk hks => ?_) (by simp) (fun j oj hj hlj => ?_) (Gle.refl G0) hasz ⟨fun t => ?_, HE0.d, HE0.c⟩ ?_
  · simp only [List.mem_range]
    constructor
    · intro hk; exact ⟨hk, by simp [Array.getD, hk]⟩
    · intro hk; exact hk.1
  · simp [Array.getD, hks]; omega
  · have hjs := (Array.getElem?_eq_some_iff.1 hj).1
    simp [Array.getD, hjs] at hlj
  · have e : look (fun k => (Array.replicate ops.size false).getD k false) ps t (env t) = env t := look_no fun i p hp _ => by
      simp [Array.getD]
    show R G0 (look (fun k => (Array.replicate ops.size false).getD k false) ps t (env t)) _
    rw [e]; exact HE0.t t
  · rw [Nat.sub_self, hM0]; exact HI0
end
end Go.Proofs.Ytlcdafidoddefaa.Av
namespace Go.Proofs.Ytlcdafidoddefaa.Av
open Go.RowKit
set_option linter.unusedSimpArgs false
set_option linter.unusedVariables false

/-! ### What a call leaves behind -/
/-- Every block that a value leads to is below k. -/
inductive Lt (k : Nat) : AV → Prop
  | flat (v : Value) : Lt k (.flat v)
  | list (sz : Nat) (cs : List AV) (nl cd : Bool) : Lt k (.list sz cs nl cd)
  | agg (cs : List AV) (h : ∀ (j : Nat) (h : j < cs.length), Lt k cs[j]) : Lt k (.agg cs)
  | elem (x : AV) (j : Nat) (h : Lt k x) : Lt k (.elem x j)
  | mptr (id off : Nat) (h : id < k) : Lt k (.mptr id off)
  | ms (id off len sz : Nat) (cd : Bool) (h : id < k) : Lt k (.ms id off len sz cd)
  | clo (fn : Nat) (cs : List AV) (h : ∀ (j : Nat) (h : j < cs.length), Lt k cs[j]) : Lt k (.clo fn cs)
  | tup (cs : List AV) (h : ∀ (j : Nat) (h : j < cs.length), Lt k cs[j]) : Lt k (.tup cs)
  | any : Lt k .any
  | yld (id y : Nat) (cs : List AV) (hid : id < k) (h : ∀ (j : Nat) (h : j < cs.length), Lt k cs[j]) : Lt k (.yld id y cs)
  | mp (id : Nat) (h : id < k) : Lt k (.mp id)
theorem RI.lt {g : Addr → Option Value} {k : Nat} {x : AV} {v : Value} (h : RI g x v) : Lt k x := by
  induction h with
  | flat v => exact .flat v
  | nil sz => exact .list _ _ _ _
  | list sz cs capd a n c vs h0 h1 h2 h3 h4 h5 h6 ih => exact .list _ _ _ _
  | agg cs vs h h6 h7 ih => exact .agg _ ih
  | elem x k a n c h ih => exact .elem _ _ ih
  | clo fn cs vs hf h h6 ih => exact .clo _ _ ih
  | tup cs vs h h6 ih => exact .tup _ ih
theorem R.lt {G : Gh} {x : AV} {v : Value} (h : R G x v) : Lt G.m.length x := by
  induction h with
  | imm x v h => exact h.lt
  | agg cs vs h h6 h7 ih => exact .agg _ ih
  | elem x k a n c h ih => exact .elem _ _ ih
  | mptr id off v h0 hs h1 h => exact .mptr _ _ h0
  | ms id off len sz capd v h0 hs h1 hsz h => exact .ms _ _ _ _ _ h0
  | clo fn cs vs hf h h6 ih => exact .clo _ _ ih
  | tup cs vs h h6 ih => exact .tup _ ih
  | any v => exact .any
  | yld id y pl cs r L h0 hs h h6 ih => exact .yld _ _ _ h0 ih
  | mp id r h0 hs => exact .mp _ h0
theorem Lt.ofI {k : Nat} {G : Gh} {x : AV} {v : Value} (h : R G x v) (hi : isI x = true) : Lt k x := (h.toI hi).lt
def Gh.cut (G : Gh) (k : Nat) : Gh := { G with m := G.m.take k, s := fun id => if id < k then G.s id else none }
theorem Gh.cut_s {G : Gh} {k id : Nat} (h : id < k) : (G.cut k).s id = G.s id := by simp [Gh.cut, h]
theorem Gh.cut_s1 {G : Gh} {k id : Nat} {sp : Sp} (h : (G.cut k).s id = some sp) : id < k ∧ G.s id = some sp := by
  simp only [Gh.cut] at h
  split at h
  · rename_i hh; exact ⟨hh, h⟩
  · cases h
theorem R.cut {G : Gh} {k : Nat} (hk : k ≤ G.m.length) {x : AV} {v : Value} (h : R G x v) (hl : Lt k x) : R (G.cut k) x v := by
  have hlen : (G.cut k).m.length = k := by simp [Gh.cut]; omega
  induction h with
  | imm x v h => exact .imm _ _ h
  | agg cs vs h h6 h7 ih => cases hl with | agg _ hh => exact .agg _ _ h (fun j hj => ih j hj (hh j hj)) h7
  | elem x k a n c h ih => cases hl with | elem _ _ hh => exact .elem _ _ _ _ _ (ih hh)
  | any v => exact .any v
  | yld id y pl cs r L h0 hs h h6 ih => cases hl with | yld _ _ _ hh h2 => exact .yld _ _ pl _ r L (by omega) ((Gh.cut_s hh).trans hs) h fun j hj => ih j hj (h2 j hj)
  | mp id r h0 hs => cases hl with | mp _ hh => exact .mp _ r (by omega) ((Gh.cut_s hh).trans hs)
  | mptr id off v h0 hs h1 h => cases hl with | mptr _ _ hh => exact .mptr _ _ _ (by omega) ((Gh.cut_s hh).trans hs) h1 fun b n hb => h b n (by simp only [Gh.cut, List.getElem?_take, hh, if_true] at hb; exact hb)
  | ms id off len sz capd v h0 hs h1 hsz h => cases hl with | ms _ _ _ _ _ hh => exact .ms _ _ _ _ _ _ (by omega) ((Gh.cut_s hh).trans hs) h1 hsz fun b n hb => h b n (by simp only [Gh.cut, List.getElem?_take, hh, if_true] at hb; exact hb)
  | clo fn cs vs hf h h6 ih => cases hl with | clo _ _ hh => exact .clo _ _ _ hf h fun j hj => ih j hj (hh j hj)
  | tup cs vs h h6 ih => cases hl with | tup _ hh => exact .tup _ _ h fun j hj => ih j hj (hh j hj)
section
variable {P : Program} {w0 w w' : World}
theorem Gle.cut {G G' : Gh} (h : Gle G G') : Gle G (G'.cut G.m.length) :=
  ⟨h.g, by have := h.len; simp [Gh.cut]; omega, fun id b hid hb => h.m id b hid (by simpa only [Gh.cut, List.getElem?_take, hid, if_true] using hb), fun id hid => (Gh.cut_s hid).trans (h.s id hid), h.d, h.c, h.p⟩
theorem SpO.cut {G : Gh} {k : Nat} (hk : k ≤ G.m.length) {cs : List AV} {sp : Sp} {o : Obj} (h : SpO G cs sp o) (hl : ∀ (j : Nat) (h : j < cs.length), Lt k cs[j]) : SpO (G.cut k) cs sp o := by
  cases sp with
  | loop r L y pl => exact h
  | map r =>
    obtain ⟨es, clock, h1, h2, h3⟩ := h
    refine ⟨es, clock, h1, h2, fun j hj => ?_⟩
    obtain ⟨x, k1, k2, k3, k4⟩ := h3 j hj
    have hx := hl j hj
    rw [k1] at hx
    cases hx with
    | tup _ hx =>
      have q0 := hx 0 (by omega)
      have q1 := hx 1 (by omega)
      have e0 : x[0] = x.getD 0 .any := by simp [List.getD, show 0 < x.length by omega]
      have e1 : x[1] = x.getD 1 .any := by simp [List.getD, show 1 < x.length by omega]
      exact ⟨x, k1, k2, k3.cut hk (e0 ▸ q0), k4.cut hk (e1 ▸ q1)⟩
theorem Inv.cut [Inhabited TieT] {G : Gh} {M : MS} (h : Inv w0 G M w) {k : Nat} (hk : k ≤ M.length) (hl : ∀ id cs, id < k → M[id]? = some (some cs) → ∀ (j : Nat) (h : j < cs.length), Lt k cs[j]) : Inv w0 (G.cut k) (M.take k) w := by
  have get : ∀ {id : Nat} {x : Nat × Nat}, (G.cut k).m[id]? = some (some x) → id < k ∧ G.m[id]? = some (some x) := by
    intro id x hx
    simp only [Gh.cut, List.getElem?_take] at hx
    split at hx
    · rename_i hh; exact ⟨hh, hx⟩
    · cases hx
  have hkG : k ≤ G.m.length := by rw [h.len]; exact hk
  refine ⟨h.below, by simp [Gh.cut, h.len], h.imm, fun id b n hm => ?_, fun id b n hm a ha => h.sep id b n (get hm).2 a ha, fun i j b n n' h1 h2 => h.inj i j b n n' (get h1).2 (get h2).2, fun id cs hM hsn => ?_, fun id sp hsp hid => ?_, fun id r y L pl hsp hid => h.tie id r y L pl (Gh.cut_s1 hsp).2 (by have := (Gh.cut_s1 hsp).1; omega), fun i j sp sp' h1 h2 h3 h4 h5 => h.sinj i j sp sp' (Gh.cut_s1 h1).2 (Gh.cut_s1 h2).2 (by have := (Gh.cut_s1 h1).1; omega) (by have := (Gh.cut_s1 h2).1; omega) h5, h.dfr, fun q o hp => by
    obtain ⟨a1, a2, a3, a4, a5⟩ := h.prot q o hp
    exact ⟨a1, a2, fun id n hm => a3 id n (get hm).2, fun id sp hsp hid => a4 id sp (Gh.cut_s1 hsp).2 (by have := (Gh.cut_s1 hsp).1; omega), a5⟩⟩
  · obtain ⟨hid, hm'⟩ := get hm
    obtain ⟨hB, cs, hM, cur, T, hh, hs, hle, hr⟩ := h.blk id b n hm'
    exact ⟨hB, cs, by rw [List.getElem?_take, if_pos hid]; exact hM, cur, T, hh, hs, hle, fun j hj => ⟨(hr j hj).1.cut hkG (hl id cs hid hM j hj), (hr j hj).2⟩⟩
  · rw [List.getElem?_take] at hM
    split at hM
    · rename_i hid
      obtain ⟨b, n, hb⟩ := h.live id cs hM ((Gh.cut_s hid).symm.trans hsn)
      exact ⟨b, n, by simp only [Gh.cut, List.getElem?_take, hid, if_true]; exact hb⟩
    · cases hM
  · obtain ⟨hlt, hsp2⟩ := Gh.cut_s1 hsp
    obtain ⟨hB, hm, cs, o, hM, ho, r⟩ := h.spc id sp hsp2 (by omega)
    exact ⟨hB, by simp only [Gh.cut, List.getElem?_take, hlt, if_true]; exact hm, cs, o, by rw [List.getElem?_take, if_pos hlt]; exact hM, ho, r.cut hkG (hl id cs hlt hM)⟩
theorem Inv.lt [Inhabited TieT] {G : Gh} {M : MS} (h : Inv w0 G M w) {id : Nat} {cs : List AV} (hM : M[id]? = some (some cs)) : ∀ (j : Nat) (h : j < cs.length), Lt M.length cs[j] := by
  cases hs : G.s id with
  | none =>
    obtain ⟨b, n, cur, T, hm, hB, hh, hs, hl, hr⟩ := h.row hM hs
    intro j hj
    rw [← h.len]
    exact (hr j hj).1.lt
  | some sp =>
    obtain ⟨hB, hm, cs', o, hM', ho, r⟩ := h.spc id sp hs (List.getElem?_eq_some_iff.1 hM).1
    rw [hM] at hM'; cases hM'
    intro j hj
    cases sp with
    | loop r' L y pl =>
      obtain ⟨st, pd, ex, _, rfl, _⟩ := r
      match j, hj with
      | 0, _ => exact .flat _
      | 1, _ => exact .flat _
    | map r' =>
      obtain ⟨es, clock, h1, h2, h3⟩ := r
      obtain ⟨x, k1, k2, k3, k4⟩ := h3 j hj
      rw [k1]
      refine .tup _ fun i hi => ?_
      rw [← h.len]
      match i, hi with
      | 0, hi => have e0 : x[0] = x.getD 0 .any := by simp [List.getD, hi]
                 rw [e0]; exact k3.lt
      | 1, hi => have e0 : x[1] = x.getD 1 .any := by simp [List.getD, hi]
                 rw [e0]; exact k4.lt
      | i + 2, hi => exact absurd hi (by omega)

end
/-! ### Objects set aside, taken up again -/
section
variable {P : Program} {w0 w w' : World}
/-- A block that was laid and isn't anybody's yet: u is what stands for it. -/
def HeldAt (w0 : World) (p0 : Nat → Option Obj) (G : Gh) (val : Nat → AV) (cs : List AV) (u : Value) (b : Nat) : Prop :=
  ∃ o, G.p b = some o ∧ w0.heap.size ≤ b ∧ p0 b = none ∧
    ((∃ cur T, o = .cells cur T (0, 0) ∧ cs.length ≤ cur.size ∧ (∀ (j : Nat) (h : j < cs.length), R G cs[j] (cur.getD j undef) ∧ (cur.getD j undef).oneCell' = true) ∧
        ∀ (G2 : Gh) (id : Nat), id < G2.m.length → G2.s id = none → G2.m[id]? = some (some (b, cur.size)) → R G2 (val id) u) ∨
     ((∃ ck, o = .map #[] ck) ∧ cs = [] ∧ u = .map (some b) ∧ ∀ id, val id = .mp id))
theorem HeldAt.mono {p0 : Nat → Option Obj} {G G' : Gh} (hG : Gle G G') {val : Nat → AV} {cs : List AV} {u : Value} {b : Nat} (h : HeldAt w0 p0 G val cs u b) : HeldAt w0 p0 G' val cs u b := by
  obtain ⟨o, h1, h2, h3, h4⟩ := h
  refine ⟨o, hG.p b o h1, h2, h3, ?_⟩
  rcases h4 with ⟨cur, T, k1, k2, k3, k4⟩ | h4
  · exact .inl ⟨cur, T, k1, k2, fun j hj => ⟨(k3 j hj).1.mono hG, (k3 j hj).2⟩, k4⟩
  · exact .inr h4
/-- How a laid block's value looks. -/
def valOk : (Nat → AV) → Prop := fun val => (∀ id, val id = .mptr id 0) ∨ (∃ len sz cd, ∀ id, val id = .ms id 0 len sz cd) ∨ ∀ id, val id = .mp id
/-- What a block is that can be set aside. -/
def AsideOk (w0 w' : World) (G' : Gh) (k : Nat) (cs : List AV) (val : Nat → AV) (u : Value) : Prop :=
  ∃ b o, w'.heap[b]? = some o ∧ w0.heap.size ≤ b ∧ (∀ a : Addr, a.block = b → G'.g a = none) ∧ (∀ id n : Nat, id < k → G'.m[id]? ≠ some (some (b, n))) ∧ (∀ (id : Nat) (sp : Sp), G'.s id = some sp → id < k → sp.at ≠ b) ∧ ¬ G'.d b ∧ G'.p b = none ∧
      ((∃ cur T, o = .cells cur T (0, 0) ∧ cs.length ≤ cur.size ∧ (∀ (j : Nat) (h : j < cs.length), R G' cs[j] (cur.getD j undef) ∧ (cur.getD j undef).oneCell' = true) ∧
          ∀ (G2 : Gh) (id : Nat), id < G2.m.length → G2.s id = none → G2.m[id]? = some (some (b, cur.size)) → R G2 (val id) u) ∨
       ((∃ ck, o = .map #[] ck) ∧ cs = [] ∧ u = .map (some b) ∧ ∀ id, val id = .mp id))
/-- The last block is set aside. -/
theorem Inv.aside [Inhabited TieT] {G0 G G' : Gh} {Mt Mk : MS} {cs : List AV} {val : Nat → AV} {u : Value} (hG0 : Gle G0 G) (hI0 : ∃ w1, Inv w0 G Mt w1) (hG : Gle G G') (hl : Mk.length = Mt.length) (hk : ∀ (id : Nat) (cs : List AV), Mk[id]? = some (some cs) → Mt[id]? = some (some cs)) (hclt : ∀ (j : Nat) (h : j < cs.length), isI cs[j] = true ∨ Lt Mk.length cs[j])
    (hv : valOk val) (HI : Inv w0 G' (Mk ++ [some cs]) w') (hu : R G' (val Mk.length) u) (hmp : (∀ id, val id = .mp id) → cs = []) :
    ∃ G'' b, Gle G G'' ∧ Inv w0 G'' Mk w' ∧ HeldAt w0 G0.p G'' val cs u b ∧ (∀ b', b' = b → G.p b' = none) := by
  obtain ⟨w1, HI1⟩ := hI0
  have hlt : ∀ (id : Nat) (cs : List AV), id < Mk.length → (Mk ++ [some cs])[id]? = Mk[id]? := fun id cs h => List.getElem?_append_left h
  have hGl : G.m.length = Mk.length := by rw [HI1.len, hl]
  have hG'l : G'.m.length = Mk.length + 1 := by rw [HI.len]; simp
  have HC : Inv w0 (G'.cut Mk.length) Mk w' := by
    have := HI.cut (k := Mk.length) (by simp) fun id cs' hid hM j hj => by
      rw [hlt id cs hid] at hM
      have := HI1.lt (hk id cs' hM) j hj
      rw [hl]; exact this
    simpa using this
  have hGc : Gle G (G'.cut Mk.length) := by have := hG.cut; rwa [hGl] at this
  -- the block
  have key : AsideOk w0 w' G' Mk.length cs val u := by
    have hMl : (Mk ++ [some cs])[Mk.length]? = some (some cs) := by simp
    have cells : G'.s Mk.length = none → (∀ b n : Nat, G'.m[Mk.length]? = some (some (b, n)) → ∀ (G2 : Gh) (id : Nat), id < G2.m.length → G2.s id = none → G2.m[id]? = some (some (b, n)) → R G2 (val id) u) → AsideOk w0 w' G' Mk.length cs val u := fun hsn hval => by
      obtain ⟨b, n, hm⟩ := HI.live _ _ hMl hsn
      obtain ⟨hB, cs', hM', cur, T, hh, hs, hle, hr⟩ := HI.blk _ b n hm
      rw [hMl] at hM'; cases hM'
      subst hs
      refine ⟨b, _, hh, hB, fun a ha => HI.sep _ b _ hm a ha, fun id n' hid hm' => ?_, fun id sp hsp hid => HI.at_ne hsp (by simp; omega) hh, fun hd => HI.dfr_ne hd hh rfl, ?_, .inl ⟨cur, T, rfl, hle, hr, hval b _ hm⟩⟩
      · have := HI.inj _ _ _ _ _ hm' hm; omega
      · cases hp : G'.p b with
        | none => rfl
        | some o => exact absurd hm ((HI.prot b o hp).2.2.1 _ _)
    rcases hv with hv | ⟨len, sz, cd, hv⟩ | hv
    · rw [hv] at hu
      refine cells hu.mptr_s fun b n hm G2 id h1 h2 h3 => ?_
      have hu' := hu.mptr_inv.2.2 b n hm
      rw [hv]
      exact .mptr _ _ _ h1 h2 (by rw [hu']; rfl) fun b' n' hm' => by rw [h3] at hm'; cases hm'; exact hu'
    · rw [hv] at hu
      refine cells hu.ms_s fun b n hm G2 id h1 h2 h3 => ?_
      obtain ⟨_, _, hsz, hc⟩ := hu.ms_inv
      obtain ⟨c, hu', c1, c2, c3, c4⟩ := hc b n hm
      rw [hv]
      exact .ms _ _ _ _ _ _ h1 h2 ⟨_, _, hu'⟩ hsz fun b' n' hm' => by rw [h3] at hm'; cases hm'; exact ⟨c, hu', c1, c2, c3, c4⟩
    · have hcs := hmp hv
      rw [hv] at hu
      obtain ⟨r, rfl, hid, hs⟩ := hu.mp_inv
      obtain ⟨hB, hm, cs', o', hM', hh, es, ck, rfl, hsz, _⟩ := HI.spc _ _ hs (by simp)
      rw [hMl] at hM'; cases hM'
      have hes : es = #[] := by
        rw [hcs] at hsz
        exact Array.eq_empty_of_size_eq_zero (by simpa using hsz)
      subst hes
      have hh : w'.heap[r]? = some (.map #[] ck) := hh
      refine ⟨r, _, hh, hB, fun a ha => ?_, fun id n hid' hm' => ?_, fun id sp hsp hid' e => ?_, fun hd => ?_, ?_, .inr ⟨⟨ck, rfl⟩, hcs, rfl, hv⟩⟩
      · cases hg : G'.g a with
        | none => rfl
        | some v =>
          have := (HI.imm a v hg).1
          simp [World.cell?, ha, hh] at this
      · obtain ⟨_, _, _, _, _, h2, _⟩ := HI.blk _ _ _ hm'
        rw [hh] at h2; cases h2
      · have := HI.sinj _ _ _ _ hsp hs (by simp; omega) (by simp) e
        omega
      · have := (HI.dfr r hd).2
        rw [hh] at this; cases this
      · cases hp : G'.p r with
        | none => rfl
        | some o => exact absurd rfl ((HI.prot r o hp).2.2.2.1 _ _ hs (by simp))
  obtain ⟨b, o, k1, k2, k3, k4, k5, k6, k7, k8⟩ := key
  have hGb : G.p b = none := by
    cases hp : G.p b with
    | none => rfl
    | some o' => have := hG.p b o' hp; rw [k7] at this; cases this
  let G'' : Gh := { G'.cut Mk.length with p := fun x => if x = b then some o else G'.p x }
  have hRR : ∀ {x v}, R (G'.cut Mk.length) x v → R G'' x v := fun h => R.mono0 (G := G'.cut Mk.length) (G' := G'') (fun _ _ h => h) (Nat.le_refl _) (fun _ _ _ h => h) (fun _ _ => rfl) h
  have hcl : (G'.cut Mk.length).m.length = Mk.length := HC.len
  refine ⟨G'', b, ⟨hGc.g, hGc.len, hGc.m, hGc.s, hGc.d, hGc.c, fun x o' hp => ?_⟩, ⟨HC.below, HC.len, HC.imm, fun id b' n hm => ?_, HC.sep, HC.inj, HC.live, fun id sp hsp hid => ?_, HC.tie, HC.sinj, HC.dfr, fun x o' hp => ?_⟩, ⟨o, by simp [G''], k2, ?_, ?_⟩, fun b' e => e ▸ hGb⟩
  · show (if x = b then some o else G'.p x) = some o'
    rw [if_neg (by intro e; rw [e, hGb] at hp; cases hp)]
    exact hG.p x o' hp
  · obtain ⟨hB, cs', hM, cur, T, hh, hs, hle, hr⟩ := HC.blk id b' n hm
    exact ⟨hB, cs', hM, cur, T, hh, hs, hle, fun j hj => ⟨hRR (hr j hj).1, (hr j hj).2⟩⟩
  · obtain ⟨hB, hm, cs', o', hM, ho, r⟩ := HC.spc id sp hsp hid
    refine ⟨hB, hm, cs', o', hM, ho, ?_⟩
    cases sp with
    | loop r' L y pl => exact r
    | map r' =>
      obtain ⟨es, clock, q1, q2, q3⟩ := r
      refine ⟨es, clock, q1, q2, fun j hj => ?_⟩
      obtain ⟨x, x1, x2, x3, x4⟩ := q3 j hj
      exact ⟨x, x1, x2, hRR x3, hRR x4⟩
  · change (if x = b then some o else G'.p x) = some o' at hp
    split at hp
    · rename_i e
      subst e
      cases hp
      refine ⟨k1, k3, fun id n hm => ?_, fun id sp hsp hid => k5 id sp (Gh.cut_s1 hsp).2 hid, k6⟩
      have hid : id < Mk.length := by rw [← hcl]; exact (List.getElem?_eq_some_iff.1 hm).1
      refine k4 id n hid ?_
      simpa only [G'', Gh.cut, List.getElem?_take, hid, if_true] using hm
    · exact HC.prot x o' hp
  · cases hp : G0.p b with
    | none => rfl
    | some o' => have := hG0.p b o' hp; rw [hGb] at this; cases this
  · rcases k8 with ⟨cur, T, q1, q2, q3, q4⟩ | q
    · refine .inl ⟨cur, T, q1, q2, fun j hj => ⟨?_, (q3 j hj).2⟩, q4⟩
      rcases hclt j hj with hi | hl
      · exact hRR (.imm _ _ ((q3 j hj).1.toI hi))
      · exact hRR ((q3 j hj).1.cut (by omega) hl)
    · exact .inr q
end

section
variable {P : Program} {w0 w w' : World}
/-- What was set aside is taken up. -/
theorem Inv.adopt [Inhabited TieT] {G : Gh} {Mc : MS} {cs : List AV} {val : Nat → AV} {u : Value} {b : Nat} {p0 : Nat → Option Obj} (HI : Inv w0 G Mc w) (h : HeldAt w0 p0 G val cs u b) :
    ∃ G' : Gh, (∀ {x : AV} {v : Value}, R G x v → R G' x v) ∧ Inv w0 G' (Mc ++ [some cs]) w ∧ R G' (val Mc.length) u ∧ (G'.p = fun x => if x = b then none else G.p x) ∧ G'.g = G.g ∧ G'.d = G.d ∧ G'.c = G.c ∧ (∃ y, G'.m = G.m ++ [y]) ∧ ∀ id, id < G.m.length → G'.s id = G.s id := by
  obtain ⟨o, h1, h2, h3, h4⟩ := h
  obtain ⟨a1, a2, a3, a4, a5⟩ := HI.prot b o h1
  have hl := HI.len
  rcases h4 with ⟨cur, T, rfl, k2, k3, k4⟩ | ⟨⟨ck, rfl⟩, rfl, rfl, k4⟩
  · let G' : Gh := { G with m := G.m ++ [some (b, cur.size)], s := fun id => if id < G.m.length then G.s id else none, p := fun x => if x = b then none else G.p x }
    have hR : ∀ {x : AV} {v : Value}, R G x v → R G' x v := fun h => R.mono0 (G := G) (G' := G') (fun _ _ h => h) (by simp [G']) (fun id b' hid hb => by
      simp only [G'] at hb
      rwa [List.getElem?_append_left hid] at hb) (fun id hid => by simp [G', hid]) h
    have old : ∀ {id b' n : Nat}, G'.m[id]? = some (some (b', n)) → (G.m[id]? = some (some (b', n)) ∧ id < Mc.length) ∨ (id = Mc.length ∧ b' = b ∧ n = cur.size) := by
      intro id b' n hm
      simp only [G'] at hm
      rcases Nat.lt_or_ge id G.m.length with hid | hid
      · rw [List.getElem?_append_left hid] at hm
        exact .inl ⟨hm, by rw [← hl]; exact hid⟩
      · rw [List.getElem?_append_right hid] at hm
        have : id - G.m.length = 0 := by
          rcases Nat.eq_zero_or_pos (id - G.m.length) with h0 | h0
          · exact h0
          · rw [List.getElem?_eq_none (by simp; omega)] at hm; cases hm
        rw [this] at hm
        simp at hm
        exact .inr ⟨by omega, hm.1.symm, hm.2.symm⟩
    have olds : ∀ {id : Nat} {sp : Sp}, G'.s id = some sp → id < Mc.length ∧ G.s id = some sp := by
      intro id sp hs
      simp only [G'] at hs
      split at hs
      · rename_i hh; exact ⟨by rw [← hl]; exact hh, hs⟩
      · cases hs
    have hml : G'.m[Mc.length]? = some (some (b, cur.size)) := by simp [G', ← hl]
    refine ⟨G', hR, ⟨HI.below, by simp [G', hl], HI.imm, fun id b' n hm => ?_, fun id b' n hm a hab => ?_, fun i j b' n n' q1 q2 => ?_, fun id cs' hM hsn => ?_, fun id sp hsp hid => ?_, fun id r y L pl hsp hid => HI.tie id r y L pl (olds hsp).2 (olds hsp).1, fun i j sp sp' q1 q2 q3 q4 q5 => HI.sinj i j sp sp' (olds q1).2 (olds q2).2 (olds q1).1 (olds q2).1 q5, HI.dfr, fun x o' hp => ?_⟩, k4 G' _ (by simp [G', hl]) (by simp [G', hl]) hml, rfl, rfl, rfl, rfl, ⟨_, rfl⟩, fun id hid => by simp [G', hid]⟩
    · rcases old hm with ⟨q1, hid⟩ | ⟨rfl, rfl, rfl⟩
      · obtain ⟨hB', cs', hM, cur', T', hh', hsz, hl', hr'⟩ := HI.blk id b' n q1
        exact ⟨hB', cs', by rw [List.getElem?_append_left hid]; exact hM, cur', T', hh', hsz, hl', fun j hj => ⟨hR (hr' j hj).1, (hr' j hj).2⟩⟩
      · exact ⟨h2, cs, by simp, cur, T, a1, rfl, k2, fun j hj => ⟨hR (k3 j hj).1, (k3 j hj).2⟩⟩
    · rcases old hm with ⟨q1, _⟩ | ⟨_, rfl, _⟩
      · exact HI.sep id b' n q1 a hab
      · exact a2 a hab
    · rcases old q1 with ⟨r1, _⟩ | ⟨rfl, rfl, rfl⟩ <;> rcases old q2 with ⟨r2, _⟩ | ⟨rfl, h5, _⟩
      · exact HI.inj i j b' n n' r1 r2
      · subst h5; exact absurd r1 (a3 _ _)
      · exact absurd r2 (a3 _ _)
      · rfl
    · rcases Nat.lt_or_ge id Mc.length with hid | hid
      · rw [List.getElem?_append_left hid] at hM
        have hsn' : G.s id = none := by simpa [G', hl, hid] using hsn
        obtain ⟨b', n, hm⟩ := HI.live id cs' hM hsn'
        exact ⟨b', n, by simp only [G']; rw [List.getElem?_append_left (by rw [hl]; exact hid)]; exact hm⟩
      · rw [List.getElem?_append_right hid] at hM
        have : id - Mc.length = 0 := by
          rcases Nat.eq_zero_or_pos (id - Mc.length) with h0 | h0
          · exact h0
          · rw [List.getElem?_eq_none (by simp; omega)] at hM; cases hM
        have : id = Mc.length := by omega
        subst this
        exact ⟨b, _, hml⟩
    · obtain ⟨q1, q2⟩ := olds hsp
      obtain ⟨hB, hm, cs', o', hM, ho, r⟩ := HI.spc id sp q2 q1
      refine ⟨hB, by simp only [G']; rw [List.getElem?_append_left (by rw [hl]; exact q1)]; exact hm, cs', o', by rw [List.getElem?_append_left q1]; exact hM, ho, ?_⟩
      cases sp with
      | loop r' L y pl => exact r
      | map r' =>
        obtain ⟨es, clock, x1, x2, x3⟩ := r
        refine ⟨es, clock, x1, x2, fun j hj => ?_⟩
        obtain ⟨x, y1, y2, y3, y4⟩ := x3 j hj
        exact ⟨x, y1, y2, hR y3, hR y4⟩
    · change (if x = b then none else G.p x) = some o' at hp
      split at hp
      · cases hp
      · rename_i hne
        obtain ⟨c1, c2, c3, c4, c5⟩ := HI.prot x o' hp
        refine ⟨c1, c2, fun id n hm => ?_, fun id sp hsp hid => c4 id sp (olds hsp).2 (olds hsp).1, c5⟩
        rcases old hm with ⟨q1, _⟩ | ⟨_, q2, _⟩
        · exact c3 id n q1
        · exact hne q2
  · let G' : Gh := { G with m := G.m ++ [none], s := fun id => if id < G.m.length then G.s id else if id = G.m.length then some (.map b) else none, p := fun x => if x = b then none else G.p x }
    have hR : ∀ {x : AV} {v : Value}, R G x v → R G' x v := fun h => R.mono0 (G := G) (G' := G') (fun _ _ h => h) (by simp [G']) (fun id b' hid hb => by
      simp only [G'] at hb
      rwa [List.getElem?_append_left hid] at hb) (fun id hid => by simp [G', hid]) h
    have old : ∀ {id b' n : Nat}, G'.m[id]? = some (some (b', n)) → G.m[id]? = some (some (b', n)) ∧ id < Mc.length := by
      intro id b' n hm
      simp only [G'] at hm
      rcases Nat.lt_or_ge id G.m.length with hid | hid
      · rw [List.getElem?_append_left hid] at hm
        exact ⟨hm, by rw [← hl]; exact hid⟩
      · rw [List.getElem?_append_right hid] at hm
        have : id - G.m.length = 0 := by
          rcases Nat.eq_zero_or_pos (id - G.m.length) with h0 | h0
          · exact h0
          · rw [List.getElem?_eq_none (by simp; omega)] at hm; cases hm
        rw [this] at hm
        simp at hm
    have olds : ∀ {id : Nat} {sp : Sp}, G'.s id = some sp → (id < Mc.length ∧ G.s id = some sp) ∨ (id = Mc.length ∧ sp = .map b) := by
      intro id sp hs
      simp only [G'] at hs
      split at hs
      · rename_i hh; exact .inl ⟨by rw [← hl]; exact hh, hs⟩
      · split at hs
        · rename_i hh; cases hs; exact .inr ⟨by rw [← hl]; exact hh, rfl⟩
        · cases hs
    have hsl : G'.s Mc.length = some (.map b) := by simp [G', hl]
    refine ⟨G', hR, ⟨HI.below, by simp [G', hl], HI.imm, fun id b' n hm => ?_, fun id b' n hm a hab => HI.sep id b' n (old hm).1 a hab, fun i j b' n n' q1 q2 => HI.inj i j b' n n' (old q1).1 (old q2).1, fun id cs' hM hsn => ?_, fun id sp hsp hid => ?_, fun id r y L pl hsp hid => ?_, fun i j sp sp' q1 q2 q3 q4 q5 => ?_, HI.dfr, fun x o' hp => ?_⟩, ?_, rfl, rfl, rfl, rfl, ⟨_, rfl⟩, fun id hid => by simp [G', hid]⟩
    · obtain ⟨q1, hid⟩ := old hm
      obtain ⟨hB', cs', hM, cur', T', hh', hsz, hl', hr'⟩ := HI.blk id b' n q1
      exact ⟨hB', cs', by rw [List.getElem?_append_left hid]; exact hM, cur', T', hh', hsz, hl', fun j hj => ⟨hR (hr' j hj).1, (hr' j hj).2⟩⟩
    · rcases Nat.lt_or_ge id Mc.length with hid | hid
      · rw [List.getElem?_append_left hid] at hM
        have hsn' : G.s id = none := by simpa [G', hl, hid] using hsn
        obtain ⟨b', n, hm⟩ := HI.live id cs' hM hsn'
        exact ⟨b', n, by simp only [G']; rw [List.getElem?_append_left (by rw [hl]; exact hid)]; exact hm⟩
      · rw [List.getElem?_append_right hid] at hM
        have : id - Mc.length = 0 := by
          rcases Nat.eq_zero_or_pos (id - Mc.length) with h0 | h0
          · exact h0
          · rw [List.getElem?_eq_none (by simp; omega)] at hM; cases hM
        have : id = Mc.length := by omega
        subst this
        rw [hsl] at hsn; cases hsn
    · rcases olds hsp with ⟨q1, q2⟩ | ⟨rfl, rfl⟩
      · obtain ⟨hB, hm, cs', o', hM, ho, r⟩ := HI.spc id sp q2 q1
        refine ⟨hB, by simp only [G']; rw [List.getElem?_append_left (by rw [hl]; exact q1)]; exact hm, cs', o', by rw [List.getElem?_append_left q1]; exact hM, ho, ?_⟩
        cases sp with
        | loop r' L y pl => exact r
        | map r' =>
          obtain ⟨es, clock, x1, x2, x3⟩ := r
          refine ⟨es, clock, x1, x2, fun j hj => ?_⟩
          obtain ⟨x, y1, y2, y3, y4⟩ := x3 j hj
          exact ⟨x, y1, y2, hR y3, hR y4⟩
      · exact ⟨h2, by simp [G', ← hl], [], _, by simp, a1, #[], ck, rfl, rfl, fun j hj => by simp at hj⟩
    · rcases olds hsp with ⟨q1, q2⟩ | ⟨_, hq⟩
      · exact HI.tie id r y L pl q2 q1
      · cases hq
    · rcases olds q1 with ⟨r1, r2⟩ | ⟨rfl, rfl⟩ <;> rcases olds q2 with ⟨t1, t2⟩ | ⟨rfl, rfl⟩
      · exact HI.sinj i j sp sp' r2 t2 r1 t1 q5
      · exact absurd q5 (a4 _ _ r2 r1)
      · exact absurd q5.symm (a4 _ _ t2 t1)
      · rfl
    · change (if x = b then none else G.p x) = some o' at hp
      split at hp
      · cases hp
      · rename_i hne
        obtain ⟨c1, c2, c3, c4, c5⟩ := HI.prot x o' hp
        refine ⟨c1, c2, fun id n hm => c3 id n (old hm).1, fun id sp hsp hid => ?_, c5⟩
        rcases olds hsp with ⟨q1, q2⟩ | ⟨_, rfl⟩
        · exact c4 id sp q2 q1
        · exact fun e => hne e.symm
    · rw [k4]
      exact .mp _ b (by simp [G', hl]) hsl
end
end Go.Proofs.Ytlcdafidoddefaa.Av
namespace Go.Proofs.Ytlcdafidoddefaa.Av
open Go.RowKit
set_option linter.unusedSimpArgs false
set_option linter.unusedVariables false
/-- Each block of the one is in the other. -/
def Sub (Mo M : MS) : Prop := ∀ (id : Nat) (cs : List AV), Mo[id]? = some (some cs) → M[id]? = some (some cs)
section
variable {Mo M : MS}
theorem view_sub (h : Sub Mo M) {x : AV} {cs : List AV} (hv : view Mo x = some cs) : view M x = some cs := by
  cases x with
  | ms id off len sz cd =>
    simp only [view] at hv ⊢
    split at hv
    · rename_i cs0 hM; rw [h _ _ hM]; exact hv
    · cases hv
  | _ => exact hv
theorem aview_sub (h : Sub Mo M) {x : AV} {cs : List AV} (hv : aview Mo x = some cs) : aview M x = some cs := by
  cases x with
  | mptr id off =>
    simp only [aview] at hv ⊢
    split at hv
    · rename_i cs0 hM; rw [h _ _ hM]; exact hv
    · cases hv
  | elem x k =>
    simp only [aview, Option.map_eq_some_iff] at hv ⊢
    obtain ⟨c, h1, h2⟩ := hv
    exact ⟨c, view_sub h h1, h2⟩
  | _ => exact hv
theorem lenM_sub (h : Sub Mo M) {x : AV} {n : Nat} (hv : lenM Mo x = some n) : lenM M x = some n := by
  unfold lenM at hv ⊢
  split at hv
  · rename_i cs hc; rw [view_sub h hc]; exact hv
  · cases hv
theorem alive_sub (h : Sub Mo M) {id : Nat} (hv : aliveA Mo id = true) : aliveA M id = true := by
  unfold aliveA at hv ⊢
  split at hv
  · rename_i cs hc; rw [h _ _ hc]
  · cases hv
theorem nilP_sub (h : Sub Mo M) {x : AV} {b : Bool} (hv : nilP Mo x = some b) : nilP M x = some b := by
  unfold nilP at hv ⊢
  split at hv
  · exact hv
  · split at hv
    · rename_i ha; simp only [alive_sub h ha, if_true]; exact hv
    · cases hv
  · exact hv
  · cases hv
theorem mapA_sub (h : Sub Mo M) {x : AV} {p : Nat × List AV} (hv : mapA Mo x = some p) : mapA M x = some p := by
  unfold mapA at hv ⊢
  split at hv
  · split at hv
    · rename_i hM; rw [h _ _ hM]; exact hv
    · cases hv
  · cases hv
theorem evX_sub (h : Sub Mo M) {o : XOp} {xs : List AV} {v : AV} {base b0 : Nat} {D D0 : List Nat} (hv : evX b0 Mo D0 o xs = some (.q v)) : evX base M D o xs = some (.q v) := by
  unfold evX at hv
  split at hv
  · rename_i eq x y
    obtain ⟨a, b, h1, h2, h3, h4⟩ := nilB_inv hv
    simp only [evX, nilP_sub h h1, nilP_sub h h2]
    rw [h1, h2] at hv; exact hv
  · simpa only [evX] using hv
  · split at hv
    · rename_i cs hM; simp only [evX, h _ _ hM]; exact hv
    · cases hv
  · cases hv
  · split at hv
    · split at hv
      · rw [Option.map_eq_some_iff] at hv; obtain ⟨_, _, hh⟩ := hv; cases hh
      · cases hv
    · cases hv
  · simp only [evX]
    split at hv
    · rename_i hk
      rw [if_pos hk]
      split at hv
      · exact hv
      · split at hv
        · rename_i p1 cs hm
          rw [mapA_sub h hm]; exact hv
        · cases hv
    · cases hv
  · simp only [evX]
    split at hv
    · exact hv
    · rw [Option.map_eq_some_iff] at hv ⊢
      obtain ⟨p, h1, h2⟩ := hv
      exact ⟨p, mapA_sub h h1, h2⟩
  · simp only [evX]
    split at hv
    · rename_i hk
      rw [if_pos hk]
      split at hv
      · exact hv
      · split at hv
        · rw [Option.map_eq_some_iff] at hv; obtain ⟨_, _, hh⟩ := hv; cases hh
        · cases hv
    · cases hv
  · simp only [evX]
    split at hv
    · exact hv
    · rw [Option.map_eq_some_iff] at hv; obtain ⟨_, _, hh⟩ := hv; cases hh
  · cases hv
theorem evI_sub (h : Sub Mo M) {i : I} {env : Env} {v : AV} {call c0 : Call} {base b0 : Nat} {D D0 : List Nat} (hc : i.isCall = false) (hv : evI c0 b0 env Mo D0 i = some (.q v)) : evI call base env M D i = some (.q v) := by
  cases i <;> simp only [I.isCall] at hc <;> try (cases hc; done)
  case strOf x =>
    simp only [evI] at hv ⊢
    split at hv
    · rename_i cs n h1 h2; rw [view_sub h h1, lenM_sub h h2]; exact hv
    · cases hv
  case load ag n a =>
    simp only [evI] at hv ⊢
    split at hv
    · rename_i cs h1; rw [aview_sub h h1]; exact hv
    · cases hv
  case store n a x =>
    simp only [evI] at hv
    split at hv
    · split at hv
      · unfold storeA at hv
        (repeat' split at hv) <;> cases hv
      · cases hv
    · cases hv
  case storeK n a x =>
    simp only [evI] at hv
    split at hv
    · split at hv
      · unfold storeKA at hv
        (repeat' split at hv) <;> cases hv
      · cases hv
    · cases hv
  case alloc zs => simp [evI] at hv
  case box n x =>
    simp only [evI] at hv
    (repeat' split at hv) <;> cases hv
  case bslice sz len zs ps =>
    simp only [evI] at hv ⊢
    split at hv
    · rename_i cs hcs
      (try rw [hcs])
      (try simp only)
      split at hv
      · rename_i ha; rw [if_pos ha]; exact hv
      · split at hv <;> cases hv
    · cases hv
  case mslice sz b zs n c =>
    simp only [evI] at hv
    (repeat' split at hv) <;> cases hv
  case slice sz x lo hi mx =>
    simp only [evI] at hv ⊢
    split at hv
    · rename_i cs h1; rw [view_sub h h1]; exact hv
    · cases hv
  case idx sz x i =>
    simp only [evI] at hv ⊢
    split at hv
    · rename_i n j h1 h2; rw [lenM_sub h h1, h2]; exact hv
    · cases hv
  case aidx n sz x i =>
    simp only [evI] at hv ⊢
    split at hv
    · rename_i j h2
      (try rw [h2])
      (try simp only)
      split at hv
      · rename_i hh
        rw [if_pos hh]
        split at hv
        · split at hv
          · rename_i ha; rw [if_pos (alive_sub h ha)]; exact hv
          · cases hv
        · exact hv
        · cases hv
      · cases hv
    · cases hv
  case fad off x =>
    simp only [evI] at hv ⊢
    split at hv
    · split at hv
      · rename_i ha; rw [if_pos (alive_sub h ha)]; exact hv
      · cases hv
    · exact hv
    · cases hv
  case nilck x =>
    simp only [evI] at hv ⊢
    split at hv
    · split at hv
      · rename_i ha; rw [if_pos (alive_sub h ha)]; exact hv
      · cases hv
    · exact hv
    · cases hv
  case app sz b s x =>
    simp only [evI] at hv ⊢
    split at hv
    · rename_i news m h1 h2
      rw [view_sub h h1, h2]
      simp only
      unfold appA at hv ⊢
      split at hv
      · rename_i hm
        rw [if_pos hm]
        split at hv
        · exact hv
        · split at hv
          · rename_i ha; rw [if_pos (alive_sub h ha)]; exact hv
          · cases hv
        · cases hv
      · (repeat' split at hv) <;> cases hv
    · cases hv
  case copy sz d s =>
    simp only [evI] at hv
    (repeat' split at hv) <;> cases hv
  case clear sz zs x =>
    simp only [evI] at hv ⊢
    split at hv
    · exact hv
    · split at hv
      · rename_i old hM
        rw [h _ _ hM]
        simp only
        split at hv
        · rename_i hc'
          rw [if_pos hc']
          split at hv
          · rename_i hl; rw [if_pos hl]; exact hv
          · cases hv
        · cases hv
      · cases hv
    · cases hv
  case xop o xs =>
    simp only [evI] at hv ⊢
    exact evX_sub h hv
  all_goals (simp only [evI] at hv ⊢; exact hv)
theorem evFr_congr (M Mo : MS) (id : Nat) {e e' : Env} {i : I} (h : ∀ x ∈ i.os, x.ev e = x.ev e') : evFr M Mo e id i = evFr M Mo e' id i := by
  cases i <;> simp only [I.os, List.mem_cons, List.not_mem_nil, or_false, forall_eq_or_imp, forall_eq, List.mem_append] at h <;> try rfl
  case box n x => simp only [evFr, h]
  case mslice sz b zs n c => simp only [evFr, h]
  case app sz b s x => simp only [evFr, h]
  case xop o xs => cases o <;> cases xs <;> rfl
theorem evQh_congr (Mo : MS) {e e' : Env} {i : I} (h : ∀ x ∈ i.os, x.ev e = x.ev e') : evQh Mo e i = evQh Mo e' i := by
  simp only [evQh, evI_congr (fun _ _ _ => none) 0 Mo [] h]
def kill1 (k : Option Nat) (M : MS) : MS := match k with
  | some x => M.set x none
  | none => M
/-- A laying instruction, whatever was laid meanwhile. -/
theorem evFr_evI {M Mo Mt : MS} {env : Env} {id : Nat} {i : I} {v : AV} {cs : List AV} {k : Option Nat} (h : evFr M Mo env id i = some (v, cs, k)) (hs : Sub Mo Mt) (hk : ∀ x, k = some x → Mt[x]? = M[x]?) :
    ∃ val, valOk val ∧ v = val id ∧ ((∀ id, val id = .mp id) → cs = []) ∧ i.isF = true ∧ i.isCall = false ∧ ∀ (call : Call) (base : Nat) (D : List Nat), ∃ D', evI call base env Mt D i = some (.x (val Mt.length) (kill1 k Mt ++ [some cs]) D') := by
  have nmp : ∀ {f : Nat → AV}, (∀ id, f id ≠ .mp id) → (∀ id, f id = .mp id) → ∀ c : List AV, c = [] := fun h1 h2 => absurd (h2 0) (h1 0)
  cases i <;> simp only [evFr] at h <;> try (cases h; done)
  case alloc zs =>
    split at h
    · cases h
      exact ⟨fun id => .mptr id 0, .inl fun _ => rfl, rfl, (fun h => by have := h 0; cases this), rfl, rfl, fun call base D => ⟨D, rfl⟩⟩
    · cases h
  case box n x =>
    split at h
    · rename_i cs' hcs
      split at h
      · rename_i hl
        cases h
        exact ⟨fun id => .mptr id 0, .inl fun _ => rfl, rfl, (fun h => by have := h 0; cases this), rfl, rfl, fun call base D => ⟨D, by simp only [evI, hcs, if_pos hl.2]; rfl⟩⟩
      · cases h
    · cases h
  case mslice sz b zs n c =>
    split at h
    · rename_i n c h1 h2
      split at h
      · rename_i hc
        obtain ⟨c1, c2, c3, c4, c5⟩ := hc
        cases h
        exact ⟨fun id => .ms id 0 _ _ _, .inr (.inl ⟨_, _, _, fun _ => rfl⟩), rfl, (fun h => by have := h 0; cases this), rfl, rfl, fun call base D => ⟨D, by simp only [evI, h1, h2]; rw [if_pos ⟨c1, c2, c3, c4⟩]; rfl⟩⟩
      · cases h
    · cases h
  case app sz b s x =>
    split at h
    · rename_i news m h1 h2
      split at h
      · cases h
      · rename_i hm
        simp only [not_or] at hm
        have hm := hm.1
        split at h
        · rename_i sz' cs' nl cd hs'
          split at h
          · rename_i hc
            cases h
            exact ⟨fun id => .ms id 0 _ _ _, .inr (.inl ⟨_, _, _, fun _ => rfl⟩), rfl, (fun h => by have := h 0; cases this), rfl, rfl, fun call base D => ⟨D, by simp only [evI, view_sub hs h1, h2, appA, if_neg hm, hs']; rw [if_pos hc]; rfl⟩⟩
          · cases h
        · rename_i j off len sz' cd hs'
          split at h
          · rename_i hcd
            split at h
            · rename_i old ho
              split at h
              · rename_i hc
                cases h
                exact ⟨fun id => .ms id 0 _ _ _, .inr (.inl ⟨_, _, _, fun _ => rfl⟩), rfl, (fun h => by have := h 0; cases this), rfl, rfl, fun call base D => ⟨D, by simp only [evI, view_sub hs h1, h2, appA, if_neg hm, hs', hs _ _ ho]; rw [if_pos hc, if_pos hcd]; rfl⟩⟩
              · cases h
            · cases h
          · rename_i hcd
            split at h
            · rename_i old ho
              split at h
              · rename_i hc
                obtain ⟨c1, c2, c3, c4, c5, c6⟩ := hc
                cases h
                exact ⟨fun id => .ms id 0 _ _ _, .inr (.inl ⟨_, _, _, fun _ => rfl⟩), rfl, (fun h => by have := h 0; cases this), rfl, rfl, fun call base D => ⟨_, by simp only [evI, view_sub hs h1, h2, appA, if_neg hm, hs', hk _ rfl, ho]; rw [if_pos ⟨c1, c2, c3, c4, c5⟩, if_neg hcd, if_pos c6]; rfl⟩⟩
              · cases h
            · cases h
        · cases h
    · cases h
  case xop o xs =>
    cases o <;> cases xs <;> simp only [evFr] at h <;> try (cases h; done)
    cases h
    exact ⟨fun id => .mp id, .inr (.inr fun _ => rfl), rfl, fun _ => rfl, rfl, rfl, fun call base D => ⟨D, rfl⟩⟩
end
section
variable {P : Program} {w0 w : World} {G : Gh} {M Mo Mt : MS} {env : Env}
theorem allI_rep {zs : List AV} (h : allI zs = true) : ∀ n, allI (List.replicate n zs).flatten = true
  | 0 => rfl
  | n + 1 => by
    have ap : ∀ {xs ys : List AV}, allI xs = true → allI ys = true → allI (xs ++ ys) = true := by
      intro xs
      induction xs with
      | nil => intro ys _ h; exact h
      | cons x xs ih => intro ys h1 h2; simp only [allI, Bool.and_eq_true] at h1; simp only [List.cons_append, allI, Bool.and_eq_true]; exact ⟨h1.1, ih h1.2 h2⟩
    rw [List.replicate_succ, List.flatten_cons]
    exact ap h (allI_rep h n)
theorem CR.lt {cs : List AV} {vs : List Value} (h : CR G cs vs) : ∀ (j : Nat) (hj : j < cs.length), Lt G.m.length cs[j] := fun j hj => (h.get j hj).1.lt
theorem evFr_lt [Inhabited TieT] {id : Nat} {i : I} {v : AV} {cs : List AV} {k : Option Nat} (h : evFr M Mo env id i = some (v, cs, k)) (HI : Inv w0 G Mt w) (hs : Sub Mo Mt) (hk : ∀ x, k = some x → Mt[x]? = M[x]?) (hr0 : ∀ n, ∃ u, R G (env n) u) :
    ∀ (j : Nat) (h : j < cs.length), isI cs[j] = true ∨ Lt Mt.length cs[j] := by
  have app : ∀ {xs ys : List AV}, (∀ (j : Nat) (h : j < xs.length), isI xs[j] = true ∨ Lt Mt.length xs[j]) → (∀ (j : Nat) (h : j < ys.length), isI ys[j] = true ∨ Lt Mt.length ys[j]) → ∀ (j : Nat) (h : j < (xs ++ ys).length), isI (xs ++ ys)[j] = true ∨ Lt Mt.length (xs ++ ys)[j] := by
    intro xs ys h1 h2 j hj
    by_cases hx : j < xs.length
    · rw [List.getElem_append_left hx]; exact h1 j hx
    · rw [List.getElem_append_right (by omega)]; exact h2 _ _
  have hr : ∀ x : O, okO x = true → ∃ u, R G (x.ev env) u := by
    intro x hx
    unfold okO at hx
    split at hx
    · exact hr0 _
    · exact ⟨_, .imm _ _ (.flat _)⟩
    · exact ⟨_, .imm _ _ (.nil _)⟩
    · cases hx
  have ofL : ∀ {xs : List AV}, (∀ x ∈ xs, Lt Mt.length x) → ∀ (j : Nat) (h : j < xs.length), isI xs[j] = true ∨ Lt Mt.length xs[j] := fun h j hj => .inr (h _ (by simp))
  have news : ∀ {x : AV} {cs : List AV}, (∃ u, R G x u) → view Mo x = some cs → ∀ y ∈ cs, Lt Mt.length y := by
    intro x cs ⟨u, hu⟩ hv y hy
    obtain ⟨_, _, _, _, vs, _, _, _, _, _, _, hcr, _⟩ := view_CR HI hu (view_sub hs hv)
    obtain ⟨j, hj, rfl⟩ := List.getElem_of_mem hy
    rw [← HI.len]; exact hcr.lt j hj
  have olds : ∀ {j : Nat} {old : List AV}, Mt[j]? = some (some old) → ∀ y ∈ old, Lt Mt.length y := by
    intro j old hM y hy
    obtain ⟨n, hn, rfl⟩ := List.getElem_of_mem hy
    exact HI.lt hM n hn
  cases i <;> simp only [evFr] at h <;> try (cases h; done)
  case alloc zs =>
    split at h
    · rename_i ha; cases h; exact fun j hj => .inl (allI_get ha j hj)
    · cases h
  case box n x =>
    split at h
    · rename_i cs' hcs
      split at h
      · rename_i hok
        cases h
        obtain ⟨u, hu⟩ := hr x hok.1
        have hc := cellsOf_CR hu hcs
        exact fun j hj => .inr (by rw [← HI.len]; exact hc.lt j hj)
      · cases h
    · cases h
  case mslice sz b zs n c =>
    split at h
    · split at h
      · rename_i hc
        cases h
        exact fun j hj => .inl (allI_get (allI_rep hc.2.2.2.2 _) j hj)
      · cases h
    · cases h
  case xop o xs =>
    cases o <;> cases xs <;> simp only [evFr] at h <;> try (cases h; done)
    cases h; exact fun j hj => by simp at hj
  case app sz b s x =>
    split at h
    · rename_i nw m h1 h2
      split at h
      · cases h
      · rename_i hok
        simp only [not_or, Bool.not_eq_true', Bool.not_eq_false, Bool.and_eq_true] at hok
        have hn := news (hr x hok.2.2) h1
        split at h
        · rename_i sz' cs' nl cd hs'
          split at h
          · cases h
            obtain ⟨u, hu⟩ := hr s hok.2.1
            rw [hs'] at hu
            refine app (ofL fun y hy => ?_) (ofL hn)
            have hv : view Mt (.list sz' cs' nl cd) = some cs' := rfl
            obtain ⟨_, _, _, _, vs, _, _, _, _, _, _, hcr, _⟩ := view_CR HI hu hv
            obtain ⟨j, hj, rfl⟩ := List.getElem_of_mem hy
            rw [← HI.len]; exact hcr.lt j hj
          · cases h
        · split at h
          · split at h
            · rename_i old ho
              split at h
              · cases h
                exact app (ofL fun y hy => olds (hs _ _ ho) y (List.mem_of_mem_drop (List.mem_of_mem_take hy))) (ofL hn)
              · cases h
            · cases h
          · split at h
            · rename_i old ho
              split at h
              · cases h
                exact app (ofL fun y hy => olds ((hk _ rfl).trans ho) y (List.mem_of_mem_take hy)) (ofL hn)
              · cases h
            · cases h
        · cases h
    · cases h
end
end Go.Proofs.Ytlcdafidoddefaa.Av
namespace Go.Proofs.Ytlcdafidoddefaa.Av
theorem evQh_inv {Mo : MS} {env : Env} {i : I} {v : AV} (h : evQh Mo env i = some v) : evI (fun _ _ _ => none) 0 env Mo [] i = some (.q v) := by
  unfold evQh at h
  split at h
  · rename_i v' hv; cases h; exact hv
  · cases h
theorem callA_frame {call : Call} {n : Nat} {M M' : MS} {f : Nat} {args : List AV} {v : AV} (hF : ∀ f args M v M' D, call f args M = some (.x v M' D) → M.length ≤ M'.length ∧ ∀ id, id < M.length → id ∉ D → M'[id]? = M[id]?) (hn : n = M.length) (h : evI.callA call n M [] f args = some (.x v M' [])) :
    M.length ≤ M'.length ∧ ∀ id, id < M.length → M'[id]? = M[id]? := by
  subst hn
  simp only [evI.callA] at h
  split at h
  · cases h
  · rename_i v1 M1 D1 hc
    simp only [Option.some.injEq, Out.x.injEq, List.append_nil] at h
    obtain ⟨_, rfl, h2⟩ := h
    obtain ⟨q1, q2⟩ := hF _ _ _ _ _ _ hc
    refine ⟨q1, fun id hid => q2 id hid fun hm => ?_⟩
    have : id ∈ D1.filter (· < M.length) := by simp [hm, hid]
    rw [h2] at this; cases this
  · cases h
theorem call_frame {call : Call} {M M' : MS} {env : Env} {i : I} {v : AV} (hF : ∀ f args M v M' D, call f args M = some (.x v M' D) → M.length ≤ M'.length ∧ ∀ id, id < M.length → id ∉ D → M'[id]? = M[id]?) (hc : i.isCall = true) (h : evI call M.length env M [] i = some (.x v M' [])) :
    M.length ≤ M'.length ∧ ∀ id, id < M.length → M'[id]? = M[id]? := by
  cases i <;> simp only [I.isCall] at hc <;> try (cases hc; done)
  case call f args => simp only [evI] at h; exact callA_frame hF rfl h
  case calld f args =>
    simp only [evI] at h
    split at h
    · exact callA_frame hF rfl h
    · exact callA_frame hF rfl h
    · cases h
end Go.Proofs.Ytlcdafidoddefaa.Av
namespace Go.Proofs.Ytlcdafidoddefaa.Av
open Go.RowKit
set_option linter.unusedSimpArgs false
set_option linter.unusedVariables false
abbrev FR := List AV × Option Nat
def HdRun (call : Call) (L : Nat) (M Mo : MS) (as : List AOp) (env env1 : Env) (C C1 Y Y1 : MS) (ks ks1 : List Nat) : Prop :=
    ∃ (ps : List (Option Nat × AV)) (rs : List (Option FR)) (Cf : Nat → MS), ps.map (·.1) = as.map (·.dst) ∧ rs.length = as.length ∧ Cf 0 = C ∧ Cf as.length = C1 ∧
      (∀ (i : Nat) (o : AOp), as[i]? = some o → o.g = none ∧ ∃ v, ps[i]? = some (o.dst, v) ∧
        ((rs[i]? = some none ∧ o.i.isCall = false ∧ Cf (i + 1) = Cf i ∧ evQh Mo (fun t => look (fun k => decide (k < i)) ps t (env t)) o.i = some v) ∨
         (rs[i]? = some none ∧ o.i.isCall = true ∧ ((Cf (i + 1) = Cf i ∧ evI call (Cf i).length (fun t => look (fun k => decide (k < i)) ps t (env t)) (Cf i) [] o.i = some (.q v)) ∨ evI call (Cf i).length (fun t => look (fun k => decide (k < i)) ps t (env t)) (Cf i) [] o.i = some (.x v (Cf (i + 1)) []))) ∨
         (∃ cs k, rs[i]? = some (some (cs, k)) ∧ o.i.isCall = false ∧ Cf (i + 1) = Cf i ∧ evFr M Mo (fun t => look (fun k => decide (k < i)) ps t (env t)) (L + Y.length + ((rs.take i).filterMap id).length) o.i = some (v, cs, k)))) ∧
      (∀ t, env1 t = look (fun _ => true) ps t (env t)) ∧ Y1 = Y ++ (rs.filterMap id).map (fun r => some r.1) ∧ ks1 = ks ++ (rs.filterMap id).filterMap (·.2)
theorem evHd_run (call : Call) (L : Nat) (M Mo : MS) : ∀ (as : List AOp) (env env1 : Env) (C C1 Y Y1 : MS) (ks ks1 : List Nat), evHd call L M Mo as env C Y ks = some (env1, C1, Y1, ks1) → HdRun call L M Mo as env env1 C C1 Y Y1 ks ks1
  | [], env, env1, C, C1, Y, Y1, ks, ks1, h => by
    simp only [evHd, Option.some.injEq, Prod.mk.injEq] at h
    obtain ⟨rfl, rfl, rfl, rfl⟩ := h
    exact ⟨[], [], fun _ => C, rfl, rfl, rfl, rfl, fun i o h => by simp at h, fun t => rfl, by simp, by simp⟩
  | o :: r, env, env1, C, C1, Y, Y1, ks, ks1, h => by
    simp only [evHd] at h
    split at h
    rotate_left
    · cases h
    rename_i hg
    have hg : o.g = none := by simpa using hg
    have e0 : ∀ (p : Option Nat × AV) (ps : List (Option Nat × AV)), (fun t => look (fun k => decide (k < 0)) (p :: ps) t (env t)) = env := fun p ps => by
      funext t; exact look_no fun i p _ _ => by simp
    have es : ∀ (v : AV) (ps : List (Option Nat × AV)) (i : Nat), (fun t => look (fun k => decide (k < i + 1)) ((o.dst, v) :: ps) t (env t)) = fun t => look (fun k => decide (k < i)) ps t (updO env o.dst v t) := fun v ps i => by
      funext t
      simp only [look, upd_if]; simp
    have hcf : ∀ (Cf : Nat → MS) (i : Nat), (fun n => match n with | 0 => C | n + 1 => Cf n : Nat → MS) (i + 1) = Cf i := fun _ _ => rfl
    have step : ∀ (v : AV) (C' : MS), evHd call L M Mo r (updO env o.dst v) C' Y ks = some (env1, C1, Y1, ks1) →
        ((o.i.isCall = false ∧ C' = C ∧ evQh Mo env o.i = some v) ∨ (o.i.isCall = true ∧ ((C' = C ∧ evI call C.length env C [] o.i = some (.q v)) ∨ evI call C.length env C [] o.i = some (.x v C' [])))) → HdRun call L M Mo (o :: r) env env1 C C1 Y Y1 ks ks1 := fun v C' h hq => by
      obtain ⟨ps, rs, Cf, h1, h2, h7, h8, h3, h4, h5, h6⟩ := evHd_run call L M Mo r _ env1 _ C1 _ Y1 _ ks1 h
      refine ⟨(o.dst, v) :: ps, none :: rs, fun n => match n with | 0 => C | n + 1 => Cf n, by simp [h1], by simp [h2], rfl, h8, fun i o' hi => ?_, fun t => ?_, ?_, ?_⟩
      · cases i with
        | zero =>
          simp at hi; subst hi
          refine ⟨hg, v, by simp, ?_⟩
          rw [e0]
          rcases hq with ⟨q1, q2, q3⟩ | ⟨q1, q2⟩
          · exact .inl ⟨by simp, q1, h7.trans q2, q3⟩
          · refine .inr (.inl ⟨by simp, q1, ?_⟩)
            rcases q2 with ⟨q2, q3⟩ | q2
            · exact .inl ⟨h7.trans q2, q3⟩
            · refine .inr ?_
              show evI call C.length env C [] o.i = some (.x v (Cf 0) [])
              rw [h7]; exact q2
        | succ i =>
          obtain ⟨g1, v', g2, g3⟩ := h3 i o' (by simpa using hi)
          refine ⟨g1, v', by simpa using g2, ?_⟩
          rw [es]
          rcases g3 with ⟨q1, q2, q3, q4⟩ | ⟨q1, q2, q3⟩ | ⟨cs', k', q1, q2, q3, q4⟩
          · exact .inl ⟨by simpa using q1, q2, q3, q4⟩
          · exact .inr (.inl ⟨by simpa using q1, q2, q3⟩)
          · refine .inr (.inr ⟨cs', k', by simpa using q1, q2, q3, ?_⟩)
            rw [← q4]
            congr 1
      · rw [h4 t]; simp only [look, upd_if]; simp
      · rw [h5]; simp
      · rw [h6]; simp
    split at h
    · rename_i hic
      split at h
      · rename_i v hv
        exact step v C h (.inr ⟨hic, .inl ⟨rfl, hv⟩⟩)
      · rename_i v C' hv
        exact step v C' h (.inr ⟨hic, .inr hv⟩)
      · cases h
    · rename_i hic
      have hic : o.i.isCall = false := by simpa using hic
      split at h
      · rename_i v cs k hf
        obtain ⟨ps, rs, Cf, h1, h2, h7, h8, h3, h4, h5, h6⟩ := evHd_run call L M Mo r _ env1 _ C1 _ Y1 _ ks1 h
        refine ⟨(o.dst, v) :: ps, some (cs, k) :: rs, fun n => match n with | 0 => C | n + 1 => Cf n, by simp [h1], by simp [h2], rfl, h8, fun i o' hi => ?_, fun t => ?_, ?_, ?_⟩
        · cases i with
          | zero =>
            simp at hi; subst hi
            exact ⟨hg, v, by simp, .inr (.inr ⟨cs, k, by simp, hic, h7, by rw [e0]; simpa using hf⟩)⟩
          | succ i =>
            obtain ⟨g1, v', g2, g3⟩ := h3 i o' (by simpa using hi)
            refine ⟨g1, v', by simpa using g2, ?_⟩
            rw [es]
            rcases g3 with ⟨q1, q2, q3, q4⟩ | ⟨q1, q2, q3⟩ | ⟨cs', k', q1, q2, q3, q4⟩
            · exact .inl ⟨by simpa using q1, q2, q3, q4⟩
            · exact .inr (.inl ⟨by simpa using q1, q2, q3⟩)
            · refine .inr (.inr ⟨cs', k', by simpa using q1, q2, q3, ?_⟩)
              rw [← q4]
              congr 1
              simp only [List.take_succ_cons, List.filterMap_cons, id_eq, List.length_cons, List.length_append, List.length_nil]
              omega
        · rw [h4 t]; simp only [look, upd_if]; simp
        · rw [h5]; simp
        · rw [h6]; cases k <;> simp
      · rename_i hf
        split at h
        · rename_i v hq
          exact step v C h (.inl ⟨hic, rfl, hq⟩)
        · cases h
theorem evFr_k {M Mo : MS} {env : Env} {id : Nat} {i : I} {v : AV} {cs : List AV} {x : Nat} (h : evFr M Mo env id i = some (v, cs, some x)) : ∃ old, M[x]? = some (some old) := by
  cases i <;> simp only [evFr] at h <;> try (cases h; done)
  case alloc zs => split at h <;> cases h
  case box n x => (repeat' split at h) <;> cases h
  case mslice sz b zs n c => (repeat' split at h) <;> cases h
  case app sz b s x =>
    split at h
    · split at h
      · cases h
      · split at h
        · split at h <;> cases h
        · split at h
          · (repeat' split at h) <;> cases h
          · split at h
            · rename_i old ho
              split at h
              · cases h; exact ⟨old, ho⟩
              · cases h
            · cases h
        · cases h
    · cases h
  case xop o xs => cases o <;> cases xs <;> simp only [evFr] at h <;> cases h
theorem killA_len : ∀ (ks : List Nat) (M : MS), (killA M ks).length = M.length
  | [], M => rfl
  | k :: ks, M => by
    have := killA_len ks (M.set k none)
    simp only [killA, List.foldl_cons] at this ⊢
    rw [this]; simp
theorem killA_get : ∀ (ks : List Nat) (M : MS) (id : Nat), (id ∉ ks → (killA M ks)[id]? = M[id]?) ∧ (id ∈ ks → id < M.length → (killA M ks)[id]? = some none)
  | [], M, id => ⟨fun _ => rfl, fun h => by simp at h⟩
  | k :: ks, M, id => by
    obtain ⟨h1, h2⟩ := killA_get ks (M.set k none) id
    simp only [killA, List.foldl_cons] at h1 h2 ⊢
    refine ⟨fun hn => ?_, fun hm hl => ?_⟩
    · simp only [List.mem_cons, not_or] at hn
      rw [h1 hn.2, List.getElem?_set_ne (Ne.symm hn.1)]
    · by_cases hk : id ∈ ks
      · exact h2 hk (by simpa using hl)
      · rw [h1 hk]
        simp only [List.mem_cons, hk, or_false] at hm
        subst hm
        simp [hl]
/-- What is made of each laid block. -/
def recs {ρ : Type} (h : Nat → FR → ρ) : List (Option FR) → Nat → List ρ
  | [], _ => []
  | none :: r, i => recs h r (i + 1)
  | some x :: r, i => h i x :: recs h r (i + 1)
theorem recs_map {ρ σ : Type} {h : Nat → FR → ρ} {f : ρ → σ} {g : FR → σ} (hf : ∀ i x, f (h i x) = g x) : ∀ (rs : List (Option FR)) (i : Nat), (recs h rs i).map f = (rs.filterMap id).map g
  | [], _ => rfl
  | none :: r, i => by simp [recs, recs_map hf r]
  | some x :: r, i => by simp [recs, recs_map hf r, hf]
theorem recs_get {ρ : Type} {h : Nat → FR → ρ} : ∀ (rs : List (Option FR)) (i j : Nat) (x : FR), rs[j]? = some (some x) → (recs h rs i)[((rs.take j).filterMap id).length]? = some (h (i + j) x)
  | [], _, _, _, hj => by simp at hj
  | none :: r, i, 0, x, hj => by simp at hj
  | none :: r, i, j + 1, x, hj => by
    have := recs_get (h := h) r (i + 1) j x (by simpa using hj)
    simp only [recs, List.take_succ_cons, List.filterMap_cons, id_eq]
    rw [this]; congr 2; omega
  | some y :: r, i, 0, x, hj => by
    simp at hj; subst hj
    simp [recs]
  | some y :: r, i, j + 1, x, hj => by
    have := recs_get (h := h) r (i + 1) j x (by simpa using hj)
    simp only [recs, List.take_succ_cons, List.filterMap_cons, id_eq, List.length_cons, List.getElem?_cons_succ]
    rw [this]; congr 2; omega
theorem recs_mem {ρ : Type} {h : Nat → FR → ρ} : ∀ (rs : List (Option FR)) (i : Nat) (q : ρ), q ∈ recs h rs i → ∃ j x, rs[j]? = some (some x) ∧ q = h (i + j) x
  | [], _, _, hq => by simp [recs] at hq
  | none :: r, i, q, hq => by
    obtain ⟨j, x, h1, h2⟩ := recs_mem r (i + 1) q (by simpa [recs] using hq)
    exact ⟨j + 1, x, by simpa using h1, by rw [h2]; congr 1; omega⟩
  | some y :: r, i, q, hq => by
    simp only [recs, List.mem_cons] at hq
    rcases hq with rfl | hq
    · exact ⟨0, y, by simp, rfl⟩
    · obtain ⟨j, x, h1, h2⟩ := recs_mem r (i + 1) q hq
      exact ⟨j + 1, x, by simpa using h1, by rw [h2]; congr 1; omega⟩
theorem recs_nodup {ρ : Type} {h : Nat → FR → ρ} {b : ρ → Nat} {bk : Nat → Nat} (hb : ∀ i x, b (h i x) = bk i) : ∀ (rs : List (Option FR)) (i : Nat), (∀ j j' x x', rs[j]? = some (some x) → rs[j']? = some (some x') → j ≠ j' → bk (i + j) ≠ bk (i + j')) → ((recs h rs i).map b).Nodup
  | [], _, _ => by simp [recs]
  | none :: r, i, hd => by
    simp only [recs]
    exact recs_nodup hb r (i + 1) fun j j' x x' h1 h2 h3 => by
      have := hd (j + 1) (j' + 1) x x' (by simpa using h1) (by simpa using h2) (by omega)
      rwa [show i + 1 + j = i + (j + 1) by omega, show i + 1 + j' = i + (j' + 1) by omega]
  | some y :: r, i, hd => by
    simp only [recs, List.map_cons, List.nodup_cons]
    refine ⟨fun hm => ?_, recs_nodup hb r (i + 1) fun j j' x x' h1 h2 h3 => by
      have := hd (j + 1) (j' + 1) x x' (by simpa using h1) (by simpa using h2) (by omega)
      rwa [show i + 1 + j = i + (j + 1) by omega, show i + 1 + j' = i + (j' + 1) by omega]⟩
    obtain ⟨q, hq, he⟩ := List.mem_map.1 hm
    obtain ⟨j, x, h1, h2⟩ := recs_mem r (i + 1) q hq
    rw [h2, hb, hb] at he
    have := hd (j + 1) 0 x y (by simpa using h1) (by simp) (by omega)
    rw [show i + (j + 1) = i + 1 + j by omega] at this
    exact this (by simpa using he)
theorem fm_mem {rs : List (Option FR)} {k : Nat} (h : k ∈ (rs.filterMap id).filterMap (·.2)) : ∃ (i : Nat) (cs : List AV), rs[i]? = some (some (cs, some k)) := by
  simp only [List.mem_filterMap, id_eq] at h
  obtain ⟨⟨cs, k'⟩, ⟨r, hr, rfl⟩, h2⟩ := h
  obtain ⟨i, hi, he⟩ := List.getElem_of_mem hr
  refine ⟨i, cs, ?_⟩
  simp only at h2
  subst h2
  rw [List.getElem?_eq_getElem hi, he]
theorem fm_of : ∀ {rs : List (Option FR)} {i k : Nat} {cs : List AV}, rs[i]? = some (some (cs, some k)) → k ∈ (rs.filterMap id).filterMap (·.2) := by
  intro rs i k cs h
  simp only [List.mem_filterMap, id_eq]
  exact ⟨(cs, some k), ⟨_, List.mem_of_getElem? h, rfl⟩, rfl⟩
theorem fm_inj : ∀ {rs : List (Option FR)}, ((rs.filterMap id).filterMap (·.2)).Nodup → ∀ {i j k : Nat} {cs ds : List AV}, rs[i]? = some (some (cs, some k)) → rs[j]? = some (some (ds, some k)) → i = j
  | [], _, i, _, _, _, _, h, _ => by simp at h
  | none :: r, hn, i, j, k, cs, ds, h1, h2 => by
    cases i with
    | zero => simp at h1
    | succ i => cases j with
      | zero => simp at h2
      | succ j => exact congrArg _ (fm_inj (rs := r) (by simpa using hn) (by simpa using h1) (by simpa using h2))
  | some (as, none) :: r, hn, i, j, k, cs, ds, h1, h2 => by
    cases i with
    | zero => simp at h1
    | succ i => cases j with
      | zero => simp at h2
      | succ j => exact congrArg _ (fm_inj (rs := r) (by simpa using hn) (by simpa using h1) (by simpa using h2))
  | some (as, some x) :: r, hn, i, j, k, cs, ds, h1, h2 => by
    simp only [List.filterMap_cons, id_eq, List.nodup_cons] at hn
    cases i with
    | zero =>
      simp only [List.getElem?_cons_zero, Option.some.injEq, Prod.mk.injEq] at h1
      cases j with
      | zero => rfl
      | succ j =>
        have := fm_of (rs := r) (by simpa using h2)
        rw [← h1.2] at this
        exact absurd this hn.1
    | succ i =>
      cases j with
      | zero =>
        simp only [List.getElem?_cons_zero, Option.some.injEq, Prod.mk.injEq] at h2
        have := fm_of (rs := r) (by simpa using h1)
        rw [← h2.2] at this
        exact absurd this hn.1
      | succ j => exact congrArg _ (fm_inj (rs := r) hn.2 (by simpa using h1) (by simpa using h2))
def reid : AV → Nat → AV
  | .mptr _ o, id => .mptr id o
  | .ms _ o l s c, id => .ms id o l s c
  | .mp _, id => .mp id
  | x, _ => x
theorem reid_val {val : Nat → AV} (h : valOk val) (id : Nat) : reid (val id) = val := by
  funext j
  rcases h with h | ⟨_, _, _, h⟩ | h <;> simp [h, reid]
section
variable {w0 w : World}
theorem HeldAt.adopt {G G' : Gh} {p0 : Nat → Option Obj} {val : Nat → AV} {cs : List AV} {u : Value} {b b' : Nat} (hR : ∀ {x : AV} {v : Value}, R G x v → R G' x v) (hp : G'.p = fun x => if x = b' then none else G.p x) (hne : b ≠ b') (h : HeldAt w0 p0 G val cs u b) : HeldAt w0 p0 G' val cs u b := by
  obtain ⟨o, h1, h2, h3, h4⟩ := h
  refine ⟨o, by rw [hp]; simp [hne, h1], h2, h3, ?_⟩
  rcases h4 with ⟨cur, T, k1, k2, k3, k4⟩ | h4
  · exact .inl ⟨cur, T, k1, k2, fun j hj => ⟨hR (k3 j hj).1, (k3 j hj).2⟩, k4⟩
  · exact .inr h4
theorem adopt_all [Inhabited TieT] (G0 : Gh) : ∀ (L : List (List AV × (Nat → AV) × Value × Nat)) (Mc : MS) (G : Gh), Inv w0 G Mc w → Gle G0 G → (∀ r ∈ L, HeldAt w0 G0.p G r.2.1 r.1 r.2.2.1 r.2.2.2) → (L.map (·.2.2.2)).Nodup →
    ∃ G', Gle G0 G' ∧ (∀ {x : AV} {v : Value}, R G x v → R G' x v) ∧ Inv w0 G' (Mc ++ L.map fun r => some r.1) w ∧ (∀ (j : Nat) (r : List AV × (Nat → AV) × Value × Nat), L[j]? = some r → R G' (r.2.1 (Mc.length + j)) r.2.2.1) ∧ G'.d = G.d ∧ G'.c = G.c
  | [], Mc, G, HI, hG, _, _ => ⟨G, hG, fun h => h, by simpa using HI, fun j r h => by simp at h, rfl, rfl⟩
  | r :: L, Mc, G, HI, hG, hH, hn => by
    simp only [List.map_cons, List.nodup_cons] at hn
    have hr := hH r (by simp)
    obtain ⟨G1, k1, k2, k3, k4, k5, k6, k7, ⟨y, k8⟩, k9⟩ := HI.adopt hr
    have hp0 : G0.p r.2.2.2 = none := by obtain ⟨_, _, _, h3, _⟩ := hr; exact h3
    have hle : Gle G0 G1 := ⟨fun a v ha => by rw [k5]; exact hG.g a v ha, by rw [k8]; have := hG.len; simp; omega, fun id b hid hb => by
        rw [k8, List.getElem?_append_left (Nat.lt_of_lt_of_le hid hG.len)] at hb
        exact hG.m id b hid hb, fun id hid => (k9 id (Nat.lt_of_lt_of_le hid hG.len)).trans (hG.s id hid), fun x hx => by rw [k6]; exact hG.d x hx, by rw [k7]; exact hG.c, fun b o hp => by
        rw [k4]
        simp only
        rw [if_neg (by intro e; rw [e, hp0] at hp; cases hp)]
        exact hG.p b o hp⟩
    obtain ⟨G2, q1, q2, q3, q4, q5, q6⟩ := adopt_all G0 L (Mc ++ [some r.1]) G1 k2 hle (fun q hq => (hH q (by simp [hq])).adopt k1 k4 fun e => hn.1 (by rw [← e]; exact List.mem_map.2 ⟨q, hq, rfl⟩)) hn.2
    refine ⟨G2, q1, fun h => q2 (k1 h), by simpa using q3, fun j q hq => ?_, q5.trans k6, q6.trans k7⟩
    cases j with
    | zero => simp at hq; subst hq; exact q2 k3
    | succ j =>
      have := q4 j q (by simpa using hq)
      simp only [List.length_append, List.length_cons, List.length_nil] at this
      rwa [show Mc.length + (j + 1) = Mc.length + (0 + 1) + j by omega]
end
end Go.Proofs.Ytlcdafidoddefaa.Av
namespace Go.Proofs.Ytlcdafidoddefaa.Av
open Go.RowKit
set_option linter.unusedSimpArgs false
set_option linter.unusedVariables false
theorem free_evI {i : I} (h : i.free = true) (c c' : Call) (b b' : Nat) (M M' : MS) (D D' : List Nat) {env : Env} : evI c b env M D i = evI c' b' env M' D' i := by
  cases i <;> simp only [I.free] at h <;> first | (cases h; done) | rfl
theorem look_atL : ∀ {ps : List (Option Nat × AV)} {L : Nat → Bool} {i t : Nat} {v d : AV}, ps[i]? = some (some t, v) → L i = true → (∀ (j : Nat) (p : Option Nat × AV), i < j → ps[j]? = some p → p.1 = some t → L j = false) → look L ps t d = v
  | [], _, _, _, _, _, h, _, _ => by simp at h
  | p :: ps, L, 0, t, v, d, h, hL, hn => by
    simp at h; subst h
    simp only [look, hL, true_and, if_true]
    exact look_no fun j q hq hqt => hn (j + 1) q (by omega) (by simpa using hq) hqt
  | p :: ps, L, i + 1, t, v, d, h, hL, hn => by
    simp only [look]
    exact look_atL (i := i) (by simpa using h) hL fun j q hj hq hqt => hn (j + 1) q (by omega) (by simpa using hq) hqt
theorem look_lastL : ∀ (L : Nat → Bool) (ps : List (Option Nat × AV)) (t : Nat), (∀ (i : Nat) (p : Option Nat × AV), ps[i]? = some p → p.1 = some t → L i = false) ∨ ∃ (i : Nat) (v : AV), ps[i]? = some (some t, v) ∧ L i = true ∧ ∀ (j : Nat) (p : Option Nat × AV), i < j → ps[j]? = some p → p.1 = some t → L j = false
  | L, [], t => .inl fun i p h => by simp at h
  | L, p :: ps, t => by
    rcases look_lastL (fun k => L (k + 1)) ps t with h | ⟨i, v, h1, hL, h2⟩
    · by_cases hp : p.1 = some t ∧ L 0 = true
      · refine .inr ⟨0, p.2, by simp [← hp.1], hp.2, fun j q hj hq hqt => ?_⟩
        cases j with
        | zero => omega
        | succ j => exact h j q (by simpa using hq) hqt
      · refine .inl fun i q hq hqt => ?_
        cases i with
        | zero =>
          simp at hq; subst hq
          cases hL : L 0 with
          | false => rfl
          | true => exact absurd ⟨hqt, hL⟩ hp
        | succ i => exact h i q (by simpa using hq) hqt
    · refine .inr ⟨i + 1, v, by simpa using h1, hL, fun j q hj hq hqt => ?_⟩
      cases j with
      | zero => omega
      | succ j => exact h2 j q (by omega) (by simpa using hq) hqt
theorem look_eq : ∀ {ps qs : List (Option Nat × AV)} {L : Nat → Bool} {t : Nat} {d : AV}, ps.map (·.1) = qs.map (·.1) → (∀ (i : Nat) (p q : Option Nat × AV), ps[i]? = some p → qs[i]? = some q → p.1 = some t → L i = true → p.2 = q.2) → look L ps t d = look L qs t d
  | [], [], _, _, _, _, _ => rfl
  | [], q :: qs, _, _, _, h, _ => by simp at h
  | p :: ps, [], _, _, _, h, _ => by simp at h
  | p :: ps, q :: qs, L, t, d, h, hv => by
    simp only [List.map_cons, List.cons.injEq] at h
    simp only [look]
    rw [look_eq (ps := ps) (qs := qs) h.2 fun i p' q' h1 h2 h3 h4 => hv (i + 1) p' q' (by simpa using h1) (by simpa using h2) h3 h4]
    congr 1
    by_cases hc : L 0 = true ∧ p.1 = some t
    · rw [if_pos hc, if_pos ⟨hc.1, by rw [← h.1]; exact hc.2⟩]
      exact hv 0 p q (by simp) (by simp) hc.2 hc.1
    · rw [if_neg hc, if_neg (by rw [← h.1]; exact hc)]
section
variable {P : Program} {w0 : World} {ops : Array Oper} {N : Nat}
theorem order_anyH [Inhabited TieT] {call : Call} (HC : CallB P call) {base n nn : Nat} {ro : Option Nat} {K : Bool} {Q : Exit → Act → World → Prop} {as : List AOp} {M Y : MS} {ks : List Nat} {env env1 env' : Env} {M' : MS} {D D' : List Nat} {G0 : Gh} {sz : Nat} (hord : orderF ops as n = true) (hlen : as.length = ops.size) (hrel : Rel P ops N K as 0)
    {C1 : MS} (hH : evHd call C1.length M (killA M ks) (as.take n) env M [] [] = some (env1, C1, Y, ks)) (hnd : ks.Nodup) (hkc : ks = [] ∨ (as.take n).all (fun o => !o.i.isCall) = true) (hS : evS call base (as.drop n) env1 (killA C1 ks ++ Y) D = some (env', M', D'))
    (hQ : ∀ a' w' G', Gle G0 G' → EnvR G' env' a' → a'.tmps.size = sz → Inv w0 G' M' w' → Q .normal a' w') (hN : N ≤ sz) {a : Act} {w : World} (hasz : a.tmps.size = sz) (HE0 : EnvR G0 env a) (HI0 : Inv w0 G0 M w) :
    wpAnyIn (wideF ro) nn P .any ops Q ops.size (Array.replicate ops.size false) a w := by
  simp only [orderF, Bool.and_eq_true, decide_eq_true_eq] at hord
  obtain ⟨hnsz, hchain, hback, hpairs, hFs, hcalls, hhead⟩ := hord
  obtain ⟨ps, rs, Cf, hp1, hrl, hC0, hCn, hrun, henv1, hY, hks⟩ := evHd_run call C1.length M (killA M ks) _ _ _ _ _ _ _ _ _ hH
  simp only [List.nil_append] at hY hks
  have htl : (as.take n).length = n := by simp; omega
  rw [htl] at hrl
  have hpl : ps.length = n := by
    have := congrArg List.length hp1
    simp only [List.length_map] at this
    omega
  rw [htl] at hCn
  have hrun' : ∀ (i : Nat) (o : AOp), i < n → as[i]? = some o → o.g = none ∧ ∃ v, ps[i]? = some (o.dst, v) ∧
        ((rs[i]? = some none ∧ o.i.isCall = false ∧ Cf (i + 1) = Cf i ∧ evQh (killA M ks) (fun t => look (fun k => decide (k < i)) ps t (env t)) o.i = some v) ∨
         (rs[i]? = some none ∧ o.i.isCall = true ∧ ((Cf (i + 1) = Cf i ∧ evI call (Cf i).length (fun t => look (fun k => decide (k < i)) ps t (env t)) (Cf i) [] o.i = some (.q v)) ∨ evI call (Cf i).length (fun t => look (fun k => decide (k < i)) ps t (env t)) (Cf i) [] o.i = some (.x v (Cf (i + 1)) []))) ∨
         (∃ cs k, rs[i]? = some (some (cs, k)) ∧ o.i.isCall = false ∧ Cf (i + 1) = Cf i ∧ evFr M (killA M ks) (fun t => look (fun k => decide (k < i)) ps t (env t)) (C1.length + ((rs.take i).filterMap id).length) o.i = some (v, cs, k))) := by
    intro i o hi ho
    have := hrun i o (by simp [hi, ho])
    simpa using this
  clear hrun hH
  have hasOf : ∀ i, i < n → ∃ o, as[i]? = some o := fun i hi => ⟨as[i]'(by omega), by simp [show i < as.length by omega]⟩
  -- the memory as calls leave it
  have hCle : ∀ i, i < n → (Cf i).length ≤ (Cf (i + 1)).length ∧ ∀ id : Nat, id < (Cf i).length → (Cf (i + 1))[id]? = (Cf i)[id]? := by
    intro i hi
    obtain ⟨o, ho⟩ := hasOf i hi
    obtain ⟨_, v, _, ⟨_, _, h, _⟩ | ⟨_, hc, ⟨h, _⟩ | h⟩ | ⟨_, _, _, _, h, _⟩⟩ := hrun' i o hi ho
    · rw [h]; exact ⟨Nat.le_refl _, fun _ _ => rfl⟩
    · rw [h]; exact ⟨Nat.le_refl _, fun _ _ => rfl⟩
    · exact call_frame HC.frame hc h
    · rw [h]; exact ⟨Nat.le_refl _, fun _ _ => rfl⟩
  have hCmono : ∀ d i, i + d ≤ n → (Cf i).length ≤ (Cf (i + d)).length ∧ ∀ id : Nat, id < (Cf i).length → (Cf (i + d))[id]? = (Cf i)[id]? := by
    intro d
    induction d with
    | zero => intro i _; exact ⟨Nat.le_refl _, fun _ _ => rfl⟩
    | succ d ih =>
      intro i hi
      obtain ⟨h1, h2⟩ := ih i (by omega)
      obtain ⟨h3, h4⟩ := hCle (i + d) (by omega)
      exact ⟨by rw [show i + (d + 1) = i + d + 1 by omega]; omega, fun id hid => by
        rw [show i + (d + 1) = i + d + 1 by omega, h4 id (by omega), h2 id hid]⟩
  have hCsame : ∀ d i, i + d ≤ n → (∀ j o, i ≤ j → j < i + d → as[j]? = some o → o.i.isCall = false) → Cf (i + d) = Cf i := by
    intro d
    induction d with
    | zero => intro i _ _; rfl
    | succ d ih =>
      intro i hi hno
      obtain ⟨o, ho⟩ := hasOf (i + d) (by omega)
      have hoc := hno (i + d) o (by omega) (by omega) ho
      have := ih i (by omega) fun j o h1 h2 h3 => hno j o h1 (by omega) h3
      obtain ⟨_, v, _, ⟨_, _, h, _⟩ | ⟨_, hc, _⟩ | ⟨_, _, _, _, h, _⟩⟩ := hrun' (i + d) o (by omega) ho
      · rw [show i + (d + 1) = i + d + 1 by omega, h]; exact this
      · rw [hoc] at hc; cases hc
      · rw [show i + (d + 1) = i + d + 1 by omega, h]; exact this
  have hMC : ∀ j, j ≤ n → M.length ≤ (Cf j).length ∧ ∀ id : Nat, id < M.length → (Cf j)[id]? = M[id]? := by
    intro j hj
    have := hCmono j 0 (by omega)
    rw [Nat.zero_add, hC0] at this
    exact this
  have hkcall : ∀ {i : Nat} {o : AOp}, i < n → as[i]? = some o → o.i.isCall = true → ks = [] := by
    intro i o hi ho hc
    rcases hkc with h | h
    · exact h
    · have := List.all_eq_true.1 h o (List.mem_of_getElem? (i := i) (by simp [hi, ho]))
      simp [hc] at this
  -- the head's values, what was laid hidden
  obtain ⟨psA, hpsA⟩ : ∃ psA, psA = (ps.zip rs).map (fun p : (Option Nat × AV) × Option FR => (p.1.1, if p.2.isSome then AV.any else p.1.2)) := ⟨_, rfl⟩
  have hAl : psA.length = n := by rw [hpsA]; simp [hpl, hrl]
  have hA : ∀ (i : Nat) (d : Option Nat) (v : AV) (r : Option FR), ps[i]? = some (d, v) → rs[i]? = some r → psA[i]? = some (d, if r.isSome then .any else v) := by
    intro i d v r h1 h2
    have hz : (ps.zip rs)[i]? = some ((d, v), r) := List.getElem?_zip_eq_some.2 ⟨h1, h2⟩
    rw [hpsA, List.getElem?_map, hz]
    rfl
  have hAi : ∀ (i : Nat) (p : Option Nat × AV), psA[i]? = some p → i < n ∧ ∃ ao v r, as[i]? = some ao ∧ ps[i]? = some (ao.dst, v) ∧ rs[i]? = some r ∧ p = (ao.dst, if r.isSome then .any else v) := by
    intro i p hp
    have hi : i < n := by rw [← hAl]; exact (List.getElem?_eq_some_iff.1 hp).1
    obtain ⟨ao, hao⟩ := hasOf i hi
    obtain ⟨_, v, h1, h2⟩ := hrun' i ao hi hao
    obtain ⟨r, hr⟩ : ∃ r, rs[i]? = some r := ⟨rs[i]'(by omega), by simp [show i < rs.length by omega]⟩
    have := hA i _ _ _ h1 hr
    rw [hp] at this
    exact ⟨hi, ao, v, r, hao, h1, hr, Option.some.inj this⟩
  -- the laying ones
  have hFn : ∀ {i j : Nat} {x y : AOp}, i < n → j < n → as[i]? = some x → as[j]? = some y → x.i.isF = true → x.dst.isSome = true ∧ (j ≠ i → apartF x y = true) := by
    intro i j x y hi hj hx hy hF
    have h1 := List.all_eq_true.1 hFs i (List.mem_range.2 hi)
    simp only [hx, hF, Bool.not_true, Bool.false_or, Bool.and_eq_true] at h1
    refine ⟨h1.1, fun hne => ?_⟩
    have h2 := List.all_eq_true.1 h1.2 j (List.mem_range.2 hj)
    simpa [hne, hy] using h2
  have hrF : ∀ {i : Nat} {ao : AOp} {x : FR}, i < n → as[i]? = some ao → rs[i]? = some (some x) → ao.i.isF = true := by
    intro i ao x hi hao hx
    obtain ⟨_, v, _, h | h | ⟨cs, k, h1, _, _, h2⟩⟩ := hrun' i ao hi hao
    · rw [h.1] at hx; cases hx
    · rw [h.1] at hx; cases hx
    · obtain ⟨_, _, _, _, hf, _⟩ := evFr_evI (Mt := M) h2 (fun id cs hM => by
        by_cases hm : id ∈ ks
        · have hl : id < M.length := by rw [← killA_len ks M]; exact (List.getElem?_eq_some_iff.1 hM).1
          rw [(killA_get ks M id).2 hm hl] at hM; cases hM
        · rw [(killA_get ks M id).1 hm] at hM; exact hM) (fun _ _ => rfl)
      exact hf
  have sunk : ∀ (listed : Array Bool), (∀ j oj, ops[j]? = some oj → listed.getD j false = true → ∀ e ∈ oj.after, Region.binds .any e = true → listed.getD e.on false = true) →
      ∀ n, (∀ oj, ops[n]? = some oj → ∀ e ∈ oj.after, Region.binds .any e = true → listed.getD e.on false = true) → ∀ f i, sunkB ops n f i = true → listed.getD i false = true := by
    intro listed hcl n hn f
    induction f with
    | zero => intro i h; simp [sunkB] at h
    | succ f ih =>
      intro i h
      simp only [sunkB, List.any_eq_true, List.mem_range, Bool.and_eq_true, decide_eq_true_eq, Bool.or_eq_true] at h
      obtain ⟨j, _, _, hw, hj⟩ := h
      obtain ⟨oj, hoj, e, he, hb, hon⟩ := waitsB_inv hw
      rcases hj with rfl | hj
      · rw [← hon]; exact hn oj hoj e he hb
      · rw [← hon]; exact hcl j oj hoj (ih j hj) e he hb
  have dOf : ∀ (i : Nat) (v : AV) (d : Nat), ps[i]? = some (some d, v) → ((ps[i]?).bind (·.1)).getD 0 = d ∧ ((ps[i]?).map (·.2)).getD .any = v := fun i v d h => by rw [h]; exact ⟨rfl, rfl⟩
  have hdsA : psA.map (·.1) = ps.map (·.1) := by
    apply List.ext_getElem?
    intro i
    rw [List.getElem?_map, List.getElem?_map]
    rcases Nat.lt_or_ge i n with hi | hi
    · obtain ⟨ao, hao⟩ := hasOf i hi
      obtain ⟨_, v, h1, _⟩ := hrun' i ao hi hao
      obtain ⟨r, hr⟩ : ∃ r, rs[i]? = some r := ⟨rs[i]'(by omega), by simp [show i < rs.length by omega]⟩
      rw [hA i _ _ _ h1 hr, h1]; rfl
    · rw [List.getElem?_eq_none (by omega), List.getElem?_eq_none (by omega)]
  -- what stays in the head when the tail begins: instructions that read no memory
  have hnf : ∀ (i : Nat) (o : AOp), i < n → as[i]? = some o → o.i.free = false → (n = ops.size ∨ sunkB ops n (n + 1) i = true) := by
    intro i o hi ho hf
    have h := hhead
    simp only [headB, Bool.or_eq_true, decide_eq_true_eq] at h
    rcases h with h | h
    · exact .inl h
    · have h1 := List.all_eq_true.1 h i (List.mem_range.2 hi)
      simp only [Bool.or_eq_true, Bool.and_eq_true] at h1
      rcases h1 with h1 | h1
      · exact .inr h1
      · have := h1.1
        simp only [freeA, ho] at this
        rw [hf] at this; cases this
  have hFf : ∀ {i : I}, i.isF = true → i.free = false := by
    intro i h
    cases i <;> simp [I.isF] at h <;> rfl
  have hcf : ∀ {i : I}, i.isCall = true → i.free = false := by
    intro i h
    cases i <;> simp [I.isCall] at h <;> rfl
  obtain ⟨p2, Ms, hp2, hM0, hMl, hr2, he2⟩ := evS_run call base _ _ _ _ _ _ _ hS
  have hl2 : p2.length = ops.size - n := by
    have := congrArg List.length hp2
    simp only [List.length_map, List.length_drop] at this
    omega
  obtain ⟨pf, hpf⟩ : ∃ pf, pf = ps ++ p2 := ⟨_, rfl⟩
  have hpfl : pf.length = ops.size := by rw [hpf, List.length_append]; omega
  have hps' : ∀ {i : Nat} {p : Option Nat × AV}, pf[i]? = some p → ∃ ao, as[i]? = some ao ∧ p.1 = ao.dst ∧ i < ops.size := by
    intro i p hp
    have hi : i < ops.size := by rw [← hpfl]; exact (List.getElem?_eq_some_iff.1 hp).1
    have h1 : (pf.map (·.1))[i]? = some p.1 := by simp [hp]
    have h2 : pf.map (·.1) = as.map (·.dst) := by
      rw [hpf, List.map_append, hp1, hp2, ← List.map_append, List.take_append_drop]
    rw [h2] at h1
    simp only [List.getElem?_map, Option.map_eq_some_iff] at h1
    obtain ⟨ao, h2, h3⟩ := h1
    exact ⟨ao, h2, h3.symm, hi⟩
  have hrunS : ∀ i o, n ≤ i → as[i]? = some o → ∃ v, pf[i]? = some (o.dst, v) ∧ stepS call base (Ms (i - n)).1 (Ms (i - n)).2 o (fun t => look (fun k => decide (k < i)) pf t (env t)) = some (v, Ms (i - n + 1)) := by
    intro i o hi ho
    obtain ⟨v, h1, h2⟩ := hr2 (i - n) o (by rw [List.getElem?_drop, show n + (i - n) = i by omega]; exact ho)
    refine ⟨v, by rw [hpf, List.getElem?_append_right (by omega), hpl]; exact h1, ?_⟩
    rw [← h2]
    refine stepS_congr fun t _ => ?_
    rw [hpf, look_app, henv1 t]
    rw [look_congr (L := fun k => decide (k < i)) (L' := fun _ => true) (ps := ps)]
    · refine look_congr fun k p _ _ => ?_
      rw [hpl]; simp; omega
    · intro k p hp _
      have : k < ps.length := (List.getElem?_eq_some_iff.1 hp).1
      simp; omega
  have henv' : ∀ t, env' t = look (fun _ => true) pf t (env t) := by
    intro t; rw [he2 t, hpf, look_app, henv1 t]
  have finish : ∀ (f : Nat) (todo : List Nat) (listed : Array Bool) (a : Act) (w : World) (G : Gh) (Mt : MS) (bk : Nat → Nat) (jc : Nat), todo.length = f → todo.Nodup → (∀ k, k ∈ todo ↔ (k < ops.size ∧ listed.getD k true = false)) → (∀ k, k < n → (n = ops.size ∨ sunkB ops n (n + 1) k = true) → listed.getD k false = true) → (∀ k, n ≤ k → k < ops.size → listed.getD k true = false) → listed.size = ops.size →
      (∀ j oj, ops[j]? = some oj → listed.getD j false = true → ∀ e ∈ oj.after, Region.binds .any e = true → listed.getD e.on false = true) →
      Gle G0 G → a.tmps.size = sz → EnvR G (fun t => look (fun k => listed.getD k false) psA t (env t)) a → Inv w0 G Mt w →
      jc ≤ n → (∀ i o, i < n → as[i]? = some o → o.i.isCall = true → (listed.getD i false = true ↔ i < jc)) → Mt.length = (Cf jc).length → (∀ id : Nat, id ∉ ks → Mt[id]? = (Cf jc)[id]?) → (∀ (i x : Nat) (cs : List AV), rs[i]? = some (some (cs, some x)) → Mt[x]? = if listed.getD i false = true then some none else M[x]?) →
      (∀ (i : Nat) (cs : List AV) (k : Option Nat), rs[i]? = some (some (cs, k)) → listed.getD i false = true → ∃ (d : Nat) (v : AV), ps[i]? = some (some d, v) ∧ reid v (C1.length + ((rs.take i).filterMap id).length) = v ∧ HeldAt w0 G0.p G (reid v) cs (a.tmps.getD d undef) (bk i)) →
      (∀ (i j : Nat) (x y : FR), rs[i]? = some (some x) → rs[j]? = some (some y) → listed.getD i false = true → listed.getD j false = true → i ≠ j → bk i ≠ bk j) → wpAnyIn (wideF ro) nn P .any ops Q f listed a w := by
    intro f todo listed a w G Mt bk jc hl hnd' hin hall0 htail hsz hclosed hG hasz HE HI hjc hjl hMl' hM1 hM2 hHd hbk
    have hlt : ∀ {i : Nat} {r : Option FR}, rs[i]? = some r → i < n := fun h => by have := (List.getElem?_eq_some_iff.1 h).1; omega
    have hall : ∀ {i : Nat} {x : FR}, rs[i]? = some (some x) → listed.getD i false = true := fun {i x} h => by
      obtain ⟨ao, hao⟩ := hasOf i (hlt h)
      exact hall0 i (hlt h) (hnf i ao (hlt h) hao (hFf (hrF (hlt h) hao h)))
    have hCj : Cf jc = C1 := by
      rw [← hCn]
      have := hCsame (n - jc) jc (by omega) fun j o h1 h2 h3 => by
        cases hc : o.i.isCall with
        | false => rfl
        | true => have := (hjl j o (by omega) h3 hc).1 (hall0 j (by omega) (hnf j o (by omega) h3 (hcf hc))); omega
      rw [show jc + (n - jc) = n by omega] at this
      exact this.symm
    rw [hCj] at hMl' hM1
    obtain ⟨h, hh⟩ : ∃ h : Nat → FR → List AV × (Nat → AV) × Value × Nat, h = fun i x => (x.1, reid (((ps[i]?).map (·.2)).getD .any), a.tmps.getD (((ps[i]?).bind (·.1)).getD 0) undef, bk i) := ⟨_, rfl⟩
    have hhd : ∀ (i : Nat) (x : FR), rs[i]? = some (some x) → ∃ (d : Nat) (v : AV), ps[i]? = some (some d, v) ∧ reid v (C1.length + ((rs.take i).filterMap id).length) = v ∧ h i x = (x.1, reid v, a.tmps.getD d undef, bk i) ∧ HeldAt w0 G0.p G (reid v) x.1 (a.tmps.getD d undef) (bk i) := by
      intro i x hx
      obtain ⟨d, v, h1, h2, h3⟩ := hHd i x.1 x.2 hx (hall hx)
      obtain ⟨e1, e2⟩ := dOf i v d h1
      exact ⟨d, v, h1, h2, by rw [hh]; simp only [e1, e2], h3⟩
    obtain ⟨G', q1, q2, q3, q4, q5, q6⟩ := adopt_all G0 (recs h rs 0) Mt G HI hG (fun r hr => by
      obtain ⟨j, x, hx, rfl⟩ := recs_mem rs 0 r hr
      obtain ⟨d, v, h1, h2, h3, h4⟩ := hhd j x hx
      rw [Nat.zero_add, h3]; exact h4) (recs_nodup (bk := bk) (fun i x => by rw [hh]) rs 0 fun j j' x x' h1 h2 h3 => by
        rw [Nat.zero_add, Nat.zero_add]
        exact hbk j j' x x' h1 h2 (hall h1) (hall h2) h3)
    have hMt : Mt = killA C1 ks := by
      apply List.ext_getElem?
      intro j
      by_cases hj : j ∈ ks
      · rw [hks] at hj
        obtain ⟨i, cs, hi⟩ := fm_mem hj
        have e := hM2 i j cs hi
        rw [hall hi] at e
        simp only [if_true] at e
        have hjl : j < C1.length := by rw [← hMl']; exact (List.getElem?_eq_some_iff.1 e).1
        rw [e, (killA_get ks C1 j).2 (by rw [hks]; exact hj) hjl]
      · rw [hM1 j hj, (killA_get ks C1 j).1 hj]
    have hYr : ((recs h rs 0).map fun r => some r.1) = Y := by
      rw [hY]
      exact recs_map (fun i x => by rw [hh]) rs 0
    rw [hMt, hYr] at q3
    refine order_main (G0 := G0) (base := base) (M := killA C1 ks ++ Y) (D := D) (env := env) (env' := env') (M' := M') (D' := D') HC (fun i => listed.getD i false) hnsz hchain hback hpairs hhead hlen hrel hpfl hps' (fun i o hi ho => ?_) hrunS henv' hM0 hMl hQ hN f todo n listed a w G' hl hnd' hin (Nat.le_refl _) hnsz (fun k hk hks' => ⟨fun _ => hk, fun _ => htail k hk hks'⟩) hsz hclosed q1 hasz ⟨fun t => ?_, ?_, ?_⟩ (by rw [Nat.sub_self, hM0]; exact q3) fun i h => h
    · obtain ⟨hg, v, hpv, hcase⟩ := hrun' i o hi ho
      refine ⟨v, by rw [hpf, List.getElem?_append_left (by omega)]; exact hpv, ?_⟩
      cases hL : listed.getD i false with
      | true => exact .inl rfl
      | false =>
        refine .inr ?_
        have hfr : o.i.free = true := by
          cases hf : o.i.free with
          | true => rfl
          | false => have := hall0 i hi (hnf i o hi ho hf); rw [hL] at this; cases this
        rcases hcase with ⟨_, _, _, hq⟩ | ⟨_, hc, _⟩ | ⟨cs, k, hr, _⟩
        · have hq := evQh_inv hq
          have he : (fun t => look (fun k => decide (k < i)) pf t (env t)) = fun t => look (fun k => decide (k < i)) ps t (env t) := by
            funext t
            rw [hpf, look_app, look_no]
            intro k p _ _; simp; omega
          rw [he]
          unfold stepQ
          rw [hg]
          simp only [wantA]
          rw [free_evI hfr call (fun _ _ _ => none) base 0 _ (killA M ks) [] [], hq]
        · rw [hcf hc] at hfr; cases hfr
        · rw [hFf (hrF hi ho hr)] at hfr; cases hfr
    · have e0 : look (fun k => listed.getD k false) pf t (env t) = look (fun k => listed.getD k false) ps t (env t) := by
        rw [hpf, look_app]
        refine look_no fun k p hp _ => ?_
        have hk : k < p2.length := (List.getElem?_eq_some_iff.1 hp).1
        exact getD_both (htail (k + ps.length) (by omega) (by omega))
      rw [e0]
      rcases look_lastL (fun k => listed.getD k false) ps t with hno | ⟨i, v, hi, hLi, hlast⟩
      · have e1 : look (fun k => listed.getD k false) ps t (env t) = env t := look_no fun i p hp hpt => hno i p hp hpt
        have e2 : look (fun k => listed.getD k false) psA t (env t) = env t := look_no fun i p hp hpt => by
          obtain ⟨_, ao, v, r, _, h1, _, rfl⟩ := hAi i p hp
          exact hno i (ao.dst, v) h1 hpt
        have := HE.t t
        rw [e2] at this
        rw [e1]; exact q2 this
      · have e1 : look (fun k => listed.getD k false) ps t (env t) = v := look_atL hi hLi hlast
        have hin : i < n := by rw [← hpl]; exact (List.getElem?_eq_some_iff.1 hi).1
        obtain ⟨r, hr⟩ : ∃ r, rs[i]? = some r := ⟨rs[i]'(by omega), by simp [show i < rs.length by omega]⟩
        rw [e1]
        cases r with
        | none =>
          have e2 : look (fun k => listed.getD k false) psA t (env t) = v := by
            refine look_atL (by simpa using hA i _ _ _ hi hr) hLi fun j p hj hp => ?_
            obtain ⟨_, ao, v', r', _, h1, _, rfl⟩ := hAi j p hp
            exact hlast j (ao.dst, v') hj h1
          have := HE.t t
          rw [e2] at this
          exact q2 this
        | some x =>
          obtain ⟨d, v', h1, h2, h3, h4⟩ := hhd i x hr
          rw [hi] at h1
          cases h1
          have := q4 _ _ (recs_get (h := h) rs 0 i x hr)
          rw [Nat.zero_add, h3] at this
          simp only [hMl', h2] at this
          exact this
    · refine ⟨HE.d.1, fun x hx => ?_⟩
      obtain ⟨r, h1, h2, h3⟩ := HE.d.2 x hx
      exact ⟨r, h1, by rw [q5]; exact h2, by rw [q6]; exact h3⟩
    · intro r hr
      rw [q5]; rw [q6] at hr; exact HE.c r hr
  have main : ∀ (f : Nat) (todo : List Nat) (listed : Array Bool) (a : Act) (w : World) (G : Gh) (Mt : MS) (bk : Nat → Nat) (jc : Nat), todo.length = f → todo.Nodup → (∀ k, k ∈ todo ↔ (k < ops.size ∧ listed.getD k true = false)) → (∀ k, n ≤ k → k < ops.size → listed.getD k true = false) → listed.size = ops.size →
      (∀ j oj, ops[j]? = some oj → listed.getD j false = true → ∀ e ∈ oj.after, Region.binds .any e = true → listed.getD e.on false = true) →
      Gle G0 G → a.tmps.size = sz → EnvR G (fun t => look (fun k => listed.getD k false) psA t (env t)) a → Inv w0 G Mt w →
      jc ≤ n → (∀ i o, i < n → as[i]? = some o → o.i.isCall = true → (listed.getD i false = true ↔ i < jc)) → Mt.length = (Cf jc).length → (∀ id : Nat, id ∉ ks → Mt[id]? = (Cf jc)[id]?) → (∀ (i x : Nat) (cs : List AV), rs[i]? = some (some (cs, some x)) → Mt[x]? = if listed.getD i false = true then some none else M[x]?) →
      (∀ (i : Nat) (cs : List AV) (k : Option Nat), rs[i]? = some (some (cs, k)) → listed.getD i false = true → ∃ (d : Nat) (v : AV), ps[i]? = some (some d, v) ∧ reid v (C1.length + ((rs.take i).filterMap id).length) = v ∧ HeldAt w0 G0.p G (reid v) cs (a.tmps.getD d undef) (bk i)) →
      (∀ (i j : Nat) (x y : FR), rs[i]? = some (some x) → rs[j]? = some (some y) → listed.getD i false = true → listed.getD j false = true → i ≠ j → bk i ≠ bk j) → wpAnyIn (wideF ro) nn P .any ops Q f listed a w := by
    intro f
    induction f with
    | zero =>
      intro todo listed a w G Mt bk jc hl hnd' hin htail hsz hclosed hG hasz HE HI hjc hjl hMl hM1 hM2 hHd hbk
      have htd : todo = [] := List.eq_nil_of_length_eq_zero hl
      have hall : ∀ k, k < ops.size → listed.getD k true = true := by
        intro k hk
        have h3 : ¬ (k < ops.size ∧ listed.getD k true = false) := by rw [← hin k, htd]; simp
        cases hq : listed.getD k true with
        | true => rfl
        | false => exact absurd ⟨hk, hq⟩ h3
      exact finish 0 todo listed a w G Mt bk jc hl hnd' hin (fun k hk _ => by
        have hks : k < listed.size := by omega
        have := hall k (by omega)
        simpa [Array.getD, hks] using this) htail hsz hclosed hG hasz HE HI hjc hjl hMl hM1 hM2 hHd hbk
    | succ f ih =>
      intro todo listed a w G Mt bk jc hl hnd' hin htail hsz hclosed hG hasz HE HI hjc hjl hMl hM1 hM2 hHd hbk
      by_cases hall : ∀ k, k < n → (n = ops.size ∨ sunkB ops n (n + 1) k = true) → listed.getD k false = true
      · exact finish (f + 1) todo listed a w G Mt bk jc hl hnd' hin hall htail hsz hclosed hG hasz HE HI hjc hjl hMl hM1 hM2 hHd hbk
      obtain ⟨k1, hk1n, hk1s, hk1⟩ : ∃ k, k < n ∧ (n = ops.size ∨ sunkB ops n (n + 1) k = true) ∧ listed.getD k false = false := by
        apply Classical.byContradiction
        intro hne
        refine hall fun k hk hs => ?_
        cases hq : listed.getD k false with
        | true => rfl
        | false => exact absurd ⟨k, hk, hs, hq⟩ hne
      have unl : ∀ k, k < ops.size → listed.getD k false = false → listed.getD k true = false := fun k hk h => by
        have hks : k < listed.size := by omega
        simpa [Array.getD, hks] using h
      obtain ⟨k0, _, ⟨hk0n, hk0u⟩, hk0l⟩ := least (p := fun k => k < ops.size ∧ listed.getD k true = false) (k := k1) ⟨by omega, unl k1 (by omega) hk1⟩
      have hk0r : k0 ∈ Region.ready .any ops listed := by
        refine mem_ready.2 ⟨hk0u, ops[k0], Array.getElem?_eq_getElem hk0n, fun e he hb => ?_⟩
        have hlt := backB_inv hback (o := ops[k0]) (Array.getElem?_eq_getElem hk0n) he hb
        have h3 := hk0l e.on hlt
        have hes : e.on < listed.size := by omega
        cases hq : listed.getD e.on true with
        | true => simpa [Array.getD, hes] using hq
        | false => exact absurd ⟨by omega, hq⟩ h3
      refine ⟨fun hr => (by rw [hr] at hk0r; cases hk0r), fun i hi => ?_⟩
      obtain ⟨hiu, oi, hoi, hiall⟩ := mem_ready.1 hi
      have his : i < ops.size := (Array.getElem?_eq_some_iff.1 hoi).1
      have hLi : listed.getD i false = false := getD_both hiu
      have hin' : i < n := by
        apply Classical.byContradiction
        intro hge
        rcases Nat.lt_or_ge n i with h | h
        · have hc := List.all_eq_true.1 hchain i (List.mem_range.2 his)
          simp only [Bool.or_eq_true, decide_eq_true_eq] at hc
          rcases hc with hc | hc
          · omega
          · obtain ⟨oj, hoj, e, he, hb, hon⟩ := waitsB_inv hc
            rw [hoi] at hoj; cases hoj
            have h3 := hiall e he hb
            rw [hon, getD_both (htail (i - 1) (by omega) (by omega))] at h3; cases h3
        · have hin2 : i = n := by omega
          subst hin2
          rcases hk1s with h2 | h2
          · omega
          · have := sunk listed hclosed _ (fun oj hoj => by rw [hoi] at hoj; cases hoj; exact hiall) _ k1 h2
            rw [hk1] at this; cases this
      obtain ⟨ao, hao⟩ := hasOf i hin'
      obtain ⟨o', ho', hto⟩ := hrel i ao hao
      rw [Nat.zero_add, hoi] at ho'; cases ho'
      obtain ⟨t1, t2, t3, _⟩ := trOp_inv hto
      obtain ⟨hg, v, hpv, hcase⟩ := hrun' i ao hin' hao
      have hwi : ∀ {j : Nat}, waitsB ops i j = true → listed.getD j false = true := by
        intro j hw
        obtain ⟨oj, hoj, e, he, hb, hon⟩ := waitsB_inv hw
        rw [hoi] at hoj; cases hoj
        rw [← hon]; exact hiall e he hb
      have hwj : ∀ {j k : Nat}, waitsB ops j k = true → listed.getD j false = true → listed.getD k false = true := by
        intro j k hw hj
        obtain ⟨oj, hoj, e, he, hb, hon⟩ := waitsB_inv hw
        rw [← hon]; exact hclosed j oj hoj hj e he hb
      have before : ∀ {j : Nat} {aj : AOp}, as[j]? = some aj → j < i → apartA aj ao = false → listed.getD j false = true := by
        intro j aj haj hji hap
        rcases pairsB_inv hpairs hji hin' haj hao with hw | hw
        · exact hwi hw
        · rw [hap] at hw; cases hw
      have behind : ∀ {j : Nat} {aj : AOp}, as[j]? = some aj → i < j → j < n → apartA ao aj = false → listed.getD j false = false := by
        intro j aj haj hji hjn hap
        cases hq : listed.getD j false with
        | false => rfl
        | true =>
          rcases pairsB_inv hpairs hji hjn hao haj with hw | hw
          · have := hwj hw hq; rw [hLi] at this; cases this
          · rw [hap] at hw; cases hw
      have hagree : ∀ t ∈ ao.reads, look (fun k => listed.getD k false) psA t (env t) = look (fun k => decide (k < i)) ps t (env t) := by
        intro t ht
        rw [look_eq (qs := ps) hdsA fun j p q hp hq hpt hL => ?_]
        · refine look_congr fun j p hp hpt => ?_
          have hjn : j < n := by rw [← hpl]; exact (List.getElem?_eq_some_iff.1 hp).1
          obtain ⟨aj, haj⟩ := hasOf j hjn
          obtain ⟨_, vj, hpj, _⟩ := hrun' j aj hjn haj
          rw [hp] at hpj; cases hpj
          rcases Nat.lt_trichotomy j i with h | h | h
          · rw [before haj h]
            · simp [h]
            · cases hq : apartA aj ao with
              | false => rfl
              | true => exact absurd ht ((apartA_inv hq).1 t hpt).1
          · subst h; rw [hLi]; simp
          · rw [behind haj h hjn]
            · simp; omega
            · cases hq : apartA ao aj with
              | false => rfl
              | true => exact absurd ht ((apartA_inv hq).2 t hpt)
        · obtain ⟨hjn, aj, vj, r, haj, hpj, hrj, rfl⟩ := hAi j p hp
          rw [hpj] at hq; cases hq
          cases r with
          | none => rfl
          | some x =>
            exfalso
            have hji : i ≠ j := fun e => by subst e; rw [hLi] at hL; cases hL
            have hF := hrF hjn haj hrj
            exact (apartF_inv ((hFn hjn hin' haj hao hF).2 hji) t hpt).1 ht
      have hd : ∀ t, oi.dst = some t → t < a.tmps.size := fun t htt => Nat.lt_of_lt_of_le (t3 t htt) (by omega)
      have hpsz : ∀ v, (a.put oi.dst v).tmps.size = a.tmps.size := fun v => by cases oi.dst <;> simp [Act.put]
      have hils : i < listed.size := by omega
      have hlook : ∀ vA, psA[i]? = some (ao.dst, vA) → ∀ t, look (fun k => (listed.setIfInBounds i true).getD k false) psA t (env t) = updO (fun t => look (fun k => listed.getD k false) psA t (env t)) ao.dst vA t := by
        intro vA hpA t
        have e1 : look (fun k => (listed.setIfInBounds i true).getD k false) psA t (env t) = look (fun k => if k = i then true else listed.getD k false) psA t (env t) := by
          refine look_congr fun j p _ _ => ?_
          by_cases hji : j = i
          · subst hji; simp [hils]
          · rw [getD_set_ne false (Ne.symm hji)]; simp [hji]
        rw [e1, look_put hpA, upd_if]
        intro hpt j q hij hq hqt
        obtain ⟨hjn, aj, vj, r, haj, hpj, hrj, rfl⟩ := hAi j q hq
        refine behind haj hij hjn ?_
        cases hqq : apartA ao aj with
        | false => rfl
        | true => exact absurd hqt ((apartA_inv hqq).1 t hpt).2
      have next : ∀ (vA : AV), psA[i]? = some (ao.dst, vA) → ∀ (u : Value) (w' : World) (G' : Gh) (Mt' : MS) (bk' : Nat → Nat) (jc' : Nat), Gle G G' → R G' vA u → Inv w0 G' Mt' w' → jc' ≤ n → (∀ l o, l < n → as[l]? = some o → o.i.isCall = true → ((listed.setIfInBounds i true).getD l false = true ↔ l < jc')) → Mt'.length = (Cf jc').length → (∀ id : Nat, id ∉ ks → Mt'[id]? = (Cf jc')[id]?) →
          (∀ (j x : Nat) (cs : List AV), rs[j]? = some (some (cs, some x)) → Mt'[x]? = if (listed.setIfInBounds i true).getD j false = true then some none else M[x]?) →
          (∀ (j : Nat) (cs : List AV) (k : Option Nat), rs[j]? = some (some (cs, k)) → (listed.setIfInBounds i true).getD j false = true → ∃ (d : Nat) (v : AV), ps[j]? = some (some d, v) ∧ reid v (C1.length + ((rs.take j).filterMap id).length) = v ∧ HeldAt w0 G0.p G' (reid v) cs ((a.put oi.dst u).tmps.getD d undef) (bk' j)) →
          (∀ (j l : Nat) (x y : FR), rs[j]? = some (some x) → rs[l]? = some (some y) → (listed.setIfInBounds i true).getD j false = true → (listed.setIfInBounds i true).getD l false = true → j ≠ l → bk' j ≠ bk' l) → wpAnyIn (wideF ro) nn P .any ops Q f (listed.setIfInBounds i true) (a.put oi.dst u) w' := by
        intro vA hpA u w' G' Mt' bk' jc' hG' hu HI' j1 j2 m1 m2 m3 m4 m5
        refine ih (todo.erase i) (listed.setIfInBounds i true) _ w' G' Mt' bk' jc' ?_ (hnd'.erase i) (fun k => ?_) (fun k hk hk2 => ?_) (by simpa using hsz) (fun j oj hj hlj e he hb => ?_) (hG.trans hG') (by rw [hpsz]; exact hasz) ⟨fun t => ?_, (by cases oi.dst <;> exact (HE.mono hG').d), (HE.mono hG').c⟩ HI' j1 j2 m1 m2 m3 m4 m5
        · rw [List.length_erase_of_mem ((hin i).2 ⟨his, hiu⟩), hl]; rfl
        · rw [hnd'.mem_erase_iff, hin k]
          by_cases hki : k = i
          · subst hki; simp [hils]
          · rw [getD_set_ne true (Ne.symm hki)]; simp [hki]
        · rw [getD_set_ne true (by omega)]; exact htail k hk hk2
        · by_cases hji : i = j
          · subst hji
            rw [hoi] at hj; cases hj
            exact getD_set_true (hiall e he hb)
          · rw [getD_set_ne false hji] at hlj
            exact getD_set_true (hclosed j oj hj hlj e he hb)
        · rw [hlook vA hpA t]
          have := ((HE.mono hG').put hu ao.dst (by rw [t2]; exact hd)).t t
          rw [t2] at this ⊢
          exact this
      have hos : ∀ x ∈ ao.i.os, x.ev (fun t => look (fun k => listed.getD k false) psA t (env t)) = x.ev (fun t => look (fun k => decide (k < i)) ps t (env t)) := fun x hx => O.ev_congr fun t ht => hagree t (by
        simp only [AOp.reads, List.mem_append, List.mem_flatMap]
        exact .inl ⟨x, hx, ht⟩)
      have hsub : Sub (killA M ks) Mt := fun id cs hM => by
        by_cases hm : id ∈ ks
        · have hl : id < M.length := by rw [← killA_len ks M]; exact (List.getElem?_eq_some_iff.1 hM).1
          rw [(killA_get ks M id).2 hm hl] at hM; cases hM
        · rw [(killA_get ks M id).1 hm] at hM
          rw [hM1 id hm]; exact ((hMC jc hjc).2 id (List.getElem?_eq_some_iff.1 hM).1).trans hM
      have hset : ∀ {j : Nat}, (listed.setIfInBounds i true).getD j false = true → j ≠ i → listed.getD j false = true := fun h hne => by rwa [getD_set_ne false (Ne.symm hne)] at h
      have hown : ∀ (j : Nat) (d : Nat) (v' : AV) (u : Value) (x : FR), rs[j]? = some (some x) → ps[j]? = some (some d, v') → j ≠ i → (a.put oi.dst u).tmps.getD d undef = a.tmps.getD d undef := by
        intro j d v' u x hx hpj hji
        have hjn : j < n := by rw [← hpl]; exact (List.getElem?_eq_some_iff.1 hpj).1
        obtain ⟨aj, haj⟩ := hasOf j hjn
        obtain ⟨_, vj, hpj', _⟩ := hrun' j aj hjn haj
        rw [hpj] at hpj'
        have hdj : aj.dst = some d := (Prod.mk.inj (Option.some.inj hpj')).1.symm
        have hap := (hFn hjn hin' haj hao (hrF hjn haj hx)).2 (Ne.symm hji)
        have hne := (apartF_inv hap d hdj).2
        rw [t2] at hne
        cases hdo : oi.dst with
        | none => rfl
        | some d' =>
          have : d' ≠ d := fun e => hne (by rw [hdo, e])
          simp [Act.put, Array.getD_eq_getD_getElem?, Array.getElem?_setIfInBounds_ne this]
      unfold wpOpIn
      simp only [hoi]
      have hwt : wantA (fun t => look (fun k => listed.getD k false) psA t (env t)) ao.g = some true := by rw [hg]; rfl
      rw [wantA_R HE hto hwt]
      simp only [if_true]
      have noJ : ao.i.isCall = false → ∀ l o, l < n → as[l]? = some o → o.i.isCall = true → ((listed.setIfInBounds i true).getD l false = true ↔ l < jc) := by
        intro hic l o hl ho hc
        have hli : l ≠ i := fun e => by subst e; rw [hao] at ho; cases ho; rw [hic] at hc; cases hc
        rw [getD_set_ne false (Ne.symm hli)]
        exact hjl l o hl ho hc
      have quiet : ∀ (hrn : rs[i]? = some none) (u : Value) (w' : World) (G' : Gh) (Mt' : MS) (jc' : Nat), Gle G G' → R G' v u → Inv w0 G' Mt' w' → jc' ≤ n → (∀ l o, l < n → as[l]? = some o → o.i.isCall = true → ((listed.setIfInBounds i true).getD l false = true ↔ l < jc')) → Mt'.length = (Cf jc').length → (∀ id : Nat, id ∉ ks → Mt'[id]? = (Cf jc')[id]?) →
          (∀ (j x : Nat) (cs : List AV), rs[j]? = some (some (cs, some x)) → Mt'[x]? = Mt[x]?) → wpAnyIn (wideF ro) nn P .any ops Q f (listed.setIfInBounds i true) (a.put oi.dst u) w' := by
        intro hrn u w' G' Mt' jc' hG' hu HI' j1 j2 m1 m2 m3
        have hpA := hA i _ _ _ hpv hrn
        simp only [Option.isSome_none, Bool.false_eq_true, if_false] at hpA
        refine next v hpA u w' G' Mt' bk jc' hG' hu HI' j1 j2 m1 m2 (fun j x cs hj => ?_) (fun j cs k hj hL => ?_) (fun j l x y hj hl' h1 h2 h3 => ?_)
        · have hji : j ≠ i := fun e => by subst e; rw [hrn] at hj; cases hj
          rw [getD_set_ne false (Ne.symm hji), m3 j x cs hj]; exact hM2 j x cs hj
        · have hji : j ≠ i := fun e => by subst e; rw [hrn] at hj; cases hj
          obtain ⟨d, v', h1, h2, h3⟩ := hHd j cs k hj (hset hL hji)
          exact ⟨d, v', h1, h2, by rw [hown j d v' u _ hj h1 hji]; exact h3.mono hG'⟩
        · have hji : j ≠ i := fun e => by subst e; rw [hrn] at hj; cases hj
          have hli : l ≠ i := fun e => by subst e; rw [hrn] at hl'; cases hl'
          exact hbk j l x y hj hl' (hset h1 hji) (hset h2 hli) h3
      rcases hcase with ⟨hrn, hic, hCi, hq⟩ | ⟨hrn, hic, hev⟩ | ⟨cs, k, hrs, hic0, hCi, hfr⟩
      · rw [← evQh_congr (killA M ks) hos] at hq
        exact evI_wpF (base := base) (D := []) HC HE HI t1 (evI_sub hsub hic (evQh_inv hq)) fun u w' G' hG' hO => quiet hrn u w' G' Mt jc hG' hO.1 hO.2 hjc (noJ hic) hMl hM1 fun _ _ _ _ => rfl
      · have hk0 := hkcall hin' hao hic
        have hks0 : ∀ (j x : Nat) (cs : List AV), rs[j]? ≠ some (some (cs, some x)) := fun j x cs hj => by
          have := fm_of hj
          rw [← hks, hk0] at this; cases this
        -- the calls ahead are done, those behind aren't
        have hbef : ∀ l o, l < n → as[l]? = some o → o.i.isCall = true → (l < i → listed.getD l false = true) ∧ (i < l → listed.getD l false = false) := by
          intro l o hl ho hc
          have sk : ∀ {a b : Nat} {x y : AOp}, a < b → b < n → as[a]? = some x → as[b]? = some y → x.i.isCall = true → y.i.isCall = true → sunkB ops b (b + 1) a = true := by
            intro a b x y hab hb hx hy hcx hcy
            have h1 := List.all_eq_true.1 hcalls b (List.mem_range.2 hb)
            have h2 := List.all_eq_true.1 h1 a (List.mem_range.2 hab)
            simpa [hx, hy, hcx, hcy] using h2
          refine ⟨fun h => ?_, fun h => ?_⟩
          · exact sunk listed hclosed i (fun oj hoj => by rw [hoi] at hoj; cases hoj; exact hiall) _ l (sk h hin' ho hao hc hic)
          · cases hq : listed.getD l false with
            | false => rfl
            | true =>
              have := sunk listed hclosed l (fun oj hoj => hclosed l oj hoj hq) _ i (sk h hl hao ho hic hc)
              rw [hLi] at this; cases this
        have hji : jc ≤ i := by
          rcases Nat.lt_or_ge i jc with h | h
          · have := (hjl i ao hin' hao hic).2 h; rw [hLi] at this; cases this
          · exact h
        have hCji : Cf jc = Cf i := by
          have := hCsame (i - jc) jc (by omega) fun j o h1 h2 h3 => by
            cases hc : o.i.isCall with
            | false => rfl
            | true =>
              have h4 := (hbef j o (by omega) h3 hc).1 (by omega)
              have := (hjl j o (by omega) h3 hc).1 h4
              omega
          rw [show jc + (i - jc) = i by omega] at this
          exact this.symm
        have hMti : Mt = Cf i := by
          apply List.ext_getElem?
          intro id
          rw [hM1 id (by rw [hk0]; simp), hCji]
        have j2 : ∀ l o, l < n → as[l]? = some o → o.i.isCall = true → ((listed.setIfInBounds i true).getD l false = true ↔ l < i + 1) := by
          intro l o hl ho hc
          by_cases hli : l = i
          · subst hli; simp [hils]
          · rw [getD_set_ne false (Ne.symm hli)]
            obtain ⟨b1, b2⟩ := hbef l o hl ho hc
            rcases Nat.lt_trichotomy l i with h | h | h
            · simp [b1 h]; omega
            · exact absurd h hli
            · simp [b2 h]; omega
        have hcg : ∀ X, evI call (Cf i).length (fun t => look (fun k => decide (k < i)) ps t (env t)) (Cf i) [] ao.i = X → evI call (Cf i).length (fun t => look (fun k => listed.getD k false) psA t (env t)) (Cf i) [] ao.i = X := fun X h => by
          rw [evI_congr call _ _ _ hos]; exact h
        rw [hMti] at HI
        rcases hev with ⟨hCe, hev⟩ | hev
        · exact evI_wpF HC HE HI t1 (hcg _ hev) fun u w' G' hG' hO => quiet hrn u w' G' (Cf (i + 1)) (i + 1) hG' hO.1 (by rw [hCe]; exact hO.2) (by omega) j2 rfl (fun _ _ => rfl) fun j x cs hj => absurd hj (hks0 j x cs)
        · exact evI_wpF HC HE HI t1 (hcg _ hev) fun u w' G' hG' hO => quiet hrn u w' G' (Cf (i + 1)) (i + 1) hG' hO.1 hO.2 (by omega) j2 rfl (fun _ _ => rfl) fun j x cs hj => absurd hj (hks0 j x cs)
      · have hpA := hA i _ _ _ hpv hrs
        simp only [Option.isSome_some, if_true] at hpA
        rw [← evFr_congr M (killA M ks) _ hos] at hfr
        have hkM : ∀ x, k = some x → Mt[x]? = M[x]? := fun x hx => by
          subst hx
          rw [hM2 i x cs hrs, hLi]; rfl
        obtain ⟨val, hvo, hvid, hvm, hF, hic, hev⟩ := evFr_evI hfr hsub hkM
        obtain ⟨D1, hev⟩ := hev call base []
        have hclt := evFr_lt hfr HI hsub hkM fun n => ⟨_, HE.t n⟩
        have hkl : (kill1 k Mt).length = Mt.length := by cases k <;> simp [kill1]
        obtain ⟨dd, hdd⟩ : ∃ dd, ao.dst = some dd := Option.isSome_iff_exists.1 (hFn hin' hin' hao hao hF).1
        refine evI_wpF HC HE HI t1 hev fun u w' G' hG' hO => ?_
        obtain ⟨hu, HI'⟩ := hO
        rw [← hkl] at hu
        obtain ⟨G'', b, g1, g2, g3, g4⟩ := Inv.aside hG ⟨w, HI⟩ hG' hkl (fun id cs' hM => by
          cases k with
          | none => exact hM
          | some x =>
            simp only [kill1] at hM
            by_cases he : x = id
            · subst he
              rw [List.getElem?_set_self'] at hM
              cases hx : Mt[x]? with
              | none => simp [hx] at hM
              | some y => simp [hx] at hM
            · rwa [List.getElem?_set_ne he] at hM) (fun j hj => by rw [hkl]; exact hclt j hj) hvo HI' hu hvm
        have hreid : reid v = val := by rw [hvid]; exact reid_val hvo _
        have hkk : ∀ x, k = some x → x ∈ ks := fun x hx => by subst hx; rw [hks]; exact fm_of hrs
        refine next .any hpA u w' G'' (kill1 k Mt) (fun j => if j = i then b else bk j) jc g1 (.any _) g2 hjc (noJ hic0) (by rw [hkl]; exact hMl) (fun id hid => ?_) (fun j x cs' hj => ?_) (fun j cs' k' hj hL => ?_) (fun j l x y hj hl' h1 h2 h3 => ?_)
        · cases k with
          | none => exact hM1 id hid
          | some x =>
            have : x ≠ id := fun e => hid (e ▸ hkk x rfl)
            simp only [kill1]
            rw [List.getElem?_set_ne this]; exact hM1 id hid
        · by_cases hji : j = i
          · subst hji
            rw [hrs] at hj
            cases hj
            obtain ⟨old, ho⟩ := evFr_k hfr
            have hxl : x < Mt.length := by rw [hMl]; exact Nat.lt_of_lt_of_le (List.getElem?_eq_some_iff.1 ho).1 (hMC jc hjc).1
            simp [kill1, hxl, hils]
          · rw [getD_set_ne false (Ne.symm hji), ← hM2 j x cs' hj]
            cases k with
            | none => rfl
            | some z =>
              have : z ≠ x := fun e => hji (by subst e; exact fm_inj (by rw [← hks]; exact hnd) hj hrs)
              simp only [kill1]
              rw [List.getElem?_set_ne this]
        · by_cases hji : j = i
          · subst hji
            rw [hrs] at hj
            cases hj
            refine ⟨dd, v, by rw [← hdd]; exact hpv, by rw [hreid]; exact hvid.symm, ?_⟩
            have hud : (a.put oi.dst u).tmps.getD dd undef = u := by
              have hdo : oi.dst = some dd := by rw [← t2]; exact hdd
              have := hd dd hdo
              rw [hdo]
              simp [Act.put, Array.getD, this]
            rw [hud, hreid]
            simpa using g3
          · obtain ⟨d, v', h1, h2, h3⟩ := hHd j cs' k' hj (hset hL hji)
            exact ⟨d, v', h1, h2, by rw [hown j d v' u _ hj h1 hji]; simp only [hji, if_false]; exact h3.mono g1⟩
        · have nb : ∀ l x, rs[l]? = some (some x) → l ≠ i → listed.getD l false = true → bk l ≠ b := by
            intro l x hx hli hL e
            obtain ⟨d, v', h1, h2, o', h3, _⟩ := hHd l x.1 x.2 hx hL
            rw [g4 _ e] at h3; cases h3
          by_cases hji : j = i
          · subst hji
            have hli : l ≠ j := Ne.symm h3
            simp only [if_true, hli, if_false]
            exact (nb l y hl' hli (hset h2 hli)).symm
          · by_cases hli : l = i
            · subst hli
              simp only [if_true, hji, if_false]
              exact nb j x hj hji (hset h1 hji)
            · simp only [hji, hli, if_false]
              exact hbk j l x y hj hl' (hset h1 hji) (hset h2 hli) h3
  have hr0 : ∀ k, (Array.replicate ops.size false).getD k false = false := fun k => by
    rcases Nat.lt_or_ge k ops.size with h | h
    · simp [Array.getD, h]
    · simp [Array.getD, Nat.not_lt.2 h]
  refine main ops.size (List.range ops.size) (Array.replicate ops.size false) a w G0 M (fun _ => 0) 0 (by simp) List.nodup_range (fun k => ?_) (fun k hk hks => ?_) (by simp) (fun j oj hj hlj => by rw [hr0] at hlj; cases hlj) (Gle.refl G0) hasz ⟨fun t => ?_, HE0.d, HE0.c⟩ HI0 (Nat.zero_le _) (fun i o hi ho hc => by rw [hr0]; simp) (by rw [hC0]) (fun _ _ => by rw [hC0]) (fun i x cs hi => by rw [hr0]; rfl) (fun i cs k hi hL => by rw [hr0] at hL; cases hL) (fun i j x y _ _ hL => by rw [hr0] at hL; cases hL)
  · simp only [List.mem_range]
    constructor
    · intro hk; exact ⟨hk, by simp [Array.getD, hk]⟩
    · intro hk; exact hk.1
  · simp [Array.getD, hks]
  · have e : look (fun k => (Array.replicate ops.size false).getD k false) psA t (env t) = env t := look_no fun i p hp _ => hr0 i
    show R G0 (look (fun k => (Array.replicate ops.size false).getD k false) psA t (env t)) _
    rw [e]; exact HE0.t t
end
end Go.Proofs.Ytlcdafidoddefaa.Av
