/- Every instruction but a call: what the evaluator comes to, the machine's operation does. -/
import Derived.Test.YtopiaiibpacmlaaAv9
import Derived.Lib.ConvBytes
import Derived.Laws.BytesString
namespace Go.Proofs.Ytopiaiibpacmlaa.Av
open Go.RowKit
set_option linter.unusedSimpArgs false
section
variable {P : Program} {w0 w : World} {G : Gh} {M : MS} {env : Env} {a : Act}
theorem alive_m (HI : Inv w0 G M w) {id : Nat} (h : aliveA M id = true) : ∃ b n, G.m[id]? = some (some (b, n)) := by
  unfold aliveA at h
  split at h
  · rename_i cs hM
    exact HI.live id cs hM
  · cases h
def I.isCall : I → Bool
  | .call .. | .calld .. => true
  | _ => false
theorem Does.ofQ {r : Result Next} {out : Out} {v : Value} {z : AV} (HI : Inv w0 G M w) (hr : r = .ok (.value v) w) (ho : out = .q z) (hz : R G z v) : Does w0 G M out r := by
  subst ho; exact .val HI hr hz
theorem evI_does {call : Call} {base : Nat} {D : List Nat} {o : Oper} {i : I} {out : Out} (HE : EnvR G env a) (HI : Inv w0 G M w) (ht : trI P o.op = some i) (hc : i.isCall = false)
    (h : evI call base env M D i = some out) : Does w0 G M out ((execOp a.eval o).run P w) := by
  obtain ⟨dst, op, type, pos, after, guard⟩ := o
  cases op
  case move x =>
    simp only [trI, Option.map_eq_some_iff] at ht
    obtain ⟨x', hx, rfl⟩ := ht
    simp only [evI, Option.some.injEq] at h; subst h
    exact .val HI rfl (trO_R HE hx)
  case assign x =>
    simp only [trI, Option.map_eq_some_iff] at ht
    obtain ⟨x', hx, rfl⟩ := ht
    simp only [evI, Option.some.injEq] at h; subst h
    exact .val HI rfl (trO_R HE hx)
  case pick c x y =>
    simp only [trI] at ht
    split at ht
    · rename_i c' x' y' h1 h2 h3
      cases ht
      simp only [evI] at h
      split at h
      · rename_i b hb
        cases h
        have hcv := trO_R HE h1
        rw [asBool_inv hb] at hcv
        have := hcv.flat_inv
        refine .val HI (v := if b then a.eval x else a.eval y) ?_ ?_
        · simp [execOp, this, Go.asBool]
        · cases b
          · simpa using trO_R HE h3
          · simpa using trO_R HE h2
      · cases h
    · cases ht
  case binOp op t x y ty =>
    simp only [trI] at ht
    split at ht
    · rename_i x' y' h1 h2
      cases ht
      simp only [evI, Option.map_eq_some_iff] at h
      obtain ⟨z, hz, rfl⟩ := h
      obtain ⟨r, hr, hR⟩ := does_bin (P := P) (w := w) (t := t) (ox := x) (oy := y) (trO_R HE h1) (trO_R HE h2) hz
      refine .val HI (v := r) ?_ hR
      simp only [execOp]
      rw [Sem.run_bind, hr]
      rfl
    · cases ht
  case unOp op t x =>
    simp only [trI, Option.map_eq_some_iff] at ht
    obtain ⟨x', hx, rfl⟩ := ht
    simp only [evI, Option.map_eq_some_iff] at h
    obtain ⟨z, hz, rfl⟩ := h
    obtain ⟨r, hr, hR⟩ := does_unop (P := P) (w := w) (trO_R HE hx) hz
    refine .val HI (v := r) ?_ hR
    simp only [execOp]
    rw [Sem.run_bind, hr]
    rfl
  case convert s d x =>
    simp only [trI] at ht
    split at ht
    · rename_i k0 k x' h1 h2 h3
      cases ht
      simp only [evI] at h
      split at h
      · rename_i k1 n hn
        cases h
        have hx := trO_R HE h3
        rw [hn] at hx
        have := hx.flat_inv
        exact .flat HI (by simp [execOp, convert, run_underlying h1, run_underlying h2, this, Conv.intToInt])
      · cases h
    · rename_i x' h1 h2 h3
      cases ht
      simp only [evI] at h
      split at h
      · rename_i n hn
        cases h
        have hx := trO_R HE h3
        rw [hn] at hx
        have := hx.flat_inv
        exact .flat HI (by simp [execOp, convert, run_underlying h1, run_underlying h2, this])
      · cases h
    · rename_i e x' h1 h2 h3
      split at ht
      · rename_i he
        cases ht
        simp only [evI] at h
        split at h
        · rename_i sb hsb
          split at h
          · rename_i hlim
            cases h
            simp only [LIM] at hlim
            have hx := trO_R HE h3
            rw [hsb] at hx
            have e1 := hx.flat_inv
            have hrun := Lib.run_convert_string_bytes (P := P) w s d e sb h1 h2 he
            have hb : Below w.heap.size w (Lib.bytesWorld w e sb) := ⟨rfl, rfl, rfl, by rw [Lib.bytesWorld_size]; omega, fun k hk => Lib.bytesWorld_at_old w e sb k hk⟩
            obtain ⟨k1, k2, k3⟩ := HI.withRow hb (b := w.heap.size) (k := sb.size) (vs := fun j => .int .u8 (sb.data.toList.getD j 0).toNat) (Nat.le_refl _) (fun j hj => ⟨Lib.bytesWorld_cell w e sb j hj, rfl⟩)
            have hge := grownCap_ge w sb.size 0 e
            refine ⟨_, _, _, .inl (by simp only [execOp, e1]; rw [Sem.run_bind, hrun]; rfl), k1, .imm _ _ (.list 1 _ false _ sb.size _ (fun j => .int .u8 (sb.data.toList.getD j 0).toNat) (by omega) (by simp [bytesVals]) hge (grownCap_le_maxLen w sb.size 0 e (by simp [maxLen]; omega)) (fun hh => by cases hh) (fun j hj => k3 j (by simpa [bytesVals] using hj)) fun j hj => ?_), k2⟩
            have hj' : j < sb.data.toList.length := by simpa [bytesVals] using hj
            have e2 : (bytesVals sb)[j] = .flat (.int .u8 (sb.data.toList.getD j 0).toNat) := by
              simp only [bytesVals, List.getElem_map, List.getD, List.getElem?_eq_getElem hj', Option.getD_some]
            rw [e2]
            exact .flat _
          · cases h
        · cases h
      · cases ht
    · rename_i e x' h1 h2 h3
      split at ht
      · rename_i he hs1
        cases ht
        simp only [evI] at h
        split at h
        · rename_i cs n hv hn
          split at h
          · rename_i hnl
            rw [Option.map_eq_some_iff] at h
            obtain ⟨l, hl, rfl⟩ := h
            have hcs := asInts_inv hl
            have hx := trO_R HE h3
            obtain ⟨A, n', c, sx, vs, hux, hlx, hln, hA, hnc, hcm, hcr, hcell⟩ := view_CR HI hx hv
            have hnn : n' = n := by
              unfold lenM at hn
              rw [hv] at hn
              simp only at hn
              rw [hlx] at hn; exact Option.some.inj hn
            subst hnn
            have hvs : vs = l.map (Value.int .u8) := by
              have : ∀ {l : List Int} {vs : List Value}, CR G (l.map fun n => AV.flat (.int .u8 n)) vs → vs = l.map (Value.int .u8) := by
                intro l
                induction l with
                | nil => intro vs h; cases h; rfl
                | cons a l ih => intro vs h; cases h with | cons h1 _ t => rw [ih t, h1.flat_inv]; rfl
              exact this (hcs ▸ hcr)
            have hcl : l.length = n' := by rw [hnl, hcs]; simp
            refine .flat HI ?_
            cases A with
            | none =>
              have h0 := hA rfl
              have : l = [] := List.eq_nil_of_length_eq_zero (by omega)
              subst this
              simp [execOp, hux, run_convert_bytes_string w s d e none n' c h1 he h2, Conv.bytesToString]
            | some ad =>
              have hld := run_loadCells_list (P := P) w ad vs (hcell ad rfl).2
              rw [hvs] at hld
              simp only [List.length_map, hcl] at hld
              have hb := run_bytesToString (P := P) w ad n' c l (by simpa using hld)
              simp only [execOp, hux]
              rw [Sem.run_bind, run_convert_bytes_string w s d e (some ad) n' c h1 he h2, hb]
              rfl
          · cases h
        · cases h
      · cases ht
    · cases ht
  case load t x =>
    simp only [trI] at ht
    split at ht
    · rename_i ag n x' h1 h2 h3
      cases ht
      simp only [evI] at h
      split at h
      · rename_i cs hcs
        rw [Option.map_eq_some_iff] at h
        obtain ⟨z, hz, ho⟩ := h
        obtain ⟨r, hr, hR⟩ := does_load (P := P) h1 h2 HI (trO_R HE h3) hcs hz
        exact .ofQ HI (by simp [execOp, hr]) ho.symm hR
      · cases h
    · cases ht
  case store t x y =>
    simp only [trI] at ht
    split at ht
    · rename_i n x' y' h1 h2 h3
      cases ht
      simp only [evI] at h
      split at h
      · rename_i cs hcs
        split at h
        · rename_i hl
          obtain ⟨w', M', D', G', hr, ho, hG, hI⟩ := does_store (P := P) h1 HI (trO_R HE h2) (trO_R HE h3) hcs hl h
          subst ho
          exact ⟨undef, w', G', .inr ⟨by simp [execOp, hr], rfl⟩, hG, .imm _ _ (.flat _), hI⟩
        · cases h
      · cases h
    · cases ht
  case alloc e =>
    simp only [trI] at ht
    split at ht
    · rename_i n b zs hel
      cases ht
      obtain ⟨inf, z, h1, h2, h3, h4, h5, h6, h7, h8⟩ := elInfo_inv hel
      simp only [evI, Option.some.injEq] at h
      subst h
      have hz := CR.zs (G := G) h8
      obtain ⟨k1, k2, k3⟩ := new_blk (T := e) HI (cur := zs) (cs := zs.map avC1) (by simpa using hz) (by simp)
      refine ⟨.pointer (some ⟨w.heap.size, 0, none⟩), _, _, .inl ?_, k1, ?_, k2⟩
      · simp [execOp, Instr.alloc, zeroValue, typeInfo, h1, h2, newVar, newRow, ← h5]
      · refine .mptr _ _ _ ?_ rfl fun b n hb => ?_
        · have := (List.getElem?_eq_some_iff.1 k3).1; exact this
        · rw [k3] at hb; cases hb; rfl
    · cases ht
  case box e x =>
    simp only [trI] at ht
    split at ht
    · rename_i n x' h1 h2
      cases ht
      simp only [evI] at h
      split at h
      · rename_i cs hcs
        split at h
        · rename_i hl
          cases h
          have hc := cellsOf_CR (trO_R HE h2) hcs
          have hlen := hc.len
          obtain ⟨k1, k2, k3⟩ := new_blk (T := e) HI (cur := (a.eval x).cells.toList) (cs := cs) (by rw [← hlen, List.take_length]; exact hc) (by omega)
          refine ⟨.pointer (some ⟨w.heap.size, 0, none⟩), _, _, .inl ?_, k1, ?_, k2⟩
          · simp [execOp, Instr.box, newVar, newRow]
          · refine .mptr _ _ _ ?_ rfl fun b n hb => ?_
            · have := (List.getElem?_eq_some_iff.1 k3).1; exact this
            · rw [k3] at hb; cases hb; rfl
        · cases h
      · cases h
    · cases ht
  case build t parts =>
    obtain ⟨v, z, hr, ho, hR⟩ := does_build (P := P) (w := w) HE ht h
    exact .ofQ HI (by simp only [execOp]; rw [Sem.run_bind, hr]; rfl) ho hR
  case buildSlice t len parts =>
    obtain ⟨v, w', G', hr, hG, hO⟩ := does_bslice (P := P) HE HI ht h
    exact ⟨v, w', G', .inl (by simp only [execOp]; rw [Sem.run_bind, hr]; rfl), hG, hO⟩
  case makeSlice t l c =>
    simp only [trI] at ht
    split at ht
    · rename_i e l' c' hu h1 h2
      split at ht
      · rename_i n b zs hel
        cases ht
        obtain ⟨inf, z, g1, g2, g3, g4, g5, g6, g7, g8⟩ := elInfo_inv hel
        simp only [evI] at h
        split at h
        · rename_i kl l kc c hl hcc
          split at h
          · rename_i hh
            obtain ⟨h0, hlc, hlim, hby⟩ := hh
            cases h
            have hx := trO_R HE h1; rw [hl] at hx; have e1 := hx.flat_inv
            have hx := trO_R HE h2; rw [hcc] at hx; have e2 := hx.flat_inv
            simp only [LIM] at hlim
            have hr := run_make (P := P) w t e inf z hu g1 g2 kl kc l c h0 hlc (by rw [g4]; omega) (by omega)
            have hmade : (madeCells z.cells (c.toNat * inf.size)) = ((List.replicate c.toNat zs).flatten).toArray := by
              apply Array.ext'
              have := made_eq z.cells (by omega) c.toNat
              rw [g6] at this
              rw [g3]
              unfold madeCells
              rw [g6, this, g5]
            have hz := (CR.zs (G := G) g8).rep l.toNat
            have hzc := (CR.zs (G := G) g8).rep c.toNat
            have hlen1 : ((List.replicate l.toNat (zs.map avC1)).flatten).length = l.toNat * n := by
              have := g6; rw [← Array.length_toList, g5] at this
              simp [List.length_flatten, this]
            have hlen2 : ((List.replicate c.toNat zs).flatten).length = c.toNat * n := by
              have := g6; rw [← Array.length_toList, g5] at this
              simp [List.length_flatten, this]
            have hnc : l.toNat ≤ c.toNat := by omega
            have htk : ((List.replicate c.toNat zs).flatten).take ((List.replicate l.toNat (zs.map avC1)).flatten).length = (List.replicate l.toNat zs).flatten := by
              have e3 : c.toNat = l.toNat + (c.toNat - l.toNat) := by omega
              rw [e3, ← List.replicate_append_replicate, List.flatten_append, ← hz.len]
              exact List.take_left
            obtain ⟨k1, k2, k3⟩ := new_blk (T := e) HI (cur := (List.replicate c.toNat zs).flatten) (cs := (List.replicate l.toNat (zs.map avC1)).flatten) (by rw [htk]; exact hz) (by rw [hlen1, hlen2]; exact Nat.mul_le_mul_right _ hnc)
            rw [hlen2] at k1 k2 k3
            refine ⟨.slice (some ⟨w.heap.size, 0, none⟩) l.toNat c.toNat, _, _, .inl ?_, k1, ?_, k2⟩
            · simp only [execOp, e1, e2]
              rw [Sem.run_bind, hr, hmade]
              rfl
            · refine .ms _ _ _ _ _ _ ?_ ⟨_, _, rfl⟩ g7 fun b' n' hb' => ?_
              · have := (List.getElem?_eq_some_iff.1 k3).1; exact this
              · rw [k3] at hb'; cases hb'
                exact ⟨c.toNat, rfl, hnc, by simp only [maxLen]; omega, by simp, fun hq => by simp at hq; omega⟩
          · cases h
        · cases h
      · cases ht
    · cases ht
  case slice t x lo hi mx =>
    simp only [trI] at ht
    split at ht
    · rename_i e x' lo' hi' mx' hu h1 h2 h3 h4
      rw [Option.map_eq_some_iff] at ht
      obtain ⟨n, hn, rfl⟩ := ht
      simp only [evI] at h
      split at h
      · rename_i cs hcs
        obtain ⟨r, z, hr, ho, hR⟩ := does_slice (P := P) hu hn HI (trO_R HE h1) hcs h (trOo_R HE h2).1 (trOo_R HE h2).2 (trOo_R HE h3).1 (trOo_R HE h3).2 (trOo_R HE h4).1 (trOo_R HE h4).2
        exact .ofQ HI (by simp only [execOp]; rw [Sem.run_bind, hr]; rfl) ho hR
      · cases h
    · rename_i x' lo' hi' hu h1 h2 h3 h4
      cases ht
      have hmx : mx = none := by
        cases mx with
        | none => rfl
        | some m => simp only [trOo, Option.map_eq_some_iff] at h4; obtain ⟨_, _, h5⟩ := h4; cases h5
      subst hmx
      simp only [evI] at h
      split at h
      · rename_i s hs
        split at h
        · rename_i l hh g1 g2
          split at h
          · rename_i hb
            cases h
            have hx := trO_R HE h1; rw [hs] at hx; have e1 := hx.flat_inv
            have hb2 := run_sliceBounds (P := P) (w := w) (G := G) (isS := false) (c := s.size) (mx := none) (vmx := none) (m := s.size) g1 g2 rfl (trOo_R HE h2).1 (trOo_R HE h2).2 (trOo_R HE h3).1 (trOo_R HE h3).2 (fun y hy => by cases hy) (fun _ => rfl) hb.1 hb.2 (Nat.le_refl _) (Nat.le_refl _) (fun hy => by cases hy)
            refine .flat HI ?_
            simp only [execOp, Instr.sliceAt, Sem.run_bind, run_underlying hu, Result.andThen_ok, Instr.slice, e1, Option.map_none, Option.isSome_none, Bool.false_eq_true, if_false, hb2, Sem.run_pure]
          · cases h
        · cases h
      · cases h
    · cases ht
  case fieldAddr s x f =>
    simp only [trI] at ht
    split at ht
    · rename_i fs x' hu h1
      split at ht
      · rename_i fd hf
        split at ht
        · rename_i n hn
          split at ht
          · cases ht
          · rename_i hn0
            cases ht
            have hx := trO_R HE h1
            have hrun : ∀ ad, a.eval x = .pointer (some ad) → (execOp a.eval { dst := dst, op := .fieldAddr s x f, type := type, pos := pos, after := after, guard := guard : Oper }).run P w = .ok (.value (.pointer (some (ad.add fd.offset)))) w := by
              intro ad had
              simp [execOp, Instr.fieldAt, run_underlying hu, hf, had, Instr.sureAddr, fieldPlace, sizeT_run hn, hn0]
            simp only [evI] at h
            split at h
            · rename_i id o hid
              split at h
              · rename_i hal
                cases h
                rw [hid] at hx
                obtain ⟨b, n', hm⟩ := alive_m HI hal
                obtain ⟨ad, he, hR⟩ := mptr_add hx hm fd.offset
                exact .val HI (hrun _ he) hR
              · cases h
            · rename_i y k hy
              cases h
              rw [hy] at hx
              obtain ⟨ad, n', c, _, he⟩ := hx.elem_inv
              rw [he] at hx
              exact .val HI (hrun _ he) (elem_add hx _)
            · cases h
        · cases ht
      · cases ht
    · cases ht
  case field s x f =>
    simp only [trI] at ht
    split at ht
    · rename_i fs x' hu h1
      split at ht
      · rename_i fd hf
        split at ht
        · rename_i ag n hag hn
          split at ht
          · rename_i hone
            cases ht
            have hx := trO_R HE h1
            simp only [evI] at h
            split at h
            · rename_i cs hcs
              rw [hcs] at hx
              obtain ⟨vs, he, hs, hv, hv1⟩ := hx.agg_inv
              split at h
              · rename_i hfit
                cases ag with
                | true =>
                  simp only [if_true, Option.some.injEq] at h
                  subst h
                  refine .val HI (v := .agg (vs.extract fd.offset (fd.offset + n))) ?_ ?_
                  · simp [execOp, Instr.field, run_underlying hu, hf, he, part, isAggT_run hag, sizeT_run hn, asAgg]
                  · have hl : ((cs.drop fd.offset).take n).length = n := by simp; omega
                    have hg : ∀ j, j < n → (vs.extract fd.offset (fd.offset + n)).getD j undef = vs.getD (fd.offset + j) undef := by
                      intro j hj
                      simp only [Array.getD_eq_getD_getElem?, Array.getElem?_extract]
                      rw [if_pos (by omega)]
                    refine .agg _ _ (by rw [hl]; simp; omega) (fun j hj => ?_) fun j hj => ?_
                    · rw [hl] at hj
                      rw [hg j hj]
                      simpa using hv (fd.offset + j) (by omega)
                    · rw [hl] at hj
                      rw [hg j hj]
                      exact hv1 _ (by omega)
                | false =>
                  have hn1 : n = 1 := by simpa using hone
                  subst hn1
                  simp only [Bool.false_eq_true, if_false, Option.map_eq_some_iff] at h
                  obtain ⟨c, hc, rfl⟩ := h
                  have hlt : fd.offset < cs.length := by omega
                  have hcc : cs[fd.offset] = c := by rw [List.getElem?_eq_getElem hlt] at hc; exact Option.some.inj hc
                  have hvv := hv fd.offset hlt
                  rw [hcc] at hvv
                  have hg := getD_some (cur := vs) (j := fd.offset) (by omega)
                  generalize vs.getD fd.offset undef = q at hg hvv
                  refine .val HI (v := q) ?_ hvv
                  simp [execOp, Instr.field, run_underlying hu, hf, he, part, isAggT_run hag, asAgg, hg]
              · cases h
            · cases h
          · cases ht
        · cases ht
      · cases ht
    · cases ht
  case indexAddr t x i =>
    simp only [trI] at ht
    split at ht
    · rename_i e x' i' hu h1 h2
      rw [Option.map_eq_some_iff] at ht
      obtain ⟨n, hn, rfl⟩ := ht
      simp only [evI] at h
      split at h
      · rename_i len j g1 g2
        split at h
        · rename_i hb
          cases h
          obtain ⟨k, hk⟩ := asInt_inv g2
          have hi := trO_R HE h2; rw [hk] at hi; have e1 := hi.flat_inv
          obtain ⟨r, hr, hR⟩ := does_idx (P := P) (k := k) hu hn HI (trO_R HE h1) g1 hb.1 hb.2
          exact .val HI (by simp only [execOp, e1]; rw [Sem.run_bind, hr]; rfl) hR
        · cases h
      · cases h
    · rename_i len e x' i' hu h1 h2
      rw [Option.map_eq_some_iff] at ht
      obtain ⟨n, hn, rfl⟩ := ht
      simp only [evI] at h
      split at h
      · rename_i j g2
        split at h
        · rename_i hb
          obtain ⟨k, hk⟩ := asInt_inv g2
          have hi := trO_R HE h2; rw [hk] at hi; have e1 := hi.flat_inv
          have hx := trO_R HE h1
          split at h
          · rename_i id off hid
            split at h
            · rename_i hal
              cases h
              rw [hid] at hx
              obtain ⟨b, n', hm⟩ := alive_m HI hal
              obtain ⟨ad, he, hR⟩ := mptr_add hx hm (j.toNat * n)
              have hr := does_aidx (P := P) (w := w) (k := k) hu hn he hb.1 hb.2
              exact .val HI (by simp only [execOp, e1]; rw [Sem.run_bind, hr]; rfl) hR
            · cases h
          · rename_i y q hy
            cases h
            rw [hy] at hx
            obtain ⟨ad, n', c, _, he⟩ := hx.elem_inv
            rw [he] at hx
            have hr := does_aidx (P := P) (w := w) (k := k) hu hn he hb.1 hb.2
            exact .val HI (by simp only [execOp, e1]; rw [Sem.run_bind, hr]; rfl) (elem_add hx _)
          · cases h
        · cases h
      · cases h
    · cases ht
  case index t x i =>
    simp only [trI] at ht
    split at ht
    · rename_i x' i' hu h1 h2
      cases ht
      simp only [evI] at h
      split at h
      · rename_i s j g1 g2
        split at h
        · rename_i h0
          split at h
          · rename_i b hb
            cases h
            obtain ⟨k, hk⟩ := asInt_inv g2
            have hi := trO_R HE h2; rw [hk] at hi; have e1 := hi.flat_inv
            have hx := trO_R HE h1; rw [g1] at hx; have e2 := hx.flat_inv
            exact .flat HI (by simp [execOp, Instr.index, asIntOf, run_underlying hu, e1, e2, h0, hb])
          · cases h
        · cases h
      · cases h
    · cases ht
  case extract x i =>
    simp only [trI, Option.map_eq_some_iff] at ht
    obtain ⟨x', hx, rfl⟩ := ht
    have hR := trO_R HE hx
    simp only [evI] at h
    split at h
    · rename_i vs hvs
      rw [Option.map_eq_some_iff] at h
      obtain ⟨c, hc, rfl⟩ := h
      rw [hvs] at hR
      obtain ⟨us, he, hs, hv⟩ := hR.tup_inv
      have hlt : i < vs.length := (List.getElem?_eq_some_iff.1 hc).1
      have hcc : vs[i] = c := (List.getElem?_eq_some_iff.1 hc).2
      have hvv := hv i hlt
      rw [hcc] at hvv
      have hg := getD_some (cur := us) (j := i) (by omega)
      generalize us.getD i undef = q at hg hvv
      exact .val HI (by simp [execOp, Instr.extract, he, hg]) hvv
    · cases h
  case makeFunc fn first caps =>
    cases fn <;> simp only [trI] at ht <;> try (cases ht; done)
    split at ht
    · rename_i f hfirst
      rw [Option.map_eq_some_iff] at ht
      obtain ⟨os, hos, rfl⟩ := ht
      simp only [evI, Option.some.injEq] at h
      subst h
      obtain ⟨h1, h2⟩ := trOs_arr HE hos
      have hf0 : first = #[] := by simpa using hfirst
      subst hf0
      exact .val HI (v := .func (.func f) #[] (caps.map a.eval)) (by simp [execOp, Instr.makeFunc]) (.clo _ _ _ h1 h2)
    · cases ht
  case nilCheck x =>
    simp only [trI, Option.map_eq_some_iff] at ht
    obtain ⟨x', hx, rfl⟩ := ht
    have hR := trO_R HE hx
    simp only [evI] at h
    split at h
    · rename_i id o hid
      split at h
      · rename_i hal
        cases h
        rw [hid] at hR
        obtain ⟨b, n', hm⟩ := alive_m HI hal
        have he := hR.mptr_inv.2.2 b n' hm
        exact .val HI (v := a.eval x) (by simp [execOp, he]) hR
      · cases h
    · rename_i y k hy
      cases h
      rw [hy] at hR
      obtain ⟨ad, n', c, _, he⟩ := hR.elem_inv
      exact .val HI (v := a.eval x) (by simp [execOp, he]) hR
    · cases h
  case call c =>
    obtain ⟨callee, args, argTypes⟩ := c
    simp only [trI] at ht
    split at ht
    · rename_i os hos
      obtain ⟨hl, hr⟩ := trOs_R HE hos
      split at ht
      · cases ht; simp [I.isCall] at hc
      · rw [Option.map_eq_some_iff] at ht
        obtain ⟨_, _, rfl⟩ := ht
        simp [I.isCall] at hc
      · -- len
        rename_i hcal
        split at ht
        · rename_i x e hu
          cases ht
          simp only [evI, Option.map_eq_some_iff] at h
          obtain ⟨n, hn, rfl⟩ := h
          have hargs : args.toList.length = 1 := by simpa using hl.symm
          obtain ⟨ax, hax⟩ : ∃ ax, args = #[ax] := by
            obtain ⟨l⟩ := args
            match l, hargs with
            | [ax], _ => exact ⟨ax, rfl⟩
          subst hax
          have hR : R G (x.ev env) (a.eval ax) := by simpa using hr 0 (by simp)
          obtain ⟨A, c, he⟩ := lenS_R0 hR hn
          cases hat : argTypes[0]? with
          | none => simp [hat] at hu
          | some t =>
            simp only [hat, Option.bind_some] at hu
            exact .flat HI (by simp [execOp, resolve, invoke, builtin, Builtin.len_, hat, run_underlying hu, he, goInt])
        · rename_i x hu
          cases ht
          simp only [evI] at h
          split at h
          · rename_i s hs
            cases h
            have hargs : args.toList.length = 1 := by simpa using hl.symm
            obtain ⟨ax, hax⟩ : ∃ ax, args = #[ax] := by
              obtain ⟨l⟩ := args
              match l, hargs with
              | [ax], _ => exact ⟨ax, rfl⟩
            subst hax
            have hR : R G (x.ev env) (a.eval ax) := by simpa using hr 0 (by simp)
            rw [hs] at hR
            have he := hR.flat_inv
            cases hat : argTypes[0]? with
            | none => simp [hat] at hu
            | some t =>
              simp only [hat, Option.bind_some] at hu
              exact .flat HI (by simp [execOp, resolve, invoke, builtin, Builtin.len_, hat, run_underlying hu, he, goInt])
          · cases h
        · cases ht
      · -- append
        rename_i hcal
        split at ht
        · rename_i s x t u e hat hat1 hu
          split at ht
          · rename_i htu
            subst htu
            split at ht
            · rename_i n b zs hel
              cases ht
              obtain ⟨inf, z, g1, g2, g3, g4, g5, g6, g7, g8⟩ := elInfo_inv hel
              simp only [hat, Option.bind_some] at hu
              obtain ⟨as, ax, hax⟩ : ∃ as ax, args = #[as, ax] := by
                have hargs : args.toList.length = 2 := by simpa using hl.symm
                obtain ⟨l⟩ := args
                match l, hargs with
                | [as, ax], _ => exact ⟨as, ax, rfl⟩
              subst hax
              have hR0 : R G (s.ev env) (a.eval as) := by simpa using hr 0 (by simp)
              have hR1 : R G (x.ev env) (a.eval ax) := by simpa using hr 1 (by simp)
              simp only [evI] at h
              split at h
              · rename_i news m hv hm
                have hsl : ∀ id off len sz cd, s.ev env = .ms id off len sz cd → m = 0 → ∃ cs, M[id]? = some (some cs) := by
                  intro id off len sz cd hs hm0
                  subst hm0
                  simp only [appA, if_true, hs] at h
                  split at h
                  · rename_i hal
                    unfold aliveA at hal
                    split at hal
                    · rename_i cs hM; exact ⟨cs, hM⟩
                    · cases hal
                  · cases h
                obtain ⟨v', w', G', hrun, hG, hO⟩ := does_append (P := P) (ty := type) hu g1 g2 g3 g4 g6 g7 HI hR1 hR0 hv hm hsl h
                refine ⟨v', w', G', .inl ?_, hG, hO⟩
                have hrun' : (Builtin.append_ argTypes type #[a.eval as, a.eval ax]).run P w = .ok v' w' := by
                  have : ∀ T : Array TypeId, T[0]? = some t → T[1]? = some t → Builtin.append_ T type #[a.eval as, a.eval ax] = Builtin.append_ #[t, t] type #[a.eval as, a.eval ax] := by
                    intro T h0 h1
                    unfold Builtin.append_
                    simp only [h0, h1]
                    rfl
                  rw [this argTypes hat hat1]; exact hrun
                simp [execOp, resolve, invoke, builtin, hrun']
              · cases h
            · cases ht
          · cases ht
        · cases ht
      · -- copy
        rename_i hcal
        split at ht
        · rename_i d s e hu
          split at ht
          · rename_i n hn
            split at ht
            · rename_i hpos
              cases ht
              obtain ⟨ad, as, hax⟩ : ∃ ad as, args = #[ad, as] := by
                have hargs : args.toList.length = 2 := by simpa using hl.symm
                obtain ⟨l⟩ := args
                match l, hargs with
                | [ad, as], _ => exact ⟨ad, as, rfl⟩
              subst hax
              have hR0 : R G (d.ev env) (a.eval ad) := by simpa using hr 0 (by simp)
              have hR1 : R G (s.ev env) (a.eval as) := by simpa using hr 1 (by simp)
              simp only [evI] at h
              split at h
              · rename_i id off len sz' cd cs k hd hv hk
                split at h
                · rename_i old hM
                  split at h
                  · rename_i hh
                    obtain ⟨rfl, hI, hfit, hkk⟩ := hh
                    cases h
                    rw [hd] at hR0
                    cases hat : argTypes[0]? with
                    | none => simp [hat] at hu
                    | some t =>
                      simp only [hat, Option.bind_some] at hu
                      obtain ⟨w', hrun, hI'⟩ := does_copy (P := P) (sT := t) (ty := type) hu hn HI hR0 hR1 hv hk hM hfit hkk
                      refine ⟨_, w', G, .inl ?_, Gle.refl G, .imm _ _ (.flat _), hI'⟩
                      have hrun' : (Builtin.copy_ argTypes type #[a.eval ad, a.eval as]).run P w = .ok (.int .i64 (Nat.min k len : Nat)) w' := by
                        have : ∀ T : Array TypeId, T[0]? = some t → Builtin.copy_ T type #[a.eval ad, a.eval as] = Builtin.copy_ #[t, t] type #[a.eval ad, a.eval as] := by
                          intro T h0
                          unfold Builtin.copy_
                          simp only [h0]
                          rfl
                        rw [this argTypes hat]; exact hrun
                      simp [execOp, resolve, invoke, builtin, hrun']
                  · cases h
                · cases h
              · cases h
            · cases ht
          · cases ht
        · cases ht
      · -- clear
        rename_i hcal
        split at ht
        · rename_i x e hu
          split at ht
          · rename_i n b zs hel
            cases ht
            obtain ⟨inf, z, g1, g2, g3, g4, g5, g6, g7, g8⟩ := elInfo_inv hel
            obtain ⟨ax, hax⟩ : ∃ ax, args = #[ax] := by
              have hargs : args.toList.length = 1 := by simpa using hl.symm
              obtain ⟨l⟩ := args
              match l, hargs with
              | [ax], _ => exact ⟨ax, rfl⟩
            subst hax
            have hR : R G (x.ev env) (a.eval ax) := by simpa using hr 0 (by simp)
            cases hat : argTypes[0]? with
            | none => simp [hat] at hu
            | some t =>
              simp only [hat, Option.bind_some] at hu
              simp only [evI] at h
              split at h
              · rename_i sz' nl cd hx
                cases h
                rw [hx] at hR
                refine .flat HI ?_
                rcases RI.list_cases hR.list_inv with ⟨_, _, _, he⟩ | ⟨_, ad, k, c, _, he, h0, h1, _⟩
                · simp [execOp, resolve, invoke, builtin, Builtin.clear_, hat, run_underlying hu, he, undef]
                · have : k = 0 := by rcases Nat.mul_eq_zero.1 h1.symm with h | h; exact h; omega
                  subst this
                  simp [execOp, resolve, invoke, builtin, Builtin.clear_, hat, run_underlying hu, he, undef]
              · rename_i id off len sz' cd hx
                rw [hx] at hR
                split at h
                · rename_i old hM
                  split at h
                  · rename_i hh
                    obtain ⟨rfl, hzl, hfit⟩ := hh
                    obtain ⟨i0, i1, isz, icl⟩ := hR.ms_inv
                    obtain ⟨bb, bn, _, _, hmb, _⟩ := HI.row hM
                    obtain ⟨cc, he, c1, c2, c3, c4⟩ := icl bb bn hmb
                    split at h
                    · rename_i h0
                      cases h
                      subst h0
                      refine .flat HI ?_
                      simp [execOp, resolve, invoke, builtin, Builtin.clear_, hat, run_underlying hu, he, undef]
                    · rename_i h0
                      cases h
                      have hz := (CR.zs (G := G) g8).rep len
                      have hzlen : ((List.replicate len (zs.map avC1)).flatten).length = len * sz' := by
                        simp only [List.length_flatten, List.map_replicate, List.sum_replicate_nat, hzl]
                      obtain ⟨w', hst, hI⟩ := write_cells (P := P) HI hmb hM hz (o := off) (by rw [hzlen]; exact hfit)
                      refine ⟨undef, w', G, .inl ?_, Gle.refl G, .imm _ _ (.flat _), hI⟩
                      have hmade : (Builtin.zeroCells z.cells len).toList = (List.replicate len zs).flatten := by
                        have := made_eq z.cells (by omega) len
                        unfold Builtin.zeroCells
                        rw [this, g5]
                      obtain ⟨len', rfl⟩ : ∃ k, len = k + 1 := ⟨len - 1, by omega⟩
                      simp [execOp, resolve, invoke, builtin, Builtin.clear_, hat, run_underlying hu, he, zeroValue, typeInfo, g1, g2, hmade, hst, undef]
                  · cases h
                · cases h
              · cases h
          · cases ht
        · cases ht
      · -- min
        split at ht
        · rename_i x y
          cases ht
          obtain ⟨ax, ay, hax⟩ : ∃ ax ay, args = #[ax, ay] := by
            have hargs : args.toList.length = 2 := by simpa using hl.symm
            obtain ⟨l⟩ := args
            match l, hargs with
            | [ax, ay], _ => exact ⟨ax, ay, rfl⟩
          subst hax
          have hR0 : R G (x.ev env) (a.eval ax) := by simpa using hr 0 (by simp)
          have hR1 : R G (y.ev env) (a.eval ay) := by simpa using hr 1 (by simp)
          simp only [evI] at h
          split at h
          · rename_i k p k' q hp hq
            split at h
            · rename_i hkk
              subst hkk
              cases h
              rw [hp] at hR0; rw [hq] at hR1
              have e1 := hR0.flat_inv; have e2 := hR1.flat_inv
              exact .flat HI (by simp [execOp, resolve, invoke, builtin, Builtin.min_, Builtin.min2, e1, e2])
            · cases h
          · cases h
        · cases ht
      · split at ht
        · rename_i x y
          cases ht
          obtain ⟨ax, ay, hax⟩ : ∃ ax ay, args = #[ax, ay] := by
            have hargs : args.toList.length = 2 := by simpa using hl.symm
            obtain ⟨l⟩ := args
            match l, hargs with
            | [ax, ay], _ => exact ⟨ax, ay, rfl⟩
          subst hax
          have hR0 : R G (x.ev env) (a.eval ax) := by simpa using hr 0 (by simp)
          have hR1 : R G (y.ev env) (a.eval ay) := by simpa using hr 1 (by simp)
          simp only [evI] at h
          split at h
          · rename_i k p k' q hp hq
            split at h
            · rename_i hkk
              subst hkk
              cases h
              rw [hp] at hR0; rw [hq] at hR1
              have e1 := hR0.flat_inv; have e2 := hR1.flat_inv
              exact .flat HI (by simp [execOp, resolve, invoke, builtin, Builtin.max_, Builtin.max2, e1, e2])
            · cases h
          · cases h
        · cases ht
      · cases ht
    · cases ht
  all_goals (simp [trI] at ht)
end
end Go.Proofs.Ytopiaiibpacmlaa.Av
