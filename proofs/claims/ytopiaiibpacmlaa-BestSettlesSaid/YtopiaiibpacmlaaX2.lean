/- Every instruction but a call: what the evaluator comes to, the machine's operation does. -/
import Derived.Test.YtopiaiibpacmlaaX1
import Derived.Lib.ConvBytes
import Derived.Laws.BytesString
import Derived.Still
import Derived.LoopN
namespace Go.Proofs.Ytopiaiibpacmlaa.Av
open Go.RowKit
set_option linter.unusedSimpArgs false
section
variable {P : Program} {w0 w : World} {G : Gh} {M : MS} {env : Env} {a : Act}
theorem alive_m (HI : Inv w0 G M w) {id : Nat} (h : aliveA M id = true) : ∃ b n, G.m[id]? = some (some (b, n)) := by
  unfold aliveA at h
  split at h
  · rename_i cs hM
    exact HI.live id cs hM
  · cases h
def I.isCall : I → Bool
  | .call .. | .calld .. => true
  | _ => false
theorem Does.ofQ {r : Result Next} {out : Out} {v : Value} {z : AV} (HI : Inv w0 G M w) (hr : r = .ok (.value v) w) (ho : out = .q z) (hz : R G z v) : Does w0 G M out r := by
  subst ho; exact .val HI hr hz
theorem evI_does {call : Call} {base : Nat} {D : List Nat} {o : Oper} {i : I} {out : Out} (HE : EnvR G env a) (HI : Inv w0 G M w) (ht : trI P o.op = some i) (hc : i.isCall = false)
    (h : evI call base env M D i = some out) : Does w0 G M out ((execOp a.eval o).run P w) := by
  obtain ⟨dst, op, type, pos, after, guard⟩ := o
  cases op
  case move x =>
    simp only [trI, Option.map_eq_some_iff] at ht
    obtain ⟨x', hx, rfl⟩ := ht
    simp only [evI, Option.some.injEq] at h; subst h
    exact .val HI rfl (trO_R HE hx)
  case assign x =>
    simp only [trI, Option.map_eq_some_iff] at ht
    obtain ⟨x', hx, rfl⟩ := ht
    simp only [evI, Option.some.injEq] at h; subst h
    exact .val HI rfl (trO_R HE hx)
  case pick c x y =>
    simp only [trI] at ht
    split at ht
    · rename_i c' x' y' h1 h2 h3
      cases ht
      simp only [evI] at h
      split at h
      · rename_i b hb
        cases h
        have hcv := trO_R HE h1
        rw [asBool_inv hb] at hcv
        have := hcv.flat_inv
        refine .val HI (v := if b then a.eval x else a.eval y) ?_ ?_
        · simp [execOp, this, Go.asBool]
        · cases b
          · simpa using trO_R HE h3
          · simpa using trO_R HE h2
      · cases h
    · cases ht
  case binOp op t x y ty =>
    simp only [trI] at ht
    split at ht
    · rename_i x' y' h1 h2
      cases ht
      simp only [evI, Option.map_eq_some_iff] at h
      obtain ⟨z, hz, rfl⟩ := h
      obtain ⟨r, hr, hR⟩ := does_bin (P := P) (w := w) (t := t) (ox := x) (oy := y) (trO_R HE h1) (trO_R HE h2) hz
      refine .val HI (v := r) ?_ hR
      simp only [execOp]
      rw [Sem.run_bind, hr]
      rfl
    · cases ht
  case unOp op t x =>
    simp only [trI, Option.map_eq_some_iff] at ht
    obtain ⟨x', hx, rfl⟩ := ht
    simp only [evI, Option.map_eq_some_iff] at h
    obtain ⟨z, hz, rfl⟩ := h
    obtain ⟨r, hr, hR⟩ := does_unop (P := P) (w := w) (trO_R HE hx) hz
    refine .val HI (v := r) ?_ hR
    simp only [execOp]
    rw [Sem.run_bind, hr]
    rfl
  case convert s d x =>
    simp only [trI] at ht
    split at ht
    · rename_i k0 k x' h1 h2 h3
      cases ht
      simp only [evI] at h
      split at h
      · rename_i k1 n hn
        cases h
        have hx := trO_R HE h3
        rw [hn] at hx
        have := hx.flat_inv
        exact .flat HI (by simp [execOp, convert, run_underlying h1, run_underlying h2, this, Conv.intToInt])
      · cases h
    · rename_i x' h1 h2 h3
      cases ht
      simp only [evI] at h
      split at h
      · rename_i n hn
        cases h
        have hx := trO_R HE h3
        rw [hn] at hx
        have := hx.flat_inv
        exact .flat HI (by simp [execOp, convert, run_underlying h1, run_underlying h2, this])
      · cases h
    · rename_i e x' h1 h2 h3
      split at ht
      · rename_i he
        cases ht
        simp only [evI] at h
        split at h
        · rename_i sb hsb
          split at h
          · rename_i hlim
            cases h
            simp only [LIM] at hlim
            have hx := trO_R HE h3
            rw [hsb] at hx
            have e1 := hx.flat_inv
            have hrun := Lib.run_convert_string_bytes (P := P) w s d e sb h1 h2 he
            have hb : Below w.heap.size w (Lib.bytesWorld w e sb) := ⟨rfl, rfl, rfl, by rw [Lib.bytesWorld_size]; omega, fun k hk => Lib.bytesWorld_at_old w e sb k hk⟩
            obtain ⟨k1, k2, k3⟩ := HI.withRow hb (b := w.heap.size) (k := sb.size) (vs := fun j => .int .u8 (sb.data.toList.getD j 0).toNat) (Nat.le_refl _) (fun j hj => ⟨Lib.bytesWorld_cell w e sb j hj, rfl⟩)
            have hge := grownCap_ge w sb.size 0 e
            refine ⟨_, _, _, .inl (by simp only [execOp, e1]; rw [Sem.run_bind, hrun]; rfl), k1, .imm _ _ (.list 1 _ false _ sb.size _ (fun j => .int .u8 (sb.data.toList.getD j 0).toNat) (by omega) (by simp [bytesVals]) hge (grownCap_le_maxLen w sb.size 0 e (by simp [maxLen]; omega)) (fun hh => by cases hh) (fun j hj => k3 j (by simpa [bytesVals] using hj)) fun j hj => ?_), k2⟩
            have hj' : j < sb.data.toList.length := by simpa [bytesVals] using hj
            have e2 : (bytesVals sb)[j] = .flat (.int .u8 (sb.data.toList.getD j 0).toNat) := by
              simp only [bytesVals, List.getElem_map, List.getD, List.getElem?_eq_getElem hj', Option.getD_some]
            rw [e2]
            exact .flat _
          · cases h
        · cases h
      · cases ht
    · rename_i e x' h1 h2 h3
      split at ht
      · rename_i he hs1
        cases ht
        simp only [evI] at h
        split at h
        · rename_i cs n hv hn
          split at h
          · rename_i hnl
            rw [Option.map_eq_some_iff] at h
            obtain ⟨l, hl, rfl⟩ := h
            have hcs := asInts_inv hl
            have hx := trO_R HE h3
            obtain ⟨A, n', c, sx, vs, hux, hlx, hln, hA, hnc, hcm, hcr, hcell⟩ := view_CR HI hx hv
            have hnn : n' = n := by
              unfold lenM at hn
              rw [hv] at hn
              simp only at hn
              rw [hlx] at hn; exact Option.some.inj hn
            subst hnn
            have hvs : vs = l.map (Value.int .u8) := by
              have : ∀ {l : List Int} {vs : List Value}, CR G (l.map fun n => AV.flat (.int .u8 n)) vs → vs = l.map (Value.int .u8) := by
                intro l
                induction l with
                | nil => intro vs h; cases h; rfl
                | cons a l ih => intro vs h; cases h with | cons h1 _ t => rw [ih t, h1.flat_inv]; rfl
              exact this (hcs ▸ hcr)
            have hcl : l.length = n' := by rw [hnl, hcs]; simp
            refine .flat HI ?_
            cases A with
            | none =>
              have h0 := hA rfl
              have : l = [] := List.eq_nil_of_length_eq_zero (by omega)
              subst this
              simp [execOp, hux, run_convert_bytes_string w s d e none n' c h1 he h2, Conv.bytesToString]
            | some ad =>
              have hld := run_loadCells_list (P := P) w ad vs (hcell ad rfl).2
              rw [hvs] at hld
              simp only [List.length_map, hcl] at hld
              have hb := run_bytesToString (P := P) w ad n' c l (by simpa using hld)
              simp only [execOp, hux]
              rw [Sem.run_bind, run_convert_bytes_string w s d e (some ad) n' c h1 he h2, hb]
              rfl
          · cases h
        · cases h
      · cases ht
    · cases ht
  case load t x =>
    simp only [trI] at ht
    split at ht
    · rename_i ag n x' h1 h2 h3
      cases ht
      simp only [evI] at h
      split at h
      · rename_i cs hcs
        rw [Option.map_eq_some_iff] at h
        obtain ⟨z, hz, ho⟩ := h
        obtain ⟨r, hr, hR⟩ := does_load (P := P) h1 h2 HI (trO_R HE h3) hcs hz
        exact .ofQ HI (by simp [execOp, hr]) ho.symm hR
      · cases h
    · cases ht
  case store t x y =>
    simp only [trI] at ht
    split at ht
    · rename_i n x' y' h1 h2 h3
      cases ht
      simp only [evI] at h
      split at h
      · rename_i cs hcs
        split at h
        · rename_i hl
          obtain ⟨w', M', D', G', hr, ho, hG, hI⟩ := does_store (P := P) h1 HI (trO_R HE h2) (trO_R HE h3) hcs hl h
          subst ho
          exact ⟨undef, w', G', .inr ⟨by simp [execOp, hr], rfl⟩, hG, .imm _ _ (.flat _), hI⟩
        · cases h
      · cases h
    · cases ht
  case alloc e =>
    simp only [trI] at ht
    split at ht
    · rename_i n b zs hel
      cases ht
      obtain ⟨inf, z, h1, h2, h3, h4, h5, h6, h7, h8⟩ := elInfo_inv hel
      simp only [evI, Option.some.injEq] at h
      subst h
      have hz := CR.zs (G := G) h8
      obtain ⟨k1, k2, k3⟩ := new_blk (T := e) HI (cur := zs) (cs := zs.map avC1) (by simpa using hz) (by simp)
      refine ⟨.pointer (some ⟨w.heap.size, 0, none⟩), _, _, .inl ?_, k1, ?_, k2⟩
      · simp [execOp, Instr.alloc, zeroValue, typeInfo, h1, h2, newVar, newRow, ← h5]
      · refine .mptr _ _ _ ?_ rfl fun b n hb => ?_
        · have := (List.getElem?_eq_some_iff.1 k3).1; exact this
        · rw [k3] at hb; cases hb; rfl
    · cases ht
  case box e x =>
    simp only [trI] at ht
    split at ht
    · rename_i n x' h1 h2
      cases ht
      simp only [evI] at h
      split at h
      · rename_i cs hcs
        split at h
        · rename_i hl
          cases h
          have hc := cellsOf_CR (trO_R HE h2) hcs
          have hlen := hc.len
          obtain ⟨k1, k2, k3⟩ := new_blk (T := e) HI (cur := (a.eval x).cells.toList) (cs := cs) (by rw [← hlen, List.take_length]; exact hc) (by omega)
          refine ⟨.pointer (some ⟨w.heap.size, 0, none⟩), _, _, .inl ?_, k1, ?_, k2⟩
          · simp [execOp, Instr.box, newVar, newRow]
          · refine .mptr _ _ _ ?_ rfl fun b n hb => ?_
            · have := (List.getElem?_eq_some_iff.1 k3).1; exact this
            · rw [k3] at hb; cases hb; rfl
        · cases h
      · cases h
    · cases ht
  case build t parts =>
    obtain ⟨v, z, hr, ho, hR⟩ := does_build (P := P) (w := w) HE ht h
    exact .ofQ HI (by simp only [execOp]; rw [Sem.run_bind, hr]; rfl) ho hR
  case buildSlice t len parts =>
    obtain ⟨v, w', G', hr, hG, hO⟩ := does_bslice (P := P) HE HI ht h
    exact ⟨v, w', G', .inl (by simp only [execOp]; rw [Sem.run_bind, hr]; rfl), hG, hO⟩
  case makeSlice t l c =>
    simp only [trI] at ht
    split at ht
    · rename_i e l' c' hu h1 h2
      split at ht
      · rename_i n b zs hel
        cases ht
        obtain ⟨inf, z, g1, g2, g3, g4, g5, g6, g7, g8⟩ := elInfo_inv hel
        simp only [evI] at h
        split at h
        · rename_i kl l kc c hl hcc
          split at h
          · rename_i hh
            obtain ⟨h0, hlc, hlim, hby⟩ := hh
            cases h
            have hx := trO_R HE h1; rw [hl] at hx; have e1 := hx.flat_inv
            have hx := trO_R HE h2; rw [hcc] at hx; have e2 := hx.flat_inv
            simp only [LIM] at hlim
            have hr := run_make (P := P) w t e inf z hu g1 g2 kl kc l c h0 hlc (by rw [g4]; omega) (by omega)
            have hmade : (madeCells z.cells (c.toNat * inf.size)) = ((List.replicate c.toNat zs).flatten).toArray := by
              apply Array.ext'
              have := made_eq z.cells (by omega) c.toNat
              rw [g6] at this
              rw [g3]
              unfold madeCells
              rw [g6, this, g5]
            have hz := (CR.zs (G := G) g8).rep l.toNat
            have hzc := (CR.zs (G := G) g8).rep c.toNat
            have hlen1 : ((List.replicate l.toNat (zs.map avC1)).flatten).length = l.toNat * n := by
              have := g6; rw [← Array.length_toList, g5] at this
              simp [List.length_flatten, this]
            have hlen2 : ((List.replicate c.toNat zs).flatten).length = c.toNat * n := by
              have := g6; rw [← Array.length_toList, g5] at this
              simp [List.length_flatten, this]
            have hnc : l.toNat ≤ c.toNat := by omega
            have htk : ((List.replicate c.toNat zs).flatten).take ((List.replicate l.toNat (zs.map avC1)).flatten).length = (List.replicate l.toNat zs).flatten := by
              have e3 : c.toNat = l.toNat + (c.toNat - l.toNat) := by omega
              rw [e3, ← List.replicate_append_replicate, List.flatten_append, ← hz.len]
              exact List.take_left
            obtain ⟨k1, k2, k3⟩ := new_blk (T := e) HI (cur := (List.replicate c.toNat zs).flatten) (cs := (List.replicate l.toNat (zs.map avC1)).flatten) (by rw [htk]; exact hz) (by rw [hlen1, hlen2]; exact Nat.mul_le_mul_right _ hnc)
            rw [hlen2] at k1 k2 k3
            refine ⟨.slice (some ⟨w.heap.size, 0, none⟩) l.toNat c.toNat, _, _, .inl ?_, k1, ?_, k2⟩
            · simp only [execOp, e1, e2]
              rw [Sem.run_bind, hr, hmade]
              rfl
            · refine .ms _ _ _ _ _ _ ?_ ⟨_, _, rfl⟩ g7 fun b' n' hb' => ?_
              · have := (List.getElem?_eq_some_iff.1 k3).1; exact this
              · rw [k3] at hb'; cases hb'
                exact ⟨c.toNat, rfl, hnc, by simp only [maxLen]; omega, by simp, fun hq => by simp at hq; omega⟩
          · cases h
        · cases h
      · cases ht
    · cases ht
  case slice t x lo hi mx =>
    simp only [trI] at ht
    split at ht
    · rename_i e x' lo' hi' mx' hu h1 h2 h3 h4
      rw [Option.map_eq_some_iff] at ht
      obtain ⟨n, hn, rfl⟩ := ht
      simp only [evI] at h
      split at h
      · rename_i cs hcs
        obtain ⟨r, z, hr, ho, hR⟩ := does_slice (P := P) hu hn HI (trO_R HE h1) hcs h (trOo_R HE h2).1 (trOo_R HE h2).2 (trOo_R HE h3).1 (trOo_R HE h3).2 (trOo_R HE h4).1 (trOo_R HE h4).2
        exact .ofQ HI (by simp only [execOp]; rw [Sem.run_bind, hr]; rfl) ho hR
      · cases h
    · rename_i x' lo' hi' hu h1 h2 h3 h4
      cases ht
      have hmx : mx = none := by
        cases mx with
        | none => rfl
        | some m => simp only [trOo, Option.map_eq_some_iff] at h4; obtain ⟨_, _, h5⟩ := h4; cases h5
      subst hmx
      simp only [evI] at h
      split at h
      · rename_i s hs
        split at h
        · rename_i l hh g1 g2
          split at h
          · rename_i hb
            cases h
            have hx := trO_R HE h1; rw [hs] at hx; have e1 := hx.flat_inv
            have hb2 := run_sliceBounds (P := P) (w := w) (G := G) (isS := false) (c := s.size) (mx := none) (vmx := none) (m := s.size) g1 g2 rfl (trOo_R HE h2).1 (trOo_R HE h2).2 (trOo_R HE h3).1 (trOo_R HE h3).2 (fun y hy => by cases hy) (fun _ => rfl) hb.1 hb.2 (Nat.le_refl _) (Nat.le_refl _) (fun hy => by cases hy)
            refine .flat HI ?_
            simp only [execOp, Instr.sliceAt, Sem.run_bind, run_underlying hu, Result.andThen_ok, Instr.slice, e1, Option.map_none, Option.isSome_none, Bool.false_eq_true, if_false, hb2, Sem.run_pure]
          · cases h
        · cases h
      · cases h
    · cases ht
  case fieldAddr s x f =>
    simp only [trI] at ht
    split at ht
    · rename_i fs x' hu h1
      split at ht
      · rename_i fd hf
        split at ht
        · rename_i n hn
          split at ht
          · cases ht
          · rename_i hn0
            cases ht
            have hx := trO_R HE h1
            have hrun : ∀ ad, a.eval x = .pointer (some ad) → (execOp a.eval { dst := dst, op := .fieldAddr s x f, type := type, pos := pos, after := after, guard := guard : Oper }).run P w = .ok (.value (.pointer (some (ad.add fd.offset)))) w := by
              intro ad had
              simp [execOp, Instr.fieldAt, run_underlying hu, hf, had, Instr.sureAddr, fieldPlace, sizeT_run hn, hn0]
            simp only [evI] at h
            split at h
            · rename_i id o hid
              split at h
              · rename_i hal
                cases h
                rw [hid] at hx
                obtain ⟨b, n', hm⟩ := alive_m HI hal
                obtain ⟨ad, he, hR⟩ := mptr_add hx hm fd.offset
                exact .val HI (hrun _ he) hR
              · cases h
            · rename_i y k hy
              cases h
              rw [hy] at hx
              obtain ⟨ad, n', c, _, he⟩ := hx.elem_inv
              rw [he] at hx
              exact .val HI (hrun _ he) (elem_add hx _)
            · cases h
        · cases ht
      · cases ht
    · cases ht
  case field s x f =>
    simp only [trI] at ht
    split at ht
    · rename_i fs x' hu h1
      split at ht
      · rename_i fd hf
        split at ht
        · rename_i ag n hag hn
          split at ht
          · rename_i hone
            cases ht
            have hx := trO_R HE h1
            simp only [evI] at h
            split at h
            · rename_i cs hcs
              rw [hcs] at hx
              obtain ⟨vs, he, hs, hv, hv1⟩ := hx.agg_inv
              split at h
              · rename_i hfit
                cases ag with
                | true =>
                  simp only [if_true, Option.some.injEq] at h
                  subst h
                  refine .val HI (v := .agg (vs.extract fd.offset (fd.offset + n))) ?_ ?_
                  · simp [execOp, Instr.field, run_underlying hu, hf, he, part, isAggT_run hag, sizeT_run hn, asAgg]
                  · have hl : ((cs.drop fd.offset).take n).length = n := by simp; omega
                    have hg : ∀ j, j < n → (vs.extract fd.offset (fd.offset + n)).getD j undef = vs.getD (fd.offset + j) undef := by
                      intro j hj
                      simp only [Array.getD_eq_getD_getElem?, Array.getElem?_extract]
                      rw [if_pos (by omega)]
                    refine .agg _ _ (by rw [hl]; simp; omega) (fun j hj => ?_) fun j hj => ?_
                    · rw [hl] at hj
                      rw [hg j hj]
                      simpa using hv (fd.offset + j) (by omega)
                    · rw [hl] at hj
                      rw [hg j hj]
                      exact hv1 _ (by omega)
                | false =>
                  have hn1 : n = 1 := by simpa using hone
                  subst hn1
                  simp only [Bool.false_eq_true, if_false, Option.map_eq_some_iff] at h
                  obtain ⟨c, hc, rfl⟩ := h
                  have hlt : fd.offset < cs.length := by omega
                  have hcc : cs[fd.offset] = c := by rw [List.getElem?_eq_getElem hlt] at hc; exact Option.some.inj hc
                  have hvv := hv fd.offset hlt
                  rw [hcc] at hvv
                  have hg := getD_some (cur := vs) (j := fd.offset) (by omega)
                  generalize vs.getD fd.offset undef = q at hg hvv
                  refine .val HI (v := q) ?_ hvv
                  simp [execOp, Instr.field, run_underlying hu, hf, he, part, isAggT_run hag, asAgg, hg]
              · cases h
            · cases h
          · cases ht
        · cases ht
      · cases ht
    · cases ht
  case indexAddr t x i =>
    simp only [trI] at ht
    split at ht
    · rename_i e x' i' hu h1 h2
      rw [Option.map_eq_some_iff] at ht
      obtain ⟨n, hn, rfl⟩ := ht
      simp only [evI] at h
      split at h
      · rename_i len j g1 g2
        split at h
        · rename_i hb
          cases h
          obtain ⟨k, hk⟩ := asInt_inv g2
          have hi := trO_R HE h2; rw [hk] at hi; have e1 := hi.flat_inv
          obtain ⟨r, hr, hR⟩ := does_idx (P := P) (k := k) hu hn HI (trO_R HE h1) g1 hb.1 hb.2
          exact .val HI (by simp only [execOp, e1]; rw [Sem.run_bind, hr]; rfl) hR
        · cases h
      · cases h
    · rename_i len e x' i' hu h1 h2
      rw [Option.map_eq_some_iff] at ht
      obtain ⟨n, hn, rfl⟩ := ht
      simp only [evI] at h
      split at h
      · rename_i j g2
        split at h
        · rename_i hb
          obtain ⟨k, hk⟩ := asInt_inv g2
          have hi := trO_R HE h2; rw [hk] at hi; have e1 := hi.flat_inv
          have hx := trO_R HE h1
          split at h
          · rename_i id off hid
            split at h
            · rename_i hal
              cases h
              rw [hid] at hx
              obtain ⟨b, n', hm⟩ := alive_m HI hal
              obtain ⟨ad, he, hR⟩ := mptr_add hx hm (j.toNat * n)
              have hr := does_aidx (P := P) (w := w) (k := k) hu hn he hb.1 hb.2
              exact .val HI (by simp only [execOp, e1]; rw [Sem.run_bind, hr]; rfl) hR
            · cases h
          · rename_i y q hy
            cases h
            rw [hy] at hx
            obtain ⟨ad, n', c, _, he⟩ := hx.elem_inv
            rw [he] at hx
            have hr := does_aidx (P := P) (w := w) (k := k) hu hn he hb.1 hb.2
            exact .val HI (by simp only [execOp, e1]; rw [Sem.run_bind, hr]; rfl) (elem_add hx _)
          · cases h
        · cases h
      · cases h
    · cases ht
  case index t x i =>
    simp only [trI] at ht
    split at ht
    · rename_i x' i' hu h1 h2
      cases ht
      simp only [evI] at h
      split at h
      · rename_i s j g1 g2
        split at h
        · rename_i h0
          split at h
          · rename_i b hb
            cases h
            obtain ⟨k, hk⟩ := asInt_inv g2
            have hi := trO_R HE h2; rw [hk] at hi; have e1 := hi.flat_inv
            have hx := trO_R HE h1; rw [g1] at hx; have e2 := hx.flat_inv
            exact .flat HI (by simp [execOp, Instr.index, asIntOf, run_underlying hu, e1, e2, h0, hb])
          · cases h
        · cases h
      · cases h
    · cases ht
  case extract x i =>
    simp only [trI, Option.map_eq_some_iff] at ht
    obtain ⟨x', hx, rfl⟩ := ht
    have hR := trO_R HE hx
    simp only [evI] at h
    split at h
    · rename_i vs hvs
      rw [Option.map_eq_some_iff] at h
      obtain ⟨c, hc, rfl⟩ := h
      rw [hvs] at hR
      obtain ⟨us, he, hs, hv⟩ := hR.tup_inv
      have hlt : i < vs.length := (List.getElem?_eq_some_iff.1 hc).1
      have hcc : vs[i] = c := (List.getElem?_eq_some_iff.1 hc).2
      have hvv := hv i hlt
      rw [hcc] at hvv
      have hg := getD_some (cur := us) (j := i) (by omega)
      generalize us.getD i undef = q at hg hvv
      exact .val HI (by simp [execOp, Instr.extract, he, hg]) hvv
    · cases h
  case makeFunc fn first caps =>
    cases fn <;> simp only [trI] at ht <;> try (cases ht; done)
    split at ht
    · rename_i f hfirst
      rw [Option.map_eq_some_iff] at ht
      obtain ⟨os, hos, rfl⟩ := ht
      simp only [evI, Option.some.injEq] at h
      subst h
      obtain ⟨h1, h2⟩ := trOs_arr HE hos
      have hf0 : first = #[] := by simpa using hfirst
      subst hf0
      exact .val HI (v := .func (.func f) #[] (caps.map a.eval)) (by simp [execOp, Instr.makeFunc]) (.clo _ _ _ h1 h2)
    · cases ht
  case nilCheck x =>
    simp only [trI, Option.map_eq_some_iff] at ht
    obtain ⟨x', hx, rfl⟩ := ht
    have hR := trO_R HE hx
    simp only [evI] at h
    split at h
    · rename_i id o hid
      split at h
      · rename_i hal
        cases h
        rw [hid] at hR
        obtain ⟨b, n', hm⟩ := alive_m HI hal
        have he := hR.mptr_inv.2.2 b n' hm
        exact .val HI (v := a.eval x) (by simp [execOp, he]) hR
      · cases h
    · rename_i y k hy
      cases h
      rw [hy] at hR
      obtain ⟨ad, n', c, _, he⟩ := hR.elem_inv
      exact .val HI (v := a.eval x) (by simp [execOp, he]) hR
    · cases h
  case call c =>
    obtain ⟨callee, args, argTypes⟩ := c
    simp only [trI] at ht
    split at ht
    · rename_i os hos
      obtain ⟨hl, hr⟩ := trOs_R HE hos
      split at ht
      · cases ht; simp [I.isCall] at hc
      · rw [Option.map_eq_some_iff] at ht
        obtain ⟨_, _, rfl⟩ := ht
        simp [I.isCall] at hc
      · -- len
        rename_i hcal
        split at ht
        · rename_i x e hu
          cases ht
          simp only [evI, Option.map_eq_some_iff] at h
          obtain ⟨n, hn, rfl⟩ := h
          have hargs : args.toList.length = 1 := by simpa using hl.symm
          obtain ⟨ax, hax⟩ : ∃ ax, args = #[ax] := by
            obtain ⟨l⟩ := args
            match l, hargs with
            | [ax], _ => exact ⟨ax, rfl⟩
          subst hax
          have hR : R G (x.ev env) (a.eval ax) := by simpa using hr 0 (by simp)
          obtain ⟨A, c, he⟩ := lenS_R0 hR hn
          cases hat : argTypes[0]? with
          | none => simp [hat] at hu
          | some t =>
            simp only [hat, Option.bind_some] at hu
            exact .flat HI (by simp [execOp, resolve, invoke, builtin, Builtin.len_, hat, run_underlying hu, he, goInt])
        · rename_i x hu
          cases ht
          simp only [evI] at h
          split at h
          · rename_i s hs
            cases h
            have hargs : args.toList.length = 1 := by simpa using hl.symm
            obtain ⟨ax, hax⟩ : ∃ ax, args = #[ax] := by
              obtain ⟨l⟩ := args
              match l, hargs with
              | [ax], _ => exact ⟨ax, rfl⟩
            subst hax
            have hR : R G (x.ev env) (a.eval ax) := by simpa using hr 0 (by simp)
            rw [hs] at hR
            have he := hR.flat_inv
            cases hat : argTypes[0]? with
            | none => simp [hat] at hu
            | some t =>
              simp only [hat, Option.bind_some] at hu
              exact .flat HI (by simp [execOp, resolve, invoke, builtin, Builtin.len_, hat, run_underlying hu, he, goInt])
          · cases h
        · cases ht
      · -- append
        rename_i hcal
        split at ht
        · rename_i s x t u e hat hat1 hu
          split at ht
          · rename_i htu
            subst htu
            split at ht
            · rename_i n b zs hel
              cases ht
              obtain ⟨inf, z, g1, g2, g3, g4, g5, g6, g7, g8⟩ := elInfo_inv hel
              simp only [hat, Option.bind_some] at hu
              obtain ⟨as, ax, hax⟩ : ∃ as ax, args = #[as, ax] := by
                have hargs : args.toList.length = 2 := by simpa using hl.symm
                obtain ⟨l⟩ := args
                match l, hargs with
                | [as, ax], _ => exact ⟨as, ax, rfl⟩
              subst hax
              have hR0 : R G (s.ev env) (a.eval as) := by simpa using hr 0 (by simp)
              have hR1 : R G (x.ev env) (a.eval ax) := by simpa using hr 1 (by simp)
              simp only [evI] at h
              split at h
              · rename_i news m hv hm
                have hsl : ∀ id off len sz cd, s.ev env = .ms id off len sz cd → m = 0 → ∃ cs, M[id]? = some (some cs) := by
                  intro id off len sz cd hs hm0
                  subst hm0
                  simp only [appA, if_true, hs] at h
                  split at h
                  · rename_i hal
                    unfold aliveA at hal
                    split at hal
                    · rename_i cs hM; exact ⟨cs, hM⟩
                    · cases hal
                  · cases h
                obtain ⟨v', w', G', hrun, hG, hO⟩ := does_append (P := P) (ty := type) hu g1 g2 g3 g4 g6 g7 HI hR1 hR0 hv hm hsl h
                refine ⟨v', w', G', .inl ?_, hG, hO⟩
                have hrun' : (Builtin.append_ argTypes type #[a.eval as, a.eval ax]).run P w = .ok v' w' := by
                  have : ∀ T : Array TypeId, T[0]? = some t → T[1]? = some t → Builtin.append_ T type #[a.eval as, a.eval ax] = Builtin.append_ #[t, t] type #[a.eval as, a.eval ax] := by
                    intro T h0 h1
                    unfold Builtin.append_
                    simp only [h0, h1]
                    rfl
                  rw [this argTypes hat hat1]; exact hrun
                simp [execOp, resolve, invoke, builtin, hrun']
              · cases h
            · cases ht
          · cases ht
        · cases ht
      · -- copy
        rename_i hcal
        split at ht
        · rename_i d s e hu
          split at ht
          · rename_i n hn
            split at ht
            · rename_i hpos
              cases ht
              obtain ⟨ad, as, hax⟩ : ∃ ad as, args = #[ad, as] := by
                have hargs : args.toList.length = 2 := by simpa using hl.symm
                obtain ⟨l⟩ := args
                match l, hargs with
                | [ad, as], _ => exact ⟨ad, as, rfl⟩
              subst hax
              have hR0 : R G (d.ev env) (a.eval ad) := by simpa using hr 0 (by simp)
              have hR1 : R G (s.ev env) (a.eval as) := by simpa using hr 1 (by simp)
              simp only [evI] at h
              split at h
              · rename_i id off len sz' cd cs k hd hv hk
                split at h
                · rename_i old hM
                  split at h
                  · rename_i hh
                    obtain ⟨rfl, hI, hfit, hkk⟩ := hh
                    cases h
                    rw [hd] at hR0
                    cases hat : argTypes[0]? with
                    | none => simp [hat] at hu
                    | some t =>
                      simp only [hat, Option.bind_some] at hu
                      obtain ⟨w', hrun, hI'⟩ := does_copy (P := P) (sT := t) (ty := type) hu hn HI hR0 hR1 hv hk hM hfit hkk
                      refine ⟨_, w', G, .inl ?_, Gle.refl G, .imm _ _ (.flat _), hI'⟩
                      have hrun' : (Builtin.copy_ argTypes type #[a.eval ad, a.eval as]).run P w = .ok (.int .i64 (Nat.min k len : Nat)) w' := by
                        have : ∀ T : Array TypeId, T[0]? = some t → Builtin.copy_ T type #[a.eval ad, a.eval as] = Builtin.copy_ #[t, t] type #[a.eval ad, a.eval as] := by
                          intro T h0
                          unfold Builtin.copy_
                          simp only [h0]
                          rfl
                        rw [this argTypes hat]; exact hrun
                      simp [execOp, resolve, invoke, builtin, hrun']
                  · cases h
                · cases h
              · cases h
            · cases ht
          · cases ht
        · cases ht
      · -- clear
        rename_i hcal
        split at ht
        · rename_i x e hu
          split at ht
          · rename_i n b zs hel
            cases ht
            obtain ⟨inf, z, g1, g2, g3, g4, g5, g6, g7, g8⟩ := elInfo_inv hel
            obtain ⟨ax, hax⟩ : ∃ ax, args = #[ax] := by
              have hargs : args.toList.length = 1 := by simpa using hl.symm
              obtain ⟨l⟩ := args
              match l, hargs with
              | [ax], _ => exact ⟨ax, rfl⟩
            subst hax
            have hR : R G (x.ev env) (a.eval ax) := by simpa using hr 0 (by simp)
            cases hat : argTypes[0]? with
            | none => simp [hat] at hu
            | some t =>
              simp only [hat, Option.bind_some] at hu
              simp only [evI] at h
              split at h
              · rename_i sz' nl cd hx
                cases h
                rw [hx] at hR
                refine .flat HI ?_
                rcases RI.list_cases hR.list_inv with ⟨_, _, _, he⟩ | ⟨_, ad, k, c, _, he, h0, h1, _⟩
                · simp [execOp, resolve, invoke, builtin, Builtin.clear_, hat, run_underlying hu, he, undef]
                · have : k = 0 := by rcases Nat.mul_eq_zero.1 h1.symm with h | h; exact h; omega
                  subst this
                  simp [execOp, resolve, invoke, builtin, Builtin.clear_, hat, run_underlying hu, he, undef]
              · rename_i id off len sz' cd hx
                rw [hx] at hR
                split at h
                · rename_i old hM
                  split at h
                  · rename_i hh
                    obtain ⟨rfl, hzl, hfit⟩ := hh
                    obtain ⟨i0, i1, isz, icl⟩ := hR.ms_inv
                    obtain ⟨bb, bn, _, _, hmb, _⟩ := HI.row hM
                    obtain ⟨cc, he, c1, c2, c3, c4⟩ := icl bb bn hmb
                    split at h
                    · rename_i h0
                      cases h
                      subst h0
                      refine .flat HI ?_
                      simp [execOp, resolve, invoke, builtin, Builtin.clear_, hat, run_underlying hu, he, undef]
                    · rename_i h0
                      cases h
                      have hz := (CR.zs (G := G) g8).rep len
                      have hzlen : ((List.replicate len (zs.map avC1)).flatten).length = len * sz' := by
                        simp only [List.length_flatten, List.map_replicate, List.sum_replicate_nat, hzl]
                      obtain ⟨w', hst, hI⟩ := write_cells (P := P) HI hmb hM hz (o := off) (by rw [hzlen]; exact hfit)
                      refine ⟨undef, w', G, .inl ?_, Gle.refl G, .imm _ _ (.flat _), hI⟩
                      have hmade : (Builtin.zeroCells z.cells len).toList = (List.replicate len zs).flatten := by
                        have := made_eq z.cells (by omega) len
                        unfold Builtin.zeroCells
                        rw [this, g5]
                      obtain ⟨len', rfl⟩ : ∃ k, len = k + 1 := ⟨len - 1, by omega⟩
                      simp [execOp, resolve, invoke, builtin, Builtin.clear_, hat, run_underlying hu, he, zeroValue, typeInfo, g1, g2, hmade, hst, undef]
                  · cases h
                · cases h
              · cases h
          · cases ht
        · cases ht
      · -- min
        split at ht
        · rename_i x y
          cases ht
          obtain ⟨ax, ay, hax⟩ : ∃ ax ay, args = #[ax, ay] := by
            have hargs : args.toList.length = 2 := by simpa using hl.symm
            obtain ⟨l⟩ := args
            match l, hargs with
            | [ax, ay], _ => exact ⟨ax, ay, rfl⟩
          subst hax
          have hR0 : R G (x.ev env) (a.eval ax) := by simpa using hr 0 (by simp)
          have hR1 : R G (y.ev env) (a.eval ay) := by simpa using hr 1 (by simp)
          simp only [evI] at h
          split at h
          · rename_i k p k' q hp hq
            split at h
            · rename_i hkk
              subst hkk
              cases h
              rw [hp] at hR0; rw [hq] at hR1
              have e1 := hR0.flat_inv; have e2 := hR1.flat_inv
              exact .flat HI (by simp [execOp, resolve, invoke, builtin, Builtin.min_, Builtin.min2, e1, e2])
            · cases h
          · cases h
        · cases ht
      · split at ht
        · rename_i x y
          cases ht
          obtain ⟨ax, ay, hax⟩ : ∃ ax ay, args = #[ax, ay] := by
            have hargs : args.toList.length = 2 := by simpa using hl.symm
            obtain ⟨l⟩ := args
            match l, hargs with
            | [ax, ay], _ => exact ⟨ax, ay, rfl⟩
          subst hax
          have hR0 : R G (x.ev env) (a.eval ax) := by simpa using hr 0 (by simp)
          have hR1 : R G (y.ev env) (a.eval ay) := by simpa using hr 1 (by simp)
          simp only [evI] at h
          split at h
          · rename_i k p k' q hp hq
            split at h
            · rename_i hkk
              subst hkk
              cases h
              rw [hp] at hR0; rw [hq] at hR1
              have e1 := hR0.flat_inv; have e2 := hR1.flat_inv
              exact .flat HI (by simp [execOp, resolve, invoke, builtin, Builtin.max_, Builtin.max2, e1, e2])
            · cases h
          · cases h
        · cases ht
      · cases ht
    · cases ht
  all_goals (simp [trI] at ht)
end
end Go.Proofs.Ytopiaiibpacmlaa.Av
namespace Go.Proofs.Ytopiaiibpacmlaa.Av
open Go.RowKit
set_option linter.unusedSimpArgs false

/-- The operands of an instruction. -/
def I.os : I → List O
  | .mov x | .un _ x | .convI _ x | .convS x | .bytesOf x | .strOf x | .lenS x | .lenStr x | .load _ _ x | .box _ x | .fad _ x | .fld _ _ _ x | .ext _ x | .nilck x | .clear _ _ x => [x]
  | .pick c a b => [c, a, b]
  | .bin _ _ x y | .store _ x y | .mslice _ _ _ x y | .idx _ x y | .aidx _ _ x y | .ival _ _ _ x y | .istr x y | .app _ _ x y | .copy _ x y | .min x y | .max x y => [x, y]
  | .alloc _ | .stop => []
  | .build _ ps | .bslice _ _ _ ps => ps.map fun p => p.2.2
  | .slice _ x lo hi mx => x :: lo.toList ++ hi.toList ++ mx.toList
  | .sstr x lo hi => x :: lo.toList ++ hi.toList
  | .clo _ cs => cs
  | .call _ cs => cs
  | .calld f cs => f :: cs
def AOp.reads (o : AOp) : List Nat := o.i.os.flatMap O.reads ++ (match o.g with | some (t, _) => [t] | none => [])
theorem O.ev_congr {e e' : Env} {x : O} (h : ∀ t ∈ x.reads, e t = e' t) : x.ev e = x.ev e' := by
  cases x with
  | t n => exact h n (by simp [O.reads])
  | k v => rfl
theorem parts_congr {e e' : Env} {ps : List (Nat × Nat × O)} (h : ∀ x ∈ ps.map (fun p => p.2.2), x.ev e = x.ev e') : (ps.map fun (o, n, x) => (o, n, x.ev e)) = ps.map fun (o, n, x) => (o, n, x.ev e') := by
  refine List.map_congr_left fun p hp => ?_
  obtain ⟨o, n, x⟩ := p
  have := h x (List.mem_map.2 ⟨(o, n, x), hp, rfl⟩)
  simp only [this]
theorem os_congr {e e' : Env} {xs : List O} (h : ∀ x ∈ xs, x.ev e = x.ev e') : xs.map (·.ev e) = xs.map (·.ev e') := List.map_congr_left h
theorem oo_congr {e e' : Env} {x : Option O} (h : ∀ y ∈ x.toList, y.ev e = y.ev e') : x.map (·.ev e) = x.map (·.ev e') := by
  cases x with
  | none => rfl
  | some x => simp [h x (by simp)]
theorem evI_congr (call : Call) (base : Nat) (M : MS) (D : List Nat) {e e' : Env} {i : I} (h : ∀ x ∈ i.os, x.ev e = x.ev e') : evI call base e M D i = evI call base e' M D i := by
  cases i <;> simp only [I.os, List.mem_cons, List.not_mem_nil, or_false, forall_eq_or_imp, forall_eq, List.mem_append] at h <;> simp only [evI]
  case build zs ps => rw [parts_congr h]
  case bslice sz len zs ps => rw [parts_congr h]
  case slice sz x lo hi mx =>
    rw [h x (by simp), oo_congr (x := lo) fun y hy => h y (by simp [hy]), oo_congr (x := hi) fun y hy => h y (by simp [hy]), oo_congr (x := mx) fun y hy => h y (by simp [hy])]
  case sstr x lo hi =>
    rw [h x (by simp), oo_congr (x := lo) fun y hy => h y (by simp [hy]), oo_congr (x := hi) fun y hy => h y (by simp [hy])]
  case clo fn cs => rw [os_congr h]
  case call f cs => rw [os_congr h]
  case calld f cs => rw [h.1, os_congr h.2]
  all_goals simp [h]
theorem wantA_congr {e e' : Env} {g : Option (Nat × Bool)} (h : ∀ t b, g = some (t, b) → e t = e' t) : wantA e g = wantA e' g := by
  cases g with
  | none => rfl
  | some p => obtain ⟨t, b⟩ := p; simp [wantA, h t b rfl]
/-- One instruction that writes nothing. -/
def stepQ (call : Call) (base : Nat) (M : MS) (o : AOp) (env : Env) : Option AV :=
  match wantA env o.g with
  | some true => match evI call base env M [] o.i with
    | some (.q v) => some v
    | _ => none
  | some false => some (.flat undef)
  | none => none
theorem evQ_cons (call : Call) (base : Nat) (M : MS) (o : AOp) (r : List AOp) (env : Env) :
    evQ call base M (o :: r) env = (stepQ call base M o env).bind fun v => evQ call base M r (updO env o.dst v) := by
  simp only [evQ, stepQ]
  cases wantA env o.g with
  | none => rfl
  | some b => cases b
              · rfl
              · cases evI call base env M [] o.i with
                | none => rfl
                | some out => cases out <;> rfl
theorem stepQ_congr {call : Call} {base : Nat} {M : MS} {o : AOp} {e e' : Env} (h : ∀ t ∈ o.reads, e t = e' t) : stepQ call base M o e = stepQ call base M o e' := by
  have h1 : wantA e o.g = wantA e' o.g := wantA_congr fun t b hg => h t (by simp [AOp.reads, hg])
  have h2 : evI call base e M [] o.i = evI call base e' M [] o.i := evI_congr call base M [] fun x hx => O.ev_congr fun t ht => h t (by
    simp only [AOp.reads, List.mem_append, List.mem_flatMap]
    exact .inl ⟨x, hx, ht⟩)
  simp only [stepQ, h1, h2]

/-! ### Whatever order -/
/-- What a temporary holds when those of L have come. -/
def look : (Nat → Bool) → List (Option Nat × AV) → Nat → AV → AV
  | _, [], _, d => d
  | L, p :: ps, t, d => look (fun k => L (k + 1)) ps t (if L 0 = true ∧ p.1 = some t then p.2 else d)
theorem look_congr : ∀ {ps : List (Option Nat × AV)} {L L' : Nat → Bool} {t : Nat} {d : AV}, (∀ i p, ps[i]? = some p → p.1 = some t → L i = L' i) → look L ps t d = look L' ps t d
  | [], _, _, _, _, _ => rfl
  | p :: ps, L, L', t, d, h => by
    simp only [look]
    rw [look_congr (L := fun k => L (k + 1)) (L' := fun k => L' (k + 1)) fun i q hi ht => h (i + 1) q (by simpa using hi) ht]
    by_cases hp : p.1 = some t
    · rw [h 0 p (by simp) hp]
    · simp [hp]
theorem look_no : ∀ {ps : List (Option Nat × AV)} {L : Nat → Bool} {t : Nat} {d : AV}, (∀ i p, ps[i]? = some p → p.1 = some t → L i = false) → look L ps t d = d
  | [], _, _, _, _ => rfl
  | p :: ps, L, t, d, h => by
    simp only [look]
    rw [look_no (L := fun k => L (k + 1)) fun i q hi ht => h (i + 1) q (by simpa using hi) ht]
    by_cases hp : p.1 = some t
    · have := h 0 p (by simp) hp; simp [this]
    · simp [hp]
theorem look_put : ∀ {ps : List (Option Nat × AV)} {L : Nat → Bool} {j : Nat} {p : Option Nat × AV} {t : Nat} {d : AV}, ps[j]? = some p → (p.1 = some t → ∀ i q, j < i → ps[i]? = some q → q.1 = some t → L i = false) →
    look (fun k => if k = j then true else L k) ps t d = if p.1 = some t then p.2 else look L ps t d
  | [], _, _, _, _, _, hj, _ => by simp at hj
  | p0 :: ps, L, 0, p, t, d, hj, h => by
    simp at hj; subst hj
    simp only [look]
    by_cases hp : p0.1 = some t
    · simp only [hp, if_true]
      rw [look_no]
      · simp
      · intro i q hi ht
        simpa using h hp (i + 1) q (by omega) (by simpa using hi) ht
    · simp only [hp, and_false, if_false]
      exact look_congr fun i q hi ht => by simp
  | p0 :: ps, L, j + 1, p, t, d, hj, h => by
    simp only [look]
    have ih := look_put (ps := ps) (L := fun k => L (k + 1)) (j := j) (p := p) (t := t) (d := if L 0 = true ∧ p0.1 = some t then p0.2 else d) (by simpa using hj) (fun hp i q hi hq ht => h hp (i + 1) q (by omega) (by simpa using hq) ht)
    simpa using ih
/-- The run in the text's order, step by step. -/
theorem evQ_run (call : Call) (base : Nat) (M : MS) : ∀ (ops : List AOp) (env env1 : Env), evQ call base M ops env = some env1 →
    ∃ ps : List (Option Nat × AV), ps.map (·.1) = ops.map (·.dst) ∧ (∀ i o, ops[i]? = some o → ∃ v, ps[i]? = some (o.dst, v) ∧ stepQ call base M o (fun t => look (fun k => decide (k < i)) ps t (env t)) = some v) ∧
      ∀ t, env1 t = look (fun _ => true) ps t (env t)
  | [], env, env1, h => by simp [evQ] at h; subst h; exact ⟨[], rfl, fun i o h => by simp at h, fun t => rfl⟩
  | o :: r, env, env1, h => by
    rw [evQ_cons] at h
    cases hv : stepQ call base M o env with
    | none => rw [hv] at h; cases h
    | some v =>
      rw [hv] at h
      simp only [Option.bind_some] at h
      obtain ⟨ps, h1, h2, h3⟩ := evQ_run call base M r (updO env o.dst v) env1 h
      have hu : ∀ t, updO env o.dst v t = if o.dst = some t then v else env t := by
        intro t
        cases hd : o.dst with
        | none => simp [updO]
        | some d => simp only [updO, upd, Option.some.injEq]; by_cases htd : t = d
                    · subst htd; simp
                    · simp [htd, Ne.symm htd]
      refine ⟨(o.dst, v) :: ps, by simp [h1], fun i o' hi => ?_, fun t => ?_⟩
      · cases i with
        | zero =>
          simp at hi; subst hi
          refine ⟨v, by simp, ?_⟩
          rw [← hv]
          exact stepQ_congr fun t _ => look_no fun i p _ _ => by simp
        | succ i =>
          obtain ⟨v', e1, e2⟩ := h2 i o' (by simpa using hi)
          refine ⟨v', by simpa using e1, ?_⟩
          rw [← e2]
          exact stepQ_congr fun t _ => by simp only [look, hu]; simp
      · rw [h3 t]
        simp only [look, hu]; simp
end Go.Proofs.Ytopiaiibpacmlaa.Av
namespace Go.Proofs.Ytopiaiibpacmlaa.Av
open Go.RowKit
set_option linter.unusedSimpArgs false

def okFn (P : Program) (f : Nat) : Bool :=
  match P.funcs[f]? with
  | some fn => fn.name != "runtime.NumGoroutine" && fn.body.isSome
  | none => false
/-- What the evaluator says of calls is so. -/
structure CallOk (P : Program) (call : Call) : Prop where
  ok : ∀ f args M out, call f args M = some out → okFn P f = true
  snd : ∀ f args M out, call f args M = some out → ∀ (w0 w : World) (G : Gh) (vals : Array Value), Inv w0 G M w → vals.size = args.length → (∀ (j : Nat) (h : j < args.length), R G args[j] (vals.getD j undef)) →
    Calls P f vals w fun e w' => ∃ v G', e = .returned v ∧ Gle G G' ∧ OutR w0 G' M out v w'
  frame : ∀ f args M v M' D, call f args M = some (.x v M' D) → M.length ≤ M'.length ∧ ∀ id, id < M.length → id ∉ D → M'[id]? = M[id]?

def dstOk (N : Nat) : Option Nat → Bool
  | some d => decide (d < N)
  | none => true
def trOp (P : Program) (ops : Array Oper) (N : Nat) (o : Oper) : Option AOp :=
  if dstOk N o.dst = true then
    match o.guard with
    | none => some ⟨o.dst, (trI P o.op).getD .stop, none⟩
    | some (j, b) => match (ops[j]?).bind (·.dst) with
      | some t => some ⟨o.dst, (trI P o.op).getD .stop, some (t, b)⟩
      | none => none
  else none
theorem trOp_inv {P : Program} {ops : Array Oper} {N : Nat} {o : Oper} {ao : AOp} (h : trOp P ops N o = some ao) :
    (trI P o.op).getD .stop = ao.i ∧ ao.dst = o.dst ∧ (∀ d, o.dst = some d → d < N) ∧
    ((o.guard = none ∧ ao.g = none) ∨ ∃ j b t, o.guard = some (j, b) ∧ (ops[j]?).bind (·.dst) = some t ∧ ao.g = some (t, b)) := by
  unfold trOp at h
  split at h
  · rename_i hd
    have hd' : ∀ d, o.dst = some d → d < N := by intro d hdd; rw [hdd] at hd; simpa [dstOk] using hd
    split at h
    · rename_i hg; cases h; exact ⟨rfl, rfl, hd', .inl ⟨hg, rfl⟩⟩
    · rename_i j b hg
      split at h
      · rename_i t ht; cases h; exact ⟨rfl, rfl, hd', .inr ⟨j, b, t, hg, ht, rfl⟩⟩
      · cases h
  · cases h
section
variable {P : Program} {w0 w : World} {G : Gh} {M : MS} {env : Env} {a : Act} {ops : Array Oper} {N : Nat}
theorem wantA_R (HE : EnvR G env a) {o : Oper} {ao : AOp} (ht : trOp P ops N o = some ao) {b : Bool} (h : wantA env ao.g = some b) : Region.wanted o (yielded ops a.tmps) = b := by
  obtain ⟨_, _, _, hg⟩ := trOp_inv ht
  rcases hg with ⟨h1, h2⟩ | ⟨j, b', t, h1, h2, h3⟩
  · rw [h2] at h; simp [wantA] at h; subst h; simp [Region.wanted, h1]
  · rw [h3] at h
    have hr := HE.t t
    simp only [wantA] at h
    split at h
    · rename_i c hc
      cases h
      rw [hc] at hr
      have he := hr.flat_inv
      have hlt : a.tmps[t]? = some (.bool c) := by
        rcases Nat.lt_or_ge t a.tmps.size with hl | hl
        · rw [getD_some hl, he]
        · simp [Array.getD_eq_getD_getElem?, Array.getElem?_eq_none hl, undef] at he
      simp [Region.wanted, h1, yielded, h2, hlt]
    · rename_i c hc
      cases h
      rw [hc] at hr
      have he := hr.flat_inv
      have hy : yielded ops a.tmps j = none := by
        unfold yielded
        rw [h2]
        simp only [Option.bind_some]
        rcases Nat.lt_or_ge t a.tmps.size with hl | hl
        · rw [getD_some hl, he]
        · rw [Array.getElem?_eq_none hl]
      simp [Region.wanted, h1, hy]
    · cases h
/-- An instruction, a call or not: the machine's operation goes on as the evaluator says. -/
theorem evI_wp {call : Call} (HC : CallOk P call) {base : Nat} {D : List Nat} {o : Oper} {i : I} {out : Out} (HE : EnvR G env a) (HI : Inv w0 G M w) (ht0 : (trI P o.op).getD .stop = i)
    (h : evI call base env M D i = some out) {K : Act → World → Prop} {Q : Exit → Act → World → Prop} (hK : ∀ v w' G', Gle G G' → OutR w0 G' M out v w' → K (a.put o.dst v) w') : o.wp P a w K Q := by
  have ht : trI P o.op = some i := by
    cases hh : trI P o.op with
    | none => rw [hh] at ht0; simp at ht0; subst ht0; simp [evI] at h
    | some j => rw [hh] at ht0; simp at ht0; rw [ht0]
  clear ht0
  cases hic : i.isCall with
  | false =>
    obtain ⟨v, w', G', hr, hG, hO⟩ := evI_does HE HI ht hic h
    unfold Oper.wp
    rcases hr with hr | ⟨hr, rfl⟩
    · rw [hr]; exact hK v w' G' hG hO
    · rw [hr]; exact hK undef w' G' hG hO
  | true =>
    have fin : ∀ (f : Nat) (args : List AV) (vals : Array Value), evI.callA call base M D f args = some out → vals.size = args.length → (∀ (j : Nat) (h : j < args.length), R G args[j] (vals.getD j undef)) →
        (execOp a.eval o).run P w = (callFunc f vals).run P w → o.wp P a w K Q := by
      intro f args vals hcall hs hr he
      unfold Oper.wp
      rw [he]
      have main : ∃ out', call f args M = some out' ∧ ∀ v w' G', OutR w0 G' M out' v w' → OutR w0 G' M out v w' := by
        simp only [evI.callA] at hcall
        split at hcall
        · rename_i v hv; cases hcall; exact ⟨_, hv, fun _ _ _ h => h⟩
        · rename_i v M' D' hv; cases hcall; exact ⟨_, hv, fun _ _ _ h => h⟩
        · cases hcall
      obtain ⟨out', hc, hout⟩ := main
      have hok := HC.ok f args M out' hc
      unfold okFn at hok
      split at hok
      · rename_i fn hfn
        simp only [Bool.and_eq_true, bne_iff_ne, ne_eq] at hok
        obtain ⟨body, hb⟩ : ∃ c, fn.body = some c := by cases hbb : fn.body with
          | none => simp [hbb] at hok
          | some c => exact ⟨c, rfl⟩
        have hrun : (callFunc f vals).run P w = .ok (.enter f vals) w := by
          simp [callFunc, hfn, hok.1, hb]
        rw [hrun]
        show Calls P f vals w _
        refine (HC.snd f args M out' hc w0 w G vals HI hs hr).mono ?_
        rintro e w' ⟨v, G', rfl, hG, hO⟩
        exact hK v w' G' hG (hout _ _ _ hO)
      · cases hok
    obtain ⟨dst, op, type, pos, after, guard⟩ := o
    cases op
    case call c =>
      obtain ⟨callee, args, argTypes⟩ := c
      simp only [trI] at ht
      split at ht
      · rename_i os hos
        obtain ⟨hl, hr⟩ := trOs_arr HE hos
        split at ht
        · rename_i f
          cases ht
          simp only [evI] at h
          exact fin f _ (args.map a.eval) h hl hr (by simp [execOp, resolve, Deferred.ofValue, Act.eval, invoke])
        · rename_i x hnf
          rw [Option.map_eq_some_iff] at ht
          obtain ⟨x', hx, rfl⟩ := ht
          have hR := trO_R HE hx
          simp only [evI] at h
          split at h
          · rename_i f caps hcl
            rw [hcl] at hR
            obtain ⟨vs, he, hs, hv⟩ := hR.clo_inv
            refine fin f _ (args.map a.eval ++ vs) h (by simp [hs, hl]) (fun j hj => ?_) (by simp [execOp, resolve, Deferred.ofValue, he, invoke])
            by_cases hjl : j < (os.map (·.ev env)).length
            · have e1 : (args.map a.eval ++ vs).getD j undef = (args.map a.eval).getD j undef := by
                simp only [Array.getD_eq_getD_getElem?]
                rw [Array.getElem?_append_left (by rw [hl]; exact hjl)]
              rw [e1, List.getElem_append_left hjl]
              exact hr j hjl
            · have hge : (os.map (·.ev env)).length ≤ j := by omega
              have e1 : (args.map a.eval ++ vs).getD j undef = vs.getD (j - (os.map (·.ev env)).length) undef := by
                simp only [Array.getD_eq_getD_getElem?]
                rw [Array.getElem?_append_right (by rw [hl]; exact hge), hl]
              rw [e1, List.getElem_append_right hge]
              exact hv _ _
          · cases h
        all_goals (repeat' split at ht)
        all_goals first | (cases ht; done) | (cases ht; simp [I.isCall] at hic)
      · cases ht
    all_goals (simp only [trI] at ht; (repeat' split at ht); all_goals first | (cases ht; done) | (cases ht; simp [I.isCall] at hic; done) | (rw [Option.map_eq_some_iff] at ht; obtain ⟨_, _, rfl⟩ := ht; simp [I.isCall] at hic; done))
/-- Operations in the text's order. -/
theorem evS_wp {call : Call} (HC : CallOk P call) {base : Nat} {Q : Exit → Act → World → Prop} : ∀ (l : List Nat) (as : List AOp) (env env' : Env) (M M' : MS) (D D' : List Nat) (a : Act) (w : World) (G : Gh),
    as.length = l.length → (∀ (j i : Nat) (ao : AOp), l[j]? = some i → as[j]? = some ao → ∃ o, ops[i]? = some o ∧ trOp P ops N o = some ao) → evS call base as env M D = some (env', M', D') → N ≤ a.tmps.size → EnvR G env a → Inv w0 G M w →
    (∀ a' w' G', Gle G G' → EnvR G' env' a' → a'.tmps.size = a.tmps.size → Inv w0 G' M' w' → Q .normal a' w') → wpOps P ops Q l a w := by
  intro l
  induction l with
  | nil =>
    intro as env env' M M' D D' a w G hl _ h _ HE HI hQ
    have : as = [] := List.eq_nil_of_length_eq_zero (by simpa using hl)
    subst this
    simp only [evS, Option.some.injEq, Prod.mk.injEq] at h
    obtain ⟨rfl, rfl, rfl⟩ := h
    exact hQ a w G (Gle.refl G) HE rfl HI
  | cons i l ih =>
    intro as env env' M M' D D' a w G hl ht h hN HE HI hQ
    obtain ⟨ao, as, rfl⟩ : ∃ ao as', as = ao :: as' := by
      cases as with
      | nil => simp at hl
      | cons ao as => exact ⟨ao, as, rfl⟩
    obtain ⟨o, ho, hto⟩ := ht 0 i ao (by simp) (by simp)
    obtain ⟨t1, t2, t3, _⟩ := trOp_inv hto
    have hd : ∀ t, o.dst = some t → t < a.tmps.size := fun t htt => Nat.lt_of_lt_of_le (t3 t htt) hN
    have hps : ∀ v, (a.put o.dst v).tmps.size = a.tmps.size := fun v => by cases o.dst <;> simp [Act.put]
    have rest := fun env1 M1 D1 a1 w1 G1 => ih as env1 env' M1 M' D1 D' a1 w1 G1 (by simpa using hl) (fun j i ao h1 h2 => ht (j + 1) i ao (by simpa using h1) (by simpa using h2))
    rw [wpOps_cons]
    unfold wpOp
    simp only [ho]
    simp only [evS] at h
    split at h
    · rename_i hw
      rw [wantA_R HE hto hw]
      simp only [if_true]
      refine .inl ?_
      split at h
      · rename_i v hv
        refine evI_wp HC HE HI t1 hv fun u w' G' hG hO => ?_
        rw [t2] at h
        exact rest _ _ _ _ _ G' h (by rw [hps]; exact hN) ((HE.mono hG).put hO.1 _ hd) hO.2 (fun a' w'' G'' g1 g2 g3 g4 => hQ a' w'' G'' (hG.trans g1) g2 (by rw [g3, hps]) g4)
      · rename_i v M1 D1 hv
        refine evI_wp HC HE HI t1 hv fun u w' G' hG hO => ?_
        rw [t2] at h
        exact rest _ _ _ _ _ G' h (by rw [hps]; exact hN) ((HE.mono hG).put hO.1 _ hd) hO.2 (fun a' w'' G'' g1 g2 g3 g4 => hQ a' w'' G'' (hG.trans g1) g2 (by rw [g3, hps]) g4)
      · cases h
    · rename_i hw
      rw [wantA_R HE hto hw]
      simp only [Bool.false_eq_true, if_false]
      rw [t2] at h
      exact rest _ _ _ _ _ G h (by rw [hps]; exact hN) (HE.put (.imm _ _ (.flat undef)) _ hd) HI (fun a' w'' G'' g1 g2 g3 g4 => hQ a' w'' G'' g1 g2 (by rw [g3, hps]) g4)
    · cases h
end
end Go.Proofs.Ytopiaiibpacmlaa.Av
namespace Go.Proofs.Ytopiaiibpacmlaa.Av
open Go.RowKit
set_option linter.unusedSimpArgs false

theorem getD_both {listed : Array Bool} {i : Nat} (h : listed.getD i true = false) : listed.getD i false = false := by
  rcases Nat.lt_or_ge i listed.size with hl | hl
  · simpa [Array.getD, hl] using h
  · simp [Array.getD, Nat.not_lt.2 hl]
def waitsB (ops : Array Oper) (j i : Nat) : Bool :=
  match ops[j]? with
  | some oj => oj.after.any fun e => Region.binds .any e && e.on == i
  | none => false
def apartA (x y : AOp) : Bool :=
  (match x.dst with
   | some d => !(y.reads.contains d) && y.dst != some d
   | none => true) &&
  (match y.dst with
   | some d => !(x.reads.contains d)
   | none => true)
def backB (ops : Array Oper) : Bool :=
  (List.range ops.size).all fun j => match ops[j]? with
    | some o => o.after.all fun e => !Region.binds .any e || decide (e.on < j)
    | none => true
def pairsB (ops : Array Oper) (as : List AOp) (n : Nat) : Bool :=
  (List.range n).all fun j => (List.range j).all fun i => waitsB ops j i || (match as[i]?, as[j]? with
    | some x, some y => apartA x y
    | _, _ => false)
/-- An instruction that reads no memory. -/
def I.free : I → Bool
  | .mov _ | .pick .. | .bin .. | .un .. | .convI .. | .convS _ | .lenStr _ | .ext .. | .min .. | .max .. => true
  | _ => false
def freeA (as : List AOp) (i : Nat) : Bool := match as[i]? with
  | some o => o.i.free
  | none => false
/-- Operation n waits for i, by others of the head or itself. -/
def sunkB (ops : Array Oper) (n : Nat) : Nat → Nat → Bool
  | 0, _ => false
  | f + 1, i => (List.range (n + 1)).any fun j => decide (i < j) && (waitsB ops j i && (decide (j = n) || sunkB ops n f j))
def headB (ops : Array Oper) (as : List AOp) (n : Nat) : Bool := decide (n = ops.size) || (List.range n).all fun i => sunkB ops n (n + 1) i || (freeA as i && (List.range ops.size).all fun j => decide (j < n) || ((List.range (j + 1)).any fun k => decide (n ≤ k) && waitsB ops k i) || (match as[i]?, as[j]? with
    | some x, some y => apartA x y
    | _, _ => false))
def chainB (ops : Array Oper) (n : Nat) : Bool := (List.range ops.size).all fun t => decide (t ≤ n) || waitsB ops t (t - 1)
def orderB (ops : Array Oper) (as : List AOp) (n : Nat) : Bool := decide (n ≤ ops.size) && (chainB ops n && (backB ops && (pairsB ops as n && headB ops as n)))

theorem waitsB_inv {ops : Array Oper} {j i : Nat} (h : waitsB ops j i = true) : ∃ oj, ops[j]? = some oj ∧ ∃ e ∈ oj.after, Region.binds .any e = true ∧ e.on = i := by
  unfold waitsB at h
  split at h
  · rename_i oj hj
    obtain ⟨e, he, hb⟩ := Array.any_eq_true'.1 h
    simp only [Bool.and_eq_true, beq_iff_eq] at hb
    exact ⟨oj, hj, e, he, hb.1, hb.2⟩
  · cases h
theorem backB_inv {ops : Array Oper} (h : backB ops = true) {j : Nat} {o : Oper} (ho : ops[j]? = some o) {e : Edge} (he : e ∈ o.after) (hb : Region.binds .any e = true) : e.on < j := by
  have hj : j < ops.size := (Array.getElem?_eq_some_iff.1 ho).1
  have h1 := List.all_eq_true.1 h j (List.mem_range.2 hj)
  simp only [ho] at h1
  have h2 := Array.all_eq_true'.1 h1 e he
  simpa [hb] using h2
theorem apartA_inv {x y : AOp} (h : apartA x y = true) : (∀ d, x.dst = some d → d ∉ y.reads ∧ y.dst ≠ some d) ∧ ∀ d, y.dst = some d → d ∉ x.reads := by
  unfold apartA at h
  simp only [Bool.and_eq_true] at h
  refine ⟨fun d hd => ?_, fun d hd => ?_⟩
  · have := h.1; rw [hd] at this; simpa using this
  · have := h.2; rw [hd] at this; simpa using this
theorem pairsB_inv {ops : Array Oper} {as : List AOp} {n : Nat} (h : pairsB ops as n = true) {i j : Nat} (hij : i < j) (hj : j < n) {x y : AOp} (hx : as[i]? = some x) (hy : as[j]? = some y) : waitsB ops j i = true ∨ apartA x y = true := by
  have h1 := List.all_eq_true.1 h j (List.mem_range.2 hj)
  have h2 := List.all_eq_true.1 h1 i (List.mem_range.2 hij)
  simp only [hx, hy, Bool.or_eq_true] at h2
  exact h2
section
variable {P : Program} {w0 : World} {ops : Array Oper} {N : Nat}

def Rel (P : Program) (ops : Array Oper) (N : Nat) (as : List AOp) (k : Nat) : Prop := ∀ (j : Nat) (ao : AOp), as[j]? = some ao → ∃ o, ops[k + j]? = some o ∧ trOp P ops N o = some ao

theorem least {p : Nat → Prop} : ∀ {k : Nat}, p k → ∃ k0, k0 ≤ k ∧ p k0 ∧ ∀ j, j < k0 → ¬ p j := by
  intro k
  induction k using Nat.strongRecOn with
  | _ k ih =>
    intro hk
    by_cases h : ∃ j, j < k ∧ p j
    · obtain ⟨j, hj, hp⟩ := h
      obtain ⟨k0, h1, h2, h3⟩ := ih j hj hp
      exact ⟨k0, by omega, h2, h3⟩
    · exact ⟨k, Nat.le_refl _, hk, fun j hj hp => h ⟨j, hj, hp⟩⟩
def stepS (call : Call) (base : Nat) (M : MS) (D : List Nat) (o : AOp) (env : Env) : Option (AV × MS × List Nat) :=
  match wantA env o.g with
  | some true => match evI call base env M D o.i with
    | some (.q v) => some (v, M, D)
    | some (.x v M' D') => some (v, M', D')
    | none => none
  | some false => some (.flat undef, M, D)
  | none => none
theorem evS_cons (call : Call) (base : Nat) (M : MS) (D : List Nat) (o : AOp) (r : List AOp) (env : Env) :
    evS call base (o :: r) env M D = (stepS call base M D o env).bind fun x => evS call base r (updO env o.dst x.1) x.2.1 x.2.2 := by
  simp only [evS, stepS]
  cases wantA env o.g with
  | none => rfl
  | some b => cases b
              · rfl
              · cases evI call base env M D o.i with
                | none => rfl
                | some out => cases out <;> rfl
theorem stepS_congr {call : Call} {base : Nat} {M : MS} {D : List Nat} {o : AOp} {e e' : Env} (h : ∀ t ∈ o.reads, e t = e' t) : stepS call base M D o e = stepS call base M D o e' := by
  have h1 : wantA e o.g = wantA e' o.g := wantA_congr fun t b hg => h t (by simp [AOp.reads, hg])
  have h2 : evI call base e M D o.i = evI call base e' M D o.i := evI_congr call base M D fun x hx => O.ev_congr fun t ht => h t (by
    simp only [AOp.reads, List.mem_append, List.mem_flatMap]
    exact .inl ⟨x, hx, ht⟩)
  simp only [stepS, h1, h2]
theorem upd_if (env : Env) (d : Option Nat) (v : AV) (t : Nat) : updO env d v t = if d = some t then v else env t := by
  cases d with
  | none => simp [updO]
  | some d => simp only [updO, upd, Option.some.injEq]; by_cases htd : t = d
              · subst htd; simp
              · simp [htd, Ne.symm htd]
theorem evS_run (call : Call) (base : Nat) : ∀ (ops : List AOp) (env env' : Env) (M M' : MS) (D D' : List Nat), evS call base ops env M D = some (env', M', D') →
    ∃ (ps : List (Option Nat × AV)) (Ms : Nat → MS × List Nat), ps.map (·.1) = ops.map (·.dst) ∧ Ms 0 = (M, D) ∧ Ms ops.length = (M', D') ∧
      (∀ i o, ops[i]? = some o → ∃ v, ps[i]? = some (o.dst, v) ∧ stepS call base (Ms i).1 (Ms i).2 o (fun t => look (fun k => decide (k < i)) ps t (env t)) = some (v, Ms (i + 1))) ∧
      ∀ t, env' t = look (fun _ => true) ps t (env t)
  | [], env, env', M, M', D, D', h => by
    simp only [evS, Option.some.injEq, Prod.mk.injEq] at h
    obtain ⟨rfl, rfl, rfl⟩ := h
    exact ⟨[], fun _ => (M, D), rfl, rfl, rfl, fun i o h => by simp at h, fun t => rfl⟩
  | o :: r, env, env', M, M', D, D', h => by
    rw [evS_cons] at h
    cases hv : stepS call base M D o env with
    | none => rw [hv] at h; cases h
    | some x =>
      obtain ⟨v, M1, D1⟩ := x
      rw [hv] at h
      simp only [Option.bind_some] at h
      obtain ⟨ps, Ms, h1, h0, hl, h2, h3⟩ := evS_run call base r (updO env o.dst v) env' M1 M' D1 D' h
      refine ⟨(o.dst, v) :: ps, fun i => match i with | 0 => (M, D) | i + 1 => Ms i, by simp [h1], rfl, hl, fun i o' hi => ?_, fun t => ?_⟩
      · cases i with
        | zero =>
          simp at hi; subst hi
          refine ⟨v, by simp, ?_⟩
          simp only [h0]
          rw [← hv]
          exact stepS_congr fun t _ => look_no fun i p _ _ => by simp
        | succ i =>
          obtain ⟨v', e1, e2⟩ := h2 i o' (by simpa using hi)
          refine ⟨v', by simpa using e1, ?_⟩
          show stepS call base (Ms i).1 (Ms i).2 o' _ = _
          rw [← e2]
          exact stepS_congr fun t _ => by simp only [look, upd_if]; simp
      · rw [h3 t]
        simp only [look, upd_if]; simp
theorem free_step {call : Call} {base : Nat} {M M' : MS} {o : AOp} {env : Env} (h : o.i.free = true) : stepQ call base M o env = stepQ call base M' o env := by
  have : evI call base env M [] o.i = evI call base env M' [] o.i := by
    cases hi : o.i <;> simp only [hi, I.free] at h <;> first | (cases h; done) | rfl
  simp only [stepQ, this]
theorem look_app : ∀ {ps qs : List (Option Nat × AV)} {L : Nat → Bool} {t : Nat} {d : AV}, look L (ps ++ qs) t d = look (fun k => L (k + ps.length)) qs t (look L ps t d)
  | [], _, _, _, _ => rfl
  | p :: ps, qs, L, t, d => by
    simp only [List.cons_append, look]
    rw [look_app]
    simp only [List.length_cons, Nat.add_assoc, Nat.add_comm 1]
theorem order_any {call : Call} (HC : CallOk P call) {base n : Nat} {Q : Exit → Act → World → Prop} {as : List AOp} {M : MS} {env env1 env' : Env} {M' : MS} {D D' : List Nat} {G0 : Gh} {sz : Nat} (hord : orderB ops as n = true) (hlen : as.length = ops.size) (hrel : Rel P ops N as 0)
    (hqq : evQ call base M (as.take n) env = some env1) (hS : evS call base (as.drop n) env1 M D = some (env', M', D'))
    (hQ : ∀ a' w' G', Gle G0 G' → EnvR G' env' a' → a'.tmps.size = sz → Inv w0 G' M' w' → Q .normal a' w') (hN : N ≤ sz) {a : Act} {w : World} (hasz : a.tmps.size = sz) (HE0 : EnvR G0 env a) (HI0 : Inv w0 G0 M w) :
    wpAny P .any ops Q ops.size (Array.replicate ops.size false) a w := by
  simp only [orderB, Bool.and_eq_true, decide_eq_true_eq] at hord
  obtain ⟨hnsz, hchain, hback, hpairs, hhead⟩ := hord
  obtain ⟨p1, hp1, hr1, he1⟩ := evQ_run call base M _ _ _ hqq
  obtain ⟨p2, Ms, hp2, hM0, hMl, hr2, he2⟩ := evS_run call base _ _ _ _ _ _ _ hS
  have hl1 : p1.length = n := by
    have := congrArg List.length hp1
    simp only [List.length_map, List.length_take] at this
    omega
  have hl2 : p2.length = ops.size - n := by
    have := congrArg List.length hp2
    simp only [List.length_map, List.length_drop] at this
    omega
  obtain ⟨ps, hpsd⟩ : ∃ ps, ps = p1 ++ p2 := ⟨_, rfl⟩
  have hpl : ps.length = ops.size := by rw [hpsd, List.length_append]; omega
  have hps' : ∀ {i : Nat} {p : Option Nat × AV}, ps[i]? = some p → ∃ ao, as[i]? = some ao ∧ p.1 = ao.dst ∧ i < ops.size := by
    intro i p hp
    have hi : i < ops.size := by rw [← hpl]; exact (List.getElem?_eq_some_iff.1 hp).1
    have h1 : (ps.map (·.1))[i]? = some p.1 := by simp [hp]
    have h2 : ps.map (·.1) = as.map (·.dst) := by
      rw [hpsd, List.map_append, hp1, hp2, ← List.map_append, List.take_append_drop]
    rw [h2] at h1
    simp only [List.getElem?_map, Option.map_eq_some_iff] at h1
    obtain ⟨ao, h2, h3⟩ := h1
    exact ⟨ao, h2, h3.symm, hi⟩
  have hrunQ : ∀ i o, i < n → as[i]? = some o → ∃ v, ps[i]? = some (o.dst, v) ∧ stepQ call base M o (fun t => look (fun k => decide (k < i)) ps t (env t)) = some v := by
    intro i o hi ho
    obtain ⟨v, h1, h2⟩ := hr1 i o (by simp [hi, ho])
    refine ⟨v, by rw [hpsd, List.getElem?_append_left (by omega)]; exact h1, ?_⟩
    rw [← h2]
    refine stepQ_congr fun t _ => ?_
    rw [hpsd, look_app, look_no]
    intro k p _ _; simp; omega
  have hrunS : ∀ i o, n ≤ i → as[i]? = some o → ∃ v, ps[i]? = some (o.dst, v) ∧ stepS call base (Ms (i - n)).1 (Ms (i - n)).2 o (fun t => look (fun k => decide (k < i)) ps t (env t)) = some (v, Ms (i - n + 1)) := by
    intro i o hi ho
    obtain ⟨v, h1, h2⟩ := hr2 (i - n) o (by rw [List.getElem?_drop, show n + (i - n) = i by omega]; exact ho)
    refine ⟨v, by rw [hpsd, List.getElem?_append_right (by omega), hl1]; exact h1, ?_⟩
    rw [← h2]
    refine stepS_congr fun t _ => ?_
    rw [hpsd, look_app, he1 t]
    rw [look_congr (L := fun k => decide (k < i)) (L' := fun _ => true) (ps := p1)]
    · refine look_congr fun k p _ _ => ?_
      rw [hl1]; simp; omega
    · intro k p hp _
      have : k < p1.length := (List.getElem?_eq_some_iff.1 hp).1
      simp; omega
  have henv' : ∀ t, env' t = look (fun _ => true) ps t (env t) := by
    intro t; rw [he2 t, hpsd, look_app, he1 t]
  clear hr1 hr2 he1 he2 hp1 hp2 hqq hS
  -- what n waits for
  have sunk : ∀ (listed : Array Bool), (∀ j oj, ops[j]? = some oj → listed.getD j false = true → ∀ e ∈ oj.after, Region.binds .any e = true → listed.getD e.on false = true) →
      (∀ oj, ops[n]? = some oj → ∀ e ∈ oj.after, Region.binds .any e = true → listed.getD e.on false = true) → ∀ f i, sunkB ops n f i = true → listed.getD i false = true := by
    intro listed hcl hn f
    induction f with
    | zero => intro i h; simp [sunkB] at h
    | succ f ih =>
      intro i h
      simp only [sunkB, List.any_eq_true, List.mem_range, Bool.and_eq_true, decide_eq_true_eq, Bool.or_eq_true] at h
      obtain ⟨j, _, _, hw, hj⟩ := h
      obtain ⟨oj, hoj, e, he, hb, hon⟩ := waitsB_inv hw
      rcases hj with rfl | hj
      · rw [← hon]; exact hn oj hoj e he hb
      · rw [← hon]; exact hcl j oj hoj (ih j hj) e he hb
  have main : ∀ (f : Nat) (todo : List Nat) (m : Nat) (listed : Array Bool) (a : Act) (w : World) (G : Gh), todo.length = f → todo.Nodup → (∀ k, k ∈ todo ↔ (k < ops.size ∧ listed.getD k true = false)) → n ≤ m → m ≤ ops.size →
      (∀ k, n ≤ k → k < ops.size → (listed.getD k true = false ↔ m ≤ k)) → listed.size = ops.size →
      (∀ j oj, ops[j]? = some oj → listed.getD j false = true → ∀ e ∈ oj.after, Region.binds .any e = true → listed.getD e.on false = true) →
      Gle G0 G → a.tmps.size = sz → EnvR G (fun t => look (fun k => listed.getD k false) ps t (env t)) a → Inv w0 G (Ms (m - n)).1 w → wpAny P .any ops Q f listed a w := by
    intro f
    induction f with
    | zero =>
      intro todo m listed a w G hl hnd hin hnm hms htail hsz hclosed hG hasz HE HI
      have htd : todo = [] := List.eq_nil_of_length_eq_zero hl
      have hall : ∀ k, k < ops.size → listed.getD k true = true := by
        intro k hk
        have h3 : ¬ (k < ops.size ∧ listed.getD k true = false) := by rw [← hin k, htd]; simp
        cases hq : listed.getD k true with
        | true => rfl
        | false => exact absurd ⟨hk, hq⟩ h3
      have hm : m = ops.size := by
        rcases Nat.lt_or_ge m ops.size with h | h
        · have := (htail m hnm h).2 (Nat.le_refl _)
          rw [hall m h] at this; cases this
        · omega
      refine ⟨?_, hQ a w G hG ⟨fun t => ?_, HE.d⟩ hasz ?_⟩
      · rw [List.eq_nil_iff_forall_not_mem]
        intro i hi
        obtain ⟨hu, o, ho, _⟩ := mem_ready.1 hi
        have hi' : i < ops.size := (Array.getElem?_eq_some_iff.1 ho).1
        rw [hall i hi'] at hu; cases hu
      · have := HE.t t
        have e : look (fun k => listed.getD k false) ps t (env t) = env' t := by
          rw [henv' t]
          refine look_congr fun i p hp _ => ?_
          obtain ⟨_, _, _, hi⟩ := hps' hp
          have hks : i < listed.size := by omega
          have := hall i hi
          simpa [Array.getD, hks] using this
        rw [← e]; exact this
      · have e : Ms (m - n) = (M', D') := by rw [hm, ← hMl]; simp [hlen]
        rw [e] at HI; exact HI
    | succ f ih =>
      intro todo m listed a w G hl hnd hin hnm hms htail hsz hclosed hG hasz HE HI
      obtain ⟨k, hk⟩ : ∃ k, k ∈ todo := by
        cases todo with
        | nil => simp at hl
        | cons k r => exact ⟨k, by simp⟩
      obtain ⟨k0, _, ⟨hk0n, hk0u⟩, hk0l⟩ := least (p := fun k => k < ops.size ∧ listed.getD k true = false) ((hin k).1 hk)
      have hk0r : k0 ∈ Region.ready .any ops listed := by
        refine mem_ready.2 ⟨hk0u, ops[k0], Array.getElem?_eq_getElem hk0n, fun e he hb => ?_⟩
        have hlt := backB_inv hback (o := ops[k0]) (Array.getElem?_eq_getElem hk0n) he hb
        have h3 := hk0l e.on hlt
        have hes : e.on < listed.size := by omega
        cases hq : listed.getD e.on true with
        | true => simpa [Array.getD, hes] using hq
        | false => exact absurd ⟨by omega, hq⟩ h3
      refine ⟨fun hr => (by rw [hr] at hk0r; cases hk0r), fun i hi => ?_⟩
      obtain ⟨hiu, oi, hoi, hiall⟩ := mem_ready.1 hi
      have his : i < ops.size := (Array.getElem?_eq_some_iff.1 hoi).1
      have hLi : listed.getD i false = false := getD_both hiu
      have him : n ≤ i → i = m := by
        intro hni
        have h1 := (htail i hni his).1 hiu
        rcases Nat.lt_or_ge m i with h | h
        · exfalso
          have hc := List.all_eq_true.1 hchain i (List.mem_range.2 his)
          simp only [Bool.or_eq_true, decide_eq_true_eq] at hc
          rcases hc with hc | hc
          · omega
          · obtain ⟨oj, hoj, e, he, hb, hon⟩ := waitsB_inv hc
            rw [hoi] at hoj; cases hoj
            have h3 := hiall e he hb
            rw [hon, getD_both ((htail (i - 1) (by omega) (by omega)).2 (by omega))] at h3; cases h3
        · omega
      have hgot : ∀ k, n ≤ k → k < m → listed.getD k false = true := by
        intro k h1 h2
        have h3 := htail k h1 (by omega)
        have hks : k < listed.size := by omega
        cases hq : listed.getD k true with
        | true => simpa [Array.getD, hks] using hq
        | false => have := h3.1 hq; omega
      have hsunkm : n < m → ∀ f i, sunkB ops n f i = true → listed.getD i false = true := fun h => sunk listed hclosed (fun oj hoj => hclosed n oj hoj (hgot n (Nat.le_refl _) h))
      obtain ⟨ao, hao⟩ : ∃ ao, as[i]? = some ao := ⟨as[i]'(by omega), by simp [show i < as.length by omega]⟩
      obtain ⟨o', ho', hto⟩ := hrel i ao hao
      rw [Nat.zero_add, hoi] at ho'; cases ho'
      obtain ⟨t1, t2, t3, _⟩ := trOp_inv hto
      have hwi : ∀ {j : Nat}, waitsB ops i j = true → listed.getD j false = true := by
        intro j hw
        obtain ⟨oj, hoj, e, he, hb, hon⟩ := waitsB_inv hw
        rw [hoi] at hoj; cases hoj
        rw [← hon]; exact hiall e he hb
      have hwj : ∀ {j k : Nat}, waitsB ops j k = true → listed.getD j false = true → listed.getD k false = true := by
        intro j k hw hj
        obtain ⟨oj, hoj, e, he, hb, hon⟩ := waitsB_inv hw
        rw [← hon]; exact hclosed j oj hoj hj e he hb
      have headOf : ∀ {j : Nat} {aj ak : AOp} {k : Nat}, j < n → n ≤ k → as[j]? = some aj → as[k]? = some ak → apartA aj ak = false →
          (∃ f, sunkB ops n f j = true) ∨ ∃ x, n ≤ x ∧ x ≤ k ∧ waitsB ops x j = true := by
        intro j aj ak k hj hk haj hak hap
        have hks : k < ops.size := by rw [← hlen]; exact (List.getElem?_eq_some_iff.1 hak).1
        simp only [headB, Bool.or_eq_true, decide_eq_true_eq] at hhead
        rcases hhead with hh | hh
        · omega
        · have h1 := List.all_eq_true.1 hh j (List.mem_range.2 hj)
          simp only [Bool.or_eq_true, Bool.and_eq_true] at h1
          rcases h1 with h1 | ⟨_, h1⟩
          · exact .inl ⟨_, h1⟩
          · have h2 := List.all_eq_true.1 h1 k (List.mem_range.2 hks)
            simp only [haj, hak, hap, Bool.or_eq_true, decide_eq_true_eq, Bool.false_eq_true, or_false, List.any_eq_true, List.mem_range, Bool.and_eq_true] at h2
            rcases h2 with h2 | ⟨x, hx1, hx2, hx3⟩
            · omega
            · exact .inr ⟨x, hx2, by omega, hx3⟩
      have before : ∀ {j : Nat} {aj : AOp}, as[j]? = some aj → j < i → apartA aj ao = false → listed.getD j false = true := by
        intro j aj haj hji hap
        rcases Nat.lt_or_ge i n with hin' | hin'
        · rcases pairsB_inv hpairs hji hin' haj hao with hw | hw
          · exact hwi hw
          · rw [hap] at hw; cases hw
        · rcases Nat.lt_or_ge j n with hjn | hjn
          · rcases headOf hjn hin' haj hao hap with ⟨f, hf⟩ | ⟨x, hx1, hx2, hx3⟩
            · have him := him hin'
              rcases Nat.lt_or_ge n m with h | h
              · exact hsunkm h f j hf
              · have : i = n := by omega
                subst this
                exact sunk listed hclosed (fun oj hoj => by rw [hoi] at hoj; cases hoj; exact hiall) f j hf
            · have him := him hin'
              by_cases hxi : x = i
              · subst hxi; exact hwi hx3
              · exact hwj hx3 (hgot x hx1 (by omega))
          · exact hgot j hjn (by have := him hin'; omega)
      have behind : ∀ {j : Nat} {aj : AOp}, as[j]? = some aj → i < j → apartA ao aj = false → listed.getD j false = false := by
        intro j aj haj hji hap
        have hjs : j < ops.size := by rw [← hlen]; exact (List.getElem?_eq_some_iff.1 haj).1
        cases hq : listed.getD j false with
        | false => rfl
        | true =>
          exfalso
          have hjl : n ≤ j → j < m := by
            intro h
            rcases Nat.lt_or_ge j m with h2 | h2
            · exact h2
            · have := (htail j h hjs).2 h2
              rw [getD_both this] at hq; cases hq
          have contra : listed.getD i false = true → False := by rw [hLi]; intro h; cases h
          rcases Nat.lt_or_ge j n with hjn | hjn
          · rcases pairsB_inv hpairs hji hjn hao haj with hw | hw
            · exact contra (hwj hw hq)
            · rw [hap] at hw; cases hw
          · rcases Nat.lt_or_ge i n with hin' | hin'
            · rcases headOf hin' hjn hao haj hap with ⟨f, hf⟩ | ⟨x, hx1, hx2, hx3⟩
              · exact contra (hsunkm (by have := hjl hjn; omega) f i hf)
              · exact contra (hwj hx3 (hgot x hx1 (by have := hjl hjn; omega)))
            · have := him hin'; have := hjl hjn; omega
      have hagree : ∀ t ∈ ao.reads, look (fun k => listed.getD k false) ps t (env t) = look (fun k => decide (k < i)) ps t (env t) := by
        refine fun t ht => look_congr fun j p hp hpt => ?_
        obtain ⟨aj, haj, hpd, hjn⟩ := hps' hp
        rw [hpd] at hpt
        rcases Nat.lt_trichotomy j i with h | h | h
        · rw [before haj h]
          · simp [h]
          · cases hq : apartA aj ao with
            | false => rfl
            | true => exact absurd ht ((apartA_inv hq).1 t hpt).1
        · subst h; rw [hLi]; simp
        · rw [behind haj h]
          · simp; omega
          · cases hq : apartA ao aj with
            | false => rfl
            | true => exact absurd ht ((apartA_inv hq).2 t hpt)
      have hd : ∀ t, oi.dst = some t → t < a.tmps.size := fun t htt => Nat.lt_of_lt_of_le (t3 t htt) (by omega)
      have hpsz : ∀ v, (a.put oi.dst v).tmps.size = a.tmps.size := fun v => by cases oi.dst <;> simp [Act.put]
      have hils : i < listed.size := by omega
      have hlook : ∀ v, ps[i]? = some (ao.dst, v) → ∀ t, look (fun k => (listed.setIfInBounds i true).getD k false) ps t (env t) = updO (fun t => look (fun k => listed.getD k false) ps t (env t)) ao.dst v t := by
        intro v hpv t
        have e1 : look (fun k => (listed.setIfInBounds i true).getD k false) ps t (env t) = look (fun k => if k = i then true else listed.getD k false) ps t (env t) := by
          refine look_congr fun j p _ _ => ?_
          by_cases hji : j = i
          · subst hji; simp [hils]
          · rw [getD_set_ne false (Ne.symm hji)]; simp [hji]
        rw [e1, look_put hpv, upd_if]
        intro hpt j q hij hq hqt
        obtain ⟨aj, haj, hpd, hjn⟩ := hps' hq
        rw [hpd] at hqt
        refine behind haj hij ?_
        cases hqq : apartA ao aj with
        | false => rfl
        | true => exact absurd hqt ((apartA_inv hqq).1 t hpt).2
      have next : ∀ (v : AV), ps[i]? = some (ao.dst, v) → ∀ (m' : Nat), (if i < n then m' = m else m' = m + 1) → ∀ (u : Value) (w' : World) (G' : Gh), Gle G G' → R G' v u → Inv w0 G' (Ms (m' - n)).1 w' → wpAny P .any ops Q f (listed.setIfInBounds i true) (a.put oi.dst u) w' := by
        intro v hpv m' hm' u w' G' hG' hu HI'
        refine ih (todo.erase i) m' (listed.setIfInBounds i true) _ w' G' ?_ (hnd.erase i) (fun k => ?_) ?_ ?_ (fun k hk hk2 => ?_) (by simpa using hsz) (fun j oj hj hlj e he hb => ?_) (hG.trans hG') (by rw [hpsz]; exact hasz) ⟨fun t => ?_, (by cases oi.dst <;> exact HE.d)⟩ HI'
        · rw [List.length_erase_of_mem ((hin i).2 ⟨his, hiu⟩), hl]; rfl
        · rw [hnd.mem_erase_iff, hin k]
          by_cases hki : k = i
          · subst hki; simp [hils]
          · rw [getD_set_ne true (Ne.symm hki)]; simp [hki]
        · split at hm' <;> omega
        · split at hm'
          · omega
          · have := him (by omega); omega
        · split at hm'
          · rw [getD_set_ne true (by omega), htail k hk hk2]; omega
          · have := him (by omega)
            by_cases hki : k = i
            · subst hki; simp [hils]; omega
            · rw [getD_set_ne true (Ne.symm hki), htail k hk hk2]; omega
        · by_cases hji : i = j
          · subst hji
            rw [hoi] at hj; cases hj
            exact getD_set_true (hiall e he hb)
          · rw [getD_set_ne false hji] at hlj
            exact getD_set_true (hclosed j oj hj hlj e he hb)
        · rw [hlook v hpv t]
          have := ((HE.mono hG').put hu ao.dst (by rw [t2]; exact hd)).t t
          rw [t2] at this ⊢
          exact this
      unfold wpOp
      simp only [hoi]
      rcases Nat.lt_or_ge i n with hin' | hin'
      · obtain ⟨v, hpv, hstep⟩ := hrunQ i ao hin' hao
        have hstep' : stepQ call base (Ms (m - n)).1 ao (fun t => look (fun k => listed.getD k false) ps t (env t)) = some v := by
          have e1 : stepQ call base (Ms (m - n)).1 ao (fun t => look (fun k => listed.getD k false) ps t (env t)) = stepQ call base M ao (fun t => look (fun k => listed.getD k false) ps t (env t)) := by
            rcases Nat.lt_or_ge n m with h | h
            · refine free_step ?_
              simp only [headB, Bool.or_eq_true, decide_eq_true_eq] at hhead
              rcases hhead with hh | hh
              · omega
              · have h1 := List.all_eq_true.1 hh i (List.mem_range.2 hin')
                simp only [Bool.or_eq_true, Bool.and_eq_true] at h1
                rcases h1 with h1 | ⟨h1, _⟩
                · have := hsunkm h _ i h1; rw [hLi] at this; cases this
                · simpa [freeA, hao] using h1
            · have : m - n = 0 := by omega
              rw [this, hM0]
          rw [e1, ← hstep]
          exact stepQ_congr hagree
        have next := next v hpv m (by simp [hin'])
        unfold stepQ at hstep'
        split at hstep'
        · rename_i hw
          rw [wantA_R HE hto hw]
          simp only [if_true]
          refine .inl ?_
          split at hstep'
          · rename_i v' hv'
            cases hstep'
            exact evI_wp HC HE HI t1 hv' fun u w' G' hG' hO => next u w' G' hG' hO.1 hO.2
          · cases hstep'
        · rename_i hw
          rw [wantA_R HE hto hw]
          simp only [Bool.false_eq_true, if_false]
          cases hstep'
          exact next undef w G (Gle.refl G) (.imm _ _ (.flat undef)) HI
        · cases hstep'
      · obtain ⟨v, hpv, hstep⟩ := hrunS i ao hin' hao
        have him := him hin'
        rw [him] at hstep
        have hstep' : stepS call base (Ms (m - n)).1 (Ms (m - n)).2 ao (fun t => look (fun k => listed.getD k false) ps t (env t)) = some (v, Ms (m - n + 1)) := by
          rw [← hstep]
          exact stepS_congr fun t ht => by have := hagree t ht; rw [him] at this; exact this
        have next := next v hpv (m + 1) (by simp; omega)
        rw [show m + 1 - n = m - n + 1 by omega] at next
        unfold stepS at hstep'
        split at hstep'
        · rename_i hw
          rw [wantA_R HE hto hw]
          simp only [if_true]
          refine .inl ?_
          split at hstep'
          · rename_i v' hv'
            simp only [Option.some.injEq, Prod.mk.injEq] at hstep'
            obtain ⟨rfl, hMs⟩ := hstep'
            refine evI_wp HC HE HI t1 hv' fun u w' G' hG' hO => next u w' G' hG' hO.1 ?_
            rw [← hMs]; exact hO.2
          · rename_i v' M1 D1 hv'
            simp only [Option.some.injEq, Prod.mk.injEq] at hstep'
            obtain ⟨rfl, hMs⟩ := hstep'
            refine evI_wp HC HE HI t1 hv' fun u w' G' hG' hO => next u w' G' hG' hO.1 ?_
            rw [← hMs]; exact hO.2
          · cases hstep'
        · rename_i hw
          rw [wantA_R HE hto hw]
          simp only [Bool.false_eq_true, if_false]
          simp only [Option.some.injEq, Prod.mk.injEq] at hstep'
          obtain ⟨rfl, hMs⟩ := hstep'
          refine next undef w G (Gle.refl G) (.imm _ _ (.flat undef)) ?_
          rw [← hMs]; exact HI
        · cases hstep'
  refine main ops.size (List.range ops.size) n (Array.replicate ops.size false) a w G0 (by simp) List.nodup_range (fun k => ?_) (Nat.le_refl _) hnsz (fun k hk hks => ?_) (by simp) (fun j oj hj hlj => ?_) (Gle.refl G0) hasz ⟨fun t => ?_, HE0.d⟩ ?_
  · simp only [List.mem_range]
    constructor
    · intro hk; exact ⟨hk, by simp [Array.getD, hk]⟩
    · intro hk; exact hk.1
  · simp [Array.getD, hks]; omega
  · have hjs := (Array.getElem?_eq_some_iff.1 hj).1
    simp [Array.getD, hjs] at hlj
  · have e : look (fun k => (Array.replicate ops.size false).getD k false) ps t (env t) = env t := look_no fun i p hp _ => by
      simp [Array.getD]
    show R G0 (look (fun k => (Array.replicate ops.size false).getD k false) ps t (env t)) _
    rw [e]; exact HE0.t t
  · rw [Nat.sub_self, hM0]; exact HI0
end
end Go.Proofs.Ytopiaiibpacmlaa.Av
namespace Go.Proofs.Ytopiaiibpacmlaa.Av
open Go.RowKit
set_option linter.unusedSimpArgs false

def trOps (P : Program) (ops : Array Oper) (N : Nat) : List Oper → Option (List AOp)
  | [] => some []
  | o :: r => match trOp P ops N o, trOps P ops N r with
    | some o, some r => some (o :: r)
    | _, _ => none
def trCode (P : Program) (N : Nat) : Code → AC
  | .skip => .skip
  | .seq a b => .seq (trCode P N a) (trCode P N b)
  | .cond c a b => match trO c with
    | some c => .cond c (trCode P N a) (trCode P N b)
    | none => .stop
  | .block id a => .block id (trCode P N a)
  | .loop a => .loop (trCode P N a)
  | .exit id => .exit id
  | .ret => .ret
  | .region _ ops draw => match trOps P ops N ops.toList with
    | some as => if draw then (match (List.range (ops.size + 1)).find? fun n => orderB ops as n with
        | some n => .region n as
        | none => .stop) else .region 0 as
    | none => .stop
  | _ => .stop
def trRV (P : Program) : ResultVar → Option RV
  | .tmp t => some (.t t)
  | .cell a t => match isAggT P t, sizeT P t with
    | some ag, some n => some (.cell a ag n)
    | _, _ => none
def trRes (P : Program) : List ResultVar → Option (List RV)
  | [] => some []
  | r :: rs => match trRV P r, trRes P rs with
    | some r, some rs => some (r :: rs)
    | _, _ => none
def trFn (P : Program) (fn : Func) (keep : Bool) : Option AF :=
  match fn.body with
  | some c => match trRes P fn.results.toList with
    | some rs => some ⟨trCode P fn.ntmps c, rs, keep⟩
    | none => none
  | none => none
def Ex.x : Ex → Exit
  | .nrm => .normal
  | .exit id => .exit id
  | .ret => .ret
section
variable {P : Program} {w0 : World}
theorem trOps_rel {ops : Array Oper} {N : Nat} : ∀ {l : List Oper} {as : List AOp}, trOps P ops N l = some as → as.length = l.length ∧ ∀ (j : Nat) (ao : AOp), as[j]? = some ao → ∃ o, l[j]? = some o ∧ trOp P ops N o = some ao
  | [], as, h => by simp [trOps] at h; subst h; exact ⟨rfl, fun j ao h => by simp at h⟩
  | o :: l, as, h => by
    simp only [trOps] at h
    split at h
    · rename_i ao r h1 h2
      cases h
      obtain ⟨hl, hr⟩ := trOps_rel h2
      refine ⟨by simp [hl], fun j a hj => ?_⟩
      cases j with
      | zero => simp at hj; subst hj; exact ⟨o, rfl, h1⟩
      | succ j => exact hr j a (by simpa using hj)
    · cases h
theorem region_wp {call : Call} (HC : CallOk P call) (hm : P.follows .mixedOrders = true) {base n id N : Nat} {ops : Array Oper} {draw : Bool} {as : List AOp} (ht : trOps P ops N ops.toList = some as) (hord : draw = true → orderB ops as n = true) (hn : draw = false → n = 0)
    {env env1 env' : Env} {M M' : MS} {D D' : List Nat} {a : Act} {w : World} {G : Gh} {Q : Exit → Act → World → Prop}
    (hq : evQ call base M (as.take n) env = some env1) (hS : evS call base (as.drop n) env1 M D = some (env', M', D')) (hN : N ≤ a.tmps.size) (HE : EnvR G env a) (HI : Inv w0 G M w)
    (hQ : ∀ a' w' G', Gle G G' → EnvR G' env' a' → a'.tmps.size = a.tmps.size → Inv w0 G' M' w' → Q .normal a' w') : (Code.region id ops draw).wp P Q a w := by
  obtain ⟨hlen, hrel⟩ := trOps_rel ht
  simp only [Array.length_toList] at hlen
  have hrel' : Rel P ops N as 0 := fun j ao hj => by
    obtain ⟨o, h1, h2⟩ := hrel j ao hj
    exact ⟨o, by simpa using h1, h2⟩
  cases draw with
  | false =>
    have h0 := hn rfl
    subst h0
    simp only [List.take_zero, evQ, Option.some.injEq, List.drop_zero] at hq hS
    subst hq
    refine wp_region (evS_wp HC (N := N) (List.range ops.size) as env env' M M' D D' a w G (by simp [hlen]) (fun j i ao h1 h2 => ?_) hS hN HE HI hQ)
    obtain ⟨o, h3, h4⟩ := hrel' j ao h2
    have : i = j := by
      have := (List.getElem?_eq_some_iff.1 h1).2
      simpa using this.symm
    subst this
    exact ⟨o, by simpa using h3, h4⟩
  | true =>
    have ho := hord rfl
    refine wp_region_any hm ?_
    exact order_any HC ho hlen hrel' hq hS hQ hN rfl HE (HI.grow (drew_below w))
theorem code_wp {call : Call} (HC : CallOk P call) (hm : P.follows .mixedOrders = true) {base n N : Nat} : ∀ (c : Code) (ac : AC), trCode P N c = ac → ∀ (env env' : Env) (M M' : MS) (D D' : List Nat) (ex : Ex) (a : Act) (w : World) (G : Gh) (Q : Exit → Act → World → Prop),
    evAC call base n ac env M D = some (ex, env', M', D') → N ≤ a.tmps.size → EnvR G env a → Inv w0 G M w →
    (∀ a' w' G', Gle G G' → EnvR G' env' a' → a'.tmps.size = a.tmps.size → Inv w0 G' M' w' → Q ex.x a' w') → c.wp P Q a w := by
  intro c
  induction c with
  | skip =>
    intro ac ht env env' M M' D D' ex a w G Q h hN HE HI hQ
    simp only [trCode] at ht; subst ht
    simp only [evAC, Option.some.injEq, Prod.mk.injEq] at h
    obtain ⟨rfl, rfl, rfl, rfl⟩ := h
    exact wp_skip (hQ a w G (Gle.refl G) HE rfl HI)
  | exit id =>
    intro ac ht env env' M M' D D' ex a w G Q h hN HE HI hQ
    simp only [trCode] at ht; subst ht
    simp only [evAC, Option.some.injEq, Prod.mk.injEq] at h
    obtain ⟨rfl, rfl, rfl, rfl⟩ := h
    exact wp_exit (hQ a w G (Gle.refl G) HE rfl HI)
  | ret =>
    intro ac ht env env' M M' D D' ex a w G Q h hN HE HI hQ
    simp only [trCode] at ht; subst ht
    simp only [evAC, Option.some.injEq, Prod.mk.injEq] at h
    obtain ⟨rfl, rfl, rfl, rfl⟩ := h
    exact wp_ret (hQ a w G (Gle.refl G) HE rfl HI)
  | seq x y ihx ihy =>
    intro ac ht env env' M M' D D' ex a w G Q h hN HE HI hQ
    simp only [trCode] at ht
    obtain ⟨ax, h1⟩ : ∃ ax, trCode P N x = ax := ⟨_, rfl⟩
    obtain ⟨ay, h2⟩ : ∃ ay, trCode P N y = ay := ⟨_, rfl⟩
    rw [h1, h2] at ht
    · subst ht
      simp only [evAC] at h
      refine wp_seq ?_
      split at h
      · rename_i env1 M1 D1 hx
        refine ihx ax h1 env env1 M M1 D D1 .nrm a w G _ hx hN HE HI fun a1 w1 G1 g1 g2 g3 g4 => ?_
        exact ihy ay h2 env1 env' M1 M' D1 D' ex a1 w1 G1 Q h (by rw [g3]; exact hN) g2 g4 fun a' w' G' k1 k2 k3 k4 => hQ a' w' G' (g1.trans k1) k2 (by rw [k3, g3]) k4
      · rename_i r hne
        refine ihx ax h1 env env' M M' D D' ex a w G _ h hN HE HI fun a1 w1 G1 g1 g2 g3 g4 => ?_
        have hq := hQ a1 w1 G1 g1 g2 g3 g4
        cases ex with
        | nrm => exact absurd h (by intro hh; exact hne _ _ _ hh)
        | exit id => exact hq
        | ret => exact hq
  | cond c x y ihx ihy =>
    intro ac ht env env' M M' D D' ex a w G Q h hN HE HI hQ
    simp only [trCode] at ht
    obtain ⟨ax, h1⟩ : ∃ ax, trCode P N x = ax := ⟨_, rfl⟩
    obtain ⟨ay, h2⟩ : ∃ ay, trCode P N y = ay := ⟨_, rfl⟩
    rw [h1, h2] at ht
    split at ht
    · rename_i oc h0
      subst ht
      have hR := trO_R HE h0
      simp only [evAC] at h
      split at h
      · rename_i hb
        rw [asBool_inv hb] at hR
        exact wp_cond_true hR.flat_inv (ihx ax h1 env env' M M' D D' ex a w G Q h hN HE HI hQ)
      · rename_i hb
        rw [asBool_inv hb] at hR
        exact wp_cond_false hR.flat_inv (ihy ay h2 env env' M M' D D' ex a w G Q h hN HE HI hQ)
      · cases h
    · subst ht; simp [evAC] at h
  | block id x ih =>
    intro ac ht env env' M M' D D' ex a w G Q h hN HE HI hQ
    simp only [trCode] at ht
    obtain ⟨ax, h1⟩ : ∃ ax, trCode P N x = ax := ⟨_, rfl⟩
    rw [h1] at ht
    subst ht
    simp only [evAC] at h
    refine wp_block ?_
    split at h
    · rename_i id' env1 M1 D1 hx
      split at h
      · rename_i hid
        simp only [Option.some.injEq, Prod.mk.injEq] at h
        obtain ⟨rfl, rfl, rfl, rfl⟩ := h
        refine ih ax h1 env _ M _ D _ (.exit id') a w G _ hx hN HE HI fun a1 w1 G1 g1 g2 g3 g4 => ?_
        simp only [Ex.x, Exit.inBlock, hid, if_true]
        exact hQ a1 w1 G1 g1 g2 g3 g4
      · rename_i hid
        simp only [Option.some.injEq, Prod.mk.injEq] at h
        obtain ⟨rfl, rfl, rfl, rfl⟩ := h
        refine ih ax h1 env _ M _ D _ (.exit id') a w G _ hx hN HE HI fun a1 w1 G1 g1 g2 g3 g4 => ?_
        simp only [Ex.x, Exit.inBlock, hid, if_false]
        exact hQ a1 w1 G1 g1 g2 g3 g4
    · rename_i r hne
      refine ih ax h1 env env' M M' D D' ex a w G _ h hN HE HI fun a1 w1 G1 g1 g2 g3 g4 => ?_
      have hq := hQ a1 w1 G1 g1 g2 g3 g4
      cases ex with
      | nrm => exact hq
      | exit id' => exact absurd h (by intro hh; exact hne _ _ _ _ hh)
      | ret => exact hq
  | loop x ih =>
    intro ac ht env env' M M' D D' ex a w G Q h hN HE HI hQ
    simp only [trCode] at ht
    obtain ⟨ax, h1⟩ : ∃ ax, trCode P N x = ax := ⟨_, rfl⟩
    rw [h1] at ht
    subst ht
    simp only [evAC] at h
    refine wp_loop_rounds n ?_
    have key : ∀ (k : Nat) (env : Env) (M : MS) (D : List Nat) (a : Act) (w : World) (G : Gh), evLoop (evAC call base n ax) k env M D = some (ex, env', M', D') → N ≤ a.tmps.size → EnvR G env a → Inv w0 G M w →
        (∀ a' w' G', Gle G G' → EnvR G' env' a' → a'.tmps.size = a.tmps.size → Inv w0 G' M' w' → Q ex.x a' w') → Code.rounds P x Q k a w := by
      intro k
      induction k with
      | zero => intro env M D a w G h; simp [evLoop] at h
      | succ k ihk =>
        intro env M D a w G h hN HE HI hQ
        rw [rounds_succ]
        simp only [evLoop] at h
        split at h
        · rename_i env1 M1 D1 hx
          refine ih ax h1 env env1 M M1 D D1 .nrm a w G _ hx hN HE HI fun a1 w1 G1 g1 g2 g3 g4 => ?_
          exact ihk env1 M1 D1 a1 w1 G1 h (by rw [g3]; exact hN) g2 g4 fun a' w' G' k1 k2 k3 k4 => hQ a' w' G' (g1.trans k1) k2 (by rw [k3, g3]) k4
        · rename_i r hne
          refine ih ax h1 env env' M M' D D' ex a w G _ h hN HE HI fun a1 w1 G1 g1 g2 g3 g4 => ?_
          have hq := hQ a1 w1 G1 g1 g2 g3 g4
          cases ex with
          | nrm => exact absurd h (by intro hh; exact hne _ _ _ hh)
          | exit id => exact hq
          | ret => exact hq
    exact key n env M D a w G h hN HE HI hQ
  | region id ops draw =>
    intro ac ht env env' M M' D D' ex a w G Q h hN HE HI hQ
    simp only [trCode] at ht
    split at ht
    · rename_i as has
      have main : ∀ k, (draw = true → orderB ops as k = true) → (draw = false → k = 0) → ac = .region k as → (Code.region id ops draw).wp P Q a w := by
        intro k hk1 hk2 hac
        subst hac
        simp only [evAC] at h
        split at h
        · rename_i env1 hq
          split at h
          · rename_i env2 M2 D2 hS
            simp only [Option.some.injEq, Prod.mk.injEq] at h
            obtain ⟨rfl, rfl, rfl, rfl⟩ := h
            exact region_wp HC hm has hk1 hk2 hq hS hN HE HI hQ
          · cases h
        · cases h
      cases draw with
      | false => simp at ht; exact main 0 (fun h => by cases h) (fun _ => rfl) ht.symm
      | true =>
        simp only [if_true] at ht
        split at ht
        · rename_i k hk
          exact main k (fun _ => by simpa using List.find?_some hk) (fun h => by cases h) ht.symm
        · subst ht; simp [evAC] at h
    · subst ht; simp [evAC] at h
  | _ =>
    intro ac ht env env' M M' D D' ex a w G Q h
    simp only [trCode] at ht
    subst ht
    simp [evAC] at h
end
end Go.Proofs.Ytopiaiibpacmlaa.Av
namespace Go.Proofs.Ytopiaiibpacmlaa.Av
open Go.RowKit
set_option linter.unusedSimpArgs false

/-! ### Which blocks are written -/
def Fr (base : Nat) (M M' : MS) (D D' : List Nat) : Prop := M.length ≤ M'.length ∧ (∀ i ∈ D, i ∈ D') ∧ ∀ id, id < base → id ∉ D' → M'[id]? = M[id]?
theorem Fr.refl (base : Nat) (M : MS) (D : List Nat) : Fr base M M D D := ⟨Nat.le_refl _, fun _ h => h, fun _ _ _ => rfl⟩
theorem Fr.trans {base : Nat} {M M1 M2 : MS} {D D1 D2 : List Nat} (h : Fr base M M1 D D1) (k : Fr base M1 M2 D1 D2) : Fr base M M2 D D2 :=
  ⟨Nat.le_trans h.1 k.1, fun i hi => k.2.1 i (h.2.1 i hi), fun id hid hn => (k.2.2 id hid hn).trans (h.2.2 id hid fun hh => hn (k.2.1 id hh))⟩
theorem Fr.app {base : Nat} {M X : MS} {D : List Nat} (hb : base ≤ M.length) : Fr base M (M ++ X) D D :=
  ⟨by simp, fun _ h => h, fun id hid _ => by rw [List.getElem?_append_left (by omega)]⟩
theorem Fr.set {base id : Nat} {M : MS} {D : List Nat} {x : Option (List AV)} : Fr base M (M.set id x) D (dirt base id D) :=
  ⟨by simp, fun i hi => by unfold dirt; split <;> simp [hi], fun k hk hn => by
    by_cases he : id = k
    · subst he; exfalso; apply hn; simp [dirt, hk]
    · rw [List.getElem?_set_ne he]⟩
theorem frz_fr {base : Nat} {M M' : MS} {x x' : AV} (h : frz base M x = some (x', M')) : M'.length = M.length ∧ ∀ id, id < base → M'[id]? = M[id]? := by
  have plain : ∀ {y : AV}, (if isI y = true then some (y, M) else none) = some (x', M') → M'.length = M.length ∧ ∀ id, id < base → M'[id]? = M[id]? := by
    intro y h
    split at h
    · cases h; exact ⟨rfl, fun _ _ => rfl⟩
    · cases h
  cases x with
  | ms id off len sz cd =>
    simp only [frz] at h
    split at h
    · split at h
      · rename_i hh
        cases h
        exact ⟨by simp, fun k hk => by rw [List.getElem?_set_ne (by omega)]⟩
      · cases h
    · cases h
  | mptr id off => simp [frz] at h
  | _ => exact plain (by simpa only [frz] using h)
theorem frzAll_fr {base : Nat} : ∀ {cs cs' : List AV} {M M' : MS}, frzAll base M cs = some (cs', M') → M'.length = M.length ∧ ∀ id, id < base → M'[id]? = M[id]?
  | [], cs', M, M', h => by simp [frzAll] at h; obtain ⟨_, rfl⟩ := h; exact ⟨rfl, fun _ _ => rfl⟩
  | c :: cs, cs', M, M', h => by
    simp only [frzAll] at h
    split at h
    · rename_i c' M1 h1
      split at h
      · rename_i r' M2 h2
        cases h
        obtain ⟨g1, g2⟩ := frz_fr h1
        obtain ⟨k1, k2⟩ := frzAll_fr h2
        exact ⟨k1.trans g1, fun id hid => (k2 id hid).trans (g2 id hid)⟩
      · cases h
    · cases h
theorem frzA_fr {base : Nat} {M M' : MS} {x x' : AV} (h : frzA base M x = some (x', M')) : M'.length = M.length ∧ ∀ id, id < base → M'[id]? = M[id]? := by
  cases x with
  | agg cs =>
    simp only [frzA, Option.map_eq_some_iff] at h
    obtain ⟨⟨cs', M1⟩, h1, h2⟩ := h
    cases h2; exact frzAll_fr h1
  | _ => exact frz_fr (by simpa only [frzA] using h)
theorem frzTup_fr {base : Nat} : ∀ {cs cs' : List AV} {M M' : MS}, frzTup base M cs = some (cs', M') → M'.length = M.length ∧ ∀ id, id < base → M'[id]? = M[id]?
  | [], cs', M, M', h => by simp [frzTup] at h; obtain ⟨_, rfl⟩ := h; exact ⟨rfl, fun _ _ => rfl⟩
  | c :: cs, cs', M, M', h => by
    simp only [frzTup] at h
    split at h
    · rename_i c' M1 h1
      split at h
      · rename_i r' M2 h2
        cases h
        obtain ⟨g1, g2⟩ := frzA_fr h1
        obtain ⟨k1, k2⟩ := frzTup_fr h2
        exact ⟨k1.trans g1, fun id hid => (k2 id hid).trans (g2 id hid)⟩
      · cases h
    · cases h
theorem frzV_fr {base : Nat} {M M' : MS} {x x' : AV} (h : frzV base M x = some (x', M')) : M'.length = M.length ∧ ∀ id, id < base → M'[id]? = M[id]? := by
  cases x with
  | tup cs =>
    simp only [frzV, Option.map_eq_some_iff] at h
    obtain ⟨⟨cs', M1⟩, h1, h2⟩ := h
    cases h2; exact frzTup_fr h1
  | _ => exact frzA_fr (by simpa only [frzV] using h)
def FrameOk (call : Call) : Prop := ∀ f args M v M' D, call f args M = some (.x v M' D) → M.length ≤ M'.length ∧ ∀ id, id < M.length → id ∉ D → M'[id]? = M[id]?
theorem frz_dt {base : Nat} {M M' : MS} {x x' : AV} {D : List Nat} (h : frz 0 M x = some (x', M')) : Fr base M M' D (dirts base [x] D) := by
  have plain : ∀ {y : AV}, (if isI y = true then some (y, M) else none) = some (x', M') → dirts base [y] D = D → Fr base M M' D (dirts base [y] D) := by
    intro y h h2
    split at h
    · cases h; rw [h2]; exact Fr.refl _ _ _
    · cases h
  cases x with
  | ms id off len sz cd =>
    simp only [frz] at h
    split at h
    · split at h
      · cases h; exact Fr.set
      · cases h
    · cases h
  | mptr id off => simp [frz] at h
  | _ => exact plain (by simpa only [frz] using h) rfl
theorem dirts_cons (base : Nat) (c : AV) (cs : List AV) (D : List Nat) : dirts base (c :: cs) D = dirts base [c] (dirts base cs D) := by cases c <;> rfl
theorem dirts_sub {base : Nat} : ∀ (cs : List AV) (D : List Nat), ∀ i ∈ D, i ∈ dirts base cs D
  | [], D, i, h => h
  | c :: cs, D, i, h => by
    have h2 := dirts_sub (base := base) cs D i h
    cases c <;> simp only [dirts] <;> first | exact h2 | (unfold dirt; split <;> simp [h2])
theorem frzAll_dt {base : Nat} : ∀ {cs cs' : List AV} {M M' : MS} {D : List Nat}, frzAll 0 M cs = some (cs', M') → Fr base M M' D (dirts base cs D)
  | [], cs', M, M', D, h => by simp [frzAll] at h; obtain ⟨_, rfl⟩ := h; exact Fr.refl _ _ _
  | c :: cs, cs', M, M', D, h => by
    simp only [frzAll] at h
    split at h
    · rename_i c' M1 h1
      split at h
      · rename_i r' M2 h2
        cases h
        have k1 := frz_dt (base := base) (D := D) h1
        have k2 := frzAll_dt (base := base) (D := D) h2
        rw [dirts_cons]
        refine ⟨Nat.le_trans k1.1 k2.1, fun i hi => dirts_sub _ _ _ (k2.2.1 i hi), fun id hid hn => ?_⟩
        have n2 : id ∉ dirts base cs D := fun hh => hn (dirts_sub _ _ _ hh)
        have n1 : id ∉ dirts base [c] D := by
          intro hh; apply hn
          cases c <;> simp only [dirts] at hh ⊢ <;> first | exact dirts_sub _ _ _ hh | (unfold dirt at hh ⊢; split at hh <;> rename_i hc <;> simp only [hc, if_true, if_false, List.mem_cons] at hh ⊢ <;> first | exact (hh.imp (fun h => h) fun h => dirts_sub _ _ _ h) | exact dirts_sub _ _ _ hh)
        exact (k2.2.2 id hid n2).trans (k1.2.2 id hid n1)
      · cases h
    · cases h
theorem sliceA_q {sz : Nat} {x : AV} {lo hi mx : Option AV} {out : Out} (h : sliceA sz x lo hi mx = some out) : ∃ z, out = .q z := by
  cases x with
  | list sz' cs nl cd =>
    simp only [sliceA] at h
    split at h
    · split at h
      · split at h
        · cases h; exact ⟨_, rfl⟩
        · cases h; exact ⟨_, rfl⟩
      · cases h
    · cases h
  | ms id off len sz' cd =>
    simp only [sliceA] at h
    split at h
    · split at h
      · split at h
        · cases h; exact ⟨_, rfl⟩
        · split at h
          · cases h
          · cases h; exact ⟨_, rfl⟩
      · cases h
    · cases h
  | _ => simp [sliceA] at h
theorem evI_fr {call : Call} (HF : FrameOk call) {base : Nat} {env : Env} {M M' : MS} {D D' : List Nat} {i : I} {v : AV} (hb : base ≤ M.length) (h : evI call base env M D i = some (.x v M' D')) : Fr base M M' D D' := by
  have callF : ∀ {f : Nat} {args : List AV}, evI.callA call base M D f args = some (.x v M' D') → Fr base M M' D D' := by
    intro f args h
    simp only [evI.callA] at h
    split at h
    · cases h
    · rename_i v1 M1 D1 hc
      cases h
      obtain ⟨h1, h2⟩ := HF _ _ _ _ _ _ hc
      refine ⟨h1, fun i hi => by simp [hi], fun id hid hn => h2 id (by omega) fun hh => hn ?_⟩
      simp [hh, hid]
    · cases h
  cases i <;> simp only [evI] at h
  case store n a x =>
    split at h
    · split at h
      · unfold storeA at h
        split at h
        · split at h
          · rename_i cs' M1 hz
            obtain ⟨h1, h2⟩ := frzAll_fr hz
            split at h
            · split at h
              · cases h
                exact Fr.trans (M1 := M1) (D1 := D) ⟨by omega, fun _ h => h, fun id hid _ => h2 id hid⟩ Fr.set
              · cases h
            · cases h
          · cases h
        · split at h
          · split at h
            · cases h; exact Fr.set
            · cases h
          · cases h
        · cases h
      · cases h
    · cases h
  case alloc zs => cases h; exact Fr.app hb
  case box n x =>
    split at h
    · split at h
      · cases h; exact Fr.app hb
      · cases h
    · cases h
  case bslice sz len zs ps =>
    split at h
    · split at h
      · cases h
      · split at h
        · rename_i cs' M1 hz
          cases h
          exact frzAll_dt hz
        · cases h
    · cases h
  case mslice sz by' zs n c =>
    split at h
    · split at h
      · cases h; exact Fr.app hb
      · cases h
    · cases h
  case call f args => exact callF h
  case calld f args =>
    split at h
    · exact callF h
    · cases h
  case app sz by' s x =>
    split at h
    · unfold appA at h
      split at h
      · split at h
        · cases h
        · split at h <;> cases h
        · cases h
      · split at h
        · split at h
          · cases h; exact Fr.app hb
          · cases h
        · split at h
          · split at h
            · split at h
              · cases h; exact Fr.app hb
              · split at h
                · cases h
                  exact Fr.set.trans (Fr.app (by simpa using hb))
                · cases h
            · cases h
          · cases h
        · cases h
    · cases h
  case copy sz d s =>
    split at h
    · split at h
      · split at h
        · cases h; exact Fr.set
        · cases h
      · cases h
    · cases h
  case clear sz zs x =>
    split at h
    · cases h
    · split at h
      · split at h
        · split at h
          · cases h
          · cases h; exact Fr.set
        · cases h
      · cases h
    · cases h
  case slice sz x lo hi mx =>
    split at h
    · obtain ⟨z, hz⟩ := sliceA_q h; cases hz
    · cases h
  all_goals (try simp only [Option.map_eq_some_iff] at h)
  all_goals first
    | (obtain ⟨_, _, hh⟩ := h; cases hh; done)
    | (cases h; done)
    | ((repeat' split at h); all_goals first | (cases h; done) | (rw [Option.map_eq_some_iff] at h; obtain ⟨_, _, hh⟩ := h; cases hh; done))
theorem evS_fr {call : Call} (HF : FrameOk call) {base : Nat} : ∀ {as : List AOp} {env env' : Env} {M M' : MS} {D D' : List Nat}, base ≤ M.length → evS call base as env M D = some (env', M', D') → Fr base M M' D D' := by
  intro as
  induction as with
  | nil => intro env env' M M' D D' hb h; simp only [evS, Option.some.injEq, Prod.mk.injEq] at h; obtain ⟨_, rfl, rfl⟩ := h; exact Fr.refl _ _ _
  | cons o as ih =>
    intro env env' M M' D D' hb h
    simp only [evS] at h
    split at h
    · split at h
      · exact ih hb h
      · rename_i v M1 D1 hv
        have h1 := evI_fr HF hb hv
        exact h1.trans (ih (Nat.le_trans hb h1.1) h)
      · cases h
    · exact ih hb h
    · cases h
theorem evAC_fr {call : Call} (HF : FrameOk call) {base n : Nat} : ∀ {c : AC} {env env' : Env} {M M' : MS} {D D' : List Nat} {ex : Ex}, base ≤ M.length → evAC call base n c env M D = some (ex, env', M', D') → Fr base M M' D D' := by
  intro c
  induction c with
  | skip => intro env env' M M' D D' ex hb h; simp only [evAC, Option.some.injEq, Prod.mk.injEq] at h; obtain ⟨_, _, rfl, rfl⟩ := h; exact Fr.refl _ _ _
  | exit id => intro env env' M M' D D' ex hb h; simp only [evAC, Option.some.injEq, Prod.mk.injEq] at h; obtain ⟨_, _, rfl, rfl⟩ := h; exact Fr.refl _ _ _
  | ret => intro env env' M M' D D' ex hb h; simp only [evAC, Option.some.injEq, Prod.mk.injEq] at h; obtain ⟨_, _, rfl, rfl⟩ := h; exact Fr.refl _ _ _
  | stop => intro env env' M M' D D' ex hb h; simp [evAC] at h
  | seq x y ihx ihy =>
    intro env env' M M' D D' ex hb h
    simp only [evAC] at h
    split at h
    · rename_i env1 M1 D1 hx
      have h1 := ihx hb hx
      exact h1.trans (ihy (Nat.le_trans hb h1.1) h)
    · exact ihx hb h
  | cond c x y ihx ihy =>
    intro env env' M M' D D' ex hb h
    simp only [evAC] at h
    split at h
    · exact ihx hb h
    · exact ihy hb h
    · cases h
  | block id x ih =>
    intro env env' M M' D D' ex hb h
    simp only [evAC] at h
    split at h
    · rename_i id' env1 M1 D1 hx
      have h1 := ih hb hx
      split at h <;> (simp only [Option.some.injEq, Prod.mk.injEq] at h; obtain ⟨_, _, rfl, rfl⟩ := h; exact h1)
    · exact ih hb h
  | loop x ih =>
    intro env env' M M' D D' ex hb h
    simp only [evAC] at h
    have key : ∀ (k : Nat) {env : Env} {M : MS} {D : List Nat}, base ≤ M.length → evLoop (evAC call base n x) k env M D = some (ex, env', M', D') → Fr base M M' D D' := by
      intro k
      induction k with
      | zero => intro env M D hb h; simp [evLoop] at h
      | succ k ihk =>
        intro env M D hb h
        simp only [evLoop] at h
        split at h
        · rename_i env1 M1 D1 hx
          have h1 := ih hb hx
          exact h1.trans (ihk (Nat.le_trans hb h1.1) h)
        · exact ih hb h
    exact key n hb h
  | region k ops =>
    intro env env' M M' D D' ex hb h
    simp only [evAC] at h
    split at h
    · split at h
      · rename_i env2 M2 D2 hS
        simp only [Option.some.injEq, Prod.mk.injEq] at h
        obtain ⟨_, _, rfl, rfl⟩ := h
        exact evS_fr HF hb hS
      · cases h
    · cases h

/-! ### What a call leaves behind -/
/-- Every block that a value leads to is below k. -/
inductive Lt (k : Nat) : AV → Prop
  | flat (v : Value) : Lt k (.flat v)
  | list (sz : Nat) (cs : List AV) (nl cd : Bool) : Lt k (.list sz cs nl cd)
  | agg (cs : List AV) (h : ∀ (j : Nat) (h : j < cs.length), Lt k cs[j]) : Lt k (.agg cs)
  | elem (x : AV) (j : Nat) (h : Lt k x) : Lt k (.elem x j)
  | mptr (id off : Nat) (h : id < k) : Lt k (.mptr id off)
  | ms (id off len sz : Nat) (cd : Bool) (h : id < k) : Lt k (.ms id off len sz cd)
  | clo (fn : Nat) (cs : List AV) (h : ∀ (j : Nat) (h : j < cs.length), Lt k cs[j]) : Lt k (.clo fn cs)
  | tup (cs : List AV) (h : ∀ (j : Nat) (h : j < cs.length), Lt k cs[j]) : Lt k (.tup cs)
theorem RI.lt {g : Addr → Option Value} {k : Nat} {x : AV} {v : Value} (h : RI g x v) : Lt k x := by
  induction h with
  | flat v => exact .flat v
  | nil sz => exact .list _ _ _ _
  | list sz cs capd a n c vs h0 h1 h2 h3 h4 h5 h6 ih => exact .list _ _ _ _
  | agg cs vs h h6 h7 ih => exact .agg _ ih
  | elem x k a n c h ih => exact .elem _ _ ih
  | clo fn cs vs h h6 ih => exact .clo _ _ ih
  | tup cs vs h h6 ih => exact .tup _ ih
theorem R.lt {G : Gh} {x : AV} {v : Value} (h : R G x v) : Lt G.m.length x := by
  induction h with
  | imm x v h => exact h.lt
  | agg cs vs h h6 h7 ih => exact .agg _ ih
  | elem x k a n c h ih => exact .elem _ _ ih
  | mptr id off v h0 h1 h => exact .mptr _ _ h0
  | ms id off len sz capd v h0 h1 hsz h => exact .ms _ _ _ _ _ h0
  | clo fn cs vs h h6 ih => exact .clo _ _ ih
  | tup cs vs h h6 ih => exact .tup _ ih
theorem Lt.ofI {k : Nat} {G : Gh} {x : AV} {v : Value} (h : R G x v) (hi : isI x = true) : Lt k x := (h.toI hi).lt
def Gh.cut (G : Gh) (k : Nat) : Gh := { G with m := G.m.take k }
theorem R.cut {G : Gh} {k : Nat} (hk : k ≤ G.m.length) {x : AV} {v : Value} (h : R G x v) (hl : Lt k x) : R (G.cut k) x v := by
  have hlen : (G.cut k).m.length = k := by simp [Gh.cut]; omega
  induction h with
  | imm x v h => exact .imm _ _ h
  | agg cs vs h h6 h7 ih => cases hl with | agg _ hh => exact .agg _ _ h (fun j hj => ih j hj (hh j hj)) h7
  | elem x k a n c h ih => cases hl with | elem _ _ hh => exact .elem _ _ _ _ _ (ih hh)
  | mptr id off v h0 h1 h => cases hl with | mptr _ _ hh => exact .mptr _ _ _ (by omega) h1 fun b n hb => h b n (by simp only [Gh.cut, List.getElem?_take, hh, if_true] at hb; exact hb)
  | ms id off len sz capd v h0 h1 hsz h => cases hl with | ms _ _ _ _ _ hh => exact .ms _ _ _ _ _ _ (by omega) h1 hsz fun b n hb => h b n (by simp only [Gh.cut, List.getElem?_take, hh, if_true] at hb; exact hb)
  | clo fn cs vs h h6 ih => cases hl with | clo _ _ hh => exact .clo _ _ _ h fun j hj => ih j hj (hh j hj)
  | tup cs vs h h6 ih => cases hl with | tup _ hh => exact .tup _ _ h fun j hj => ih j hj (hh j hj)
section
variable {P : Program} {w0 w w' : World}
theorem Gle.cut {G G' : Gh} (h : Gle G G') : Gle G (G'.cut G.m.length) :=
  ⟨h.g, by have := h.len; simp [Gh.cut]; omega, fun id b hid hb => h.m id b hid (by simpa only [Gh.cut, List.getElem?_take, hid, if_true] using hb)⟩
theorem Inv.cut {G : Gh} {M : MS} (h : Inv w0 G M w) {k : Nat} (hk : k ≤ M.length) (hl : ∀ id cs, id < k → M[id]? = some (some cs) → ∀ (j : Nat) (h : j < cs.length), Lt k cs[j]) : Inv w0 (G.cut k) (M.take k) w := by
  have get : ∀ {id : Nat} {x : Nat × Nat}, (G.cut k).m[id]? = some (some x) → id < k ∧ G.m[id]? = some (some x) := by
    intro id x hx
    simp only [Gh.cut, List.getElem?_take] at hx
    split at hx
    · rename_i hh; exact ⟨hh, hx⟩
    · cases hx
  have hkG : k ≤ G.m.length := by rw [h.len]; exact hk
  refine ⟨h.below, by simp [Gh.cut, h.len], h.imm, fun id b n hm => ?_, fun id b n hm a ha => h.sep id b n (get hm).2 a ha, fun i j b n n' h1 h2 => h.inj i j b n n' (get h1).2 (get h2).2, fun id cs hM => ?_⟩
  · obtain ⟨hid, hm'⟩ := get hm
    obtain ⟨hB, cs, hM, cur, T, hh, hs, hle, hr⟩ := h.blk id b n hm'
    exact ⟨hB, cs, by rw [List.getElem?_take, if_pos hid]; exact hM, cur, T, hh, hs, hle, fun j hj => ⟨(hr j hj).1.cut hkG (hl id cs hid hM j hj), (hr j hj).2⟩⟩
  · rw [List.getElem?_take] at hM
    split at hM
    · rename_i hid
      obtain ⟨b, n, hb⟩ := h.live id cs hM
      exact ⟨b, n, by simp only [Gh.cut, List.getElem?_take, hid, if_true]; exact hb⟩
    · cases hM
theorem Inv.lt {G : Gh} {M : MS} (h : Inv w0 G M w) {id : Nat} {cs : List AV} (hM : M[id]? = some (some cs)) : ∀ (j : Nat) (h : j < cs.length), Lt M.length cs[j] := by
  obtain ⟨b, n, cur, T, hm, hB, hh, hs, hl, hr⟩ := h.row hM
  intro j hj
  rw [← h.len]
  exact (hr j hj).1.lt
theorem fin_ok {G G' : Gh} {M M' : MS} {D : List Nat} {keep : Bool} {r : AV} {v : Value} {out : Out} (HI : Inv w0 G M w) (hG : Gle G G') (HI' : Inv w0 G' M' w') (hF : Fr M.length M M' [] D) (hr : R G' r v) (h : fin M.length keep r M' D = some out) :
    (∃ G2, Gle G G2 ∧ OutR w0 G2 M out v w') ∧ ∀ x M2 D2, out = .x x M2 D2 → M.length ≤ M2.length ∧ ∀ id, id < M.length → id ∉ D2 → M2[id]? = M[id]? := by
  unfold fin at h
  split at h
  · cases h
    exact ⟨⟨G', hG, hr, HI'⟩, fun x M2 D2 he => by cases he; exact ⟨hF.1, hF.2.2⟩⟩
  · split at h
    · rename_i r' M2 hz
      obtain ⟨G2, g1, g2, g3⟩ := does_frzV HI' hr hz
      obtain ⟨f1, f2⟩ := frzV_fr hz
      have hF2 : ∀ id, id < M.length → id ∉ D → M2[id]? = M[id]? := fun id hid hn => (f2 id hid).trans (hF.2.2 id hid hn)
      have hlen : M.length ≤ M2.length := by rw [f1]; exact hF.1
      split at h
      · rename_i hi
        have hk : M.length ≤ G2.m.length := by rw [g2.len]; exact hlen
        have hle : Gle G (G2.cut M.length) := by
          have := (hG.trans g1).cut
          rwa [HI.len] at this
        have hr2 : R (G2.cut M.length) r' v := g3.cut hk (Lt.ofI g3 hi)
        split at h
        · -- nothing of the caller's was written
          cases h
          have heq : M2.take M.length = M := by
            apply List.ext_getElem?
            intro i
            rw [List.getElem?_take]
            split
            · rename_i hlt; exact hF2 i hlt (by simp)
            · rename_i hge; rw [List.getElem?_eq_none (by omega)]
          have hcut := g2.cut hlen (fun id cs hid hM j hj => by
            rw [hF2 id hid (by simp)] at hM
            exact HI.lt hM j hj)
          rw [heq] at hcut
          exact ⟨⟨_, hle, hr2, hcut⟩, fun x M3 D3 he => by cases he⟩
        · split at h
          · rename_i hD
            cases h
            have hcut := g2.cut hlen (fun id cs hid hM j hj => by
              by_cases hin : id ∈ D
              · have := List.all_eq_true.1 hD id hin
                rw [hM] at this
                obtain ⟨b, n, cur, T, hm, hB, hh, hs, hl, hrr⟩ := g2.row hM
                exact Lt.ofI (hrr j hj).1 (allI_get this j hj)
              · rw [hF2 id hid hin] at hM
                exact HI.lt hM j hj)
            exact ⟨⟨_, hle, hr2, hcut⟩, fun x M3 D3 he => by
              cases he
              refine ⟨by simp; omega, fun id hid hn => by rw [List.getElem?_take, if_pos hid]; exact hF2 id hid hn⟩⟩
          · cases h
            exact ⟨⟨G2, hG.trans g1, g3, g2⟩, fun x M3 D3 he => by cases he; exact ⟨hlen, hF2⟩⟩
      · cases h
    · cases h
def rvS (a : Act) : ResultVar → Sem Value
  | .tmp t => pure (a.tmps.getD t undef)
  | .cell b t => do loadVar t (← asAddr (a.tmps.getD b undef))
theorem rv_run {G : Gh} {M : MS} {env : Env} {a : Act} (HE : EnvR G env a) (HI : Inv w0 G M w) {r : ResultVar} {rv : RV} {x : AV} (ht : trRV P r = some rv) (h : rvA env M rv = some x) :
    ∃ v, (rvS a r).run P w = .ok v w ∧ R G x v := by
  cases r with
  | tmp t =>
    simp [trRV] at ht; subst ht
    simp [rvA] at h; subst h
    exact ⟨_, rfl, HE.t t⟩
  | cell b t =>
    simp only [trRV] at ht
    split at ht
    · rename_i ag n h1 h2
      cases ht
      simp only [rvA] at h
      split at h
      · rename_i cs hcs
        obtain ⟨v, hv, hR⟩ := does_load (P := P) h1 h2 HI (HE.t b) hcs h
        obtain ⟨ad, _, he, _⟩ := aview_cells HI (HE.t b) hcs
        refine ⟨v, ?_, hR⟩
        show (do loadVar t (← asAddr (a.tmps.getD b undef)) : Sem Value).run P w = _
        rw [he] at hv ⊢
        simpa [Instr.loadAt, Instr.sureAddr, asAddr] using hv
      · cases h
    · cases ht
theorem res_run {G : Gh} {M : MS} {env : Env} {a : Act} (HE : EnvR G env a) (HI : Inv w0 G M w) : ∀ {rs : List ResultVar} {rvs : List RV} {xs : List AV}, trRes P rs = some rvs → resA env M rvs = some xs →
    ∃ vs : List Value, (rs.mapM (rvS a)).run P w = .ok vs w ∧ vs.length = xs.length ∧ ∀ (j : Nat) (h : j < xs.length), R G xs[j] (vs.getD j undef)
  | [], rvs, xs, ht, h => by
    simp [trRes] at ht; subst ht
    simp [resA] at h; subst h
    exact ⟨[], rfl, rfl, fun j hj => by simp at hj⟩
  | r :: rs, rvs, xs, ht, h => by
    simp only [trRes] at ht
    split at ht
    · rename_i rv rvs' h1 h2
      cases ht
      simp only [resA] at h
      split at h
      · rename_i x xs' h3 h4
        cases h
        obtain ⟨v, k1, k2⟩ := rv_run HE HI h1 h3
        obtain ⟨vs, k3, k4, k5⟩ := res_run HE HI h2 h4
        refine ⟨v :: vs, ?_, by simp [k4], fun j hj => ?_⟩
        · rw [List.mapM_cons]
          simp only [Sem.run_bind, k1, Result.andThen_ok, k3, Sem.run_pure]
        · cases j with
          | zero => exact k2
          | succ j => exact k5 j (by simpa using hj)
      · cases h
    · cases ht
theorem results_run {G : Gh} {M : MS} {env : Env} {a : Act} (HE : EnvR G env a) (HI : Inv w0 G M w) {fn : Func} {rvs : List RV} {xs : List AV} (ht : trRes P fn.results.toList = some rvs) (h : resA env M rvs = some xs) :
    ∃ v, (results fn a.tmps).run P w = .ok v w ∧ R G (tupA xs) v := by
  obtain ⟨vs, h1, h2, h3⟩ := res_run HE HI ht h
  have hm : (fn.results.mapM (rvS a)).run P w = .ok vs.toArray w := by
    rw [Array.mapM_eq_mapM_toList]
    simp only [Sem.run_map, h1, Result.andThen_ok]
  have e : (results fn a.tmps).run P w = .ok (if h : vs.toArray.size = 1 then vs.toArray[0] else .tuple vs.toArray) w := by
    have hres : results fn a.tmps = (do let vs ← fn.results.mapM (rvS a); pure (if h : vs.size = 1 then vs[0] else .tuple vs) : Sem Value) := by
      unfold results
      congr 1
    rw [hres, Sem.run_bind, hm]
    rfl
  refine ⟨_, e, ?_⟩
  match xs, h2, h3 with
  | [], h2, h3 =>
    have : vs = [] := List.eq_nil_of_length_eq_zero (by simpa using h2)
    subst this
    exact .tup _ _ rfl fun j hj => by simp at hj
  | [x], h2, h3 =>
    obtain ⟨v, rfl⟩ : ∃ v, vs = [v] := by
      match vs, h2 with
      | [v], _ => exact ⟨v, rfl⟩
    simpa [tupA] using h3 0 (by simp)
  | x :: y :: r, h2, h3 =>
    have hne : vs.toArray.size ≠ 1 := by simp [h2]
    rw [dif_neg hne]
    refine .tup _ _ (by simpa using h2) fun j hj => ?_
    have := h3 j hj
    simpa [Array.getD_eq_getD_getElem?, List.getD] using this
/-- The program is as it was read; what is said of the others is so. -/
structure PrOk (P : Program) (p : Pr) : Prop where
  hm : P.follows .mixedOrders = true
  A : ∀ f af, p.A f = some af → ∃ fn, P.funcs[f]? = some fn ∧ fn.name ≠ "runtime.NumGoroutine" ∧ trFn P fn af.keep = some af
  ext : CallOk P p.ext
theorem evFn_ok {p : Pr} (HP : PrOk P p) : ∀ n, CallOk P (evFn p n)
  | 0 => ⟨fun f args M out h => by simp [evFn] at h, fun f args M out h => by simp [evFn] at h, fun f args M v M' D h => by simp [evFn] at h⟩
  | n + 1 => by
    have ih := evFn_ok HP n
    have FO : FrameOk (evFn p n) := ih.frame
    have main : ∀ f args M out, evFn p (n + 1) f args M = some out → (∃ af, p.A f = some af ∧ ∃ ex env' M' D', evAC (evFn p n) M.length n af.body (env0 args) M [] = some (ex, env', M', D') ∧ (ex = .nrm ∨ ex = .ret) ∧
        ∃ vs, resA env' M' af.res = some vs ∧ fin M.length af.keep (tupA vs) M' D' = some out) ∨ (p.A f = none ∧ p.ext f args M = some out) := by
      intro f args M out h
      simp only [evFn] at h
      split at h
      · rename_i af haf
        refine .inl ⟨af, haf, ?_⟩
        split at h
        · cases h
        · rename_i ex env' M' D' hne hev
          split at h
          · rename_i vs hvs
            refine ⟨ex, env', M', D', hev, ?_, vs, hvs, h⟩
            cases ex with
            | nrm => exact .inl rfl
            | exit id => exact (hne id rfl).elim
            | ret => exact .inr rfl
          · cases h
        · cases h
      · rename_i haf
        exact .inr ⟨haf, h⟩
    refine ⟨fun f args M out h => ?_, fun f args M out h w0 w G vals HI hs hr => ?_, fun f args M v M' D h => ?_⟩
    · rcases main f args M out h with ⟨af, haf, _⟩ | ⟨_, he⟩
      · obtain ⟨fn, hf, hnm, ht⟩ := HP.A f af haf
        unfold trFn at ht
        split at ht
        · rename_i c hc
          simp [okFn, hf, hnm, hc]
        · cases ht
      · exact HP.ext.ok _ _ _ _ he
    · rcases main f args M out h with ⟨af, haf, ex, env', M', D', hev, hex, vs, hvs, hfin⟩ | ⟨_, he⟩
      · obtain ⟨fn, hf, hnm, ht⟩ := HP.A f af haf
        unfold trFn at ht
        split at ht
        · rename_i c hc
          split at ht
          · rename_i rs h2
            simp only [Option.some.injEq] at ht
            obtain ⟨ac, h1⟩ : ∃ ac, trCode P fn.ntmps c = ac := ⟨_, rfl⟩
            have hb : af.body = ac := by rw [← ht, ← h1]
            have hrs : af.res = rs := by rw [← ht]
            refine calls_of_wp hf hc (code_wp ih HP.hm (base := M.length) (n := n) c ac h1 (env0 args) env' M M' [] D' ex _ w G _ (by rw [← hb]; exact hev) (by simp; omega) ⟨fun t => ?_, rfl⟩ HI fun a' w' G' g1 g2 g3 g4 => ?_)
            · -- the frame that is entered
              show R G (args.getD t (.flat undef)) ((vals ++ Array.replicate (fn.ntmps - vals.size) undef).getD t undef)
              by_cases hlt : t < args.length
              · have e1 : (vals ++ Array.replicate (fn.ntmps - vals.size) undef).getD t undef = vals.getD t undef := by
                  simp only [Array.getD_eq_getD_getElem?]
                  rw [Array.getElem?_append_left (by rw [hs]; exact hlt)]
                rw [e1]
                have e2 : args.getD t (.flat undef) = args[t] := by simp [List.getD, hlt]
                rw [e2]; exact hr t hlt
              · have e2 : args.getD t (.flat undef) = .flat undef := by simp [List.getD, hlt]
                have e1 : (vals ++ Array.replicate (fn.ntmps - vals.size) undef).getD t undef = undef := by
                  simp only [Array.getD_eq_getD_getElem?]
                  rw [Array.getElem?_append_right (by rw [hs]; omega)]
                  simp only [Array.getElem?_replicate]
                  split <;> rfl
                rw [e1, e2]; exact .imm _ _ (.flat undef)
            · have hF := evAC_fr FO (Nat.le_refl _) hev
              obtain ⟨v, hv, hR⟩ := results_run (P := P) g2 g4 (fn := fn) (rvs := rs) h2 (by rw [← hrs]; exact hvs)
              obtain ⟨⟨G2, k1, k2⟩, _⟩ := fin_ok HI g1 g4 hF hR hfin
              have : bodyPost P fn (fun e w' => ∃ v G', e = .returned v ∧ Gle G G' ∧ OutR w0 G' M out v w') .normal a' w' := ⟨g2.d, v, hv, v, G2, rfl, k1, k2⟩
              rcases hex with rfl | rfl
              · exact this
              · exact this
          · cases ht
        · cases ht
      · exact HP.ext.snd _ _ _ _ he w0 w G vals HI hs hr
    · rcases main f args M _ h with ⟨af, haf, ex, env', M1, D1, hev, hex, vs, hvs, hfin⟩ | ⟨_, he⟩
      · have hF := evAC_fr FO (Nat.le_refl _) hev
        clear h main
        unfold fin at hfin
        split at hfin
        · cases hfin; exact ⟨hF.1, hF.2.2⟩
        · split at hfin
          · rename_i r' M2 hz
            obtain ⟨f1, f2⟩ := frzV_fr hz
            have hF2 : ∀ id, id < M.length → id ∉ D1 → M2[id]? = M[id]? := fun id hid hn => (f2 id hid).trans (hF.2.2 id hid hn)
            have hlen : M.length ≤ M2.length := by rw [f1]; exact hF.1
            split at hfin
            · split at hfin
              · cases hfin
              · split at hfin
                · cases hfin
                  exact ⟨by simp; omega, fun id hid hn => by rw [List.getElem?_take, if_pos hid]; exact hF2 id hid hn⟩
                · cases hfin
                  exact ⟨hlen, hF2⟩
            · cases hfin
          · cases hfin
      · exact HP.ext.frame _ _ _ _ _ _ he
end
end Go.Proofs.Ytopiaiibpacmlaa.Av
