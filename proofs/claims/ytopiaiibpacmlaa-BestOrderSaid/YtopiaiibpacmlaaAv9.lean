/- Every instruction but a call: what the evaluator comes to, the machine's operation does. -/
import Derived.Test.YtopiaiibpacmlaaAv8
namespace Go.Proofs.Ytopiaiibpacmlaa.Av
open Go.RowKit
set_option linter.unusedSimpArgs false
section
variable {P : Program} {w0 w : World} {G : Gh} {M : MS} {env : Env} {a : Act}
theorem trOo_R (HE : EnvR G env a) {x : Option Operand} {o : Option O} (h : trOo x = some o) :
    (∀ y, o.map (·.ev env) = some y → ∃ u, x.map a.eval = some u ∧ R G y u) ∧ (o.map (·.ev env) = none → x.map a.eval = none) := by
  cases x with
  | none => simp [trOo] at h; subst h; simp
  | some x =>
    simp only [trOo, Option.map_eq_some_iff] at h
    obtain ⟨o', h1, rfl⟩ := h
    refine ⟨fun y hy => ?_, fun hn => by simp at hn⟩
    simp at hy; subst hy
    exact ⟨_, rfl, trO_R HE h1⟩
theorem trOs_arr (HE : EnvR G env a) {xs : Array Operand} {os : List O} (h : trOs xs.toList = some os) :
    (xs.map a.eval).size = (os.map (·.ev env)).length ∧ ∀ (j : Nat) (h : j < (os.map (·.ev env)).length), R G ((os.map (·.ev env))[j]) ((xs.map a.eval).getD j undef) := by
  obtain ⟨h1, h2⟩ := trOs_R HE h
  refine ⟨by simpa using h1.symm, fun j hj => ?_⟩
  have := h2 j hj
  have e : (xs.map a.eval).getD j undef = (xs.toList.map a.eval).getD j undef := by simp [Array.getD_eq_getD_getElem?, List.getD]
  rw [e]; exact this
theorem placesF_run : ∀ {fs : List Field} {pl : List (Nat × Nat)}, placesF P fs = some pl → ∀ w : World, (fs.mapM (fun f => (do pure (f.offset, ← sizeOf f.type) : Sem (Nat × Nat)))).run P w = .ok pl w
  | [], pl, h, w => by simp [placesF] at h; subst h; rfl
  | f :: fs, pl, h, w => by
    simp only [placesF] at h
    split at h
    · rename_i n r h1 h2
      cases h
      have ih := placesF_run h2 w
      rw [List.mapM_cons]
      simp only [Sem.run_bind, sizeT_run h1, Result.andThen_ok, Sem.run_pure, ih]
    · cases h
theorem does_build {t : TypeId} {parts : Array (Nat × Operand)} {i : I} {call : Call} {base : Nat} {D : List Nat} {out : Out} (HE : EnvR G env a) (ht : trI P (.build t parts) = some i) (h : evI call base env M D i = some out) :
    ∃ v z, (Instr.build t (parts.map fun (i, x) => (i, a.eval x))).run P w = .ok v w ∧ out = .q z ∧ R G z v := by
  have fin : ∀ (pl : Nat → Option (Nat × Nat)) (ps : List (Nat × Nat × O)) (zs : List Value) (z : Value), zs.all (·.oneCell') = true → z.cells.toList = zs → trParts pl parts.toList = some ps → i = .build (zs.map avC1) ps →
      ∃ cells z', Instr.fill pl z.cells (parts.map fun (i, x) => (i, a.eval x)).toList = some cells ∧ out = .q z' ∧ R G z' (.agg cells) := by
    intro pl ps zs z h1 hz htp hi
    subst hi
    simp only [evI, Option.map_eq_some_iff] at h
    obtain ⟨cs, hcs, rfl⟩ := h
    obtain ⟨hl, hp⟩ := trParts_inv HE htp
    obtain ⟨cells, hf, hc⟩ := fill_CR (G := G) pl (parts := parts.toList.map fun (i, x) => (i, a.eval x)) hl hp (cells := z.cells) (cs := zs.map avC1) (by rw [hz]; exact CR.zs h1) hcs
    refine ⟨cells, _, by simpa using hf, rfl, ?_⟩
    have hlen := hc.len
    refine .agg _ _ (by simpa using hlen) (fun j hj => ?_) fun j hj => ?_
    · have := (hc.arr j hj).1; simpa using this
    · have := (hc.arr j hj).2; simpa using this
  simp only [trI] at ht
  split at ht
  · rename_i fs n b zs hu hel
    obtain ⟨inf, z, h1, h2, h3, h4, h5, h6, h7, h8⟩ := elInfo_inv hel
    split at ht
    · rename_i pl hpl
      rw [Option.map_eq_some_iff] at ht
      obtain ⟨ps, hps, rfl⟩ := ht
      obtain ⟨cells, z', f1, f2, f3⟩ := fin (fun i => pl[i]?) ps zs z h8 h5 hps rfl
      refine ⟨.agg cells, z', ?_, f2, f3⟩
      have hpr := placesF_run (P := P) hpl w
      have hpa : (fs.mapM (fun f => (do pure (f.offset, ← sizeOf f.type) : Sem (Nat × Nat)))).run P w = .ok pl.toArray w := by
        rw [Array.mapM_eq_mapM_toList]
        simp only [Sem.run_map, hpr, Result.andThen_ok]
      simp only [Instr.build, Sem.run_bind, zeroValue, typeInfo, run_program, Result.andThen_ok, h1, h2, Sem.run_pure, run_underlying hu, hpa]
      simp only [List.getElem?_toArray, f1]
      rfl
    · cases ht
  · rename_i n e n' b zs hu hel
    obtain ⟨inf, z, h1, h2, h3, h4, h5, h6, h7, h8⟩ := elInfo_inv hel
    split at ht
    · rename_i sz hsz
      rw [Option.map_eq_some_iff] at ht
      obtain ⟨ps, hps, rfl⟩ := ht
      obtain ⟨cells, z', f1, f2, f3⟩ := fin (fun i => some (i * sz, sz)) ps zs z h8 h5 hps rfl
      refine ⟨.agg cells, z', ?_, f2, f3⟩
      simp only [Instr.build, Sem.run_bind, zeroValue, typeInfo, run_program, Result.andThen_ok, h1, h2, Sem.run_pure, run_underlying hu, sizeT_run hsz, f1]
    · cases ht
  · cases ht
theorem does_bslice {t : TypeId} {len : Nat} {parts : Array (Nat × Operand)} {i : I} {call : Call} {base : Nat} {D : List Nat} {out : Out} (HE : EnvR G env a) (HI : Inv w0 G M w) (ht : trI P (.buildSlice t len parts) = some i) (h : evI call base env M D i = some out) :
    ∃ v w' G', (Instr.buildSlice t len (parts.map fun (i, x) => (i, a.eval x))).run P w = .ok v w' ∧ Gle G G' ∧ OutR w0 G' M out v w' := by
  simp only [trI] at ht
  split at ht
  · rename_i e hu
    split at ht
    · rename_i n b zs hel
      obtain ⟨inf, z, h1, h2, h3, h4, h5, h6, h7, h8⟩ := elInfo_inv hel
      split at ht
      · rename_i hlim
        rw [Option.map_eq_some_iff] at ht
        obtain ⟨ps, hps, rfl⟩ := ht
        obtain ⟨hl, hp⟩ := trParts_inv HE hps
        simp only [evI] at h
        split at h
        · rename_i cs hcs
          have hzc : CR G ((List.replicate len (zs.map avC1)).flatten) ((Array.range (len * n)).map (z.cells[· % z.cells.size]!)).toList := by
            have := made_eq z.cells (by omega) len
            rw [h6] at this
            rw [h6, this, h5]
            exact (CR.zs h8).rep len
          obtain ⟨cells, hf, hc⟩ := fill_CR (G := G) (fun i => some (i * n, n)) (parts := parts.toList.map fun (i, x) => (i, a.eval x)) hl hp hzc hcs
          have hclen : cs.length = len * n := by
            have e1 := hc.len
            have e2 := hzc.len
            have e3 : ∀ {aparts : List (Nat × Nat × AV)} {cs cs' : List AV}, fillA cs aparts = some cs' → cs'.length = cs.length := by
              intro aparts
              induction aparts with
              | nil => intro cs cs' hh; simp [fillA] at hh; rw [hh]
              | cons p r ih =>
                intro cs cs' hh
                obtain ⟨o, k, x⟩ := p
                simp only [fillA] at hh
                split at hh
                · split at hh
                  · rename_i hfit
                    rw [ih hh]; simp; omega
                  · cases hh
                · cases hh
            rw [e3 hcs]
            simp only [Array.length_toList, Array.size_map, Array.size_range] at e2
            exact e2.symm
          have hrun : (Instr.buildSlice t len (parts.map fun (i, x) => (i, a.eval x))).run P w = .ok (.slice (some ⟨w.heap.size, 0, none⟩) len len) (w.alloc (.cells cells e)) := by
            by_cases h0 : len * n = 0
            · have hl0 : len = 0 := by rcases Nat.mul_eq_zero.1 h0 with h | h; exact h; omega
              subst hl0
              simp only [Nat.zero_mul] at hf
              have hf' : Instr.fill (fun i => some (i * n, n)) #[] (parts.map fun (i, x) => (i, a.eval x)).toList = some cells := by
                simpa [Array.range_zero'] using hf
              simp at hf'
              simp [Instr.buildSlice, run_underlying hu, sizeOf, typeInfo, h1, h3, Array.range_zero', hf', newRow]
            · have hl1 : ¬ (2 ^ 24 < len * n) := by omega
              have hf' : Instr.fill (fun i => some (i * n, n)) ((Array.range (len * n)).map (z.cells[· % z.cells.size]!)) (parts.map fun (i, x) => (i, a.eval x)).toList = some cells := by
                simpa using hf
              simp only [Instr.buildSlice, Sem.run_bind, run_underlying hu, Result.andThen_ok, sizeOf, typeInfo, zeroValue, run_program, h1, h2, Sem.run_pure, h3, Sem.run_ite, gt_iff_lt, hl1, h0, if_false]
              simp only [hf', newRow, Sem.run_bind, run_newObj, Result.andThen_ok, Sem.run_pure]
              rfl
          have mk : ∀ {G' : Gh} {M' : MS} {cs' : List AV}, Inv w0 G' M' w → CR G' cs' cells.toList → allI cs' = true → cs'.length = len * n →
              ∃ G2, Gle G' G2 ∧ Inv w0 G2 M' (w.alloc (.cells cells e)) ∧ R G2 (.list n cs' false true) (.slice (some ⟨w.heap.size, 0, none⟩) len len) := by
            intro G' M' cs' HI' hc' hI hl'
            obtain ⟨G2, k1, k2, k3, k4⟩ := new_row (T := e) HI' hc' hI
            refine ⟨G2, k1, by simpa using k2, .imm _ _ (.list n cs' true _ len len _ h7 hl' (Nat.le_refl _) ?_ (fun _ => rfl) k3 k4)⟩
            have : len ≤ len * n := Nat.le_mul_of_pos_right _ h7
            simp only [maxLen]; omega
          split at h
          · rename_i hI
            cases h
            obtain ⟨G2, k1, k2, k3⟩ := mk HI hc hI hclen
            exact ⟨_, _, G2, hrun, k1, k3, k2⟩
          · split at h
            · rename_i cs' M' hfz
              cases h
              obtain ⟨G1, g1, g2, g3, g4, g5⟩ := does_frzAll (vs := fun j => cells.toList.getD j undef) HI (fun j hj => (hc.get j hj).1) hfz
              have hc' : CR G1 cs' cells.toList := CR.of (by rw [g3]; exact hc.len) fun j hj => ⟨g4 j hj, (hc.get j (by omega)).2⟩
              obtain ⟨G2, k1, k2, k3⟩ := mk g2 hc' g5 (by rw [g3]; exact hclen)
              exact ⟨_, _, G2, hrun, g1.trans k1, k3, k2⟩
            · cases h
        · cases h
      · cases ht
    · cases ht
  · cases ht
end
end Go.Proofs.Ytopiaiibpacmlaa.Av
