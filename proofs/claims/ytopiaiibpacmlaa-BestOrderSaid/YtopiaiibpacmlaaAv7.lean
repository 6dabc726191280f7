/- Stores, appends, copies; what is handed on as values. -/
import Derived.Test.YtopiaiibpacmlaaAv6
namespace Go.Proofs.Ytopiaiibpacmlaa.Av
open Go.RowKit
set_option linter.unusedSimpArgs false
section
variable {P : Program} {w0 w : World} {G : Gh} {M : MS}

theorem splice_CR {old cs : List AV} {vo vs : List Value} (h : CR G old vo) (h' : CR G cs vs) (off : Nat) : CR G (splice old off cs) (vo.take off ++ vs ++ vo.drop (off + vs.length)) := by
  unfold splice
  rw [h'.len]
  exact ((h.take off).append h').append (h.drop _)
/-- Cells of a block of the call's own are written. -/
theorem write_cells (HI : Inv w0 G M w) {id b n : Nat} (hm : G.m[id]? = some (some (b, n))) {old cs : List AV} (hM : M[id]? = some (some old)) {vs : List Value} (h : CR G cs vs) {o : Nat} (hfit : o + cs.length ≤ old.length) :
    ∃ w', (storeCells ⟨b, o, none⟩ vs).run P w = .ok () w' ∧ Inv w0 G (M.set id (some (splice old o cs))) w' := by
  obtain ⟨b', n', cur, T, hm', hB, hh, hs, hl, hr⟩ := row_CR HI hM
  rw [hm] at hm'; cases hm'
  have hvl := h.len
  have hst := run_storeCells_at P b o T vs 0 cur w hh (by omega) h.one
  simp only [Nat.add_zero] at hst
  refine ⟨_, hst, HI.write hm (by rfl) (by rfl) (by rfl) (by simp) (fun k hk => by exact setRow_other w b k _ hk) (setRow_heap w b cur _ T _ hh) ?_ ?_ fun j hj => ?_⟩
  · simp; omega
  · simp [splice]; omega
  · have hsp := splice_CR hr h o
    have e : (cur.toList.take old.length).take o ++ vs ++ (cur.toList.take old.length).drop (o + vs.length) = (cur.toList.take o ++ vs ++ cur.toList.drop (o + vs.length)).take (splice old o cs).length := by
      have hlen : (splice old o cs).length = old.length := by simp [splice]; omega
      rw [hlen]
      apply List.ext_getElem?
      intro i
      simp only [List.getElem?_append, List.getElem?_take, List.getElem?_drop, List.length_append, List.length_take, List.length_drop, Array.length_toList]
      repeat' split
      all_goals first | rfl | omega | (congr 1; omega) | skip
      all_goals first | (simp; omega) | (rw [List.getElem?_eq_none (by simp; omega)]) | skip
    rw [e] at hsp
    have h2 := hsp.get j hj
    have e2 : ((cur.toList.take o ++ vs ++ cur.toList.drop (o + vs.length)).take (splice old o cs).length).getD j undef = (cur.toList.take o ++ vs ++ cur.toList.drop (o + vs.length)).toArray.getD j undef := by
      simp only [List.getD, List.getElem?_take, hj, if_true, Array.getD_eq_getD_getElem?, List.getElem?_toArray]
    rw [e2] at h2
    exact h2
/-! ### Append -/
theorem zeroCells_len (z : Array Value) (n : Nat) : (Builtin.zeroCells z n).size = n * z.size := by simp [Builtin.zeroCells]
theorem inv_drew (HI : Inv w0 G M w) : Inv w0 G M w.drew := HI.grow (drew_below w)
theorem does_append {t e ty : TypeId} {i : TypeInfo} {z : Value} {sz bytes base m : Nat} {D : List Nat} {s x : AV} {u v : Value} {news : List AV} {out : Out}
    (ht : P.underlying t = some (.slice e)) (hi : P.info? e = some i) (hz : i.zero = some z) (hsz : i.size = sz) (hby : i.bytes = bytes) (hzs : z.cells.size = sz) (hpos : 0 < sz)
    (HI : Inv w0 G M w) (hx : R G x v) (hs : R G s u) (hv : view M x = some news) (hm : lenOf x = some m) (hsl : ∀ id off len sz cd, s = .ms id off len sz cd → m = 0 → ∃ cs, M[id]? = some (some cs))
    (h : appA base M D sz bytes s m news = some out) :
    ∃ v' w' G', (Builtin.append_ #[t, t] ty #[u, v]).run P w = .ok v' w' ∧ Gle G G' ∧ OutR w0 G' M out v' w' := by
  obtain ⟨A, n, c, sx, vs, rfl, hlx, hln, hA, hnc, hcm, hcr, hcell⟩ := view_CR HI hx hv
  rw [hm] at hlx; cases hlx
  subst hsz; subst hby
  unfold appA at h
  split at h
  · rename_i hm0
    subst hm0
    have hnn : news = [] := List.eq_nil_of_length_eq_zero (by simpa using hln)
    -- nothing is appended
    have hu : ∃ B l cc, u = .slice B l cc ∧ l ≤ cc := by
      cases s with
      | list sz cs nl cd =>
        rcases RI.list_cases hs.list_inv with ⟨_, _, _, rfl⟩ | ⟨_, a, k, cc, _, rfl, _, _, h2, _⟩
        · exact ⟨none, 0, 0, rfl, Nat.le_refl _⟩
        · exact ⟨some a, k, cc, rfl, h2⟩
      | ms id off len sz cd =>
        obtain ⟨cs, hM⟩ := hsl _ _ _ _ _ rfl rfl
        obtain ⟨b, bn, _, _, hmm, _⟩ := HI.row hM
        obtain ⟨_, _, _, hcl⟩ := hs.ms_inv
        obtain ⟨cc, rfl, h1, _⟩ := hcl b bn hmm
        exact ⟨_, len, cc, rfl, h1⟩
      | _ => simp at h
    obtain ⟨B, l, cc, rfl, hle⟩ := hu
    have hout : out = .q s := by
      cases s <;> simp at h <;> first | exact h.symm | exact h.2.symm
    subst hout
    refine ⟨.slice B l cc, w, G, ?_, Gle.refl G, hs, HI⟩
    have hf : (Builtin.firstCells i.size 0 (.slice A 0 c)).run P w = .ok #[] w := by
      cases A with
      | none => simp [Builtin.firstCells]
      | some a => simp [Builtin.firstCells, loadCells, loadCellsFrom]
    cases B with
    | none => simp [Builtin.append_, run_underlying ht, sizeOf, typeInfo, hi, Builtin.lenOf, hle, hf]
    | some b => simp [Builtin.append_, run_underlying ht, sizeOf, typeInfo, hi, Builtin.lenOf, hle, hf, storeCells]
  · rename_i hm0
    obtain ⟨ad, rfl⟩ : ∃ a, A = some a := by
      cases A with
      | none => exact absurd (hA rfl) hm0
      | some a => exact ⟨a, rfl⟩
    obtain ⟨hsx, hcell⟩ := hcell ad rfl
    -- a new block, behind a draw
    have fresh : ∀ (olds : List AV) (vo : List Value) (cap k : Nat), CR G olds vo → k * i.size = olds.length → k + m ≤ cap →
        let cur := vo ++ vs ++ (Builtin.zeroCells z.cells (cap - (k + m))).toList
        news.length = m * i.size →
        ∃ G', Gle G G' ∧ Inv w0 G' (M ++ [some (olds ++ news)]) (w.drew.alloc (.cells cur.toArray e)) ∧ G'.m[M.length]? = some (some (w.heap.size, cap * i.size)) ∧ M.length < G'.m.length := by
      intro olds vo cap k ho hk hcap cur hnl
      have hob := ho.append hcr
      have hlen : cur.length = cap * i.size := by
        have h1 := ho.len; have h2 := hcr.len
        simp only [cur, List.length_append, Array.length_toList, zeroCells_len, hzs, h1, h2, ← hk, hnl]
        rw [← Nat.add_mul, ← Nat.add_mul]; congr 1; omega
      have htk : cur.take (olds ++ news).length = vo ++ vs := by
        rw [← hob.len]; exact List.take_left
      obtain ⟨g1, g2, g3⟩ := new_blk (T := e) (inv_drew HI) (cur := cur) (cs := olds ++ news) (by rw [htk]; exact hob) (by rw [← hob.len]; simp [cur])
      rw [hlen] at g1 g2 g3
      exact ⟨_, g1, g2, g3, by simpa using (List.getElem?_eq_some_iff.1 g3).1⟩
    cases s with
    | list sz' cs nl cd =>
      simp only at h
      split at h
      · rename_i hh
        obtain ⟨hnil, hcd, hI, hmm, hlim, hbytes⟩ := hh
        cases h
        simp only [LIM] at hlim
        rcases RI.list_cases hs.list_inv with ⟨rfl, rfl, rfl, rfl⟩ | ⟨rfl, a, k, cc, us, rfl, h0, g1, g2, g3, g4, g5, g6⟩
        · simp only [List.length_nil, Nat.zero_div, Nat.zero_add, List.nil_append] at hlim hbytes ⊢
          have hr := run_append_nil (P := P) w t ty e i z ht hi hz ad m c vs (by rw [hcr.len, hmm]) hcell (by omega) (by omega) (by omega)
          have hge := grownCap_ge w m 0 e
          obtain ⟨G', k1, k2, k3, k4⟩ := fresh [] [] (grownCap w m 0 e) 0 .nil (by simp) (by omega) hmm.symm
          refine ⟨_, _, G', hr, k1, ?_, ?_⟩
          · refine .ms _ _ _ _ _ _ k4 ⟨_, _, rfl⟩ hpos fun b n hb => ?_
            rw [k3] at hb; cases hb
            exact ⟨_, rfl, hge, grownCap_le_maxLen w m 0 e (by simp [maxLen]; omega), by simp, fun h => by cases h⟩
          · have e1 : (vs.toArray ++ Builtin.zeroCells z.cells (grownCap w m 0 e - m)) = ([] ++ vs ++ (Builtin.zeroCells z.cells (grownCap w m 0 e - (0 + m))).toList).toArray := by
              apply Array.ext'; simp
            rw [e1]; simpa using k2
        · have hss : sz' = i.size := by simpa using hnil
          subst hss
          have hcc : cc = k := g4 (by simpa using hcd)
          subst hcc
          rw [g1, Nat.mul_div_cancel cc h0] at hlim hbytes ⊢
          have ho : CR G cs ((List.range cs.length).map us) := CR.of (by simp) fun j hj => by
            simp only [List.getD, List.getElem?_map, List.getElem?_range hj, Option.map_some, Option.getD_some]
            exact ⟨.imm _ _ (g6 j hj), (HI.imm _ _ (g5 j hj)).2⟩
          have hr := run_append_grow (P := P) w t ty e i z ht hi hz a cc cc ((List.range cs.length).map us) (by simp [g1]) (fun j v hj => by
              have hjl : j < cs.length := by simpa using (List.getElem?_eq_some_iff.1 hj).1
              simp [hjl] at hj
              rw [← hj]; exact (HI.imm _ _ (g5 j hjl)).1) ad m c vs (by rw [hcr.len, hmm]) hcell (by omega) (by omega) (growslice_fits (by omega) hbytes)
          have hge := grownCap_ge w (cc + m) cc e
          obtain ⟨G', k1, k2, k3, k4⟩ := fresh cs _ (grownCap w (cc + m) cc e) cc ho g1.symm (by omega) hmm.symm
          refine ⟨_, _, G', hr, k1, ?_, ?_⟩
          · refine .ms _ _ _ _ _ _ k4 ⟨_, _, rfl⟩ hpos fun b n hb => ?_
            rw [k3] at hb; cases hb
            exact ⟨_, rfl, hge, grownCap_le_maxLen w (cc + m) cc e (by simp [maxLen]; omega), by simp, fun h => by cases h⟩
          · have e1 : (((List.range cs.length).map us).toArray ++ vs.toArray ++ Builtin.zeroCells z.cells (grownCap w (cc + m) cc e - (cc + m))) = ((List.range cs.length).map us ++ vs ++ (Builtin.zeroCells z.cells (grownCap w (cc + m) cc e - (cc + m))).toList).toArray := by
              apply Array.ext'; simp
            rw [e1]; exact k2
      · cases h
    | ms id off len sz' cd =>
      simp only at h
      split at h
      · rename_i old hM
        split at h
        · rename_i hh
          obtain ⟨rfl, hI, hmm, hlim, hbytes, hfit⟩ := hh
          simp only [LIM] at hlim
          obtain ⟨b, bn, cur, T, hmb, hB, hhp, hcs, hol, hold⟩ := row_CR HI hM
          obtain ⟨i0, i1, isz, icl⟩ := hs.ms_inv
          obtain ⟨cc, rfl, c1, c2, c3, c4⟩ := icl b bn hmb
          have hov : CR G ((old.drop off).take (len * i.size)) (((cur.toList.take old.length).drop off).take (len * i.size)) := (hold.drop off).take _
          have hovl : ((old.drop off).take (len * i.size)).length = len * i.size := by simp; omega
          have hocell : ∀ j u, (((cur.toList.take old.length).drop off).take (len * i.size))[j]? = some u → w.cell? ((⟨b, off, none⟩ : Addr).add j) = some u := by
            intro j u hj
            rw [addr_add0, cell_of_row' hhp]
            simp only [List.getElem?_take, List.getElem?_drop] at hj
            split at hj
            · split at hj
              · simpa using hj
              · cases hj
            · cases hj
          have grow : cc < len + m → ∃ v' w', (Builtin.append_ #[t, t] ty #[.slice (some ⟨b, off, none⟩) len cc, .slice (some ad) m c]).run P w = .ok v' w' ∧
              ∃ G', Gle G G' ∧ Inv w0 G' (M ++ [some ((old.drop off).take (len * i.size) ++ news)]) w' ∧ R G' (.ms M.length 0 (len + m) i.size false) v' := by
            intro hlt
            have hr := run_append_grow (P := P) w t ty e i z ht hi hz ⟨b, off, none⟩ len cc _ (by rw [hov.len, hovl]) hocell ad m c vs (by rw [hcr.len, hmm]) hcell hlt (by omega) (growslice_fits hlt hbytes)
            have hge := grownCap_ge w (len + m) cc e
            obtain ⟨G', k1, k2, k3, k4⟩ := fresh _ _ (grownCap w (len + m) cc e) len hov hovl.symm (by omega) hmm.symm
            refine ⟨_, _, hr, G', k1, ?_, ?_⟩
            · have e1 : ((((cur.toList.take old.length).drop off).take (len * i.size)).toArray ++ vs.toArray ++ Builtin.zeroCells z.cells (grownCap w (len + m) cc e - (len + m))) = (((cur.toList.take old.length).drop off).take (len * i.size) ++ vs ++ (Builtin.zeroCells z.cells (grownCap w (len + m) cc e - (len + m))).toList).toArray := by
                apply Array.ext'; simp
              rw [e1]; exact k2
            · refine .ms _ _ _ _ _ _ k4 ⟨_, _, rfl⟩ hpos fun b n hb => ?_
              rw [k3] at hb; cases hb
              exact ⟨_, rfl, hge, grownCap_le_maxLen w (len + m) cc e (by simp [maxLen]; omega), by simp, fun h => by cases h⟩
          split at h
          · rename_i hcd
            cases h
            have := c4 hcd
            obtain ⟨v', w', hr, G', k1, k2, k3⟩ := grow (by omega)
            exact ⟨v', w', G', hr, k1, k3, k2⟩
          · split at h
            · rename_i hcd hoff
              cases h
              subst hoff
              simp only [List.drop_zero] at grow hov
              by_cases hroom : len + m ≤ cc
              · -- in place
                have hfit2 : len * i.size + vs.length ≤ cur.size := by
                  rw [hcr.len, ← hmm, ← Nat.add_mul]
                  have := Nat.mul_le_mul_right i.size hroom
                  omega
                have hT : w.heap[b]? = some (.cells cur T (0, 0)) := hhp
                have hf := run_firstCells_some (P := P) w i.size m ad m c vs (by rw [hcr.len, hmm]) hcell
                have hst := run_storeCells_at P b (len * i.size) T vs 0 cur w hT (by simpa using hfit2) hcr.one
                simp only [Nat.add_zero] at hst
                have hr : (Builtin.append_ #[t, t] ty #[.slice (some ⟨b, 0, none⟩) len cc, .slice (some ad) m c]).run P w =
                    .ok (.slice (some ⟨b, 0, none⟩) (len + m) cc) (w.setRow b (cur.toList.take (len * i.size) ++ vs ++ cur.toList.drop (len * i.size + vs.length)).toArray) := by
                  simp [Builtin.append_, run_underlying ht, sizeOf, typeInfo, hi, Builtin.lenOf, hroom, hf, addr_add0, hst]
                -- the block under its old place, then given a new one
                have hW : Inv w0 G (M.set id (some (old.take (len * i.size) ++ news))) (w.setRow b (cur.toList.take (len * i.size) ++ vs ++ cur.toList.drop (len * i.size + vs.length)).toArray) := by
                  refine HI.write hmb (by rfl) (by rfl) (by rfl) (by simp) (fun k hk => by exact setRow_other w b k _ hk) (setRow_heap w b cur _ T _ hT) ?_ ?_ fun j hj => ?_
                  · simp; omega
                  · simp only [List.length_append, List.length_take]
                    have := Nat.mul_le_mul_right i.size hroom
                    rw [Nat.add_mul] at this; omega
                  · have hq := (hov.append hcr).get j hj
                    have e2 : ((cur.toList.take old.length).take (len * i.size) ++ vs).getD j undef = (cur.toList.take (len * i.size) ++ vs ++ cur.toList.drop (len * i.size + vs.length)).toArray.getD j undef := by
                      have hjl : j < ((cur.toList.take (len * i.size)) ++ vs).length := by
                        have := hcr.len
                        simp only [List.length_append, List.length_take, Array.length_toList] at hj ⊢
                        omega
                      have e3 : (cur.toList.take old.length).take (len * i.size) = cur.toList.take (len * i.size) := by
                        rw [List.take_take]; congr 1; omega
                      rw [e3]
                      simp only [List.getD, Array.getD_eq_getD_getElem?, List.getElem?_toArray]
                      rw [List.getElem?_append_left hjl]
                    rw [e2] at hq; exact hq
                have hMid : id < M.length := (List.getElem?_eq_some_iff.1 hM).1
                have hGid : id < G.m.length := by rw [HI.len]; exact hMid
                have hk := hW.kill id
                -- its new place
                let G2 : Gh := { G with m := G.m.set id none ++ [some (b, bn)] }
                have hle : Gle G G2 := ⟨fun _ _ h => h, by simp [G2], fun j x hj hx => by
                  simp only [G2] at hx
                  rw [List.getElem?_append_left (by simpa using hj)] at hx
                  exact (Gh.kill_get (G := G) hx).2⟩
                have old2 : ∀ {j b' n' : Nat}, G2.m[j]? = some (some (b', n')) → (j ≠ id ∧ G.m[j]? = some (some (b', n')) ∧ j < M.length) ∨ (j = M.length ∧ b' = b ∧ n' = bn) := by
                  intro j b' n' hj
                  simp only [G2] at hj
                  rcases Nat.lt_or_ge j G.m.length with hlt | hge
                  · rw [List.getElem?_append_left (by simpa using hlt)] at hj
                    obtain ⟨q1, q2⟩ := Gh.kill_get (G := G) hj
                    exact .inl ⟨q1, q2, by rw [← HI.len]; exact hlt⟩
                  · rw [List.getElem?_append_right (by simpa using hge)] at hj
                    simp only [List.length_set] at hj
                    have : j - G.m.length = 0 := by
                      rcases Nat.eq_zero_or_pos (j - G.m.length) with h0 | h0
                      · exact h0
                      · rw [List.getElem?_eq_none (by simp; omega)] at hj; cases hj
                    rw [this] at hj
                    simp at hj
                    exact .inr ⟨by have := HI.len; omega, hj.1.symm, hj.2.symm⟩
                have hInv : Inv w0 G2 (M.set id none ++ [some (old.take (len * i.size) ++ news)]) (w.setRow b (cur.toList.take (len * i.size) ++ vs ++ cur.toList.drop (len * i.size + vs.length)).toArray) := by
                  refine ⟨hW.below, by simp [G2, HI.len], hW.imm, fun j b' n' hj => ?_, fun j b' n' hj a ha => ?_, fun p q b' n' n'' hp hq => ?_, fun j cs hj => ?_⟩
                  · rcases old2 hj with ⟨q1, q2, q3⟩ | ⟨rfl, rfl, rfl⟩
                    · obtain ⟨hB', cs', hM', cur', T', hh', hs', hl', hr'⟩ := hW.blk j b' n' q2
                      rw [List.getElem?_set_ne (Ne.symm q1)] at hM'
                      exact ⟨hB', cs', by rw [List.getElem?_append_left (by simpa using q3), List.getElem?_set_ne (Ne.symm q1)]; exact hM', cur', T', hh', hs', hl', fun x hx => ⟨(hr' x hx).1.mono hle, (hr' x hx).2⟩⟩
                    · obtain ⟨hB', cs', hM', cur', T', hh', hs', hl', hr'⟩ := hW.blk id b' n' hmb
                      simp [hMid] at hM'
                      subst hM'
                      exact ⟨hB', _, by rw [List.getElem?_append_right (by simp)]; simp, cur', T', hh', hs', hl', fun x hx => ⟨(hr' x hx).1.mono hle, (hr' x hx).2⟩⟩
                  · rcases old2 hj with ⟨q1, q2, q3⟩ | ⟨rfl, rfl, rfl⟩
                    · exact HI.sep j b' n' q2 a ha
                    · exact HI.sep id b' n' hmb a ha
                  · rcases old2 hp with ⟨p1, p2, p3⟩ | ⟨rfl, rfl, rfl⟩ <;> rcases old2 hq with ⟨q1, q2, q3⟩ | ⟨rfl, h5, h6⟩
                    · exact HI.inj p q b' n' n'' p2 q2
                    · subst h5; exact absurd (HI.inj _ _ _ _ _ p2 hmb) p1
                    · exact absurd (HI.inj _ _ _ _ _ q2 hmb) q1
                    · rfl
                  · rcases Nat.lt_or_ge j M.length with hlt | hge
                    · rw [List.getElem?_append_left (by simpa using hlt)] at hj
                      by_cases he : id = j
                      · subst he; simp [hMid] at hj
                      · rw [List.getElem?_set_ne he] at hj
                        obtain ⟨b', n', hb'⟩ := HI.live j cs hj
                        exact ⟨b', n', by simp only [G2]; rw [List.getElem?_append_left (by simp [HI.len]; exact hlt), List.getElem?_set_ne he]; exact hb'⟩
                    · rw [List.getElem?_append_right (by simpa using hge)] at hj
                      have : j - M.length = 0 := by
                        rcases Nat.eq_zero_or_pos (j - M.length) with h0 | h0
                        · exact h0
                        · rw [List.getElem?_eq_none (by simp; omega)] at hj; cases hj
                      refine ⟨b, bn, ?_⟩
                      simp only [G2]
                      rw [List.getElem?_append_right (by simp [HI.len]; exact hge)]
                      simp [HI.len, this]
                refine ⟨_, _, G2, hr, hle, ?_, hInv⟩
                refine .ms _ _ _ _ _ _ (by simp [G2, HI.len]) ⟨_, _, rfl⟩ hpos fun b' n' hb' => ?_
                rcases old2 hb' with ⟨_, _, q3⟩ | ⟨_, rfl, rfl⟩
                · omega
                · exact ⟨cc, rfl, hroom, c2, by simpa using c3, fun h => by cases h⟩
              · obtain ⟨v', w', hr, G', k1, k2, k3⟩ := grow (by omega)
                have hk := k2.kill id
                have hMid : id < M.length := (List.getElem?_eq_some_iff.1 hM).1
                refine ⟨v', w', G'.kill id, hr, k1.trans (Gle.kill _ _), k3.mono (Gle.kill _ _), ?_⟩
                rwa [List.set_append_left _ _ hMid] at hk
            · cases h
        · cases h
      · cases h
    | _ => simp at h
end
end Go.Proofs.Ytopiaiibpacmlaa.Av
