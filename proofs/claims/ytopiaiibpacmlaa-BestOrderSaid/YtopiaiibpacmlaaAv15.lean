/- Functions: what the evaluator says of a call is so. -/
import Derived.Test.YtopiaiibpacmlaaAv14
namespace Go.Proofs.Ytopiaiibpacmlaa.Av
open Go.RowKit
set_option linter.unusedSimpArgs false

/-! ### Which blocks are written -/
def Fr (base : Nat) (M M' : MS) (D D' : List Nat) : Prop := M.length ≤ M'.length ∧ (∀ i ∈ D, i ∈ D') ∧ ∀ id, id < base → id ∉ D' → M'[id]? = M[id]?
theorem Fr.refl (base : Nat) (M : MS) (D : List Nat) : Fr base M M D D := ⟨Nat.le_refl _, fun _ h => h, fun _ _ _ => rfl⟩
theorem Fr.trans {base : Nat} {M M1 M2 : MS} {D D1 D2 : List Nat} (h : Fr base M M1 D D1) (k : Fr base M1 M2 D1 D2) : Fr base M M2 D D2 :=
  ⟨Nat.le_trans h.1 k.1, fun i hi => k.2.1 i (h.2.1 i hi), fun id hid hn => (k.2.2 id hid hn).trans (h.2.2 id hid fun hh => hn (k.2.1 id hh))⟩
theorem Fr.app {base : Nat} {M X : MS} {D : List Nat} (hb : base ≤ M.length) : Fr base M (M ++ X) D D :=
  ⟨by simp, fun _ h => h, fun id hid _ => by rw [List.getElem?_append_left (by omega)]⟩
theorem Fr.set {base id : Nat} {M : MS} {D : List Nat} {x : Option (List AV)} : Fr base M (M.set id x) D (dirt base id D) :=
  ⟨by simp, fun i hi => by unfold dirt; split <;> simp [hi], fun k hk hn => by
    by_cases he : id = k
    · subst he; exfalso; apply hn; simp [dirt, hk]
    · rw [List.getElem?_set_ne he]⟩
theorem frz_fr {base : Nat} {M M' : MS} {x x' : AV} (h : frz base M x = some (x', M')) : M'.length = M.length ∧ ∀ id, id < base → M'[id]? = M[id]? := by
  have plain : ∀ {y : AV}, (if isI y = true then some (y, M) else none) = some (x', M') → M'.length = M.length ∧ ∀ id, id < base → M'[id]? = M[id]? := by
    intro y h
    split at h
    · cases h; exact ⟨rfl, fun _ _ => rfl⟩
    · cases h
  cases x with
  | ms id off len sz cd =>
    simp only [frz] at h
    split at h
    · split at h
      · rename_i hh
        cases h
        exact ⟨by simp, fun k hk => by rw [List.getElem?_set_ne (by omega)]⟩
      · cases h
    · cases h
  | mptr id off => simp [frz] at h
  | _ => exact plain (by simpa only [frz] using h)
theorem frzAll_fr {base : Nat} : ∀ {cs cs' : List AV} {M M' : MS}, frzAll base M cs = some (cs', M') → M'.length = M.length ∧ ∀ id, id < base → M'[id]? = M[id]?
  | [], cs', M, M', h => by simp [frzAll] at h; obtain ⟨_, rfl⟩ := h; exact ⟨rfl, fun _ _ => rfl⟩
  | c :: cs, cs', M, M', h => by
    simp only [frzAll] at h
    split at h
    · rename_i c' M1 h1
      split at h
      · rename_i r' M2 h2
        cases h
        obtain ⟨g1, g2⟩ := frz_fr h1
        obtain ⟨k1, k2⟩ := frzAll_fr h2
        exact ⟨k1.trans g1, fun id hid => (k2 id hid).trans (g2 id hid)⟩
      · cases h
    · cases h
theorem frzA_fr {base : Nat} {M M' : MS} {x x' : AV} (h : frzA base M x = some (x', M')) : M'.length = M.length ∧ ∀ id, id < base → M'[id]? = M[id]? := by
  cases x with
  | agg cs =>
    simp only [frzA, Option.map_eq_some_iff] at h
    obtain ⟨⟨cs', M1⟩, h1, h2⟩ := h
    cases h2; exact frzAll_fr h1
  | _ => exact frz_fr (by simpa only [frzA] using h)
theorem frzTup_fr {base : Nat} : ∀ {cs cs' : List AV} {M M' : MS}, frzTup base M cs = some (cs', M') → M'.length = M.length ∧ ∀ id, id < base → M'[id]? = M[id]?
  | [], cs', M, M', h => by simp [frzTup] at h; obtain ⟨_, rfl⟩ := h; exact ⟨rfl, fun _ _ => rfl⟩
  | c :: cs, cs', M, M', h => by
    simp only [frzTup] at h
    split at h
    · rename_i c' M1 h1
      split at h
      · rename_i r' M2 h2
        cases h
        obtain ⟨g1, g2⟩ := frzA_fr h1
        obtain ⟨k1, k2⟩ := frzTup_fr h2
        exact ⟨k1.trans g1, fun id hid => (k2 id hid).trans (g2 id hid)⟩
      · cases h
    · cases h
theorem frzV_fr {base : Nat} {M M' : MS} {x x' : AV} (h : frzV base M x = some (x', M')) : M'.length = M.length ∧ ∀ id, id < base → M'[id]? = M[id]? := by
  cases x with
  | tup cs =>
    simp only [frzV, Option.map_eq_some_iff] at h
    obtain ⟨⟨cs', M1⟩, h1, h2⟩ := h
    cases h2; exact frzTup_fr h1
  | _ => exact frzA_fr (by simpa only [frzV] using h)
def FrameOk (call : Call) : Prop := ∀ f args M v M' D, call f args M = some (.x v M' D) → M.length ≤ M'.length ∧ ∀ id, id < M.length → id ∉ D → M'[id]? = M[id]?
theorem frz_dt {base : Nat} {M M' : MS} {x x' : AV} {D : List Nat} (h : frz 0 M x = some (x', M')) : Fr base M M' D (dirts base [x] D) := by
  have plain : ∀ {y : AV}, (if isI y = true then some (y, M) else none) = some (x', M') → dirts base [y] D = D → Fr base M M' D (dirts base [y] D) := by
    intro y h h2
    split at h
    · cases h; rw [h2]; exact Fr.refl _ _ _
    · cases h
  cases x with
  | ms id off len sz cd =>
    simp only [frz] at h
    split at h
    · split at h
      · cases h; exact Fr.set
      · cases h
    · cases h
  | mptr id off => simp [frz] at h
  | _ => exact plain (by simpa only [frz] using h) rfl
theorem dirts_cons (base : Nat) (c : AV) (cs : List AV) (D : List Nat) : dirts base (c :: cs) D = dirts base [c] (dirts base cs D) := by cases c <;> rfl
theorem dirts_sub {base : Nat} : ∀ (cs : List AV) (D : List Nat), ∀ i ∈ D, i ∈ dirts base cs D
  | [], D, i, h => h
  | c :: cs, D, i, h => by
    have h2 := dirts_sub (base := base) cs D i h
    cases c <;> simp only [dirts] <;> first | exact h2 | (unfold dirt; split <;> simp [h2])
theorem frzAll_dt {base : Nat} : ∀ {cs cs' : List AV} {M M' : MS} {D : List Nat}, frzAll 0 M cs = some (cs', M') → Fr base M M' D (dirts base cs D)
  | [], cs', M, M', D, h => by simp [frzAll] at h; obtain ⟨_, rfl⟩ := h; exact Fr.refl _ _ _
  | c :: cs, cs', M, M', D, h => by
    simp only [frzAll] at h
    split at h
    · rename_i c' M1 h1
      split at h
      · rename_i r' M2 h2
        cases h
        have k1 := frz_dt (base := base) (D := D) h1
        have k2 := frzAll_dt (base := base) (D := D) h2
        rw [dirts_cons]
        refine ⟨Nat.le_trans k1.1 k2.1, fun i hi => dirts_sub _ _ _ (k2.2.1 i hi), fun id hid hn => ?_⟩
        have n2 : id ∉ dirts base cs D := fun hh => hn (dirts_sub _ _ _ hh)
        have n1 : id ∉ dirts base [c] D := by
          intro hh; apply hn
          cases c <;> simp only [dirts] at hh ⊢ <;> first | exact dirts_sub _ _ _ hh | (unfold dirt at hh ⊢; split at hh <;> rename_i hc <;> simp only [hc, if_true, if_false, List.mem_cons] at hh ⊢ <;> first | exact (hh.imp (fun h => h) fun h => dirts_sub _ _ _ h) | exact dirts_sub _ _ _ hh)
        exact (k2.2.2 id hid n2).trans (k1.2.2 id hid n1)
      · cases h
    · cases h
theorem sliceA_q {sz : Nat} {x : AV} {lo hi mx : Option AV} {out : Out} (h : sliceA sz x lo hi mx = some out) : ∃ z, out = .q z := by
  cases x with
  | list sz' cs nl cd =>
    simp only [sliceA] at h
    split at h
    · split at h
      · split at h
        · cases h; exact ⟨_, rfl⟩
        · cases h; exact ⟨_, rfl⟩
      · cases h
    · cases h
  | ms id off len sz' cd =>
    simp only [sliceA] at h
    split at h
    · split at h
      · split at h
        · cases h; exact ⟨_, rfl⟩
        · split at h
          · cases h
          · cases h; exact ⟨_, rfl⟩
      · cases h
    · cases h
  | _ => simp [sliceA] at h
theorem evI_fr {call : Call} (HF : FrameOk call) {base : Nat} {env : Env} {M M' : MS} {D D' : List Nat} {i : I} {v : AV} (hb : base ≤ M.length) (h : evI call base env M D i = some (.x v M' D')) : Fr base M M' D D' := by
  have callF : ∀ {f : Nat} {args : List AV}, evI.callA call base M D f args = some (.x v M' D') → Fr base M M' D D' := by
    intro f args h
    simp only [evI.callA] at h
    split at h
    · cases h
    · rename_i v1 M1 D1 hc
      cases h
      obtain ⟨h1, h2⟩ := HF _ _ _ _ _ _ hc
      refine ⟨h1, fun i hi => by simp [hi], fun id hid hn => h2 id (by omega) fun hh => hn ?_⟩
      simp [hh, hid]
    · cases h
  cases i <;> simp only [evI] at h
  case store n a x =>
    split at h
    · split at h
      · unfold storeA at h
        split at h
        · split at h
          · rename_i cs' M1 hz
            obtain ⟨h1, h2⟩ := frzAll_fr hz
            split at h
            · split at h
              · cases h
                exact Fr.trans (M1 := M1) (D1 := D) ⟨by omega, fun _ h => h, fun id hid _ => h2 id hid⟩ Fr.set
              · cases h
            · cases h
          · cases h
        · split at h
          · split at h
            · cases h; exact Fr.set
            · cases h
          · cases h
        · cases h
      · cases h
    · cases h
  case alloc zs => cases h; exact Fr.app hb
  case box n x =>
    split at h
    · split at h
      · cases h; exact Fr.app hb
      · cases h
    · cases h
  case bslice sz len zs ps =>
    split at h
    · split at h
      · cases h
      · split at h
        · rename_i cs' M1 hz
          cases h
          exact frzAll_dt hz
        · cases h
    · cases h
  case mslice sz by' zs n c =>
    split at h
    · split at h
      · cases h; exact Fr.app hb
      · cases h
    · cases h
  case call f args => exact callF h
  case calld f args =>
    split at h
    · exact callF h
    · cases h
  case app sz by' s x =>
    split at h
    · unfold appA at h
      split at h
      · split at h
        · cases h
        · split at h <;> cases h
        · cases h
      · split at h
        · split at h
          · cases h; exact Fr.app hb
          · cases h
        · split at h
          · split at h
            · split at h
              · cases h; exact Fr.app hb
              · split at h
                · cases h
                  exact Fr.set.trans (Fr.app (by simpa using hb))
                · cases h
            · cases h
          · cases h
        · cases h
    · cases h
  case copy sz d s =>
    split at h
    · split at h
      · split at h
        · cases h; exact Fr.set
        · cases h
      · cases h
    · cases h
  case clear sz zs x =>
    split at h
    · cases h
    · split at h
      · split at h
        · split at h
          · cases h
          · cases h; exact Fr.set
        · cases h
      · cases h
    · cases h
  case slice sz x lo hi mx =>
    split at h
    · obtain ⟨z, hz⟩ := sliceA_q h; cases hz
    · cases h
  all_goals (try simp only [Option.map_eq_some_iff] at h)
  all_goals first
    | (obtain ⟨_, _, hh⟩ := h; cases hh; done)
    | (cases h; done)
    | ((repeat' split at h); all_goals first | (cases h; done) | (rw [Option.map_eq_some_iff] at h; obtain ⟨_, _, hh⟩ := h; cases hh; done))
theorem evS_fr {call : Call} (HF : FrameOk call) {base : Nat} : ∀ {as : List AOp} {env env' : Env} {M M' : MS} {D D' : List Nat}, base ≤ M.length → evS call base as env M D = some (env', M', D') → Fr base M M' D D' := by
  intro as
  induction as with
  | nil => intro env env' M M' D D' hb h; simp only [evS, Option.some.injEq, Prod.mk.injEq] at h; obtain ⟨_, rfl, rfl⟩ := h; exact Fr.refl _ _ _
  | cons o as ih =>
    intro env env' M M' D D' hb h
    simp only [evS] at h
    split at h
    · split at h
      · exact ih hb h
      · rename_i v M1 D1 hv
        have h1 := evI_fr HF hb hv
        exact h1.trans (ih (Nat.le_trans hb h1.1) h)
      · cases h
    · exact ih hb h
    · cases h
theorem evAC_fr {call : Call} (HF : FrameOk call) {base n : Nat} : ∀ {c : AC} {env env' : Env} {M M' : MS} {D D' : List Nat} {ex : Ex}, base ≤ M.length → evAC call base n c env M D = some (ex, env', M', D') → Fr base M M' D D' := by
  intro c
  induction c with
  | skip => intro env env' M M' D D' ex hb h; simp only [evAC, Option.some.injEq, Prod.mk.injEq] at h; obtain ⟨_, _, rfl, rfl⟩ := h; exact Fr.refl _ _ _
  | exit id => intro env env' M M' D D' ex hb h; simp only [evAC, Option.some.injEq, Prod.mk.injEq] at h; obtain ⟨_, _, rfl, rfl⟩ := h; exact Fr.refl _ _ _
  | ret => intro env env' M M' D D' ex hb h; simp only [evAC, Option.some.injEq, Prod.mk.injEq] at h; obtain ⟨_, _, rfl, rfl⟩ := h; exact Fr.refl _ _ _
  | stop => intro env env' M M' D D' ex hb h; simp [evAC] at h
  | seq x y ihx ihy =>
    intro env env' M M' D D' ex hb h
    simp only [evAC] at h
    split at h
    · rename_i env1 M1 D1 hx
      have h1 := ihx hb hx
      exact h1.trans (ihy (Nat.le_trans hb h1.1) h)
    · exact ihx hb h
  | cond c x y ihx ihy =>
    intro env env' M M' D D' ex hb h
    simp only [evAC] at h
    split at h
    · exact ihx hb h
    · exact ihy hb h
    · cases h
  | block id x ih =>
    intro env env' M M' D D' ex hb h
    simp only [evAC] at h
    split at h
    · rename_i id' env1 M1 D1 hx
      have h1 := ih hb hx
      split at h <;> (simp only [Option.some.injEq, Prod.mk.injEq] at h; obtain ⟨_, _, rfl, rfl⟩ := h; exact h1)
    · exact ih hb h
  | loop x ih =>
    intro env env' M M' D D' ex hb h
    simp only [evAC] at h
    have key : ∀ (k : Nat) {env : Env} {M : MS} {D : List Nat}, base ≤ M.length → evLoop (evAC call base n x) k env M D = some (ex, env', M', D') → Fr base M M' D D' := by
      intro k
      induction k with
      | zero => intro env M D hb h; simp [evLoop] at h
      | succ k ihk =>
        intro env M D hb h
        simp only [evLoop] at h
        split at h
        · rename_i env1 M1 D1 hx
          have h1 := ih hb hx
          exact h1.trans (ihk (Nat.le_trans hb h1.1) h)
        · exact ih hb h
    exact key n hb h
  | region k ops =>
    intro env env' M M' D D' ex hb h
    simp only [evAC] at h
    split at h
    · split at h
      · rename_i env2 M2 D2 hS
        simp only [Option.some.injEq, Prod.mk.injEq] at h
        obtain ⟨_, _, rfl, rfl⟩ := h
        exact evS_fr HF hb hS
      · cases h
    · cases h

/-! ### What a call leaves behind -/
/-- Every block that a value leads to is below k. -/
inductive Lt (k : Nat) : AV → Prop
  | flat (v : Value) : Lt k (.flat v)
  | list (sz : Nat) (cs : List AV) (nl cd : Bool) : Lt k (.list sz cs nl cd)
  | agg (cs : List AV) (h : ∀ (j : Nat) (h : j < cs.length), Lt k cs[j]) : Lt k (.agg cs)
  | elem (x : AV) (j : Nat) (h : Lt k x) : Lt k (.elem x j)
  | mptr (id off : Nat) (h : id < k) : Lt k (.mptr id off)
  | ms (id off len sz : Nat) (cd : Bool) (h : id < k) : Lt k (.ms id off len sz cd)
  | clo (fn : Nat) (cs : List AV) (h : ∀ (j : Nat) (h : j < cs.length), Lt k cs[j]) : Lt k (.clo fn cs)
  | tup (cs : List AV) (h : ∀ (j : Nat) (h : j < cs.length), Lt k cs[j]) : Lt k (.tup cs)
theorem RI.lt {g : Addr → Option Value} {k : Nat} {x : AV} {v : Value} (h : RI g x v) : Lt k x := by
  induction h with
  | flat v => exact .flat v
  | nil sz => exact .list _ _ _ _
  | list sz cs capd a n c vs h0 h1 h2 h3 h4 h5 h6 ih => exact .list _ _ _ _
  | agg cs vs h h6 h7 ih => exact .agg _ ih
  | elem x k a n c h ih => exact .elem _ _ ih
  | clo fn cs vs h h6 ih => exact .clo _ _ ih
  | tup cs vs h h6 ih => exact .tup _ ih
theorem R.lt {G : Gh} {x : AV} {v : Value} (h : R G x v) : Lt G.m.length x := by
  induction h with
  | imm x v h => exact h.lt
  | agg cs vs h h6 h7 ih => exact .agg _ ih
  | elem x k a n c h ih => exact .elem _ _ ih
  | mptr id off v h0 h1 h => exact .mptr _ _ h0
  | ms id off len sz capd v h0 h1 hsz h => exact .ms _ _ _ _ _ h0
  | clo fn cs vs h h6 ih => exact .clo _ _ ih
  | tup cs vs h h6 ih => exact .tup _ ih
theorem Lt.ofI {k : Nat} {G : Gh} {x : AV} {v : Value} (h : R G x v) (hi : isI x = true) : Lt k x := (h.toI hi).lt
def Gh.cut (G : Gh) (k : Nat) : Gh := { G with m := G.m.take k }
theorem R.cut {G : Gh} {k : Nat} (hk : k ≤ G.m.length) {x : AV} {v : Value} (h : R G x v) (hl : Lt k x) : R (G.cut k) x v := by
  have hlen : (G.cut k).m.length = k := by simp [Gh.cut]; omega
  induction h with
  | imm x v h => exact .imm _ _ h
  | agg cs vs h h6 h7 ih => cases hl with | agg _ hh => exact .agg _ _ h (fun j hj => ih j hj (hh j hj)) h7
  | elem x k a n c h ih => cases hl with | elem _ _ hh => exact .elem _ _ _ _ _ (ih hh)
  | mptr id off v h0 h1 h => cases hl with | mptr _ _ hh => exact .mptr _ _ _ (by omega) h1 fun b n hb => h b n (by simp only [Gh.cut, List.getElem?_take, hh, if_true] at hb; exact hb)
  | ms id off len sz capd v h0 h1 hsz h => cases hl with | ms _ _ _ _ _ hh => exact .ms _ _ _ _ _ _ (by omega) h1 hsz fun b n hb => h b n (by simp only [Gh.cut, List.getElem?_take, hh, if_true] at hb; exact hb)
  | clo fn cs vs h h6 ih => cases hl with | clo _ _ hh => exact .clo _ _ _ h fun j hj => ih j hj (hh j hj)
  | tup cs vs h h6 ih => cases hl with | tup _ hh => exact .tup _ _ h fun j hj => ih j hj (hh j hj)
section
variable {P : Program} {w0 w w' : World}
theorem Gle.cut {G G' : Gh} (h : Gle G G') : Gle G (G'.cut G.m.length) :=
  ⟨h.g, by have := h.len; simp [Gh.cut]; omega, fun id b hid hb => h.m id b hid (by simpa only [Gh.cut, List.getElem?_take, hid, if_true] using hb)⟩
theorem Inv.cut {G : Gh} {M : MS} (h : Inv w0 G M w) {k : Nat} (hk : k ≤ M.length) (hl : ∀ id cs, id < k → M[id]? = some (some cs) → ∀ (j : Nat) (h : j < cs.length), Lt k cs[j]) : Inv w0 (G.cut k) (M.take k) w := by
  have get : ∀ {id : Nat} {x : Nat × Nat}, (G.cut k).m[id]? = some (some x) → id < k ∧ G.m[id]? = some (some x) := by
    intro id x hx
    simp only [Gh.cut, List.getElem?_take] at hx
    split at hx
    · rename_i hh; exact ⟨hh, hx⟩
    · cases hx
  have hkG : k ≤ G.m.length := by rw [h.len]; exact hk
  refine ⟨h.below, by simp [Gh.cut, h.len], h.imm, fun id b n hm => ?_, fun id b n hm a ha => h.sep id b n (get hm).2 a ha, fun i j b n n' h1 h2 => h.inj i j b n n' (get h1).2 (get h2).2, fun id cs hM => ?_⟩
  · obtain ⟨hid, hm'⟩ := get hm
    obtain ⟨hB, cs, hM, cur, T, hh, hs, hle, hr⟩ := h.blk id b n hm'
    exact ⟨hB, cs, by rw [List.getElem?_take, if_pos hid]; exact hM, cur, T, hh, hs, hle, fun j hj => ⟨(hr j hj).1.cut hkG (hl id cs hid hM j hj), (hr j hj).2⟩⟩
  · rw [List.getElem?_take] at hM
    split at hM
    · rename_i hid
      obtain ⟨b, n, hb⟩ := h.live id cs hM
      exact ⟨b, n, by simp only [Gh.cut, List.getElem?_take, hid, if_true]; exact hb⟩
    · cases hM
theorem Inv.lt {G : Gh} {M : MS} (h : Inv w0 G M w) {id : Nat} {cs : List AV} (hM : M[id]? = some (some cs)) : ∀ (j : Nat) (h : j < cs.length), Lt M.length cs[j] := by
  obtain ⟨b, n, cur, T, hm, hB, hh, hs, hl, hr⟩ := h.row hM
  intro j hj
  rw [← h.len]
  exact (hr j hj).1.lt
theorem fin_ok {G G' : Gh} {M M' : MS} {D : List Nat} {keep : Bool} {r : AV} {v : Value} {out : Out} (HI : Inv w0 G M w) (hG : Gle G G') (HI' : Inv w0 G' M' w') (hF : Fr M.length M M' [] D) (hr : R G' r v) (h : fin M.length keep r M' D = some out) :
    (∃ G2, Gle G G2 ∧ OutR w0 G2 M out v w') ∧ ∀ x M2 D2, out = .x x M2 D2 → M.length ≤ M2.length ∧ ∀ id, id < M.length → id ∉ D2 → M2[id]? = M[id]? := by
  unfold fin at h
  split at h
  · cases h
    exact ⟨⟨G', hG, hr, HI'⟩, fun x M2 D2 he => by cases he; exact ⟨hF.1, hF.2.2⟩⟩
  · split at h
    · rename_i r' M2 hz
      obtain ⟨G2, g1, g2, g3⟩ := does_frzV HI' hr hz
      obtain ⟨f1, f2⟩ := frzV_fr hz
      have hF2 : ∀ id, id < M.length → id ∉ D → M2[id]? = M[id]? := fun id hid hn => (f2 id hid).trans (hF.2.2 id hid hn)
      have hlen : M.length ≤ M2.length := by rw [f1]; exact hF.1
      split at h
      · rename_i hi
        have hk : M.length ≤ G2.m.length := by rw [g2.len]; exact hlen
        have hle : Gle G (G2.cut M.length) := by
          have := (hG.trans g1).cut
          rwa [HI.len] at this
        have hr2 : R (G2.cut M.length) r' v := g3.cut hk (Lt.ofI g3 hi)
        split at h
        · -- nothing of the caller's was written
          cases h
          have heq : M2.take M.length = M := by
            apply List.ext_getElem?
            intro i
            rw [List.getElem?_take]
            split
            · rename_i hlt; exact hF2 i hlt (by simp)
            · rename_i hge; rw [List.getElem?_eq_none (by omega)]
          have hcut := g2.cut hlen (fun id cs hid hM j hj => by
            rw [hF2 id hid (by simp)] at hM
            exact HI.lt hM j hj)
          rw [heq] at hcut
          exact ⟨⟨_, hle, hr2, hcut⟩, fun x M3 D3 he => by cases he⟩
        · split at h
          · rename_i hD
            cases h
            have hcut := g2.cut hlen (fun id cs hid hM j hj => by
              by_cases hin : id ∈ D
              · have := List.all_eq_true.1 hD id hin
                rw [hM] at this
                obtain ⟨b, n, cur, T, hm, hB, hh, hs, hl, hrr⟩ := g2.row hM
                exact Lt.ofI (hrr j hj).1 (allI_get this j hj)
              · rw [hF2 id hid hin] at hM
                exact HI.lt hM j hj)
            exact ⟨⟨_, hle, hr2, hcut⟩, fun x M3 D3 he => by
              cases he
              refine ⟨by simp; omega, fun id hid hn => by rw [List.getElem?_take, if_pos hid]; exact hF2 id hid hn⟩⟩
          · cases h
            exact ⟨⟨G2, hG.trans g1, g3, g2⟩, fun x M3 D3 he => by cases he; exact ⟨hlen, hF2⟩⟩
      · cases h
    · cases h
def rvS (a : Act) : ResultVar → Sem Value
  | .tmp t => pure (a.tmps.getD t undef)
  | .cell b t => do loadVar t (← asAddr (a.tmps.getD b undef))
theorem rv_run {G : Gh} {M : MS} {env : Env} {a : Act} (HE : EnvR G env a) (HI : Inv w0 G M w) {r : ResultVar} {rv : RV} {x : AV} (ht : trRV P r = some rv) (h : rvA env M rv = some x) :
    ∃ v, (rvS a r).run P w = .ok v w ∧ R G x v := by
  cases r with
  | tmp t =>
    simp [trRV] at ht; subst ht
    simp [rvA] at h; subst h
    exact ⟨_, rfl, HE.t t⟩
  | cell b t =>
    simp only [trRV] at ht
    split at ht
    · rename_i ag n h1 h2
      cases ht
      simp only [rvA] at h
      split at h
      · rename_i cs hcs
        obtain ⟨v, hv, hR⟩ := does_load (P := P) h1 h2 HI (HE.t b) hcs h
        obtain ⟨ad, _, he, _⟩ := aview_cells HI (HE.t b) hcs
        refine ⟨v, ?_, hR⟩
        show (do loadVar t (← asAddr (a.tmps.getD b undef)) : Sem Value).run P w = _
        rw [he] at hv ⊢
        simpa [Instr.loadAt, Instr.sureAddr, asAddr] using hv
      · cases h
    · cases ht
theorem res_run {G : Gh} {M : MS} {env : Env} {a : Act} (HE : EnvR G env a) (HI : Inv w0 G M w) : ∀ {rs : List ResultVar} {rvs : List RV} {xs : List AV}, trRes P rs = some rvs → resA env M rvs = some xs →
    ∃ vs : List Value, (rs.mapM (rvS a)).run P w = .ok vs w ∧ vs.length = xs.length ∧ ∀ (j : Nat) (h : j < xs.length), R G xs[j] (vs.getD j undef)
  | [], rvs, xs, ht, h => by
    simp [trRes] at ht; subst ht
    simp [resA] at h; subst h
    exact ⟨[], rfl, rfl, fun j hj => by simp at hj⟩
  | r :: rs, rvs, xs, ht, h => by
    simp only [trRes] at ht
    split at ht
    · rename_i rv rvs' h1 h2
      cases ht
      simp only [resA] at h
      split at h
      · rename_i x xs' h3 h4
        cases h
        obtain ⟨v, k1, k2⟩ := rv_run HE HI h1 h3
        obtain ⟨vs, k3, k4, k5⟩ := res_run HE HI h2 h4
        refine ⟨v :: vs, ?_, by simp [k4], fun j hj => ?_⟩
        · rw [List.mapM_cons]
          simp only [Sem.run_bind, k1, Result.andThen_ok, k3, Sem.run_pure]
        · cases j with
          | zero => exact k2
          | succ j => exact k5 j (by simpa using hj)
      · cases h
    · cases ht
theorem results_run {G : Gh} {M : MS} {env : Env} {a : Act} (HE : EnvR G env a) (HI : Inv w0 G M w) {fn : Func} {rvs : List RV} {xs : List AV} (ht : trRes P fn.results.toList = some rvs) (h : resA env M rvs = some xs) :
    ∃ v, (results fn a.tmps).run P w = .ok v w ∧ R G (tupA xs) v := by
  obtain ⟨vs, h1, h2, h3⟩ := res_run HE HI ht h
  have hm : (fn.results.mapM (rvS a)).run P w = .ok vs.toArray w := by
    rw [Array.mapM_eq_mapM_toList]
    simp only [Sem.run_map, h1, Result.andThen_ok]
  have e : (results fn a.tmps).run P w = .ok (if h : vs.toArray.size = 1 then vs.toArray[0] else .tuple vs.toArray) w := by
    have hres : results fn a.tmps = (do let vs ← fn.results.mapM (rvS a); pure (if h : vs.size = 1 then vs[0] else .tuple vs) : Sem Value) := by
      unfold results
      congr 1
    rw [hres, Sem.run_bind, hm]
    rfl
  refine ⟨_, e, ?_⟩
  match xs, h2, h3 with
  | [], h2, h3 =>
    have : vs = [] := List.eq_nil_of_length_eq_zero (by simpa using h2)
    subst this
    exact .tup _ _ rfl fun j hj => by simp at hj
  | [x], h2, h3 =>
    obtain ⟨v, rfl⟩ : ∃ v, vs = [v] := by
      match vs, h2 with
      | [v], _ => exact ⟨v, rfl⟩
    simpa [tupA] using h3 0 (by simp)
  | x :: y :: r, h2, h3 =>
    have hne : vs.toArray.size ≠ 1 := by simp [h2]
    rw [dif_neg hne]
    refine .tup _ _ (by simpa using h2) fun j hj => ?_
    have := h3 j hj
    simpa [Array.getD_eq_getD_getElem?, List.getD] using this
/-- The program is as it was read; what is said of the others is so. -/
structure PrOk (P : Program) (p : Pr) : Prop where
  hm : P.follows .mixedOrders = true
  A : ∀ f af, p.A f = some af → ∃ fn, P.funcs[f]? = some fn ∧ fn.name ≠ "runtime.NumGoroutine" ∧ trFn P fn af.keep = some af
  ext : CallOk P p.ext
theorem evFn_ok {p : Pr} (HP : PrOk P p) : ∀ n, CallOk P (evFn p n)
  | 0 => ⟨fun f args M out h => by simp [evFn] at h, fun f args M out h => by simp [evFn] at h, fun f args M v M' D h => by simp [evFn] at h⟩
  | n + 1 => by
    have ih := evFn_ok HP n
    have FO : FrameOk (evFn p n) := ih.frame
    have main : ∀ f args M out, evFn p (n + 1) f args M = some out → (∃ af, p.A f = some af ∧ ∃ ex env' M' D', evAC (evFn p n) M.length n af.body (env0 args) M [] = some (ex, env', M', D') ∧ (ex = .nrm ∨ ex = .ret) ∧
        ∃ vs, resA env' M' af.res = some vs ∧ fin M.length af.keep (tupA vs) M' D' = some out) ∨ (p.A f = none ∧ p.ext f args M = some out) := by
      intro f args M out h
      simp only [evFn] at h
      split at h
      · rename_i af haf
        refine .inl ⟨af, haf, ?_⟩
        split at h
        · cases h
        · rename_i ex env' M' D' hne hev
          split at h
          · rename_i vs hvs
            refine ⟨ex, env', M', D', hev, ?_, vs, hvs, h⟩
            cases ex with
            | nrm => exact .inl rfl
            | exit id => exact (hne id rfl).elim
            | ret => exact .inr rfl
          · cases h
        · cases h
      · rename_i haf
        exact .inr ⟨haf, h⟩
    refine ⟨fun f args M out h => ?_, fun f args M out h w0 w G vals HI hs hr => ?_, fun f args M v M' D h => ?_⟩
    · rcases main f args M out h with ⟨af, haf, _⟩ | ⟨_, he⟩
      · obtain ⟨fn, hf, hnm, ht⟩ := HP.A f af haf
        unfold trFn at ht
        split at ht
        · rename_i c hc
          simp [okFn, hf, hnm, hc]
        · cases ht
      · exact HP.ext.ok _ _ _ _ he
    · rcases main f args M out h with ⟨af, haf, ex, env', M', D', hev, hex, vs, hvs, hfin⟩ | ⟨_, he⟩
      · obtain ⟨fn, hf, hnm, ht⟩ := HP.A f af haf
        unfold trFn at ht
        split at ht
        · rename_i c hc
          split at ht
          · rename_i rs h2
            simp only [Option.some.injEq] at ht
            obtain ⟨ac, h1⟩ : ∃ ac, trCode P fn.ntmps c = ac := ⟨_, rfl⟩
            have hb : af.body = ac := by rw [← ht, ← h1]
            have hrs : af.res = rs := by rw [← ht]
            refine calls_of_wp hf hc (code_wp ih HP.hm (base := M.length) (n := n) c ac h1 (env0 args) env' M M' [] D' ex _ w G _ (by rw [← hb]; exact hev) (by simp; omega) ⟨fun t => ?_, rfl⟩ HI fun a' w' G' g1 g2 g3 g4 => ?_)
            · -- the frame that is entered
              show R G (args.getD t (.flat undef)) ((vals ++ Array.replicate (fn.ntmps - vals.size) undef).getD t undef)
              by_cases hlt : t < args.length
              · have e1 : (vals ++ Array.replicate (fn.ntmps - vals.size) undef).getD t undef = vals.getD t undef := by
                  simp only [Array.getD_eq_getD_getElem?]
                  rw [Array.getElem?_append_left (by rw [hs]; exact hlt)]
                rw [e1]
                have e2 : args.getD t (.flat undef) = args[t] := by simp [List.getD, hlt]
                rw [e2]; exact hr t hlt
              · have e2 : args.getD t (.flat undef) = .flat undef := by simp [List.getD, hlt]
                have e1 : (vals ++ Array.replicate (fn.ntmps - vals.size) undef).getD t undef = undef := by
                  simp only [Array.getD_eq_getD_getElem?]
                  rw [Array.getElem?_append_right (by rw [hs]; omega)]
                  simp only [Array.getElem?_replicate]
                  split <;> rfl
                rw [e1, e2]; exact .imm _ _ (.flat undef)
            · have hF := evAC_fr FO (Nat.le_refl _) hev
              obtain ⟨v, hv, hR⟩ := results_run (P := P) g2 g4 (fn := fn) (rvs := rs) h2 (by rw [← hrs]; exact hvs)
              obtain ⟨⟨G2, k1, k2⟩, _⟩ := fin_ok HI g1 g4 hF hR hfin
              have : bodyPost P fn (fun e w' => ∃ v G', e = .returned v ∧ Gle G G' ∧ OutR w0 G' M out v w') .normal a' w' := ⟨g2.d, v, hv, v, G2, rfl, k1, k2⟩
              rcases hex with rfl | rfl
              · exact this
              · exact this
          · cases ht
        · cases ht
      · exact HP.ext.snd _ _ _ _ he w0 w G vals HI hs hr
    · rcases main f args M _ h with ⟨af, haf, ex, env', M1, D1, hev, hex, vs, hvs, hfin⟩ | ⟨_, he⟩
      · have hF := evAC_fr FO (Nat.le_refl _) hev
        clear h main
        unfold fin at hfin
        split at hfin
        · cases hfin; exact ⟨hF.1, hF.2.2⟩
        · split at hfin
          · rename_i r' M2 hz
            obtain ⟨f1, f2⟩ := frzV_fr hz
            have hF2 : ∀ id, id < M.length → id ∉ D1 → M2[id]? = M[id]? := fun id hid hn => (f2 id hid).trans (hF.2.2 id hid hn)
            have hlen : M.length ≤ M2.length := by rw [f1]; exact hF.1
            split at hfin
            · split at hfin
              · cases hfin
              · split at hfin
                · cases hfin
                  exact ⟨by simp; omega, fun id hid hn => by rw [List.getElem?_take, if_pos hid]; exact hF2 id hid hn⟩
                · cases hfin
                  exact ⟨hlen, hF2⟩
            · cases hfin
          · cases hfin
      · exact HP.ext.frame _ _ _ _ _ _ he
end
end Go.Proofs.Ytopiaiibpacmlaa.Av
