/- Calls, and regions: in the text's order, or in whatever order is drawn. -/
import Derived.Test.YtopiaiibpacmlaaAv11
namespace Go.Proofs.Ytopiaiibpacmlaa.Av
open Go.RowKit
set_option linter.unusedSimpArgs false

def okFn (P : Program) (f : Nat) : Bool :=
  match P.funcs[f]? with
  | some fn => fn.name != "runtime.NumGoroutine" && fn.body.isSome
  | none => false
/-- What the evaluator says of calls is so. -/
structure CallOk (P : Program) (call : Call) : Prop where
  ok : ∀ f args M out, call f args M = some out → okFn P f = true
  snd : ∀ f args M out, call f args M = some out → ∀ (w0 w : World) (G : Gh) (vals : Array Value), Inv w0 G M w → vals.size = args.length → (∀ (j : Nat) (h : j < args.length), R G args[j] (vals.getD j undef)) →
    Calls P f vals w fun e w' => ∃ v G', e = .returned v ∧ Gle G G' ∧ OutR w0 G' M out v w'
  frame : ∀ f args M v M' D, call f args M = some (.x v M' D) → M.length ≤ M'.length ∧ ∀ id, id < M.length → id ∉ D → M'[id]? = M[id]?

def dstOk (N : Nat) : Option Nat → Bool
  | some d => decide (d < N)
  | none => true
def trOp (P : Program) (ops : Array Oper) (N : Nat) (o : Oper) : Option AOp :=
  if dstOk N o.dst = true then
    match o.guard with
    | none => some ⟨o.dst, (trI P o.op).getD .stop, none⟩
    | some (j, b) => match (ops[j]?).bind (·.dst) with
      | some t => some ⟨o.dst, (trI P o.op).getD .stop, some (t, b)⟩
      | none => none
  else none
theorem trOp_inv {P : Program} {ops : Array Oper} {N : Nat} {o : Oper} {ao : AOp} (h : trOp P ops N o = some ao) :
    (trI P o.op).getD .stop = ao.i ∧ ao.dst = o.dst ∧ (∀ d, o.dst = some d → d < N) ∧
    ((o.guard = none ∧ ao.g = none) ∨ ∃ j b t, o.guard = some (j, b) ∧ (ops[j]?).bind (·.dst) = some t ∧ ao.g = some (t, b)) := by
  unfold trOp at h
  split at h
  · rename_i hd
    have hd' : ∀ d, o.dst = some d → d < N := by intro d hdd; rw [hdd] at hd; simpa [dstOk] using hd
    split at h
    · rename_i hg; cases h; exact ⟨rfl, rfl, hd', .inl ⟨hg, rfl⟩⟩
    · rename_i j b hg
      split at h
      · rename_i t ht; cases h; exact ⟨rfl, rfl, hd', .inr ⟨j, b, t, hg, ht, rfl⟩⟩
      · cases h
  · cases h
section
variable {P : Program} {w0 w : World} {G : Gh} {M : MS} {env : Env} {a : Act} {ops : Array Oper} {N : Nat}
theorem wantA_R (HE : EnvR G env a) {o : Oper} {ao : AOp} (ht : trOp P ops N o = some ao) {b : Bool} (h : wantA env ao.g = some b) : Region.wanted o (yielded ops a.tmps) = b := by
  obtain ⟨_, _, _, hg⟩ := trOp_inv ht
  rcases hg with ⟨h1, h2⟩ | ⟨j, b', t, h1, h2, h3⟩
  · rw [h2] at h; simp [wantA] at h; subst h; simp [Region.wanted, h1]
  · rw [h3] at h
    have hr := HE.t t
    simp only [wantA] at h
    split at h
    · rename_i c hc
      cases h
      rw [hc] at hr
      have he := hr.flat_inv
      have hlt : a.tmps[t]? = some (.bool c) := by
        rcases Nat.lt_or_ge t a.tmps.size with hl | hl
        · rw [getD_some hl, he]
        · simp [Array.getD_eq_getD_getElem?, Array.getElem?_eq_none hl, undef] at he
      simp [Region.wanted, h1, yielded, h2, hlt]
    · rename_i c hc
      cases h
      rw [hc] at hr
      have he := hr.flat_inv
      have hy : yielded ops a.tmps j = none := by
        unfold yielded
        rw [h2]
        simp only [Option.bind_some]
        rcases Nat.lt_or_ge t a.tmps.size with hl | hl
        · rw [getD_some hl, he]
        · rw [Array.getElem?_eq_none hl]
      simp [Region.wanted, h1, hy]
    · cases h
/-- An instruction, a call or not: the machine's operation goes on as the evaluator says. -/
theorem evI_wp {call : Call} (HC : CallOk P call) {base : Nat} {D : List Nat} {o : Oper} {i : I} {out : Out} (HE : EnvR G env a) (HI : Inv w0 G M w) (ht0 : (trI P o.op).getD .stop = i)
    (h : evI call base env M D i = some out) {K : Act → World → Prop} {Q : Exit → Act → World → Prop} (hK : ∀ v w' G', Gle G G' → OutR w0 G' M out v w' → K (a.put o.dst v) w') : o.wp P a w K Q := by
  have ht : trI P o.op = some i := by
    cases hh : trI P o.op with
    | none => rw [hh] at ht0; simp at ht0; subst ht0; simp [evI] at h
    | some j => rw [hh] at ht0; simp at ht0; rw [ht0]
  clear ht0
  cases hic : i.isCall with
  | false =>
    obtain ⟨v, w', G', hr, hG, hO⟩ := evI_does HE HI ht hic h
    unfold Oper.wp
    rcases hr with hr | ⟨hr, rfl⟩
    · rw [hr]; exact hK v w' G' hG hO
    · rw [hr]; exact hK undef w' G' hG hO
  | true =>
    have fin : ∀ (f : Nat) (args : List AV) (vals : Array Value), evI.callA call base M D f args = some out → vals.size = args.length → (∀ (j : Nat) (h : j < args.length), R G args[j] (vals.getD j undef)) →
        (execOp a.eval o).run P w = (callFunc f vals).run P w → o.wp P a w K Q := by
      intro f args vals hcall hs hr he
      unfold Oper.wp
      rw [he]
      have main : ∃ out', call f args M = some out' ∧ ∀ v w' G', OutR w0 G' M out' v w' → OutR w0 G' M out v w' := by
        simp only [evI.callA] at hcall
        split at hcall
        · rename_i v hv; cases hcall; exact ⟨_, hv, fun _ _ _ h => h⟩
        · rename_i v M' D' hv; cases hcall; exact ⟨_, hv, fun _ _ _ h => h⟩
        · cases hcall
      obtain ⟨out', hc, hout⟩ := main
      have hok := HC.ok f args M out' hc
      unfold okFn at hok
      split at hok
      · rename_i fn hfn
        simp only [Bool.and_eq_true, bne_iff_ne, ne_eq] at hok
        obtain ⟨body, hb⟩ : ∃ c, fn.body = some c := by cases hbb : fn.body with
          | none => simp [hbb] at hok
          | some c => exact ⟨c, rfl⟩
        have hrun : (callFunc f vals).run P w = .ok (.enter f vals) w := by
          simp [callFunc, hfn, hok.1, hb]
        rw [hrun]
        show Calls P f vals w _
        refine (HC.snd f args M out' hc w0 w G vals HI hs hr).mono ?_
        rintro e w' ⟨v, G', rfl, hG, hO⟩
        exact hK v w' G' hG (hout _ _ _ hO)
      · cases hok
    obtain ⟨dst, op, type, pos, after, guard⟩ := o
    cases op
    case call c =>
      obtain ⟨callee, args, argTypes⟩ := c
      simp only [trI] at ht
      split at ht
      · rename_i os hos
        obtain ⟨hl, hr⟩ := trOs_arr HE hos
        split at ht
        · rename_i f
          cases ht
          simp only [evI] at h
          exact fin f _ (args.map a.eval) h hl hr (by simp [execOp, resolve, Deferred.ofValue, Act.eval, invoke])
        · rename_i x hnf
          rw [Option.map_eq_some_iff] at ht
          obtain ⟨x', hx, rfl⟩ := ht
          have hR := trO_R HE hx
          simp only [evI] at h
          split at h
          · rename_i f caps hcl
            rw [hcl] at hR
            obtain ⟨vs, he, hs, hv⟩ := hR.clo_inv
            refine fin f _ (args.map a.eval ++ vs) h (by simp [hs, hl]) (fun j hj => ?_) (by simp [execOp, resolve, Deferred.ofValue, he, invoke])
            by_cases hjl : j < (os.map (·.ev env)).length
            · have e1 : (args.map a.eval ++ vs).getD j undef = (args.map a.eval).getD j undef := by
                simp only [Array.getD_eq_getD_getElem?]
                rw [Array.getElem?_append_left (by rw [hl]; exact hjl)]
              rw [e1, List.getElem_append_left hjl]
              exact hr j hjl
            · have hge : (os.map (·.ev env)).length ≤ j := by omega
              have e1 : (args.map a.eval ++ vs).getD j undef = vs.getD (j - (os.map (·.ev env)).length) undef := by
                simp only [Array.getD_eq_getD_getElem?]
                rw [Array.getElem?_append_right (by rw [hl]; exact hge), hl]
              rw [e1, List.getElem_append_right hge]
              exact hv _ _
          · cases h
        all_goals (repeat' split at ht)
        all_goals first | (cases ht; done) | (cases ht; simp [I.isCall] at hic)
      · cases ht
    all_goals (simp only [trI] at ht; (repeat' split at ht); all_goals first | (cases ht; done) | (cases ht; simp [I.isCall] at hic; done) | (rw [Option.map_eq_some_iff] at ht; obtain ⟨_, _, rfl⟩ := ht; simp [I.isCall] at hic; done))
/-- Operations in the text's order. -/
theorem evS_wp {call : Call} (HC : CallOk P call) {base : Nat} {Q : Exit → Act → World → Prop} : ∀ (l : List Nat) (as : List AOp) (env env' : Env) (M M' : MS) (D D' : List Nat) (a : Act) (w : World) (G : Gh),
    as.length = l.length → (∀ (j i : Nat) (ao : AOp), l[j]? = some i → as[j]? = some ao → ∃ o, ops[i]? = some o ∧ trOp P ops N o = some ao) → evS call base as env M D = some (env', M', D') → N ≤ a.tmps.size → EnvR G env a → Inv w0 G M w →
    (∀ a' w' G', Gle G G' → EnvR G' env' a' → a'.tmps.size = a.tmps.size → Inv w0 G' M' w' → Q .normal a' w') → wpOps P ops Q l a w := by
  intro l
  induction l with
  | nil =>
    intro as env env' M M' D D' a w G hl _ h _ HE HI hQ
    have : as = [] := List.eq_nil_of_length_eq_zero (by simpa using hl)
    subst this
    simp only [evS, Option.some.injEq, Prod.mk.injEq] at h
    obtain ⟨rfl, rfl, rfl⟩ := h
    exact hQ a w G (Gle.refl G) HE rfl HI
  | cons i l ih =>
    intro as env env' M M' D D' a w G hl ht h hN HE HI hQ
    obtain ⟨ao, as, rfl⟩ : ∃ ao as', as = ao :: as' := by
      cases as with
      | nil => simp at hl
      | cons ao as => exact ⟨ao, as, rfl⟩
    obtain ⟨o, ho, hto⟩ := ht 0 i ao (by simp) (by simp)
    obtain ⟨t1, t2, t3, _⟩ := trOp_inv hto
    have hd : ∀ t, o.dst = some t → t < a.tmps.size := fun t htt => Nat.lt_of_lt_of_le (t3 t htt) hN
    have hps : ∀ v, (a.put o.dst v).tmps.size = a.tmps.size := fun v => by cases o.dst <;> simp [Act.put]
    have rest := fun env1 M1 D1 a1 w1 G1 => ih as env1 env' M1 M' D1 D' a1 w1 G1 (by simpa using hl) (fun j i ao h1 h2 => ht (j + 1) i ao (by simpa using h1) (by simpa using h2))
    rw [wpOps_cons]
    unfold wpOp
    simp only [ho]
    simp only [evS] at h
    split at h
    · rename_i hw
      rw [wantA_R HE hto hw]
      simp only [if_true]
      refine .inl ?_
      split at h
      · rename_i v hv
        refine evI_wp HC HE HI t1 hv fun u w' G' hG hO => ?_
        rw [t2] at h
        exact rest _ _ _ _ _ G' h (by rw [hps]; exact hN) ((HE.mono hG).put hO.1 _ hd) hO.2 (fun a' w'' G'' g1 g2 g3 g4 => hQ a' w'' G'' (hG.trans g1) g2 (by rw [g3, hps]) g4)
      · rename_i v M1 D1 hv
        refine evI_wp HC HE HI t1 hv fun u w' G' hG hO => ?_
        rw [t2] at h
        exact rest _ _ _ _ _ G' h (by rw [hps]; exact hN) ((HE.mono hG).put hO.1 _ hd) hO.2 (fun a' w'' G'' g1 g2 g3 g4 => hQ a' w'' G'' (hG.trans g1) g2 (by rw [g3, hps]) g4)
      · cases h
    · rename_i hw
      rw [wantA_R HE hto hw]
      simp only [Bool.false_eq_true, if_false]
      rw [t2] at h
      exact rest _ _ _ _ _ G h (by rw [hps]; exact hN) (HE.put (.imm _ _ (.flat undef)) _ hd) HI (fun a' w'' G'' g1 g2 g3 g4 => hQ a' w'' G'' g1 g2 (by rw [g3, hps]) g4)
    · cases h
end
end Go.Proofs.Ytopiaiibpacmlaa.Av
