/- Code: what the evaluator comes to, the machine comes to. -/
import Derived.Test.YtopiaiibpacmlaaAv13
import Derived.LoopN
namespace Go.Proofs.Ytopiaiibpacmlaa.Av
open Go.RowKit
set_option linter.unusedSimpArgs false

def trOps (P : Program) (ops : Array Oper) (N : Nat) : List Oper → Option (List AOp)
  | [] => some []
  | o :: r => match trOp P ops N o, trOps P ops N r with
    | some o, some r => some (o :: r)
    | _, _ => none
def trCode (P : Program) (N : Nat) : Code → AC
  | .skip => .skip
  | .seq a b => .seq (trCode P N a) (trCode P N b)
  | .cond c a b => match trO c with
    | some c => .cond c (trCode P N a) (trCode P N b)
    | none => .stop
  | .block id a => .block id (trCode P N a)
  | .loop a => .loop (trCode P N a)
  | .exit id => .exit id
  | .ret => .ret
  | .region _ ops draw => match trOps P ops N ops.toList with
    | some as => if draw then (match (List.range (ops.size + 1)).find? fun n => orderB ops as n with
        | some n => .region n as
        | none => .stop) else .region 0 as
    | none => .stop
  | _ => .stop
def trRV (P : Program) : ResultVar → Option RV
  | .tmp t => some (.t t)
  | .cell a t => match isAggT P t, sizeT P t with
    | some ag, some n => some (.cell a ag n)
    | _, _ => none
def trRes (P : Program) : List ResultVar → Option (List RV)
  | [] => some []
  | r :: rs => match trRV P r, trRes P rs with
    | some r, some rs => some (r :: rs)
    | _, _ => none
def trFn (P : Program) (fn : Func) (keep : Bool) : Option AF :=
  match fn.body with
  | some c => match trRes P fn.results.toList with
    | some rs => some ⟨trCode P fn.ntmps c, rs, keep⟩
    | none => none
  | none => none
def Ex.x : Ex → Exit
  | .nrm => .normal
  | .exit id => .exit id
  | .ret => .ret
section
variable {P : Program} {w0 : World}
theorem trOps_rel {ops : Array Oper} {N : Nat} : ∀ {l : List Oper} {as : List AOp}, trOps P ops N l = some as → as.length = l.length ∧ ∀ (j : Nat) (ao : AOp), as[j]? = some ao → ∃ o, l[j]? = some o ∧ trOp P ops N o = some ao
  | [], as, h => by simp [trOps] at h; subst h; exact ⟨rfl, fun j ao h => by simp at h⟩
  | o :: l, as, h => by
    simp only [trOps] at h
    split at h
    · rename_i ao r h1 h2
      cases h
      obtain ⟨hl, hr⟩ := trOps_rel h2
      refine ⟨by simp [hl], fun j a hj => ?_⟩
      cases j with
      | zero => simp at hj; subst hj; exact ⟨o, rfl, h1⟩
      | succ j => exact hr j a (by simpa using hj)
    · cases h
theorem region_wp {call : Call} (HC : CallOk P call) (hm : P.follows .mixedOrders = true) {base n id N : Nat} {ops : Array Oper} {draw : Bool} {as : List AOp} (ht : trOps P ops N ops.toList = some as) (hord : draw = true → orderB ops as n = true) (hn : draw = false → n = 0)
    {env env1 env' : Env} {M M' : MS} {D D' : List Nat} {a : Act} {w : World} {G : Gh} {Q : Exit → Act → World → Prop}
    (hq : evQ call base M (as.take n) env = some env1) (hS : evS call base (as.drop n) env1 M D = some (env', M', D')) (hN : N ≤ a.tmps.size) (HE : EnvR G env a) (HI : Inv w0 G M w)
    (hQ : ∀ a' w' G', Gle G G' → EnvR G' env' a' → a'.tmps.size = a.tmps.size → Inv w0 G' M' w' → Q .normal a' w') : (Code.region id ops draw).wp P Q a w := by
  obtain ⟨hlen, hrel⟩ := trOps_rel ht
  simp only [Array.length_toList] at hlen
  have hrel' : Rel P ops N as 0 := fun j ao hj => by
    obtain ⟨o, h1, h2⟩ := hrel j ao hj
    exact ⟨o, by simpa using h1, h2⟩
  cases draw with
  | false =>
    have h0 := hn rfl
    subst h0
    simp only [List.take_zero, evQ, Option.some.injEq, List.drop_zero] at hq hS
    subst hq
    refine wp_region (evS_wp HC (N := N) (List.range ops.size) as env env' M M' D D' a w G (by simp [hlen]) (fun j i ao h1 h2 => ?_) hS hN HE HI hQ)
    obtain ⟨o, h3, h4⟩ := hrel' j ao h2
    have : i = j := by
      have := (List.getElem?_eq_some_iff.1 h1).2
      simpa using this.symm
    subst this
    exact ⟨o, by simpa using h3, h4⟩
  | true =>
    have ho := hord rfl
    refine wp_region_any hm ?_
    exact order_any HC ho hlen hrel' hq hS hQ hN rfl HE (HI.grow (drew_below w))
theorem code_wp {call : Call} (HC : CallOk P call) (hm : P.follows .mixedOrders = true) {base n N : Nat} : ∀ (c : Code) (ac : AC), trCode P N c = ac → ∀ (env env' : Env) (M M' : MS) (D D' : List Nat) (ex : Ex) (a : Act) (w : World) (G : Gh) (Q : Exit → Act → World → Prop),
    evAC call base n ac env M D = some (ex, env', M', D') → N ≤ a.tmps.size → EnvR G env a → Inv w0 G M w →
    (∀ a' w' G', Gle G G' → EnvR G' env' a' → a'.tmps.size = a.tmps.size → Inv w0 G' M' w' → Q ex.x a' w') → c.wp P Q a w := by
  intro c
  induction c with
  | skip =>
    intro ac ht env env' M M' D D' ex a w G Q h hN HE HI hQ
    simp only [trCode] at ht; subst ht
    simp only [evAC, Option.some.injEq, Prod.mk.injEq] at h
    obtain ⟨rfl, rfl, rfl, rfl⟩ := h
    exact wp_skip (hQ a w G (Gle.refl G) HE rfl HI)
  | exit id =>
    intro ac ht env env' M M' D D' ex a w G Q h hN HE HI hQ
    simp only [trCode] at ht; subst ht
    simp only [evAC, Option.some.injEq, Prod.mk.injEq] at h
    obtain ⟨rfl, rfl, rfl, rfl⟩ := h
    exact wp_exit (hQ a w G (Gle.refl G) HE rfl HI)
  | ret =>
    intro ac ht env env' M M' D D' ex a w G Q h hN HE HI hQ
    simp only [trCode] at ht; subst ht
    simp only [evAC, Option.some.injEq, Prod.mk.injEq] at h
    obtain ⟨rfl, rfl, rfl, rfl⟩ := h
    exact wp_ret (hQ a w G (Gle.refl G) HE rfl HI)
  | seq x y ihx ihy =>
    intro ac ht env env' M M' D D' ex a w G Q h hN HE HI hQ
    simp only [trCode] at ht
    obtain ⟨ax, h1⟩ : ∃ ax, trCode P N x = ax := ⟨_, rfl⟩
    obtain ⟨ay, h2⟩ : ∃ ay, trCode P N y = ay := ⟨_, rfl⟩
    rw [h1, h2] at ht
    · subst ht
      simp only [evAC] at h
      refine wp_seq ?_
      split at h
      · rename_i env1 M1 D1 hx
        refine ihx ax h1 env env1 M M1 D D1 .nrm a w G _ hx hN HE HI fun a1 w1 G1 g1 g2 g3 g4 => ?_
        exact ihy ay h2 env1 env' M1 M' D1 D' ex a1 w1 G1 Q h (by rw [g3]; exact hN) g2 g4 fun a' w' G' k1 k2 k3 k4 => hQ a' w' G' (g1.trans k1) k2 (by rw [k3, g3]) k4
      · rename_i r hne
        refine ihx ax h1 env env' M M' D D' ex a w G _ h hN HE HI fun a1 w1 G1 g1 g2 g3 g4 => ?_
        have hq := hQ a1 w1 G1 g1 g2 g3 g4
        cases ex with
        | nrm => exact absurd h (by intro hh; exact hne _ _ _ hh)
        | exit id => exact hq
        | ret => exact hq
  | cond c x y ihx ihy =>
    intro ac ht env env' M M' D D' ex a w G Q h hN HE HI hQ
    simp only [trCode] at ht
    obtain ⟨ax, h1⟩ : ∃ ax, trCode P N x = ax := ⟨_, rfl⟩
    obtain ⟨ay, h2⟩ : ∃ ay, trCode P N y = ay := ⟨_, rfl⟩
    rw [h1, h2] at ht
    split at ht
    · rename_i oc h0
      subst ht
      have hR := trO_R HE h0
      simp only [evAC] at h
      split at h
      · rename_i hb
        rw [asBool_inv hb] at hR
        exact wp_cond_true hR.flat_inv (ihx ax h1 env env' M M' D D' ex a w G Q h hN HE HI hQ)
      · rename_i hb
        rw [asBool_inv hb] at hR
        exact wp_cond_false hR.flat_inv (ihy ay h2 env env' M M' D D' ex a w G Q h hN HE HI hQ)
      · cases h
    · subst ht; simp [evAC] at h
  | block id x ih =>
    intro ac ht env env' M M' D D' ex a w G Q h hN HE HI hQ
    simp only [trCode] at ht
    obtain ⟨ax, h1⟩ : ∃ ax, trCode P N x = ax := ⟨_, rfl⟩
    rw [h1] at ht
    subst ht
    simp only [evAC] at h
    refine wp_block ?_
    split at h
    · rename_i id' env1 M1 D1 hx
      split at h
      · rename_i hid
        simp only [Option.some.injEq, Prod.mk.injEq] at h
        obtain ⟨rfl, rfl, rfl, rfl⟩ := h
        refine ih ax h1 env _ M _ D _ (.exit id') a w G _ hx hN HE HI fun a1 w1 G1 g1 g2 g3 g4 => ?_
        simp only [Ex.x, Exit.inBlock, hid, if_true]
        exact hQ a1 w1 G1 g1 g2 g3 g4
      · rename_i hid
        simp only [Option.some.injEq, Prod.mk.injEq] at h
        obtain ⟨rfl, rfl, rfl, rfl⟩ := h
        refine ih ax h1 env _ M _ D _ (.exit id') a w G _ hx hN HE HI fun a1 w1 G1 g1 g2 g3 g4 => ?_
        simp only [Ex.x, Exit.inBlock, hid, if_false]
        exact hQ a1 w1 G1 g1 g2 g3 g4
    · rename_i r hne
      refine ih ax h1 env env' M M' D D' ex a w G _ h hN HE HI fun a1 w1 G1 g1 g2 g3 g4 => ?_
      have hq := hQ a1 w1 G1 g1 g2 g3 g4
      cases ex with
      | nrm => exact hq
      | exit id' => exact absurd h (by intro hh; exact hne _ _ _ _ hh)
      | ret => exact hq
  | loop x ih =>
    intro ac ht env env' M M' D D' ex a w G Q h hN HE HI hQ
    simp only [trCode] at ht
    obtain ⟨ax, h1⟩ : ∃ ax, trCode P N x = ax := ⟨_, rfl⟩
    rw [h1] at ht
    subst ht
    simp only [evAC] at h
    refine wp_loop_rounds n ?_
    have key : ∀ (k : Nat) (env : Env) (M : MS) (D : List Nat) (a : Act) (w : World) (G : Gh), evLoop (evAC call base n ax) k env M D = some (ex, env', M', D') → N ≤ a.tmps.size → EnvR G env a → Inv w0 G M w →
        (∀ a' w' G', Gle G G' → EnvR G' env' a' → a'.tmps.size = a.tmps.size → Inv w0 G' M' w' → Q ex.x a' w') → Code.rounds P x Q k a w := by
      intro k
      induction k with
      | zero => intro env M D a w G h; simp [evLoop] at h
      | succ k ihk =>
        intro env M D a w G h hN HE HI hQ
        rw [rounds_succ]
        simp only [evLoop] at h
        split at h
        · rename_i env1 M1 D1 hx
          refine ih ax h1 env env1 M M1 D D1 .nrm a w G _ hx hN HE HI fun a1 w1 G1 g1 g2 g3 g4 => ?_
          exact ihk env1 M1 D1 a1 w1 G1 h (by rw [g3]; exact hN) g2 g4 fun a' w' G' k1 k2 k3 k4 => hQ a' w' G' (g1.trans k1) k2 (by rw [k3, g3]) k4
        · rename_i r hne
          refine ih ax h1 env env' M M' D D' ex a w G _ h hN HE HI fun a1 w1 G1 g1 g2 g3 g4 => ?_
          have hq := hQ a1 w1 G1 g1 g2 g3 g4
          cases ex with
          | nrm => exact absurd h (by intro hh; exact hne _ _ _ hh)
          | exit id => exact hq
          | ret => exact hq
    exact key n env M D a w G h hN HE HI hQ
  | region id ops draw =>
    intro ac ht env env' M M' D D' ex a w G Q h hN HE HI hQ
    simp only [trCode] at ht
    split at ht
    · rename_i as has
      have main : ∀ k, (draw = true → orderB ops as k = true) → (draw = false → k = 0) → ac = .region k as → (Code.region id ops draw).wp P Q a w := by
        intro k hk1 hk2 hac
        subst hac
        simp only [evAC] at h
        split at h
        · rename_i env1 hq
          split at h
          · rename_i env2 M2 D2 hS
            simp only [Option.some.injEq, Prod.mk.injEq] at h
            obtain ⟨rfl, rfl, rfl, rfl⟩ := h
            exact region_wp HC hm has hk1 hk2 hq hS hN HE HI hQ
          · cases h
        · cases h
      cases draw with
      | false => simp at ht; exact main 0 (fun h => by cases h) (fun _ => rfl) ht.symm
      | true =>
        simp only [if_true] at ht
        split at ht
        · rename_i k hk
          exact main k (fun _ => by simpa using List.find?_some hk) (fun h => by cases h) ht.symm
        · subst ht; simp [evAC] at h
    · subst ht; simp [evAC] at h
  | _ =>
    intro ac ht env env' M M' D D' ex a w G Q h
    simp only [trCode] at ht
    subst ht
    simp [evAC] at h
end
end Go.Proofs.Ytopiaiibpacmlaa.Av
