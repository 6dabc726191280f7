/- The program of this seat, as the evaluator has it. -/
import Derived.Test.YtopiaiibpacmlaaX3
import Derived.Test.YtopiaiibpacmlaaX4
namespace Go.Proofs.Ytopiaiibpacmlaa.Av
open Go.RowKit
def pr : Pr := ⟨prA, orC (extS 145) (orC (extS0 145) (extJ 96)), yOf ays⟩
instance tieI : Inhabited TieT := ⟨tieOf Try.prog ays⟩
theorem pr_Y (y : Nat) (ay : AY) (h : pr.Y y = some ay) : ay.assign.shut = true ∧ ay.body.shut = true := by
  have h1 : (ays.all fun x => x.2.assign.shut && x.2.body.shut) = true := by kernel_rfl
  have h2 : yOf ays y = some ay := h
  unfold yOf at h2
  split at h2
  · rw [Option.map_eq_some_iff] at h2
    obtain ⟨x, hx, rfl⟩ := h2
    have := List.all_eq_true.1 h1 x (List.mem_of_find?_eq_some hx)
    simpa using this
  · cases h2
theorem pr_shut (f : Nat) (af : AF) (h : pr.A f = some af) : af.body.shut = true := by
  have h1 : (afs.all fun x => x.2.body.shut) = true := by kernel_rfl
  have h2 : (afs.find? fun x => x.1 == f).map (·.2) = some af := h
  rw [Option.map_eq_some_iff] at h2
  obtain ⟨x, hx, rfl⟩ := h2
  exact List.all_eq_true.1 h1 x (List.mem_of_find?_eq_some hx)
theorem pr_sh : CSh pr.ext := by
  refine orC_sh (extS_sh 145) (orC_sh (extS0_sh 145) (extJ_sh 96) ?_) ?_
  · intro f args M out Pre s hs h1 h2
    unfold extJ at h2
    by_cases hf : f = 145
    · subst hf; simp at h2
    · simp [extS0, hf]
  · intro f args M out Pre s hs h1 h2
    by_cases hf : f = 145
    · subst hf
      simp only [orC, extS0, extJ, if_true] at h2
      have : ∃ sz nl cd, args = [.list sz [] nl cd] := by
        split at h2
        · rename_i r hr
          split at hr
          · exact ⟨_, _, _, rfl⟩
          · cases hr
        · simp at h2
      obtain ⟨sz, nl, cd, rfl⟩ := this
      simp only [extS, if_true, List.map_cons, List.map_nil, sh_list, sortA]
    · simp [extS, hf]
/-- What comes of values that name no places comes of them in any memory. -/
theorem any {f : Nat} {args : List AV} {v : AV} (ha : shut.all args = true) (hv : shut v = true) (h : ev pr f args [] = some (.q v)) (M : MS) : ev pr f args M = some (.q v) := ev_any pr_shut pr_sh pr_Y ha hv h M
end Go.Proofs.Ytopiaiibpacmlaa.Av
namespace Go.Proofs.Ytopiaiibpacmlaa.Av
open Go.RowKit
set_option linter.unusedSimpArgs false
theorem updO_ite (e : Env) (t x : Nat) (v : AV) : updO e (some t) v x = if x = t then v else e x := rfl
attribute [go_sem ↓] evI ev_t ev_k updO_ite updO_none
attribute [go_sem] evI.callA if_true if_false bin intBin unop eqV asInt asBool env0_zero env0_succ env0_nil Option.map_some Option.map_none lenM_list view_list lenOf_list lenOf_ms aview_elem ldA decide_true decide_false cond_true cond_false optNat List.map_cons List.map_nil List.getElem?_cons_zero List.getElem?_cons_succ Bool.not_true Bool.not_false beq_true beq_false beq_self_eq_true ints_len Nat.div_one Nat.mul_one Int.toNat_natCast Int.natCast_add wrap64 Nat.zero_add Nat.add_zero Bool.false_eq_true Bool.true_eq_false Int.cast_ofNat_Int and_self true_and and_true false_and and_false ne_eq not_true_eq_false not_false_eq_true eq_self Nat.succ_ne_self List.length_append List.length_cons List.length_nil fillA List.replicate_succ List.replicate_zero List.flatten_cons List.flatten_nil List.append_nil List.nil_append List.cons_append List.take_succ_cons List.take_zero List.drop_succ_cons List.drop_zero allI isI Bool.and_true Bool.true_and Bool.and_self ints_head ints_get ints_drop ints_take beq_dec bne_dec allI_ints cutCapd Option.isSome_none Option.isSome_some or_true true_or imp_self false_imp_iff Bool.false_or Bool.or_true List.head?_cons List.head?_drop List.getElem_cons_zero List.getElem_cons_succ
attribute [go_sem low] List.getElem?_eq_getElem ints_head0
theorem cells_agg (cs : List AV) : cellsOf (.agg cs) = some cs := rfl
theorem cells_list (sz : Nat) (cs : List AV) (nl cd : Bool) : cellsOf (.list sz cs nl cd) = some [.list sz cs nl cd] := rfl
theorem cells_ms (id off len sz : Nat) (cd : Bool) : cellsOf (.ms id off len sz cd) = some [.ms id off len sz cd] := rfl
theorem cells_elem (x : AV) (k : Nat) : cellsOf (.elem x k) = some [.elem x k] := rfl
theorem cells_mptr (id off : Nat) : cellsOf (.mptr id off) = some [.mptr id off] := rfl
theorem cells_clo (f : Nat) (cs : List AV) : cellsOf (.clo f cs) = some [.clo f cs] := rfl
theorem cells_int (k : IntKind) (n : Int) : cellsOf (.flat (.int k n)) = some [.flat (.int k n)] := rfl
theorem cells_bool (b : Bool) : cellsOf (.flat (.bool b)) = some [.flat (.bool b)] := rfl
theorem cells_str (s : ByteArray) : cellsOf (.flat (.string s)) = some [.flat (.string s)] := rfl
attribute [go_sem] cells_agg cells_list cells_ms cells_elem cells_mptr cells_clo cells_int cells_bool cells_str
/-- The slots that instructions may write. -/
def asgO : List AOp → List Nat
  | [] => []
  | ⟨some t, _, _⟩ :: r => t :: asgO r
  | ⟨none, _, _⟩ :: r => asgO r
def asg : AC → List Nat
  | .seq a b => asg a ++ asg b
  | .cond _ a b => asg a ++ asg b
  | .block _ a => asg a
  | .loop a => asg a
  | .region _ ops => asgO ops
  | .regionC _ ops => asgO ops
  | _ => []
theorem updO_asg {d : Option Nat} {i : I} {g : Option (Nat × Bool)} {r : List AOp} {t : Nat} (h : t ∉ asgO (⟨d, i, g⟩ :: r)) (e : Env) (v : AV) : updO e d v t = e t ∧ t ∉ asgO r := by
  cases d with
  | none => exact ⟨rfl, h⟩
  | some d =>
    simp only [asgO, List.mem_cons, not_or] at h
    exact ⟨by simp only [updO, upd, if_neg h.1], h.2⟩
theorem evQ_asg {call : Call} {base : Nat} {M : MS} {t : Nat} : ∀ {ops : List AOp} {env env' : Env}, evQ call base M ops env = some env' → t ∉ asgO ops → env' t = env t
  | [], env, env', h, _ => by simp only [evQ, Option.some.injEq] at h; rw [h]
  | ⟨d, i, g⟩ :: r, env, env', h, ht => by
    simp only [evQ] at h
    split at h
    · split at h
      · rename_i v _
        obtain ⟨h1, h2⟩ := updO_asg ht env v
        rw [evQ_asg h h2, h1]
      · cases h
    · obtain ⟨h1, h2⟩ := updO_asg ht env (.flat undef)
      rw [evQ_asg h h2, h1]
    · cases h
theorem evS_asg {call : Call} {base : Nat} {t : Nat} : ∀ {ops : List AOp} {env env' : Env} {M M' : MS} {D D' : List Nat}, evS call base ops env M D = some (env', M', D') → t ∉ asgO ops → env' t = env t
  | [], env, env', M, M', D, D', h, _ => by simp only [evS, Option.some.injEq, Prod.mk.injEq] at h; rw [h.1]
  | ⟨d, i, g⟩ :: r, env, env', M, M', D, D', h, ht => by
    simp only [evS] at h
    split at h
    · split at h
      · rename_i v _
        obtain ⟨h1, h2⟩ := updO_asg ht env v
        rw [evS_asg h h2, h1]
      · rename_i v _ _ _
        obtain ⟨h1, h2⟩ := updO_asg ht env v
        rw [evS_asg h h2, h1]
      · cases h
    · obtain ⟨h1, h2⟩ := updO_asg ht env (.flat undef)
      rw [evS_asg h h2, h1]
    · cases h
theorem asgO_take {t : Nat} : ∀ {ops : List AOp} {k : Nat}, t ∉ asgO ops → t ∉ asgO (ops.take k) ∧ t ∉ asgO (ops.drop k)
  | ops, 0, h => ⟨by simp [asgO], h⟩
  | [], k + 1, h => ⟨h, h⟩
  | ⟨d, i, g⟩ :: r, k + 1, h => by
    obtain ⟨_, h2⟩ := updO_asg h (fun _ => .flat undef) (.flat undef)
    obtain ⟨h3, h4⟩ := asgO_take (k := k) h2
    refine ⟨?_, h4⟩
    cases d with
    | none => exact h3
    | some d => simp only [asgO, List.mem_cons, not_or, List.take_succ_cons] at h ⊢; exact ⟨h.1, h3⟩
theorem evLoop_asg {f : Env → MS → List Nat → Option (Ex × Env × MS × List Nat)} {t : Nat} (hf : ∀ e m d x e' m' d', f e m d = some (x, e', m', d') → e' t = e t) : ∀ {n : Nat} {e e' : Env} {m m' : MS} {d d' : List Nat} {x : Ex}, evLoop f n e m d = some (x, e', m', d') → e' t = e t
  | 0, e, e', m, m', d, d', x, h => by simp [evLoop] at h
  | n + 1, e, e', m, m', d, d', x, h => by
    simp only [evLoop] at h
    split at h
    · rename_i e1 m1 d1 h1
      rw [evLoop_asg hf h, hf _ _ _ _ _ _ _ h1]
    · exact hf _ _ _ _ _ _ _ h
theorem evAC_asg {call : Call} {base n : Nat} {t : Nat} : ∀ {a : AC} {env env' : Env} {M M' : MS} {D D' : List Nat} {ex : Ex}, evAC call base n a env M D = some (ex, env', M', D') → t ∉ asg a → env' t = env t := by
  intro a
  induction a with
  | skip => intro env env' M M' D D' ex h _; simp only [evAC, Option.some.injEq, Prod.mk.injEq] at h; rw [h.2.1]
  | exit id => intro env env' M M' D D' ex h _; simp only [evAC, Option.some.injEq, Prod.mk.injEq] at h; rw [h.2.1]
  | ret => intro env env' M M' D D' ex h _; simp only [evAC, Option.some.injEq, Prod.mk.injEq] at h; rw [h.2.1]
  | stop => intro env env' M M' D D' ex h _; simp [evAC] at h
  | seq x y ihx ihy =>
    intro env env' M M' D D' ex h ht
    simp only [asg, List.mem_append, not_or] at ht
    simp only [evAC] at h
    split at h
    · rename_i e1 m1 d1 hx
      rw [ihy h ht.2, ihx hx ht.1]
    · exact ihx h ht.1
  | cond c x y ihx ihy =>
    intro env env' M M' D D' ex h ht
    simp only [asg, List.mem_append, not_or] at ht
    simp only [evAC] at h
    split at h
    · exact ihx h ht.1
    · exact ihy h ht.2
    · cases h
  | block id x ih =>
    intro env env' M M' D D' ex h ht
    simp only [evAC] at h
    split at h
    · rename_i hx
      split at h <;> (simp only [Option.some.injEq, Prod.mk.injEq] at h; obtain ⟨_, rfl, _, _⟩ := h; exact ih hx ht)
    · exact ih h ht
  | loop x ih =>
    intro env env' M M' D D' ex h ht
    simp only [evAC] at h
    exact evLoop_asg (fun _ _ _ _ _ _ _ hh => ih hh ht) h
  | region k ops =>
    intro env env' M M' D D' ex h ht
    simp only [evAC] at h
    obtain ⟨h1, h2⟩ := asgO_take (k := k) ht
    split at h
    · rename_i e1 he
      split at h
      · rename_i e2 m2 d2 hS
        simp only [Option.some.injEq, Prod.mk.injEq] at h
        obtain ⟨_, rfl, _, _⟩ := h
        rw [evS_asg hS h2, evQ_asg he h1]
      · cases h
    · cases h
  | regionC k ops =>
    intro env env' M M' D D' ex h ht
    simp only [evAC] at h
    obtain ⟨h1, h2⟩ := asgO_take (k := k) ht
    split at h
    · rename_i e1 he
      split at h
      · split at h
        · split at h
          · rename_i e2 m2 d2 hS
            simp only [Option.some.injEq, Prod.mk.injEq] at h
            obtain ⟨_, rfl, _, _⟩ := h
            rw [evS_asg hS h2, evQ_asg he h1]
          · cases h
        · cases h
      · cases h
    · cases h
  | range y g pl =>
    intro env env' M M' D D' ex h ht
    simp only [evAC] at h
    split at h
    rotate_left
    · cases h
    split at h
    · split at h
      rotate_left
      · cases h
      split at h
      · cases h
      simp only [Option.some.injEq, Prod.mk.injEq] at h
      rw [h.2.1]
    · simp only [Option.some.injEq, Prod.mk.injEq] at h
      rw [h.2.1]
    · cases h
section
variable {p : Pr} {base : Nat}
theorem W_keep {a : AC} {env : Env} {M : MS} {D : List Nat} {Q : Post} (h : W p base a env M D Q) : W p base a env M D fun ex e m d => (∀ t, t ∉ asg a → e t = env t) ∧ Q ex e m d := by
  obtain ⟨ex, e, m, d, h1, h2⟩ := h
  obtain ⟨n, h3⟩ := evC_some.1 h1
  exact ⟨ex, e, m, d, h1, fun t ht => evAC_asg h3 ht, h2⟩
/-- A loop by what holds ahead of each round; what it does not write stays. -/
theorem W_loopA {a : AC} {env : Env} {M : MS} {D : List Nat} {Q : Post} {L : List Nat} (hL : asg a = L) (J : Nat → Env → MS → List Nat → Prop) (k : Nat) (hJ : J k env M D)
    (h : ∀ k e m d, (∀ t, L.elem t = false → e t = env t) → J k e m d → W p base a e m d (roundW J k Q)) : W p base (.loop a) env M D Q := by
  refine W_loop (fun k e m d => (∀ t, L.elem t = false → e t = env t) ∧ J k e m d) k ⟨fun _ _ => rfl, hJ⟩ ?_
  rintro k e m d ⟨hk, hj⟩
  refine (W_keep (h k e m d hk hj)).mono ?_
  rintro ex e' m' d' ⟨h1, h2⟩
  cases ex with
  | nrm =>
    obtain ⟨k', h3, h4⟩ := h2
    refine ⟨k', h3, fun t ht => ?_, h4⟩
    rw [h1 t (by rw [hL]; intro hm; simp [List.elem_eq_mem, hm] at ht), hk t ht]
  | exit id => exact h2
  | ret => exact h2
/-- Behind a round of a loop over an index. -/
def rngW (ix i N : Nat) (I : Nat → Env → MS → Prop) (D : List Nat) (Q : Post) : Post := fun ex e m d => match ex with
  | .nrm => i < N ∧ e ix = .flat (.int .i64 ((i + 1 : Nat) : Int)) ∧ I (i + 1) e m ∧ d = D
  | ex => Q ex e m d
theorem G_e {ix i N : Nat} {I : Nat → Env → MS → Prop} {D d : List Nat} {Q : Post} {e : Env} {m : MS} {j : Nat} (h : Q (.exit j) e m d) : rngW ix i N I D Q (.exit j) e m d := h
theorem G_r {ix i N : Nat} {I : Nat → Env → MS → Prop} {D d : List Nat} {Q : Post} {e : Env} {m : MS} (h : Q .ret e m d) : rngW ix i N I D Q .ret e m d := h
theorem G_n {ix i N : Nat} {I : Nat → Env → MS → Prop} {D : List Nat} {Q : Post} {e : Env} {m : MS} (h1 : e ix = .flat (.int .i64 ((i + 1 : Nat) : Int))) (h2 : i < N) (h3 : I (i + 1) e m) : rngW ix i N I D Q .nrm e m D := ⟨h2, h1, h3, rfl⟩
/-- A loop over an index from s on; memory may grow. -/
theorem W_rngM {a : AC} {env : Env} {M : MS} {D : List Nat} {Q : Post} {L : List Nat} (ix s N : Nat) (I : Nat → Env → MS → Prop) (hL : asg a = L) (h0 : env ix = .flat (.int .i64 (s : Int))) (hs : s ≤ N) (hI : I s env M)
    (h : ∀ i e m, s ≤ i → i ≤ N → (∀ t, L.elem t = false → e t = env t) → e ix = .flat (.int .i64 i) → I i e m → W p base a e m D (rngW ix i N I D Q)) : W p base (.loop a) env M D Q := by
  refine W_loopA hL (fun k e m d => ∃ i : Nat, k = N - i ∧ s ≤ i ∧ i ≤ N ∧ e ix = .flat (.int .i64 i) ∧ I i e m ∧ d = D) (N - s) ⟨s, rfl, Nat.le_refl _, hs, h0, hI, rfl⟩ ?_
  rintro k e m d hk ⟨i, rfl, hs, hi, hx, hI, rfl⟩
  refine (h i e m hs hi hk hx hI).mono ?_
  intro ex e' m' d' hQ
  cases ex with
  | nrm =>
    obtain ⟨h1, h2, h3, h4⟩ := hQ
    exact ⟨N - (i + 1), by omega, i + 1, rfl, by omega, h1, h2, h3, h4⟩
  | exit id => exact hQ
  | ret => exact hQ
/-- .. where memory stays. -/
def rng0 (ix i N : Nat) (I : Nat → Env → Prop) (M : MS) (D : List Nat) (Q : Post) : Post := fun ex e m d => match ex with
  | .nrm => i < N ∧ e ix = .flat (.int .i64 ((i + 1 : Nat) : Int)) ∧ I (i + 1) e ∧ m = M ∧ d = D
  | ex => Q ex e m d
theorem H_e {ix i N : Nat} {I : Nat → Env → Prop} {D d : List Nat} {Q : Post} {e : Env} {M m : MS} {j : Nat} (h : Q (.exit j) e m d) : rng0 ix i N I M D Q (.exit j) e m d := h
theorem H_r {ix i N : Nat} {I : Nat → Env → Prop} {D d : List Nat} {Q : Post} {e : Env} {M m : MS} (h : Q .ret e m d) : rng0 ix i N I M D Q .ret e m d := h
theorem H_n {ix i N : Nat} {I : Nat → Env → Prop} {D : List Nat} {Q : Post} {e : Env} {m : MS} (h1 : e ix = .flat (.int .i64 ((i + 1 : Nat) : Int))) (h2 : i < N) (h3 : I (i + 1) e) : rng0 ix i N I m D Q .nrm e m D := ⟨h2, h1, h3, rfl, rfl⟩
theorem W_rng {a : AC} {env : Env} {M : MS} {D : List Nat} {Q : Post} {L : List Nat} (ix s N : Nat) (I : Nat → Env → Prop) (hL : asg a = L) (h0 : env ix = .flat (.int .i64 (s : Int))) (hs : s ≤ N) (hI : I s env)
    (h : ∀ i e, s ≤ i → i ≤ N → (∀ t, L.elem t = false → e t = env t) → e ix = .flat (.int .i64 i) → I i e → W p base a e M D (rng0 ix i N I M D Q)) : W p base (.loop a) env M D Q := by
  refine W_rngM ix s N (fun i e m => I i e ∧ m = M) hL h0 hs ⟨hI, rfl⟩ ?_
  rintro i e m hs hi hk hx ⟨hI, rfl⟩
  refine (h i e hs hi hk hx hI).mono ?_
  intro ex e' m' d' hQ
  cases ex with
  | nrm =>
    obtain ⟨h1, h2, h3, rfl, rfl⟩ := hQ
    exact ⟨h1, h2, ⟨h3, rfl⟩, rfl⟩
  | exit id => exact hQ
  | ret => exact hQ
/-- A loop without an index: what goes down is named. -/
theorem W_whl {a : AC} {env : Env} {M : MS} {D : List Nat} {Q : Post} {L : List Nat} (J : Nat → Env → MS → List Nat → Prop) (k : Nat) (hL : asg a = L) (hJ : J k env M D)
    (h : ∀ k e m d, (∀ t, L.elem t = false → e t = env t) → J k e m d → W p base a e m d (roundW J k Q)) : W p base (.loop a) env M D Q := W_loopA hL J k hJ h
end
theorem ext1 {C : Nat → Prop} {i : Nat} (h : ∀ j, j < i → C j) (h1 : C i) : ∀ j, j < i + 1 → C j := fun j hj => by
  rcases Nat.lt_succ_iff_lt_or_eq.1 hj with h2 | rfl
  · exact h j h2
  · exact h1
theorem all_of {α : Type} {Q : α → Prop} {x : List α} {i : Nat} (hi : x.length ≤ i) (h : ∀ j, j < i → ∀ h : j < x.length, Q x[j]) : ∀ a ∈ x, Q a := fun a ha => by
  obtain ⟨j, hj, rfl⟩ := List.mem_iff_getElem.1 ha
  exact h j (by omega) hj
/-! ### Memory -/
def rowD : Option (Option (List AV)) → Nat → Option (List AV)
  | some (some cs), off => some (cs.drop off)
  | _, _ => none
def aliveD : Option (Option (List AV)) → Bool
  | some (some _) => true
  | _ => false
def viewD : Option (Option (List AV)) → Nat → Nat → Option (List AV)
  | some (some cs), off, n => if off + n ≤ cs.length then some ((cs.drop off).take n) else none
  | _, _, _ => none
theorem aview_mptr (M : MS) (id off : Nat) : aview M (.mptr id off) = rowD M[id]? off := by
  simp only [aview]
  rcases M[id]? with _ | _ | cs <;> rfl
theorem alive_eq (M : MS) (id : Nat) : aliveA M id = aliveD M[id]? := by
  simp only [aliveA]
  rcases M[id]? with _ | _ | cs <;> rfl
theorem view_ms (M : MS) (id off len sz : Nat) (cd : Bool) : view M (.ms id off len sz cd) = viewD M[id]? off (len * sz) := by
  simp only [view]
  rcases M[id]? with _ | _ | cs <;> rfl
theorem lenM_eq (M : MS) (x : AV) : lenM M x = (view M x).bind fun _ => lenOf x := by unfold lenM; split <;> simp_all
theorem lenM_ms (M : MS) (id off len sz : Nat) (cd : Bool) : lenM M (.ms id off len sz cd) = (viewD M[id]? off (len * sz)).map fun _ => len := by
  simp only [lenM, view_ms, lenOf]
  cases viewD M[id]? off (len * sz) <;> rfl
theorem rowD_s (cs : List AV) (off : Nat) : rowD (some (some cs)) off = some (cs.drop off) := rfl
theorem aliveD_s (cs : List AV) : aliveD (some (some cs)) = true := rfl
theorem viewD_s (cs : List AV) (off n : Nat) : viewD (some (some cs)) off n = if off + n ≤ cs.length then some ((cs.drop off).take n) else none := rfl
theorem get_app0 (M L : MS) : (M ++ L)[M.length]? = L[0]? := by rw [List.getElem?_append_right (Nat.le_refl _), Nat.sub_self]
theorem get_app (M L : MS) (k : Nat) : (M ++ L)[M.length + k]? = L[k]? := by rw [List.getElem?_append_right (Nat.le_add_right _ _), Nat.add_sub_cancel_left]
theorem set_app0 (M L : MS) (v : Option (List AV)) : (M ++ L).set M.length v = M ++ L.set 0 v := by rw [List.set_append_right _ _ (Nat.le_refl _), Nat.sub_self]
theorem set_app (M L : MS) (k : Nat) (v : Option (List AV)) : (M ++ L).set (M.length + k) v = M ++ L.set k v := by rw [List.set_append_right _ _ (Nat.le_add_right _ _), Nat.add_sub_cancel_left]
theorem dirt_own0 (n : Nat) (D : List Nat) : dirt n n D = D := if_neg (Nat.lt_irrefl n)
theorem dirt_own (n k : Nat) (D : List Nat) : dirt n (n + k) D = D := if_neg (by omega)
theorem list_set0 {α : Type} (a b : α) (l : List α) : (a :: l).set 0 b = b :: l := rfl
theorem list_setS {α : Type} (a b : α) (l : List α) (n : Nat) : (a :: l).set (n + 1) b = a :: l.set n b := rfl
theorem toNat_pred (n : Nat) : ((n : Int) - 1).toNat = n - 1 := by omega
theorem toNat_sub' (n m : Nat) : ((n : Int) - (m : Int)).toNat = n - m := by omega
theorem toNat_succ (n : Nat) : ((n : Int) + 1).toNat = n + 1 := by omega
theorem head?_at {α : Type} {l : List α} (h : 0 < l.length) : l.head? = some l[0] := by
  cases l with
  | nil => simp at h
  | cons a l => rfl
theorem ints_getE (l : List Int) (i : Nat) (h : i < (intsA l).length) : (intsA l)[i] = .flat (.int .i64 (l[i]'(by simpa [intsA] using h))) := by simp [intsA]
attribute [go_sem 10] head?_at
attribute [go_sem] ints_getE
attribute [go_sem] lenM_ms Nat.le_refl toNat_pred toNat_sub' toNat_succ Nat.sub_zero Nat.zero_mul Int.sub_zero aview_mptr alive_eq view_ms rowD_s aliveD_s viewD_s get_app0 get_app set_app0 set_app dirt_own0 dirt_own storeA list_set0 list_setS List.append_assoc splice Nat.add_assoc
/-- What a row cut out of a row is, whether the row is nil or not. -/
def sliceC (sz : Nat) (cs : List AV) (nl cd : Bool) (lo hi mx : Option AV) : Option Out :=
  match optNat 0 lo, optNat (cs.length / sz) hi, optNat (cs.length / sz) mx with
  | some l, some h, some m =>
    if l ≤ h ∧ h ≤ m ∧ m ≤ cs.length / sz ∧ (mx.isSome → hi.isSome) then
      some (.q (.list sz ((cs.drop (l * sz)).take ((h - l) * sz)) nl (if nl then cd else cutCapd mx m h (cd && decide (h = cs.length / sz))))) else none
  | _, _, _ => none
theorem slice_eq {sz : Nat} {cs : List AV} {nl cd : Bool} {lo hi mx : Option AV} (hn : nl = true → cs = []) : sliceA sz (.list sz cs nl cd) lo hi mx = sliceC sz cs nl cd lo hi mx := by
  cases nl with
  | false =>
    simp only [sliceA, sliceC, Bool.false_eq_true, if_false, false_or, true_and]
    generalize optNat 0 lo = a
    generalize optNat _ hi = b
    generalize optNat _ mx = c
    cases a <;> cases b <;> cases c <;> rfl
  | true =>
    rw [hn rfl]
    simp only [sliceA, sliceC, List.length_nil, Nat.zero_div, if_true, List.drop_nil, List.take_nil, true_or, true_and]
    generalize optNat 0 lo = a
    generalize optNat _ hi = b
    generalize optNat _ mx = c
    cases a <;> cases b <;> cases c <;> rfl
theorem slice_ints {l : List Int} {nl cd : Bool} {lo hi mx : Option AV} (hn : nl = true → l = []) : sliceA 1 (.list 1 (intsA l) nl cd) lo hi mx = sliceC 1 (intsA l) nl cd lo hi mx := slice_eq fun h => by rw [hn h]; rfl
theorem slice_map {α : Type} {f : α → AV} {l : List α} {nl cd : Bool} {lo hi mx : Option AV} (hn : nl = true → l = []) : sliceA 1 (.list 1 (l.map f) nl cd) lo hi mx = sliceC 1 (l.map f) nl cd lo hi mx := slice_eq fun h => by rw [hn h]; rfl
theorem slice_f {sz : Nat} {cs : List AV} {cd : Bool} {lo hi mx : Option AV} : sliceA sz (.list sz cs false cd) lo hi mx = sliceC sz cs false cd lo hi mx := slice_eq fun h => by cases h
theorem slice_t {sz : Nat} {lo hi mx : Option AV} : sliceA sz (.list sz [] true true) lo hi mx = sliceC sz [] true true lo hi mx := slice_eq fun _ => rfl
/-- .. out of a row of the call's own. -/
def sliceM (sz id off len : Nat) (cd : Bool) (lo hi mx : Option AV) : Option Out :=
  match optNat 0 lo, optNat len hi, optNat len mx with
  | some l, some h, some m =>
    if l ≤ h ∧ h ≤ m ∧ m ≤ len ∧ (mx.isSome → hi.isSome) then
      if l = 0 then some (.q (.ms id off h sz (cutCapd mx m h (cd && decide (h = len)))))
      else if h = l then some (.q (.list sz [] false false))
      else some (.q (.ms id (off + l * sz) (h - l) sz (cutCapd mx m h (cd && decide (h = len)))))
    else none
  | _, _, _ => none
theorem slice_m {sz id off len : Nat} {cd : Bool} {lo hi mx : Option AV} : sliceA sz (.ms id off len sz cd) lo hi mx = sliceM sz id off len cd lo hi mx := by
  simp only [sliceA, sliceM, true_and]
  generalize optNat 0 lo = a
  generalize optNat _ hi = b
  generalize optNat _ mx = c
  cases a <;> cases b <;> cases c <;> rfl
attribute [go_sem] slice_ints slice_map slice_f slice_t slice_m sliceM
attribute [go_sem] sliceC List.take_length List.filter_nil false_or or_false ge_iff_le gt_iff_lt
end Go.Proofs.Ytopiaiibpacmlaa.Av
namespace Go.Proofs.Ytopiaiibpacmlaa.Av
open Go.RowKit
set_option linter.unusedSimpArgs false
/-- The first append to a row that can't be written. -/
theorem app_new {base sz sz' bytes m : Nat} {nl : Bool} {M : MS} {D : List Nat} {cs news : List AV} (hm : 0 < m) (hz : sz' = sz) (ha : allI news = true) (hn : m * sz = news.length) (h1 : cs.length / sz + m ≤ 1099511627776) (h2 : (cs.length / sz + m) * bytes ≤ 140737488355328) :
    appA base M D sz bytes (.list sz' cs nl true) m news = some (.x (.ms M.length 0 (cs.length / sz + m) sz false) (M ++ [some (cs ++ news)]) D) := by
  simp only [appA]
  rw [if_neg (by omega), if_pos ⟨.inr hz, trivial, ha, hn, h1, h2⟩]
theorem app_none {base sz sz' bytes : Nat} {nl cd : Bool} {M : MS} {D : List Nat} {cs news : List AV} : appA base M D sz bytes (.list sz' cs nl cd) 0 news = some (.q (.list sz' cs nl cd)) := by
  simp only [appA, if_true]
attribute [go_sem] app_new app_none
theorem Own.own {lo : Nat} {m : MS} {x : AV} {sz : Nat} {cs : List AV} (h : Own lo m x sz cs) : (x = .list sz [] true true ∧ cs = []) ∨ ∃ id, lo ≤ id ∧ id < m.length ∧ x = .ms id 0 (cs.length / sz) sz false ∧ m[id]? = some (some cs) := by
  obtain ⟨_, _, _, ⟨h1, h2⟩ | ⟨_, id, h1, h2, h3, h4⟩⟩ := h
  · exact .inl ⟨h2, h1⟩
  · exact .inr ⟨id, h1, h2, h3, h4⟩
section
variable {p : Pr} {base : Nat} {env : Env} {M : MS} {D : List Nat} {d : Option Nat} {r : List AOp} {R : Env → MS → List Nat → Prop}
/-- An append to a row of the call's own; what lies below stays. -/
theorem S_ownG {sz bytes : Nat} {s x : O} {cs news : List AV} {k : Nat} (B G : MS) {v : AV} (hb : Own B.length (B ++ G) v sz cs) (hM : M = B ++ G) (hs : s.ev env = v) (hv : view (B ++ G) (x.ev env) = some news) (hl : lenOf (x.ev env) = some k) (hk : k * sz = news.length) (ha : allI news = true)
    (h1 : cs.length / sz + k ≤ 1099511627776) (h2 : (cs.length / sz + k) * bytes ≤ 140737488355328) (hbase : base ≤ B.length)
    (h : ∀ v' G', Own B.length (B ++ G') v' sz (cs ++ news) → WS p base 0 r (updO env d v') (B ++ G') D R) :
    WS p base 0 (⟨d, .app sz bytes s x, none⟩ :: r) env M D R := by
  subst hM
  have hb' : Own base (B ++ G) (s.ev env) sz cs := by
    rw [hs]
    obtain ⟨a, b, c, e | ⟨f, id, g1, g2⟩⟩ := hb
    · exact ⟨a, b, c, .inl e⟩
    · exact ⟨a, b, c, .inr ⟨f, id, by omega, g2⟩⟩
  have hlen := hb'.buf.len
  obtain ⟨h0, hA, ⟨n, hn⟩, hc⟩ := hb
  have hdiv : cs.length / sz = n := by rw [hn, Nat.mul_div_cancel _ h0]
  have hcat : (cs ++ news).length = (n + k) * sz := by rw [List.length_append, hn, ← hk, Nat.add_mul]
  by_cases hk0 : k = 0
  · have hnews : news = [] := List.eq_nil_of_length_eq_zero (by rw [← hk, hk0]; simp)
    subst hnews
    have hq : evI (ev p) base env (B ++ G) D (.app sz bytes s x) = some (.q v) := by
      simp only [evI, hv, hl, appA, hk0, if_true, hs]
      rcases hc with ⟨_, h⟩ | ⟨_, id, _, _, h, hm⟩
      · rw [h]
      · rw [h]; simp only [aliveA, hm, if_true]
    refine S_0 hq (SO_q (h _ G ?_))
    rw [List.append_nil]
    exact ⟨h0, hA, ⟨n, hn⟩, hc⟩
  · have hne : cs ++ news ≠ [] := by
      intro e
      have := congrArg List.length e
      rw [hcat, List.length_nil] at this
      rcases Nat.mul_eq_zero.1 this with h | h <;> omega
    have new : ∀ (M' : MS), B.length ≤ M'.length → Own B.length (M' ++ [some (cs ++ news)]) (.ms M'.length 0 (cs.length / sz + k) sz false) sz (cs ++ news) := fun M' hb' =>
      ⟨h0, allI_app hA ha, ⟨n + k, hcat⟩, .inr ⟨hne, M'.length, hb', by simp, by rw [hcat, Nat.mul_div_cancel _ h0, hdiv], by simp⟩⟩
    rcases hc with ⟨hnil, hv'⟩ | ⟨_, id, hid, hlt, hv', hm⟩
    · subst hnil
      have hq : evI (ev p) base env (B ++ G) D (.app sz bytes s x) = some (.x (.ms (B ++ G).length 0 (([] : List AV).length / sz + k) sz false) (B ++ G ++ [some ([] ++ news)]) D) := by
        simp only [evI, hv, hl, hs, hv', appA, hk0, if_false]
        rw [if_pos ⟨.inl trivial, trivial, ha, hk, h1, h2⟩]
      have := new (B ++ G) (by simp)
      rw [List.append_assoc] at this
      refine S_0 hq (SO_x ?_)
      rw [List.append_assoc]
      exact h _ _ this
    · have hq : evI (ev p) base env (B ++ G) D (.app sz bytes s x) = some (.x (.ms (B ++ G).length 0 (cs.length / sz + k) sz false) ((B ++ G).set id none ++ [some (cs ++ news)]) D) := by
        simp only [evI, hv, hl, hs, hv', appA, hk0, if_false, hm]
        rw [if_pos ⟨trivial, ha, hk, h1, h2, by omega⟩]
        simp only [Bool.false_eq_true, if_false, if_true, hlen, List.take_length, dirt]
        rw [if_neg (by omega)]
      have hset : (B ++ G).set id none = B ++ G.set (id - B.length) none := by
        rw [List.set_append_right _ _ hid]
      have hn' := new (B ++ G.set (id - B.length) none) (by simp)
      refine S_0 hq (SO_x ?_)
      rw [hset, List.append_assoc]
      rw [List.append_assoc] at hn'
      have e1 : (B ++ G.set (id - B.length) none).length = (B ++ G).length := by simp
      rw [e1] at hn'
      exact h _ _ hn'
end
theorem Own.finG {base lo : Nat} {m : MS} {x : AV} {sz : Nat} {cs : List AV} (h : Own lo m x sz cs) (hb : base ≤ lo) : Av.fin base false x m [] = some (Out.q (lst sz cs)) := by
  have : Own base m x sz cs := by
    obtain ⟨a, b, c, e | ⟨f, id, g1, g2⟩⟩ := h
    · exact ⟨a, b, c, .inl e⟩
    · exact ⟨a, b, c, .inr ⟨f, id, by omega, g2⟩⟩
  exact this.fin
/-- A call of which some answer is told. -/
theorem ev_fnE {p : Pr} {f : Nat} {bd : AC} {rs : List RV} {kp K : Bool} {rf : Option (Nat × List Nat)} {args : List AV} {M : MS} {P : Out → Prop} (hA : p.A f = some ⟨bd, rs, kp, K, rf⟩)
    (h : W p M.length bd (env0 args) M [] fun ex e m d => (ex = .nrm ∨ ex = .ret) ∧ ∃ out, (resA e m rs).bind (fun vs => fin M.length kp (tupA vs) m d) = some out ∧ P out) : ∃ out, ev p f args M = some out ∧ P out := by
  obtain ⟨ex, e, m, d, h1, h2, out, h3, h4⟩ := h
  exact ⟨out, ev_fn' hA ⟨ex, e, m, d, h1, h2, h3⟩, h4⟩
theorem dirt_in {base id : Nat} {D : List Nat} (h : id < base) : dirt base id D = id :: D := if_pos h
theorem get_set (M : MS) (id : Nat) (h : id < M.length) (v : Option (List AV)) : (M.set id v)[id]? = some v := by rw [List.getElem?_set_self h]
theorem set_set' (M : MS) (id : Nat) (v w : Option (List AV)) : (M.set id v).set id w = M.set id w := List.set_set ..
theorem frzAll_flat (base : Nat) (M : MS) (v : Value) : frzAll base M [.flat v] = some ([.flat v], M) := rfl
theorem frzAll_list (base : Nat) (M : MS) (sz : Nat) (cs : List AV) (nl cd : Bool) : frzAll base M [.list sz cs nl cd] = some ([.list sz cs nl cd], M) := rfl
theorem rep_flat (n : Nat) (a : AV) : (List.replicate n [a]).flatten = List.replicate n a := by
  induction n with
  | zero => rfl
  | succ n ih => rw [List.replicate_succ, List.flatten_cons, ih, List.replicate_succ]; rfl
attribute [go_sem] dirt_in get_set set_set' frzAll_flat frzAll_list rep_flat List.length_replicate
end Go.Proofs.Ytopiaiibpacmlaa.Av
namespace Go.Proofs.Ytopiaiibpacmlaa.Av
open Go.RowKit
set_option linter.unusedSimpArgs false
theorem Own.growG {lo : Nat} {B G : MS} {x : AV} {sz : Nat} {cs : List AV} (h : Own lo (B ++ G) x sz cs) (H : MS) : Own lo (B ++ (G ++ H)) x sz cs := by
  obtain ⟨a, b, c, e | ⟨f, id, g1, g2, g3, g4⟩⟩ := h
  · exact ⟨a, b, c, .inl e⟩
  · refine ⟨a, b, c, .inr ⟨f, id, g1, by simp at g2 ⊢; omega, g3, ?_⟩⟩
    rw [← List.append_assoc, List.getElem?_append_left g2]; exact g4
/-- What a row comes to that is given up. -/
def frzD (b : Nat) (M : MS) (id off len sz : Nat) (cd : Bool) : Option (Option (List AV)) → Option (List AV × MS)
  | some (some cs) => if b ≤ id ∧ off + len * sz ≤ cs.length ∧ allI cs then some ([.list sz ((cs.drop off).take (len * sz)) false cd], M.set id none) else none
  | _ => none
theorem frzAll_ms (b : Nat) (M : MS) (id off len sz : Nat) (cd : Bool) : frzAll b M [.ms id off len sz cd] = frzD b M id off len sz cd M[id]? := by
  simp only [frzAll, frz]
  rcases M[id]? with _ | _ | cs
  · rfl
  · rfl
  · simp only [frzD]
    by_cases h : b ≤ id ∧ off + len * sz ≤ cs.length ∧ allI cs = true
    · simp only [if_pos h]
    · simp only [if_neg h]
theorem frzD_s (b : Nat) (M : MS) (id off len sz : Nat) (cd : Bool) (cs : List AV) : frzD b M id off len sz cd (some (some cs)) = if b ≤ id ∧ off + len * sz ≤ cs.length ∧ allI cs then some ([.list sz ((cs.drop off).take (len * sz)) false cd], M.set id none) else none := rfl
theorem dirts_ms (base id off len sz : Nat) (cd : Bool) (D : List Nat) : dirts base [.ms id off len sz cd] D = dirt base id D := rfl
theorem dirts_list (base sz : Nat) (cs : List AV) (nl cd : Bool) (D : List Nat) : dirts base [.list sz cs nl cd] D = D := rfl
attribute [go_sem] frzAll_ms frzD_s dirts_ms dirts_list
section
variable {p : Pr} {base : Nat} {env : Env} {M : MS} {D : List Nat} {d : Option Nat} {r : List AOp} {R : Env → MS → List Nat → Prop}
end
end Go.Proofs.Ytopiaiibpacmlaa.Av
namespace Go.Proofs.Ytopiaiibpacmlaa.Av
open Go.RowKit
set_option linter.unusedSimpArgs false
/-- A list of whole numbers, as a slice. -/
structure Pth where
  l : List Int
  nl : Bool
  cd : Bool
  ok : nl = true → l = [] ∧ cd = true
  le : l.length ≤ 9223372036854775807
def Pth.av (p : Pth) : AV := .list 1 (intsA p.l) p.nl p.cd
/-- A path and its rank. -/
structure Rnk where
  p : Pth
  r : Int
def Rnk.cs (r : Rnk) : List AV := [r.p.av, .flat (.int .i64 r.r)]
def rksA (l : List Rnk) : List AV := (l.map Rnk.cs).flatten
structure Rks where
  l : List Rnk
  nl : Bool
  cd : Bool
  ok : nl = true → l = [] ∧ cd = true
  le : l.length ≤ 9223372036854775807
def Rks.av (p : Rks) : AV := .list 2 (rksA p.l) p.nl p.cd
theorem Pth.av_eq (p : Pth) : p.av = .list 1 (intsA p.l) p.nl p.cd := rfl
theorem Rks.av_eq (p : Rks) : p.av = .list 2 (rksA p.l) p.nl p.cd := rfl
theorem Pth.nil (p : Pth) (h : p.nl = true) : p.l = [] := (p.ok h).1
theorem Rks.nil (p : Rks) (h : p.nl = true) : p.l = [] := (p.ok h).1
theorem slice_rks {l : List Rnk} {nl cd : Bool} {lo hi mx : Option AV} (hn : nl = true → l = []) : sliceA 2 (.list 2 (rksA l) nl cd) lo hi mx = sliceC 2 (rksA l) nl cd lo hi mx := slice_eq fun h => by rw [hn h]; rfl
attribute [go_sem] slice_rks
theorem isI_pth (p : Pth) : isI p.av = true := rfl
theorem isI_rks (p : Rks) : isI p.av = true := rfl
theorem oc_pth (p : Pth) : cellsOf p.av = some [p.av] := rfl
theorem oc_rks (p : Rks) : cellsOf p.av = some [p.av] := rfl
theorem rks_len (l : List Rnk) : (rksA l).length = l.length * 2 := by
  induction l with
  | nil => rfl
  | cons a l ih => simp only [rksA, List.map_cons, List.flatten_cons, List.length_append, List.length_cons] at ih ⊢; rw [ih]; simp [Rnk.cs]; omega
theorem rks_drop (l : List Rnk) (k : Nat) : (rksA l).drop (k * 2) = rksA (l.drop k) := by
  induction l generalizing k with
  | nil => simp [rksA]
  | cons a l ih =>
    cases k with
    | zero => rfl
    | succ k =>
      have := ih k
      simp only [rksA, List.map_cons, List.flatten_cons, Rnk.cs, List.cons_append, List.nil_append, Nat.add_mul, Nat.one_mul, List.drop_succ_cons] at this ⊢
      exact this
theorem rks_take (l : List Rnk) (k : Nat) : (rksA l).take (k * 2) = rksA (l.take k) := by
  induction l generalizing k with
  | nil => simp [rksA]
  | cons a l ih =>
    cases k with
    | zero => rfl
    | succ k =>
      have := ih k
      simp only [rksA, List.map_cons, List.flatten_cons, Rnk.cs, List.cons_append, List.nil_append, Nat.add_mul, Nat.one_mul, List.take_succ_cons] at this ⊢
      rw [this]
theorem rks_cons (a : Rnk) (l : List Rnk) : rksA (a :: l) = a.p.av :: .flat (.int .i64 a.r) :: rksA l := rfl
/-- The cells from an element on. -/
theorem rks_at (l : List Rnk) (k : Nat) (h : k < l.length) : (rksA l).drop (k * 2) = l[k].p.av :: .flat (.int .i64 l[k].r) :: rksA (l.drop (k + 1)) := by
  rw [rks_drop, List.drop_eq_getElem_cons h, rks_cons]
theorem rks_at1 (l : List Rnk) (k : Nat) (h : k < l.length) : (rksA l).drop (k * 2 + 1) = .flat (.int .i64 l[k].r) :: rksA (l.drop (k + 1)) := by
  rw [← List.drop_drop, rks_at l k h]; rfl
theorem rks_at' (l : List Rnk) (k : Nat) (h : k < l.length) : (rksA l)[k * 2]? = some l[k].p.av := by
  have := congrArg List.head? (rks_at l k h)
  rwa [List.head?_drop] at this
theorem rks_at1' (l : List Rnk) (k : Nat) (h : k < l.length) : (rksA l)[k * 2 + 1]? = some (.flat (.int .i64 l[k].r)) := by
  have := congrArg List.head? (rks_at1 l k h)
  rwa [List.head?_drop] at this
theorem allI_rks : ∀ l : List Rnk, allI (rksA l) = true
  | [] => rfl
  | a :: l => by rw [rks_cons]; simp only [allI, isI_pth, isI, allI_rks l, Bool.and_self]
theorem allI_map {α : Type} {f : α → AV} (hf : ∀ a, isI (f a) = true) : ∀ l : List α, allI (l.map f) = true
  | [] => rfl
  | a :: l => by simp only [List.map_cons, allI, hf a, allI_map hf l, Bool.and_self]
theorem allI_pths (l : List Pth) : allI (l.map Pth.av) = true := allI_map isI_pth l
theorem allI_rkss (l : List Rks) : allI (l.map Rks.av) = true := allI_map isI_rks l
theorem half (n : Nat) : n * 2 / 2 = n := Nat.mul_div_cancel n (by decide)
attribute [go_sem] Pth.av_eq Rks.av_eq rks_len rks_take rks_at rks_at1 rks_at' rks_at1' allI_rks allI_pths allI_rkss half List.length_map List.getElem?_map List.getElem_map List.length_drop List.length_take
theorem map_drop' {α : Type} (f : α → AV) (l : List α) (k : Nat) : (l.map f).drop k = (l.drop k).map f := List.map_drop.symm
theorem map_take' {α : Type} (f : α → AV) (l : List α) (k : Nat) : (l.map f).take k = (l.take k).map f := List.map_take.symm
attribute [go_sem] map_drop' map_take' List.head?_map
/-! ### What is said of them -/
def pl (s : List Pth) : List (List Int) := s.map Pth.l
def paths (l : List Rnk) : List (List Int) := l.map (·.p.l)
def SmallX (l : List Rks) : Prop := l.length ≤ 12 ∧ ∀ r ∈ l, r.l.length ≤ 70 ∧ ∀ q ∈ r.l, q.p.l.length ≤ 20
def SmallS (s : List Pth) : Prop := s.length ≤ 12 ∧ ∀ p ∈ s, p.l.length ≤ 20
/-- The place of a path; -1: it isn't there. -/
def place (L : List (List Int)) (p : List Int) : Int := if p ∈ L then (L.idxOf p : Int) else -1
def PathOk (p : List Int) (v n : Int) : Prop := 2 ≤ p.length ∧ p[0]? = some v ∧ p[p.length - 1]? = some 0 ∧ p.Nodup ∧ ∀ a ∈ p, 0 ≤ a ∧ a < n
def LOk (l : List Rnk) (v n : Int) : Prop := l.length ≤ 64 ∧ ∀ i (h : i < l.length), l[i].r = i ∧ PathOk l[i].p.l v n ∧ l[i].p.l ∉ paths (l.take i)
def MayX (n : Int) (l : List Rks) : Prop := 1 ≤ n ∧ n ≤ 9 ∧ (l.length : Int) = n ∧ (∀ h : 0 < l.length, l[0].l = []) ∧ ∀ v (h : v < l.length), 1 ≤ v → LOk l[v].l v n
def MayS (n : Int) (l : List Rks) (s : List Pth) : Prop := MayX n l ∧ (s.length : Int) = n ∧ (∀ h : 0 < s.length, s[0].l = [0]) ∧ ∀ v (h : v < s.length) (h' : v < l.length), 1 ≤ v → s[v].l = [] ∨ s[v].l ∈ paths l[v].l
noncomputable instance (l : List Rks) : Decidable (SmallX l) := Classical.propDecidable _
noncomputable instance (l : List Pth) : Decidable (SmallS l) := Classical.propDecidable _
noncomputable instance (p : List Int) (v n : Int) : Decidable (PathOk p v n) := Classical.propDecidable _
noncomputable instance (l : List Rnk) (v n : Int) : Decidable (LOk l v n) := Classical.propDecidable _
noncomputable instance (n : Int) (l : List Rks) : Decidable (MayX n l) := Classical.propDecidable _
noncomputable instance (n : Int) (l : List Rks) (s : List Pth) : Decidable (MayS n l s) := Classical.propDecidable _
theorem place_at {L : List (List Int)} {p : List Int} {i : Nat} (h : i < L.length) (h1 : L[i] = p) (h2 : ∀ j, j < i → ∀ h : j < L.length, L[j] ≠ p) : place L p = i := by
  have hm : p ∈ L := h1 ▸ List.getElem_mem h
  rw [place, if_pos hm]
  have h3 : L.idxOf p < L.length := List.idxOf_lt_length_of_mem hm
  have h4 : L[L.idxOf p] = p := List.getElem_idxOf h3
  rcases Nat.lt_trichotomy (L.idxOf p) i with h5 | h5 | h5
  · exact absurd h4 (h2 _ h5 h3)
  · rw [h5]
  · have h6 : (List.findIdx (· == p) L) > i := h5
    have := List.not_of_lt_findIdx h6
    simp [h1] at this
theorem place_no {L : List (List Int)} {p : List Int} (h : p ∉ L) : place L p = -1 := if_neg h
theorem place_ge {L : List (List Int)} {p : List Int} : 0 ≤ place L p ↔ p ∈ L := by
  unfold place; split <;> simp_all
theorem place_lt {L : List (List Int)} {p : List Int} : place L p < 0 ↔ p ∉ L := by
  unfold place; split <;> simp_all <;> omega
theorem place_le (L : List (List Int)) (p : List Int) : place L p < L.length ∨ L = [] ∧ place L p = -1 := by
  unfold place
  split
  · rename_i h; left; have := List.idxOf_lt_length_of_mem h; omega
  · cases L with
    | nil => exact .inr ⟨rfl, rfl⟩
    | cons a l => left; simp only [List.length_cons]; omega
end Go.Proofs.Ytopiaiibpacmlaa.Av
namespace Go.Proofs.Ytopiaiibpacmlaa.Av
open Go.RowKit
theorem sgc {P : Prop} (h : P := by focus (simp (disch := first | assumption | decide | omega | exact Pth.le _ | exact Rks.le _ | exact List.getElem_mem _ | exact allI_ints _ | exact allI_rks _ | exact allI_pths _ | exact Pth.nil _ | exact Rks.nil _ | (intro hh; simp only [Pth.nil _ hh, List.take_nil, List.drop_nil]; done) | (intro hh; simp only [Rks.nil _ hh, List.take_nil, List.drop_nil]; done) | (simp only [List.length_take, List.length_drop, List.length_append, List.length_cons, List.length_nil, List.length_replicate, List.length_map, ints_len]; omega)) only [↓wantA, undef, go_sem, if_pos, if_neg, Nat.reduceBEq, Nat.reduceEqDiff, ↓reduceIte, Nat.reduceSub, Nat.reduceAdd, Int.reduceToNat, reduceCtorEq, Nat.reduceLeDiff, Nat.reduceLT, Nat.reduceMul, Nat.reduceDiv, Int.reduceLT, Int.reduceLE, Int.reduceEq, Int.reduceNe, Int.reduceAdd, Int.reduceSub, Int.reduceNeg, Int.reduceGT, Int.reduceGE, Int.reduceBEq, Int.reduceBNe, Int.reduceMul, *]; first | done | rfl)) : P := h
theorem svc {P : Prop} (h : P := by (simp (disch := first | assumption | decide | omega | exact Pth.le _ | exact Rks.le _ | exact List.getElem_mem _ | exact allI_ints _ | exact allI_rks _ | exact allI_pths _ | exact Pth.nil _ | exact Rks.nil _ | (intro hh; simp only [Pth.nil _ hh, List.take_nil, List.drop_nil]; done) | (intro hh; simp only [Rks.nil _ hh, List.take_nil, List.drop_nil]; done) | (simp only [List.length_take, List.length_drop, List.length_append, List.length_cons, List.length_nil, List.length_replicate, List.length_map, ints_len]; omega)) only [go_sem, if_pos, if_neg, Nat.reduceBEq, Nat.reduceEqDiff, ↓reduceIte, Nat.reduceSub, Nat.reduceAdd, Int.reduceToNat, reduceCtorEq, Nat.reduceLeDiff, Nat.reduceLT, Nat.reduceMul, Nat.reduceDiv, Int.reduceLT, Int.reduceLE, Int.reduceEq, Int.reduceNe, Int.reduceAdd, Int.reduceSub, Int.reduceNeg, Int.reduceGT, Int.reduceGE, Int.reduceBEq, Int.reduceBNe, Int.reduceMul, *])) : P := h
theorem fincR {P : Prop} (h : P := by (simp (disch := first | assumption | decide | omega | exact Pth.le _ | exact Rks.le _ | exact List.getElem_mem _ | exact allI_ints _ | exact allI_rks _ | exact allI_pths _ | exact Pth.nil _ | exact Rks.nil _ | (intro hh; simp only [Pth.nil _ hh, List.take_nil, List.drop_nil]; done) | (intro hh; simp only [Rks.nil _ hh, List.take_nil, List.drop_nil]; done) | (simp only [List.length_take, List.length_drop, List.length_append, List.length_cons, List.length_nil, List.length_replicate, List.length_map, ints_len]; omega)) only [resA, rvA, tupA, fin, frzV, frzTup, frzA, frz, isI, isI.all, Option.bind_some, go_sem, if_pos, if_neg, Nat.reduceBEq, Nat.reduceEqDiff, ↓reduceIte, Nat.reduceSub, Nat.reduceAdd, Int.reduceToNat, reduceCtorEq, Nat.reduceLeDiff, Nat.reduceLT, Nat.reduceMul, Nat.reduceDiv, Int.reduceLT, Int.reduceLE, Int.reduceEq, Int.reduceNe, Int.reduceAdd, Int.reduceSub, Int.reduceNeg, Int.reduceGT, Int.reduceGE, Int.reduceBEq, Int.reduceBNe, Int.reduceMul, *])) : (Ex.ret = Ex.nrm ∨ Ex.ret = Ex.ret) ∧ P := ⟨.inr rfl, h⟩
theorem fincN {P : Prop} (h : P := by (simp (disch := first | assumption | decide | omega | exact Pth.le _ | exact Rks.le _ | exact List.getElem_mem _ | exact allI_ints _ | exact allI_rks _ | exact allI_pths _ | exact Pth.nil _ | exact Rks.nil _ | (intro hh; simp only [Pth.nil _ hh, List.take_nil, List.drop_nil]; done) | (intro hh; simp only [Rks.nil _ hh, List.take_nil, List.drop_nil]; done) | (simp only [List.length_take, List.length_drop, List.length_append, List.length_cons, List.length_nil, List.length_replicate, List.length_map, ints_len]; omega)) only [resA, rvA, tupA, fin, frzV, frzTup, frzA, frz, isI, isI.all, Option.bind_some, go_sem, if_pos, if_neg, Nat.reduceBEq, Nat.reduceEqDiff, ↓reduceIte, Nat.reduceSub, Nat.reduceAdd, Int.reduceToNat, reduceCtorEq, Nat.reduceLeDiff, Nat.reduceLT, Nat.reduceMul, Nat.reduceDiv, Int.reduceLT, Int.reduceLE, Int.reduceEq, Int.reduceNe, Int.reduceAdd, Int.reduceSub, Int.reduceNeg, Int.reduceGT, Int.reduceGE, Int.reduceBEq, Int.reduceBNe, Int.reduceMul, *])) : (Ex.nrm = Ex.nrm ∨ Ex.nrm = Ex.ret) ∧ P := ⟨.inl rfl, h⟩
end Go.Proofs.Ytopiaiibpacmlaa.Av
namespace Go.Proofs.Ytopiaiibpacmlaa.Av
open Go.RowKit
set_option linter.unusedSimpArgs false
abbrev dtRank : DT := .pair (.sl 1 (.int .i64)) (.pair (.int .i64) .unit)
abbrev dtInst : DT := .pair (.int .i64) (.pair (.sl 1 (.sl 2 dtRank)) .unit)
abbrev dtState : DT := .sl 1 (.sl 1 (.int .i64))
theorem maxLen_eq : maxLen = 9223372036854775807 := by decide
theorem pth_has {x : AV} (h : (DT.sl 1 (.int .i64)).Has [x]) : ∃ p : Pth, x = p.av := by
  obtain ⟨rows, nl, cd, h1, h2, h3, h4, h5⟩ := h
  simp only [List.cons.injEq, and_true] at h1
  obtain ⟨l, h6, h7, h8⟩ := ints_has h5
  rw [maxLen_eq] at h3
  refine ⟨⟨l, nl, cd, fun hn => ?_, by omega⟩, by rw [h1, h6]; rfl⟩
  obtain ⟨h9, h10⟩ := h2 hn
  subst h9
  exact ⟨List.eq_nil_of_length_eq_zero (by simpa using h7), h10⟩
theorem pths_has : ∀ {rows : List (List AV)}, (∀ r ∈ rows, (DT.sl 1 (.int .i64)).Has r ∧ r.length = 1) → ∃ s : List Pth, rows.flatten = s.map Pth.av ∧ s.length = rows.length
  | [], _ => ⟨[], rfl, rfl⟩
  | r :: rows, h => by
    obtain ⟨h1, h2⟩ := h r (by simp)
    obtain ⟨s, h3, h4⟩ := pths_has (rows := rows) fun r hr => h r (by simp [hr])
    match r, h2, h1 with
    | [x], _, h1 =>
      obtain ⟨p, rfl⟩ := pth_has h1
      exact ⟨p :: s, by rw [List.flatten_cons, h3]; rfl, by simp [h4]⟩
theorem state_arg {x : AV} (h : dtState.Arg x) : ∃ (s : List Pth) (ns cs : Bool), x = .list 1 (s.map Pth.av) ns cs ∧ s.length ≤ 9223372036854775807 := by
  obtain ⟨rows, nl, cd, h1, h2, h3, h4, h5⟩ := h
  simp only [List.cons.injEq, and_true] at h1
  obtain ⟨s, h6, h7⟩ := pths_has h5
  rw [maxLen_eq] at h3
  exact ⟨s, nl, cd, by rw [h1, h6], by omega⟩
theorem rank_has {r : List AV} (h : dtRank.Has r) : ∃ q : Rnk, r = q.cs := by
  obtain ⟨x, y, rfl, h1, a, b, rfl, h2, h3⟩ := h
  obtain ⟨n, rfl, _⟩ := h2
  have h3' : b = [] := h3
  subst h3'
  obtain ⟨rows, nl, cd, h4, _⟩ := id h1
  subst h4
  obtain ⟨p, hp⟩ := pth_has h1
  exact ⟨⟨p, n⟩, by simp only [Rnk.cs, ← hp]; rfl⟩
theorem ranks_has : ∀ {rows : List (List AV)}, (∀ r ∈ rows, dtRank.Has r ∧ r.length = 2) → ∃ s : List Rnk, rows.flatten = rksA s ∧ s.length = rows.length
  | [], _ => ⟨[], rfl, rfl⟩
  | r :: rows, h => by
    obtain ⟨q, rfl⟩ := rank_has (h r (by simp)).1
    obtain ⟨s, h3, h4⟩ := ranks_has (rows := rows) fun r hr => h r (by simp [hr])
    exact ⟨q :: s, by rw [List.flatten_cons, h3]; rfl, by simp [h4]⟩
theorem rks_has {x : AV} (h : (DT.sl 2 dtRank).Has [x]) : ∃ p : Rks, x = p.av := by
  obtain ⟨rows, nl, cd, h1, h2, h3, h4, h5⟩ := h
  simp only [List.cons.injEq, and_true] at h1
  obtain ⟨l, h6, h7⟩ := ranks_has h5
  rw [maxLen_eq] at h3
  refine ⟨⟨l, nl, cd, fun hn => ?_, by omega⟩, by rw [h1, h6]; rfl⟩
  obtain ⟨h9, h10⟩ := h2 hn
  subst h9
  exact ⟨List.eq_nil_of_length_eq_zero (by simpa using h7), h10⟩
theorem rkss_has : ∀ {rows : List (List AV)}, (∀ r ∈ rows, (DT.sl 2 dtRank).Has r ∧ r.length = 1) → ∃ s : List Rks, rows.flatten = s.map Rks.av ∧ s.length = rows.length
  | [], _ => ⟨[], rfl, rfl⟩
  | r :: rows, h => by
    obtain ⟨h1, h2⟩ := h r (by simp)
    obtain ⟨s, h3, h4⟩ := rkss_has (rows := rows) fun r hr => h r (by simp [hr])
    match r, h2, h1 with
    | [x], _, h1 =>
      obtain ⟨p, rfl⟩ := rks_has h1
      exact ⟨p :: s, by rw [List.flatten_cons, h3]; rfl, by simp [h4]⟩
theorem inst_arg {x : AV} (h : dtInst.Arg x) : ∃ (n : Int) (l : List Rks) (nl cd : Bool), x = .agg [.flat (.int .i64 n), .list 1 (l.map Rks.av) nl cd] ∧ l.length ≤ 9223372036854775807 := by
  obtain ⟨xs, rfl, a, b, rfl, ⟨n, rfl, _⟩, c, d, rfl, ⟨rows, nl, cd, rfl, h2, h3, h4, h5⟩, h6⟩ := h
  have h6' : d = [] := h6
  subst h6'
  obtain ⟨s, h7, h8⟩ := rkss_has h5
  rw [maxLen_eq] at h3
  exact ⟨n, s, nl, cd, by rw [h7]; rfl, by omega⟩
end Go.Proofs.Ytopiaiibpacmlaa.Av
