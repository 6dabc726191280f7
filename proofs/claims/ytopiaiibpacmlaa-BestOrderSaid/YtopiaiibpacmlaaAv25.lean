/- The rules of reckoning as one set; loops over an index. -/
import Derived.Test.YtopiaiibpacmlaaAv24
namespace Go.Proofs.Ytopiaiibpacmlaa.Av
open Go.RowKit
set_option linter.unusedSimpArgs false
theorem updO_ite (e : Env) (t x : Nat) (v : AV) : updO e (some t) v x = if x = t then v else e x := rfl
attribute [go_sem ↓] evI ev_t ev_k updO_ite updO_none
attribute [go_sem] evI.callA if_true if_false bin intBin unop eqV asInt asBool env0_zero env0_succ env0_nil Option.map_some Option.map_none lenM_list view_list lenOf_list lenOf_ms aview_elem ldA decide_true decide_false cond_true cond_false optNat List.map_cons List.map_nil List.getElem?_cons_zero List.getElem?_cons_succ Bool.not_true Bool.not_false beq_true beq_false beq_self_eq_true ints_len Nat.div_one Nat.mul_one Int.toNat_natCast Int.natCast_add wrap64 Nat.zero_add Nat.add_zero Bool.false_eq_true Bool.true_eq_false Int.cast_ofNat_Int and_self true_and and_true false_and and_false ne_eq not_true_eq_false not_false_eq_true eq_self Nat.succ_ne_self List.length_append List.length_cons List.length_nil fillA List.replicate_succ List.replicate_zero List.flatten_cons List.flatten_nil List.append_nil List.nil_append List.cons_append List.take_succ_cons List.take_zero List.drop_succ_cons List.drop_zero allI isI Bool.and_true Bool.true_and Bool.and_self ints_head ints_get ints_drop ints_take beq_dec bne_dec allI_ints cutCapd Option.isSome_none Option.isSome_some or_true true_or imp_self false_imp_iff Bool.false_or Bool.or_true List.head?_cons List.head?_drop List.getElem_cons_zero List.getElem_cons_succ
attribute [go_sem low] List.getElem?_eq_getElem ints_head0
theorem cells_agg (cs : List AV) : cellsOf (.agg cs) = some cs := rfl
theorem cells_list (sz : Nat) (cs : List AV) (nl cd : Bool) : cellsOf (.list sz cs nl cd) = some [.list sz cs nl cd] := rfl
theorem cells_ms (id off len sz : Nat) (cd : Bool) : cellsOf (.ms id off len sz cd) = some [.ms id off len sz cd] := rfl
theorem cells_elem (x : AV) (k : Nat) : cellsOf (.elem x k) = some [.elem x k] := rfl
theorem cells_mptr (id off : Nat) : cellsOf (.mptr id off) = some [.mptr id off] := rfl
theorem cells_clo (f : Nat) (cs : List AV) : cellsOf (.clo f cs) = some [.clo f cs] := rfl
theorem cells_int (k : IntKind) (n : Int) : cellsOf (.flat (.int k n)) = some [.flat (.int k n)] := rfl
theorem cells_bool (b : Bool) : cellsOf (.flat (.bool b)) = some [.flat (.bool b)] := rfl
theorem cells_str (s : ByteArray) : cellsOf (.flat (.string s)) = some [.flat (.string s)] := rfl
attribute [go_sem] cells_agg cells_list cells_ms cells_elem cells_mptr cells_clo cells_int cells_bool cells_str
/-- The slots that instructions may write. -/
def asgO : List AOp → List Nat
  | [] => []
  | ⟨some t, _, _⟩ :: r => t :: asgO r
  | ⟨none, _, _⟩ :: r => asgO r
def asg : AC → List Nat
  | .seq a b => asg a ++ asg b
  | .cond _ a b => asg a ++ asg b
  | .block _ a => asg a
  | .loop a => asg a
  | .region _ ops => asgO ops
  | _ => []
theorem updO_asg {d : Option Nat} {i : I} {g : Option (Nat × Bool)} {r : List AOp} {t : Nat} (h : t ∉ asgO (⟨d, i, g⟩ :: r)) (e : Env) (v : AV) : updO e d v t = e t ∧ t ∉ asgO r := by
  cases d with
  | none => exact ⟨rfl, h⟩
  | some d =>
    simp only [asgO, List.mem_cons, not_or] at h
    exact ⟨by simp only [updO, upd, if_neg h.1], h.2⟩
theorem evQ_asg {call : Call} {base : Nat} {M : MS} {t : Nat} : ∀ {ops : List AOp} {env env' : Env}, evQ call base M ops env = some env' → t ∉ asgO ops → env' t = env t
  | [], env, env', h, _ => by simp only [evQ, Option.some.injEq] at h; rw [h]
  | ⟨d, i, g⟩ :: r, env, env', h, ht => by
    simp only [evQ] at h
    split at h
    · split at h
      · rename_i v _
        obtain ⟨h1, h2⟩ := updO_asg ht env v
        rw [evQ_asg h h2, h1]
      · cases h
    · obtain ⟨h1, h2⟩ := updO_asg ht env (.flat undef)
      rw [evQ_asg h h2, h1]
    · cases h
theorem evS_asg {call : Call} {base : Nat} {t : Nat} : ∀ {ops : List AOp} {env env' : Env} {M M' : MS} {D D' : List Nat}, evS call base ops env M D = some (env', M', D') → t ∉ asgO ops → env' t = env t
  | [], env, env', M, M', D, D', h, _ => by simp only [evS, Option.some.injEq, Prod.mk.injEq] at h; rw [h.1]
  | ⟨d, i, g⟩ :: r, env, env', M, M', D, D', h, ht => by
    simp only [evS] at h
    split at h
    · split at h
      · rename_i v _
        obtain ⟨h1, h2⟩ := updO_asg ht env v
        rw [evS_asg h h2, h1]
      · rename_i v _ _ _
        obtain ⟨h1, h2⟩ := updO_asg ht env v
        rw [evS_asg h h2, h1]
      · cases h
    · obtain ⟨h1, h2⟩ := updO_asg ht env (.flat undef)
      rw [evS_asg h h2, h1]
    · cases h
theorem asgO_take {t : Nat} : ∀ {ops : List AOp} {k : Nat}, t ∉ asgO ops → t ∉ asgO (ops.take k) ∧ t ∉ asgO (ops.drop k)
  | ops, 0, h => ⟨by simp [asgO], h⟩
  | [], k + 1, h => ⟨h, h⟩
  | ⟨d, i, g⟩ :: r, k + 1, h => by
    obtain ⟨_, h2⟩ := updO_asg h (fun _ => .flat undef) (.flat undef)
    obtain ⟨h3, h4⟩ := asgO_take (k := k) h2
    refine ⟨?_, h4⟩
    cases d with
    | none => exact h3
    | some d => simp only [asgO, List.mem_cons, not_or, List.take_succ_cons] at h ⊢; exact ⟨h.1, h3⟩
theorem evLoop_asg {f : Env → MS → List Nat → Option (Ex × Env × MS × List Nat)} {t : Nat} (hf : ∀ e m d x e' m' d', f e m d = some (x, e', m', d') → e' t = e t) : ∀ {n : Nat} {e e' : Env} {m m' : MS} {d d' : List Nat} {x : Ex}, evLoop f n e m d = some (x, e', m', d') → e' t = e t
  | 0, e, e', m, m', d, d', x, h => by simp [evLoop] at h
  | n + 1, e, e', m, m', d, d', x, h => by
    simp only [evLoop] at h
    split at h
    · rename_i e1 m1 d1 h1
      rw [evLoop_asg hf h, hf _ _ _ _ _ _ _ h1]
    · exact hf _ _ _ _ _ _ _ h
theorem evAC_asg {call : Call} {base n : Nat} {t : Nat} : ∀ {a : AC} {env env' : Env} {M M' : MS} {D D' : List Nat} {ex : Ex}, evAC call base n a env M D = some (ex, env', M', D') → t ∉ asg a → env' t = env t := by
  intro a
  induction a with
  | skip => intro env env' M M' D D' ex h _; simp only [evAC, Option.some.injEq, Prod.mk.injEq] at h; rw [h.2.1]
  | exit id => intro env env' M M' D D' ex h _; simp only [evAC, Option.some.injEq, Prod.mk.injEq] at h; rw [h.2.1]
  | ret => intro env env' M M' D D' ex h _; simp only [evAC, Option.some.injEq, Prod.mk.injEq] at h; rw [h.2.1]
  | stop => intro env env' M M' D D' ex h _; simp [evAC] at h
  | seq x y ihx ihy =>
    intro env env' M M' D D' ex h ht
    simp only [asg, List.mem_append, not_or] at ht
    simp only [evAC] at h
    split at h
    · rename_i e1 m1 d1 hx
      rw [ihy h ht.2, ihx hx ht.1]
    · exact ihx h ht.1
  | cond c x y ihx ihy =>
    intro env env' M M' D D' ex h ht
    simp only [asg, List.mem_append, not_or] at ht
    simp only [evAC] at h
    split at h
    · exact ihx h ht.1
    · exact ihy h ht.2
    · cases h
  | block id x ih =>
    intro env env' M M' D D' ex h ht
    simp only [evAC] at h
    split at h
    · rename_i hx
      split at h <;> (simp only [Option.some.injEq, Prod.mk.injEq] at h; obtain ⟨_, rfl, _, _⟩ := h; exact ih hx ht)
    · exact ih h ht
  | loop x ih =>
    intro env env' M M' D D' ex h ht
    simp only [evAC] at h
    exact evLoop_asg (fun _ _ _ _ _ _ _ hh => ih hh ht) h
  | region k ops =>
    intro env env' M M' D D' ex h ht
    simp only [evAC] at h
    obtain ⟨h1, h2⟩ := asgO_take (k := k) ht
    split at h
    · rename_i e1 he
      split at h
      · rename_i e2 m2 d2 hS
        simp only [Option.some.injEq, Prod.mk.injEq] at h
        obtain ⟨_, rfl, _, _⟩ := h
        rw [evS_asg hS h2, evQ_asg he h1]
      · cases h
    · cases h
section
variable {p : Pr} {base : Nat}
theorem W_keep {a : AC} {env : Env} {M : MS} {D : List Nat} {Q : Post} (h : W p base a env M D Q) : W p base a env M D fun ex e m d => (∀ t, t ∉ asg a → e t = env t) ∧ Q ex e m d := by
  obtain ⟨ex, e, m, d, h1, h2⟩ := h
  obtain ⟨n, h3⟩ := evC_some.1 h1
  exact ⟨ex, e, m, d, h1, fun t ht => evAC_asg h3 ht, h2⟩
/-- A loop by what holds ahead of each round; what it does not write stays. -/
theorem W_loopA {a : AC} {env : Env} {M : MS} {D : List Nat} {Q : Post} {L : List Nat} (hL : asg a = L) (J : Nat → Env → MS → List Nat → Prop) (k : Nat) (hJ : J k env M D)
    (h : ∀ k e m d, (∀ t, L.elem t = false → e t = env t) → J k e m d → W p base a e m d (roundW J k Q)) : W p base (.loop a) env M D Q := by
  refine W_loop (fun k e m d => (∀ t, L.elem t = false → e t = env t) ∧ J k e m d) k ⟨fun _ _ => rfl, hJ⟩ ?_
  rintro k e m d ⟨hk, hj⟩
  refine (W_keep (h k e m d hk hj)).mono ?_
  rintro ex e' m' d' ⟨h1, h2⟩
  cases ex with
  | nrm =>
    obtain ⟨k', h3, h4⟩ := h2
    refine ⟨k', h3, fun t ht => ?_, h4⟩
    rw [h1 t (by rw [hL]; intro hm; simp [List.elem_eq_mem, hm] at ht), hk t ht]
  | exit id => exact h2
  | ret => exact h2
/-- Behind a round of a loop over an index. -/
def rngW (ix i N : Nat) (I : Nat → Env → MS → Prop) (D : List Nat) (Q : Post) : Post := fun ex e m d => match ex with
  | .nrm => i < N ∧ e ix = .flat (.int .i64 ((i + 1 : Nat) : Int)) ∧ I (i + 1) e m ∧ d = D
  | ex => Q ex e m d
theorem G_e {ix i N : Nat} {I : Nat → Env → MS → Prop} {D d : List Nat} {Q : Post} {e : Env} {m : MS} {j : Nat} (h : Q (.exit j) e m d) : rngW ix i N I D Q (.exit j) e m d := h
theorem G_r {ix i N : Nat} {I : Nat → Env → MS → Prop} {D d : List Nat} {Q : Post} {e : Env} {m : MS} (h : Q .ret e m d) : rngW ix i N I D Q .ret e m d := h
theorem G_n {ix i N : Nat} {I : Nat → Env → MS → Prop} {D : List Nat} {Q : Post} {e : Env} {m : MS} (h1 : e ix = .flat (.int .i64 ((i + 1 : Nat) : Int))) (h2 : i < N) (h3 : I (i + 1) e m) : rngW ix i N I D Q .nrm e m D := ⟨h2, h1, h3, rfl⟩
/-- A loop over an index from s on; memory may grow. -/
theorem W_rngM {a : AC} {env : Env} {M : MS} {D : List Nat} {Q : Post} {L : List Nat} (ix s N : Nat) (I : Nat → Env → MS → Prop) (hL : asg a = L) (h0 : env ix = .flat (.int .i64 (s : Int))) (hs : s ≤ N) (hI : I s env M)
    (h : ∀ i e m, s ≤ i → i ≤ N → (∀ t, L.elem t = false → e t = env t) → e ix = .flat (.int .i64 i) → I i e m → W p base a e m D (rngW ix i N I D Q)) : W p base (.loop a) env M D Q := by
  refine W_loopA hL (fun k e m d => ∃ i : Nat, k = N - i ∧ s ≤ i ∧ i ≤ N ∧ e ix = .flat (.int .i64 i) ∧ I i e m ∧ d = D) (N - s) ⟨s, rfl, Nat.le_refl _, hs, h0, hI, rfl⟩ ?_
  rintro k e m d hk ⟨i, rfl, hs, hi, hx, hI, rfl⟩
  refine (h i e m hs hi hk hx hI).mono ?_
  intro ex e' m' d' hQ
  cases ex with
  | nrm =>
    obtain ⟨h1, h2, h3, h4⟩ := hQ
    exact ⟨N - (i + 1), by omega, i + 1, rfl, by omega, h1, h2, h3, h4⟩
  | exit id => exact hQ
  | ret => exact hQ
/-- .. where memory stays. -/
def rng0 (ix i N : Nat) (I : Nat → Env → Prop) (M : MS) (D : List Nat) (Q : Post) : Post := fun ex e m d => match ex with
  | .nrm => i < N ∧ e ix = .flat (.int .i64 ((i + 1 : Nat) : Int)) ∧ I (i + 1) e ∧ m = M ∧ d = D
  | ex => Q ex e m d
theorem H_e {ix i N : Nat} {I : Nat → Env → Prop} {D d : List Nat} {Q : Post} {e : Env} {M m : MS} {j : Nat} (h : Q (.exit j) e m d) : rng0 ix i N I M D Q (.exit j) e m d := h
theorem H_r {ix i N : Nat} {I : Nat → Env → Prop} {D d : List Nat} {Q : Post} {e : Env} {M m : MS} (h : Q .ret e m d) : rng0 ix i N I M D Q .ret e m d := h
theorem H_n {ix i N : Nat} {I : Nat → Env → Prop} {D : List Nat} {Q : Post} {e : Env} {m : MS} (h1 : e ix = .flat (.int .i64 ((i + 1 : Nat) : Int))) (h2 : i < N) (h3 : I (i + 1) e) : rng0 ix i N I m D Q .nrm e m D := ⟨h2, h1, h3, rfl, rfl⟩
theorem W_rng {a : AC} {env : Env} {M : MS} {D : List Nat} {Q : Post} {L : List Nat} (ix s N : Nat) (I : Nat → Env → Prop) (hL : asg a = L) (h0 : env ix = .flat (.int .i64 (s : Int))) (hs : s ≤ N) (hI : I s env)
    (h : ∀ i e, s ≤ i → i ≤ N → (∀ t, L.elem t = false → e t = env t) → e ix = .flat (.int .i64 i) → I i e → W p base a e M D (rng0 ix i N I M D Q)) : W p base (.loop a) env M D Q := by
  refine W_rngM ix s N (fun i e m => I i e ∧ m = M) hL h0 hs ⟨hI, rfl⟩ ?_
  rintro i e m hs hi hk hx ⟨hI, rfl⟩
  refine (h i e hs hi hk hx hI).mono ?_
  intro ex e' m' d' hQ
  cases ex with
  | nrm =>
    obtain ⟨h1, h2, h3, rfl, rfl⟩ := hQ
    exact ⟨h1, h2, ⟨h3, rfl⟩, rfl⟩
  | exit id => exact hQ
  | ret => exact hQ
/-- A loop without an index: what goes down is named. -/
theorem W_whl {a : AC} {env : Env} {M : MS} {D : List Nat} {Q : Post} {L : List Nat} (J : Nat → Env → MS → List Nat → Prop) (k : Nat) (hL : asg a = L) (hJ : J k env M D)
    (h : ∀ k e m d, (∀ t, L.elem t = false → e t = env t) → J k e m d → W p base a e m d (roundW J k Q)) : W p base (.loop a) env M D Q := W_loopA hL J k hJ h
end
theorem ext1 {C : Nat → Prop} {i : Nat} (h : ∀ j, j < i → C j) (h1 : C i) : ∀ j, j < i + 1 → C j := fun j hj => by
  rcases Nat.lt_succ_iff_lt_or_eq.1 hj with h2 | rfl
  · exact h j h2
  · exact h1
theorem all_of {α : Type} {Q : α → Prop} {x : List α} {i : Nat} (hi : x.length ≤ i) (h : ∀ j, j < i → ∀ h : j < x.length, Q x[j]) : ∀ a ∈ x, Q a := fun a ha => by
  obtain ⟨j, hj, rfl⟩ := List.mem_iff_getElem.1 ha
  exact h j (by omega) hj
/-! ### Memory -/
def rowD : Option (Option (List AV)) → Nat → Option (List AV)
  | some (some cs), off => some (cs.drop off)
  | _, _ => none
def aliveD : Option (Option (List AV)) → Bool
  | some (some _) => true
  | _ => false
def viewD : Option (Option (List AV)) → Nat → Nat → Option (List AV)
  | some (some cs), off, n => if off + n ≤ cs.length then some ((cs.drop off).take n) else none
  | _, _, _ => none
theorem aview_mptr (M : MS) (id off : Nat) : aview M (.mptr id off) = rowD M[id]? off := by
  simp only [aview]
  rcases M[id]? with _ | _ | cs <;> rfl
theorem alive_eq (M : MS) (id : Nat) : aliveA M id = aliveD M[id]? := by
  simp only [aliveA]
  rcases M[id]? with _ | _ | cs <;> rfl
theorem view_ms (M : MS) (id off len sz : Nat) (cd : Bool) : view M (.ms id off len sz cd) = viewD M[id]? off (len * sz) := by
  simp only [view]
  rcases M[id]? with _ | _ | cs <;> rfl
theorem lenM_eq (M : MS) (x : AV) : lenM M x = (view M x).bind fun _ => lenOf x := by unfold lenM; split <;> simp_all
theorem lenM_ms (M : MS) (id off len sz : Nat) (cd : Bool) : lenM M (.ms id off len sz cd) = (viewD M[id]? off (len * sz)).map fun _ => len := by
  simp only [lenM, view_ms, lenOf]
  cases viewD M[id]? off (len * sz) <;> rfl
theorem rowD_s (cs : List AV) (off : Nat) : rowD (some (some cs)) off = some (cs.drop off) := rfl
theorem aliveD_s (cs : List AV) : aliveD (some (some cs)) = true := rfl
theorem viewD_s (cs : List AV) (off n : Nat) : viewD (some (some cs)) off n = if off + n ≤ cs.length then some ((cs.drop off).take n) else none := rfl
theorem get_app0 (M L : MS) : (M ++ L)[M.length]? = L[0]? := by rw [List.getElem?_append_right (Nat.le_refl _), Nat.sub_self]
theorem get_app (M L : MS) (k : Nat) : (M ++ L)[M.length + k]? = L[k]? := by rw [List.getElem?_append_right (Nat.le_add_right _ _), Nat.add_sub_cancel_left]
theorem set_app0 (M L : MS) (v : Option (List AV)) : (M ++ L).set M.length v = M ++ L.set 0 v := by rw [List.set_append_right _ _ (Nat.le_refl _), Nat.sub_self]
theorem set_app (M L : MS) (k : Nat) (v : Option (List AV)) : (M ++ L).set (M.length + k) v = M ++ L.set k v := by rw [List.set_append_right _ _ (Nat.le_add_right _ _), Nat.add_sub_cancel_left]
theorem dirt_own0 (n : Nat) (D : List Nat) : dirt n n D = D := if_neg (Nat.lt_irrefl n)
theorem dirt_own (n k : Nat) (D : List Nat) : dirt n (n + k) D = D := if_neg (by omega)
theorem list_set0 {α : Type} (a b : α) (l : List α) : (a :: l).set 0 b = b :: l := rfl
theorem list_setS {α : Type} (a b : α) (l : List α) (n : Nat) : (a :: l).set (n + 1) b = a :: l.set n b := rfl
theorem toNat_pred (n : Nat) : ((n : Int) - 1).toNat = n - 1 := by omega
theorem toNat_sub' (n m : Nat) : ((n : Int) - (m : Int)).toNat = n - m := by omega
theorem toNat_succ (n : Nat) : ((n : Int) + 1).toNat = n + 1 := by omega
theorem head?_at {α : Type} {l : List α} (h : 0 < l.length) : l.head? = some l[0] := by
  cases l with
  | nil => simp at h
  | cons a l => rfl
theorem ints_getE (l : List Int) (i : Nat) (h : i < (intsA l).length) : (intsA l)[i] = .flat (.int .i64 (l[i]'(by simpa [intsA] using h))) := by simp [intsA]
attribute [go_sem 10] head?_at
attribute [go_sem] ints_getE
attribute [go_sem] lenM_ms Nat.le_refl toNat_pred toNat_sub' toNat_succ Nat.sub_zero Nat.zero_mul Int.sub_zero aview_mptr alive_eq view_ms rowD_s aliveD_s viewD_s get_app0 get_app set_app0 set_app dirt_own0 dirt_own storeA list_set0 list_setS List.append_assoc splice Nat.add_assoc
/-- What a row cut out of a row is, whether the row is nil or not. -/
def sliceC (sz : Nat) (cs : List AV) (nl cd : Bool) (lo hi mx : Option AV) : Option Out :=
  match optNat 0 lo, optNat (cs.length / sz) hi, optNat (cs.length / sz) mx with
  | some l, some h, some m =>
    if l ≤ h ∧ h ≤ m ∧ m ≤ cs.length / sz ∧ (mx.isSome → hi.isSome) then
      some (.q (.list sz ((cs.drop (l * sz)).take ((h - l) * sz)) nl (if nl then cd else cutCapd mx m h (cd && decide (h = cs.length / sz))))) else none
  | _, _, _ => none
theorem slice_eq {sz : Nat} {cs : List AV} {nl cd : Bool} {lo hi mx : Option AV} (hn : nl = true → cs = []) : sliceA sz (.list sz cs nl cd) lo hi mx = sliceC sz cs nl cd lo hi mx := by
  cases nl with
  | false =>
    simp only [sliceA, sliceC, Bool.false_eq_true, if_false, false_or, true_and]
    generalize optNat 0 lo = a
    generalize optNat _ hi = b
    generalize optNat _ mx = c
    cases a <;> cases b <;> cases c <;> rfl
  | true =>
    rw [hn rfl]
    simp only [sliceA, sliceC, List.length_nil, Nat.zero_div, if_true, List.drop_nil, List.take_nil, true_or, true_and]
    generalize optNat 0 lo = a
    generalize optNat _ hi = b
    generalize optNat _ mx = c
    cases a <;> cases b <;> cases c <;> rfl
theorem slice_ints {l : List Int} {nl cd : Bool} {lo hi mx : Option AV} (hn : nl = true → l = []) : sliceA 1 (.list 1 (intsA l) nl cd) lo hi mx = sliceC 1 (intsA l) nl cd lo hi mx := slice_eq fun h => by rw [hn h]; rfl
theorem slice_map {α : Type} {f : α → AV} {l : List α} {nl cd : Bool} {lo hi mx : Option AV} (hn : nl = true → l = []) : sliceA 1 (.list 1 (l.map f) nl cd) lo hi mx = sliceC 1 (l.map f) nl cd lo hi mx := slice_eq fun h => by rw [hn h]; rfl
theorem slice_f {sz : Nat} {cs : List AV} {cd : Bool} {lo hi mx : Option AV} : sliceA sz (.list sz cs false cd) lo hi mx = sliceC sz cs false cd lo hi mx := slice_eq fun h => by cases h
theorem slice_t {sz : Nat} {lo hi mx : Option AV} : sliceA sz (.list sz [] true true) lo hi mx = sliceC sz [] true true lo hi mx := slice_eq fun _ => rfl
/-- .. out of a row of the call's own. -/
def sliceM (sz id off len : Nat) (cd : Bool) (lo hi mx : Option AV) : Option Out :=
  match optNat 0 lo, optNat len hi, optNat len mx with
  | some l, some h, some m =>
    if l ≤ h ∧ h ≤ m ∧ m ≤ len ∧ (mx.isSome → hi.isSome) then
      if l = 0 then some (.q (.ms id off h sz (cutCapd mx m h (cd && decide (h = len)))))
      else if h = l then none
      else some (.q (.ms id (off + l * sz) (h - l) sz (cutCapd mx m h (cd && decide (h = len)))))
    else none
  | _, _, _ => none
theorem slice_m {sz id off len : Nat} {cd : Bool} {lo hi mx : Option AV} : sliceA sz (.ms id off len sz cd) lo hi mx = sliceM sz id off len cd lo hi mx := by
  simp only [sliceA, sliceM, true_and]
  generalize optNat 0 lo = a
  generalize optNat _ hi = b
  generalize optNat _ mx = c
  cases a <;> cases b <;> cases c <;> rfl
attribute [go_sem] slice_ints slice_map slice_f slice_t slice_m sliceM
attribute [go_sem] sliceC List.take_length List.filter_nil false_or or_false ge_iff_le gt_iff_lt
end Go.Proofs.Ytopiaiibpacmlaa.Av
