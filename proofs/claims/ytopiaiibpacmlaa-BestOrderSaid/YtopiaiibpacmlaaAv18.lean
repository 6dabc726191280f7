/- The evaluator without a bound on its steps, and its rules. -/
import Derived.Test.YtopiaiibpacmlaaAv17
namespace Go.Proofs.Ytopiaiibpacmlaa.Av
open Go.RowKit
set_option linter.unusedSimpArgs false

def CLe (c c' : Call) : Prop := ∀ f args M out, c f args M = some out → c' f args M = some out
theorem evI_mono {c c' : Call} (h : CLe c c') {base : Nat} {env : Env} {M : MS} {D : List Nat} {i : I} {out : Out} (hi : evI c base env M D i = some out) : evI c' base env M D i = some out := by
  have callF : ∀ f args, evI.callA c base M D f args = some out → evI.callA c' base M D f args = some out := by
    intro f args h1
    simp only [evI.callA] at h1 ⊢
    split at h1
    · rename_i v hv; rw [h _ _ _ _ hv]; exact h1
    · rename_i v M' D' hv; rw [h _ _ _ _ hv]; exact h1
    · cases h1
  cases i
  case call f args => exact callF _ _ hi
  case calld f args =>
    simp only [evI] at hi ⊢
    split at hi
    · exact callF _ _ hi
    · cases hi
  all_goals exact hi
theorem evQ_mono {c c' : Call} (h : CLe c c') {base : Nat} {M : MS} : ∀ {ops : List AOp} {env env' : Env}, evQ c base M ops env = some env' → evQ c' base M ops env = some env'
  | [], _, _, hq => hq
  | o :: r, env, env', hq => by
    simp only [evQ] at hq ⊢
    split at hq
    · split at hq
      · rename_i v hv; rw [evI_mono h hv]; exact evQ_mono h hq
      · cases hq
    · exact evQ_mono h hq
    · cases hq
theorem evS_mono {c c' : Call} (h : CLe c c') {base : Nat} : ∀ {ops : List AOp} {env : Env} {M : MS} {D : List Nat} {r : Env × MS × List Nat}, evS c base ops env M D = some r → evS c' base ops env M D = some r
  | [], _, _, _, _, hq => hq
  | o :: r, env, M, D, x, hq => by
    simp only [evS] at hq ⊢
    split at hq
    · split at hq
      · rename_i v hv; rw [evI_mono h hv]; exact evS_mono h hq
      · rename_i v M' D' hv; rw [evI_mono h hv]; exact evS_mono h hq
      · cases hq
    · exact evS_mono h hq
    · cases hq
theorem evLoop_mono {f f' : Env → MS → List Nat → Option (Ex × Env × MS × List Nat)} (h : ∀ e M D r, f e M D = some r → f' e M D = some r) : ∀ {n n' : Nat} {e : Env} {M : MS} {D : List Nat} {r : Ex × Env × MS × List Nat}, n ≤ n' → evLoop f n e M D = some r → evLoop f' n' e M D = some r
  | 0, _, _, _, _, _, _, hq => by simp [evLoop] at hq
  | n + 1, n' + 1, e, M, D, r, hn, hq => by
    simp only [evLoop] at hq ⊢
    split at hq
    · rename_i e1 M1 D1 h1
      rw [h _ _ _ _ h1]
      exact evLoop_mono h (by omega) hq
    · rename_i hne
      rw [h _ _ _ _ hq]
      split
      · rename_i e1 M1 D1 h1
        cases h1
        exact absurd hq (hne _ _ _)
      · rfl
  | n + 1, 0, _, _, _, _, hn, _ => by omega
theorem evAC_mono {c c' : Call} (h : CLe c c') {base n n' : Nat} (hn : n ≤ n') : ∀ {a : AC} {env : Env} {M : MS} {D : List Nat} {r : Ex × Env × MS × List Nat}, evAC c base n a env M D = some r → evAC c' base n' a env M D = some r := by
  intro a
  induction a with
  | skip => intro env M D r hq; exact hq
  | exit id => intro env M D r hq; exact hq
  | ret => intro env M D r hq; exact hq
  | stop => intro env M D r hq; exact hq
  | seq a b iha ihb =>
    intro env M D r hq
    simp only [evAC] at hq ⊢
    split at hq
    · rename_i e1 M1 D1 h1
      rw [iha h1]; exact ihb hq
    · rename_i hne
      rw [iha hq]
      split
      · rename_i e1 M1 D1 h1
        cases h1; exact absurd hq (hne _ _ _)
      · rfl
  | cond o a b iha ihb =>
    intro env M D r hq
    simp only [evAC] at hq ⊢
    split at hq
    · exact iha hq
    · exact ihb hq
    · cases hq
  | block id a iha =>
    intro env M D r hq
    simp only [evAC] at hq ⊢
    split at hq
    · rename_i id' e1 M1 D1 h1
      rw [iha h1]; exact hq
    · rename_i hne
      rw [iha hq]
      split
      · rename_i id' e1 M1 D1 h1
        cases h1; exact absurd hq (hne _ _ _ _)
      · rfl
  | loop a iha =>
    intro env M D r hq
    simp only [evAC] at hq ⊢
    exact evLoop_mono (fun e M D r hr => iha hr) hn hq
  | region k ops =>
    intro env M D r hq
    simp only [evAC] at hq ⊢
    split at hq
    · rename_i e1 h1
      rw [evQ_mono h h1]
      simp only
      split at hq
      · rename_i e2 M2 D2 h2
        rw [evS_mono h h2]; exact hq
      · cases hq
    · cases hq
theorem evFn_mono1 (p : Pr) : ∀ n, CLe (evFn p n) (evFn p (n + 1))
  | 0 => fun f args M out h => by simp [evFn] at h
  | n + 1 => fun f args M out h => by
    rw [evFn] at h ⊢
    split at h
    · split at h
      · cases h
      · rename_i ex env' M' D' hne hev
        rw [evAC_mono (evFn_mono1 p n) (Nat.le_succ n) hev]
        cases ex with
        | exit id => exact absurd rfl (hne id)
        | nrm => exact h
        | ret => exact h
      · cases h
    · exact h
theorem evFn_mono {p : Pr} {n n' : Nat} (h : n ≤ n') : CLe (evFn p n) (evFn p n') := by
  induction h with
  | refl => exact fun _ _ _ _ h => h
  | step h ih => exact fun f args M out hh => evFn_mono1 p _ f args M out (ih f args M out hh)

open Classical in
noncomputable def Lim {α : Type} (F : Nat → Option α) : Option α := if h : ∃ x n, F n = some x then some h.choose else none
theorem lim_some {α : Type} {F : Nat → Option α} (hF : ∀ n n' x, n ≤ n' → F n = some x → F n' = some x) {x : α} : Lim F = some x ↔ ∃ n, F n = some x := by
  unfold Lim
  split
  · rename_i h
    obtain ⟨n, hn⟩ := h.choose_spec
    constructor
    · intro e; cases e; exact ⟨n, hn⟩
    · rintro ⟨m, hm⟩
      have h1 := hF n (n + m) _ (by omega) hn
      have h2 := hF m (n + m) _ (by omega) hm
      rw [h1] at h2; exact h2
  · rename_i h
    constructor
    · intro e; cases e
    · rintro ⟨m, hm⟩; exact absurd ⟨x, m, hm⟩ h
noncomputable def ev (p : Pr) : Call := fun f args M => Lim fun n => evFn p n f args M
noncomputable def evC (p : Pr) (base : Nat) (c : AC) (env : Env) (M : MS) (D : List Nat) : Option (Ex × Env × MS × List Nat) := Lim fun n => evAC (evFn p n) base n c env M D
section
variable {p : Pr} {base : Nat}
theorem ev_some {f : Nat} {args : List AV} {M : MS} {out : Out} : ev p f args M = some out ↔ ∃ n, evFn p n f args M = some out := lim_some fun _ _ _ h hh => evFn_mono h _ _ _ _ hh
theorem evC_some {c : AC} {env : Env} {M : MS} {D : List Nat} {r : Ex × Env × MS × List Nat} : evC p base c env M D = some r ↔ ∃ n, evAC (evFn p n) base n c env M D = some r := lim_some fun _ _ _ h hh => evAC_mono (evFn_mono h) h hh
theorem ev_le (n : Nat) : CLe (evFn p n) (ev p) := fun _ _ _ _ h => ev_some.2 ⟨n, h⟩
theorem evI_lim {env : Env} {M : MS} {D : List Nat} {i : I} {out : Out} (h : evI (ev p) base env M D i = some out) : ∃ n, evI (evFn p n) base env M D i = some out := by
  have callF : ∀ f args, evI.callA (ev p) base M D f args = some out → ∃ n, evI.callA (evFn p n) base M D f args = some out := by
    intro f args h1
    simp only [evI.callA] at h1 ⊢
    split at h1
    · rename_i v hv; obtain ⟨n, hn⟩ := ev_some.1 hv; exact ⟨n, by rw [hn]; exact h1⟩
    · rename_i v M' D' hv; obtain ⟨n, hn⟩ := ev_some.1 hv; exact ⟨n, by rw [hn]; exact h1⟩
    · cases h1
  cases i
  case call f args => exact callF _ _ h
  case calld f args =>
    simp only [evI] at h ⊢
    split at h
    · exact callF _ _ h
    · cases h
  all_goals exact ⟨0, h⟩
theorem evQ_lim {M : MS} : ∀ {ops : List AOp} {env env' : Env}, evQ (ev p) base M ops env = some env' → ∃ n, evQ (evFn p n) base M ops env = some env'
  | [], _, _, hq => ⟨0, hq⟩
  | o :: r, env, env', hq => by
    simp only [evQ] at hq ⊢
    split at hq
    · split at hq
      · rename_i v hv
        obtain ⟨n, hn⟩ := evI_lim hv
        obtain ⟨m, hm⟩ := evQ_lim hq
        refine ⟨n + m, ?_⟩
        rw [evI_mono (evFn_mono (Nat.le_add_right n m)) hn]
        exact evQ_mono (evFn_mono (Nat.le_add_left m n)) hm
      · cases hq
    · exact evQ_lim hq
    · cases hq
theorem evS_lim : ∀ {ops : List AOp} {env : Env} {M : MS} {D : List Nat} {r : Env × MS × List Nat}, evS (ev p) base ops env M D = some r → ∃ n, evS (evFn p n) base ops env M D = some r
  | [], _, _, _, _, hq => ⟨0, hq⟩
  | o :: r, env, M, D, x, hq => by
    simp only [evS] at hq ⊢
    split at hq
    · split at hq
      · rename_i v hv
        obtain ⟨n, hn⟩ := evI_lim hv
        obtain ⟨m, hm⟩ := evS_lim hq
        refine ⟨n + m, ?_⟩
        rw [evI_mono (evFn_mono (Nat.le_add_right n m)) hn]
        exact evS_mono (evFn_mono (Nat.le_add_left m n)) hm
      · rename_i v M1 D1 hv
        obtain ⟨n, hn⟩ := evI_lim hv
        obtain ⟨m, hm⟩ := evS_lim hq
        refine ⟨n + m, ?_⟩
        rw [evI_mono (evFn_mono (Nat.le_add_right n m)) hn]
        exact evS_mono (evFn_mono (Nat.le_add_left m n)) hm
      · cases hq
    · exact evS_lim hq
    · cases hq

/-! ### What holds behind a piece of code -/
abbrev Post := Ex → Env → MS → List Nat → Prop
def W (p : Pr) (base : Nat) (c : AC) (env : Env) (M : MS) (D : List Nat) (Q : Post) : Prop := ∃ ex env' M' D', evC p base c env M D = some (ex, env', M', D') ∧ Q ex env' M' D'
theorem W.mono {c : AC} {env : Env} {M : MS} {D : List Nat} {Q Q' : Post} (h : W p base c env M D Q) (hq : ∀ ex e m d, Q ex e m d → Q' ex e m d) : W p base c env M D Q' := by
  obtain ⟨ex, e, m, d, h1, h2⟩ := h
  exact ⟨ex, e, m, d, h1, hq _ _ _ _ h2⟩
theorem W_one {c : AC} {env : Env} {M : MS} {D : List Nat} {Q : Post} {ex : Ex} (h : ∀ n, evAC (evFn p n) base n c env M D = some (ex, env, M, D)) (hQ : Q ex env M D) : W p base c env M D Q :=
  ⟨ex, env, M, D, evC_some.2 ⟨0, h 0⟩, hQ⟩
theorem W_skip {env : Env} {M : MS} {D : List Nat} {Q : Post} (h : Q .nrm env M D) : W p base .skip env M D Q := W_one (fun _ => rfl) h
theorem W_exit {id : Nat} {env : Env} {M : MS} {D : List Nat} {Q : Post} (h : Q (.exit id) env M D) : W p base (.exit id) env M D Q := W_one (fun _ => rfl) h
theorem W_ret {env : Env} {M : MS} {D : List Nat} {Q : Post} (h : Q .ret env M D) : W p base .ret env M D Q := W_one (fun _ => rfl) h
/-- What holds behind the first of two. -/
def thenW (p : Pr) (base : Nat) (b : AC) (Q : Post) : Post := fun ex e m d => match ex with
  | .nrm => W p base b e m d Q
  | _ => Q ex e m d
theorem W_seq {a b : AC} {env : Env} {M : MS} {D : List Nat} {Q : Post} (h : W p base a env M D (thenW p base b Q)) : W p base (.seq a b) env M D Q := by
  obtain ⟨ex, e, m, d, h1, h2⟩ := h
  obtain ⟨n, hn⟩ := evC_some.1 h1
  cases ex with
  | nrm =>
    obtain ⟨ex, e', m', d', h3, h4⟩ := h2
    obtain ⟨k, hk⟩ := evC_some.1 h3
    refine ⟨ex, e', m', d', evC_some.2 ⟨n + k, ?_⟩, h4⟩
    rw [evAC, evAC_mono (evFn_mono (Nat.le_add_right n k)) (Nat.le_add_right n k) hn]
    exact evAC_mono (evFn_mono (Nat.le_add_left k n)) (Nat.le_add_left k n) hk
  | exit id => exact ⟨_, e, m, d, evC_some.2 ⟨n, by rw [evAC, hn]⟩, h2⟩
  | ret => exact ⟨_, e, m, d, evC_some.2 ⟨n, by rw [evAC, hn]⟩, h2⟩
theorem W_cond {o : O} {a b : AC} {env : Env} {M : MS} {D : List Nat} {Q : Post} {t : Bool} (ht : o.ev env = .flat (.bool t)) (h : W p base (bif t then a else b) env M D Q) : W p base (.cond o a b) env M D Q := by
  obtain ⟨ex, e, m, d, h1, h2⟩ := h
  obtain ⟨n, hn⟩ := evC_some.1 h1
  refine ⟨ex, e, m, d, evC_some.2 ⟨n, ?_⟩, h2⟩
  rw [evAC, ht]
  cases t <;> exact hn
/-- A branch on what is so or not. -/
theorem W_cond' {o : O} {a b : AC} {env : Env} {M : MS} {D : List Nat} {Q : Post} {t : Prop} [Decidable t] (ht : o.ev env = .flat (.bool (decide t))) (h1 : t → W p base a env M D Q) (h2 : ¬ t → W p base b env M D Q) : W p base (.cond o a b) env M D Q := by
  refine W_cond ht ?_
  by_cases hh : t
  · simpa [hh] using h1 hh
  · simpa [hh] using h2 hh
def blkW (id : Nat) (Q : Post) : Post := fun ex e m d => match ex with
  | .exit id' => if id' = id then Q .nrm e m d else Q (.exit id') e m d
  | ex => Q ex e m d
theorem W_block {id : Nat} {a : AC} {env : Env} {M : MS} {D : List Nat} {Q : Post} (h : W p base a env M D (blkW id Q)) : W p base (.block id a) env M D Q := by
  obtain ⟨ex, e, m, d, h1, h2⟩ := h
  obtain ⟨n, hn⟩ := evC_some.1 h1
  cases ex with
  | nrm => exact ⟨_, e, m, d, evC_some.2 ⟨n, by rw [evAC, hn]⟩, h2⟩
  | ret => exact ⟨_, e, m, d, evC_some.2 ⟨n, by rw [evAC, hn]⟩, h2⟩
  | exit id' =>
    simp only [blkW] at h2
    by_cases hid : id' = id
    · rw [if_pos hid] at h2; exact ⟨_, e, m, d, evC_some.2 ⟨n, by rw [evAC, hn]; simp [hid]⟩, h2⟩
    · rw [if_neg hid] at h2; exact ⟨_, e, m, d, evC_some.2 ⟨n, by rw [evAC, hn]; simp [hid]⟩, h2⟩
theorem W_loop1 {a : AC} {env : Env} {M : MS} {D : List Nat} {Q : Post} (h : W p base a env M D (thenW p base (.loop a) Q)) : W p base (.loop a) env M D Q := by
  obtain ⟨ex, e, m, d, h1, h2⟩ := h
  obtain ⟨n, hn⟩ := evC_some.1 h1
  cases ex with
  | nrm =>
    obtain ⟨ex, e', m', d', h3, h4⟩ := h2
    obtain ⟨k, hk⟩ := evC_some.1 h3
    refine ⟨ex, e', m', d', evC_some.2 ⟨n + k + 1, ?_⟩, h4⟩
    rw [evAC, evLoop, evAC_mono (evFn_mono (by omega)) (by omega) hn]
    rw [evAC] at hk
    exact evLoop_mono (fun _ _ _ _ => evAC_mono (evFn_mono (by omega)) (by omega)) (by omega) hk
  | exit id => exact ⟨_, e, m, d, evC_some.2 ⟨n + 1, by rw [evAC, evLoop, evAC_mono (evFn_mono (by omega)) (by omega) hn]⟩, h2⟩
  | ret => exact ⟨_, e, m, d, evC_some.2 ⟨n + 1, by rw [evAC, evLoop, evAC_mono (evFn_mono (by omega)) (by omega) hn]⟩, h2⟩
/-- A loop, by what holds ahead of each round; k goes down. -/
def roundW (J : Nat → Env → MS → List Nat → Prop) (k : Nat) (Q : Post) : Post := fun ex e m d => match ex with
  | .nrm => ∃ k', k' < k ∧ J k' e m d
  | _ => Q ex e m d
theorem W_loop {a : AC} {env : Env} {M : MS} {D : List Nat} {Q : Post} (J : Nat → Env → MS → List Nat → Prop) (k : Nat) (hJ : J k env M D) (h : ∀ k e m d, J k e m d → W p base a e m d (roundW J k Q)) : W p base (.loop a) env M D Q := by
  induction k using Nat.strongRecOn generalizing env M D with
  | _ k ih =>
    refine W_loop1 ((h k env M D hJ).mono fun ex e m d hq => ?_)
    cases ex with
    | nrm => obtain ⟨k', h1, h2⟩ := hq; exact ih k' h1 h2
    | exit id => exact hq
    | ret => exact hq
/-- What an instruction comes to, and what holds then. -/
def kQ (r : Option Out) (F : AV → Prop) (X : AV → MS → List Nat → Prop) : Prop := match r with
  | some (.q v) => F v
  | some (.x v M D) => X v M D
  | none => False
def kW (r : Option Bool) (T F : Prop) : Prop := match r with
  | some true => T
  | some false => F
  | none => False
/-- Instructions; k of them write nothing. -/
def WS (p : Pr) (base : Nat) : Nat → List AOp → Env → MS → List Nat → (Env → MS → List Nat → Prop) → Prop
  | _, [], env, M, D, Q => Q env M D
  | k, o :: r, env, M, D, Q => kW (wantA env o.g) (kQ (evI (ev p) base env M (match k with | 0 => D | _ + 1 => []) o.i) (fun v => WS p base (k - 1) r (updO env o.dst v) M D Q) (fun v M' D' => k = 0 ∧ WS p base 0 r (updO env o.dst v) M' D' Q))
      (WS p base (k - 1) r (updO env o.dst (.flat undef)) M D Q)
theorem WS_zero : ∀ {ops : List AOp} {env : Env} {M : MS} {D : List Nat} {Q : Env → MS → List Nat → Prop}, WS p base 0 ops env M D Q → ∃ e m d, evS (ev p) base ops env M D = some (e, m, d) ∧ Q e m d
  | [], env, M, D, Q, h => ⟨env, M, D, rfl, h⟩
  | o :: r, env, M, D, Q, h => by
    simp only [WS, kW, kQ] at h
    rw [evS]
    split at h
    · rename_i hw
      rw [hw]
      split at h
      · rename_i v hv; simp only [hv]; exact WS_zero h
      · rename_i v M' D' hv; simp only [hv]; exact WS_zero h.2
      · cases h
    · rename_i hw; rw [hw]; exact WS_zero h
    · cases h
theorem WS_q : ∀ {k : Nat} {ops : List AOp} {env : Env} {M : MS} {D : List Nat} {Q : Env → MS → List Nat → Prop}, WS p base k ops env M D Q → ∃ env1, evQ (ev p) base M (ops.take k) env = some env1 ∧ WS p base 0 (ops.drop k) env1 M D Q
  | 0, ops, env, M, D, Q, h => ⟨env, by simp [evQ], by simpa using h⟩
  | k + 1, [], env, M, D, Q, h => ⟨env, by simp [evQ], by simpa [WS] using h⟩
  | k + 1, o :: r, env, M, D, Q, h => by
    simp only [WS, kW, kQ, Nat.add_eq_zero_iff, Nat.one_ne_zero, and_false, if_false, false_and, Nat.add_sub_cancel] at h
    simp only [List.take_succ_cons, List.drop_succ_cons]
    rw [evQ]
    split at h
    · rename_i hw
      rw [hw]
      split at h
      · rename_i v hv; simp only [hv]; exact WS_q h
      · cases h
      · cases h
    · rename_i hw; rw [hw]; exact WS_q h
    · cases h
theorem W_region {k : Nat} {ops : List AOp} {env : Env} {M : MS} {D : List Nat} {Q : Post} (h : WS p base k ops env M D (Q .nrm)) : W p base (.region k ops) env M D Q := by
  obtain ⟨e1, h1, h2⟩ := WS_q h
  obtain ⟨e, m, d, h3, h4⟩ := WS_zero h2
  obtain ⟨n1, hn1⟩ := evQ_lim h1
  obtain ⟨n2, hn2⟩ := evS_lim h3
  refine ⟨.nrm, e, m, d, evC_some.2 ⟨n1 + n2, ?_⟩, h4⟩
  rw [evAC, evQ_mono (evFn_mono (Nat.le_add_right n1 n2)) hn1]
  simp only
  rw [evS_mono (evFn_mono (Nat.le_add_left n2 n1)) hn2]
/-! ### Rules for rewriting -/
theorem W_one_i {c : AC} {env : Env} {M : MS} {D : List Nat} {Q : Post} {ex : Ex} (h : ∀ n, evAC (evFn p n) base n c env M D = some (ex, env, M, D)) : W p base c env M D Q ↔ Q ex env M D :=
  ⟨fun ⟨ex', e, m, d, h1, h2⟩ => by
    obtain ⟨n, hn⟩ := evC_some.1 h1
    rw [h n] at hn; cases hn; exact h2, fun hQ => W_one h hQ⟩
theorem W_skip_i {env : Env} {M : MS} {D : List Nat} {Q : Post} : W p base .skip env M D Q ↔ Q .nrm env M D := W_one_i fun _ => rfl
theorem W_exit_i {id : Nat} {env : Env} {M : MS} {D : List Nat} {Q : Post} : W p base (.exit id) env M D Q ↔ Q (.exit id) env M D := W_one_i fun _ => rfl
theorem W_ret_i {env : Env} {M : MS} {D : List Nat} {Q : Post} : W p base .ret env M D Q ↔ Q .ret env M D := W_one_i fun _ => rfl
theorem W_seq_i {a b : AC} {env : Env} {M : MS} {D : List Nat} {Q : Post} : W p base (.seq a b) env M D Q ↔ W p base a env M D (thenW p base b Q) := by
  refine ⟨?_, W_seq⟩
  rintro ⟨ex, e, m, d, h1, h2⟩
  obtain ⟨n, hn⟩ := evC_some.1 h1
  rw [evAC] at hn
  split at hn
  · rename_i e1 m1 d1 h3
    exact ⟨.nrm, e1, m1, d1, evC_some.2 ⟨n, h3⟩, ex, e, m, d, evC_some.2 ⟨n, hn⟩, h2⟩
  · rename_i hne
    refine ⟨ex, e, m, d, evC_some.2 ⟨n, hn⟩, ?_⟩
    cases ex with
    | nrm => exact absurd hn (hne _ _ _)
    | exit id => exact h2
    | ret => exact h2
theorem W_block_i {id : Nat} {a : AC} {env : Env} {M : MS} {D : List Nat} {Q : Post} : W p base (.block id a) env M D Q ↔ W p base a env M D (blkW id Q) := by
  refine ⟨?_, W_block⟩
  rintro ⟨ex, e, m, d, h1, h2⟩
  obtain ⟨n, hn⟩ := evC_some.1 h1
  rw [evAC] at hn
  split at hn
  · rename_i id' e1 m1 d1 h3
    refine ⟨_, e1, m1, d1, evC_some.2 ⟨n, h3⟩, ?_⟩
    simp only [blkW]
    split at hn
    · rename_i he; cases hn; rw [if_pos he]; exact h2
    · rename_i he; cases hn; rw [if_neg he]; exact h2
  · rename_i hne
    refine ⟨ex, e, m, d, evC_some.2 ⟨n, hn⟩, ?_⟩
    cases ex with
    | nrm => exact h2
    | exit id => exact absurd hn (hne _ _ _ _)
    | ret => exact h2
theorem W_cond_i {o : O} {a b : AC} {env : Env} {M : MS} {D : List Nat} {Q : Post} : W p base (.cond o a b) env M D Q ↔ kW (asBool (o.ev env)) (W p base a env M D Q) (W p base b env M D Q) := by
  constructor
  · rintro ⟨ex, e, m, d, h1, h2⟩
    obtain ⟨n, hn⟩ := evC_some.1 h1
    rw [evAC] at hn
    split at hn
    · rename_i hb; rw [hb]; exact ⟨ex, e, m, d, evC_some.2 ⟨n, hn⟩, h2⟩
    · rename_i hb; rw [hb]; exact ⟨ex, e, m, d, evC_some.2 ⟨n, hn⟩, h2⟩
    · cases hn
  · intro h
    cases hb : asBool (o.ev env) with
    | none => rw [hb] at h; exact h.elim
    | some t =>
      rw [hb] at h
      cases t with
      | true =>
        obtain ⟨ex, e, m, d, h1, h2⟩ := h
        obtain ⟨n, hn⟩ := evC_some.1 h1
        exact ⟨ex, e, m, d, evC_some.2 ⟨n, by rw [evAC, hb]; exact hn⟩, h2⟩
      | false =>
        obtain ⟨ex, e, m, d, h1, h2⟩ := h
        obtain ⟨n, hn⟩ := evC_some.1 h1
        exact ⟨ex, e, m, d, evC_some.2 ⟨n, by rw [evAC, hb]; exact hn⟩, h2⟩
theorem WS_of_zero : ∀ {ops : List AOp} {env : Env} {M : MS} {D : List Nat} {Q : Env → MS → List Nat → Prop} {e : Env} {m : MS} {d : List Nat}, evS (ev p) base ops env M D = some (e, m, d) → Q e m d → WS p base 0 ops env M D Q
  | [], env, M, D, Q, e, m, d, h, hQ => by
    simp only [evS, Option.some.injEq, Prod.mk.injEq] at h
    obtain ⟨rfl, rfl, rfl⟩ := h; exact hQ
  | o :: r, env, M, D, Q, e, m, d, h, hQ => by
    rw [evS] at h
    simp only [WS]
    split at h
    · rename_i hw
      rw [hw]
      show kQ _ _ _
      split at h
      · rename_i v hv; rw [hv]; exact WS_of_zero h hQ
      · rename_i v M' D' hv; rw [hv]; exact ⟨trivial, WS_of_zero h hQ⟩
      · cases h
    · rename_i hw; rw [hw]; exact WS_of_zero h hQ
    · cases h
theorem WS_of_q : ∀ {k : Nat} {ops : List AOp} {env env1 : Env} {M : MS} {D : List Nat} {Q : Env → MS → List Nat → Prop}, evQ (ev p) base M (ops.take k) env = some env1 → WS p base 0 (ops.drop k) env1 M D Q → WS p base k ops env M D Q
  | 0, ops, env, env1, M, D, Q, h, h2 => by simp [evQ] at h; subst h; simpa using h2
  | k + 1, [], env, env1, M, D, Q, h, h2 => by simp [evQ] at h; subst h; simpa [WS] using h2
  | k + 1, o :: r, env, env1, M, D, Q, h, h2 => by
    simp only [List.take_succ_cons, List.drop_succ_cons] at h h2
    rw [evQ] at h
    simp only [WS, Nat.add_sub_cancel]
    split at h
    · rename_i hw
      rw [hw]
      show kQ _ _ _
      split at h
      · rename_i v hv; rw [hv]; exact WS_of_q h h2
      · cases h
    · rename_i hw; rw [hw]; exact WS_of_q h h2
    · cases h
theorem W_region_i {k : Nat} {ops : List AOp} {env : Env} {M : MS} {D : List Nat} {Q : Post} : W p base (.region k ops) env M D Q ↔ WS p base k ops env M D (Q .nrm) := by
  refine ⟨?_, W_region⟩
  rintro ⟨ex, e, m, d, h1, h2⟩
  obtain ⟨n, hn⟩ := evC_some.1 h1
  rw [evAC] at hn
  split at hn
  · rename_i e1 hq
    split at hn
    · rename_i e2 m2 d2 hS
      cases hn
      exact WS_of_q (evQ_mono (ev_le n) hq) (WS_of_zero (evS_mono (ev_le n) hS) h2)
    · cases hn
  · cases hn
theorem thenW_n (b : AC) (Q : Post) (e : Env) (m : MS) (d : List Nat) : thenW p base b Q .nrm e m d = W p base b e m d Q := rfl
theorem thenW_e (b : AC) (Q : Post) (i : Nat) (e : Env) (m : MS) (d : List Nat) : thenW p base b Q (.exit i) e m d = Q (.exit i) e m d := rfl
theorem thenW_r (b : AC) (Q : Post) (e : Env) (m : MS) (d : List Nat) : thenW p base b Q .ret e m d = Q .ret e m d := rfl
theorem blkW_n (i : Nat) (Q : Post) (e : Env) (m : MS) (d : List Nat) : blkW i Q .nrm e m d = Q .nrm e m d := rfl
theorem blkW_e (i j : Nat) (Q : Post) (e : Env) (m : MS) (d : List Nat) : blkW i Q (.exit j) e m d = if j = i then Q .nrm e m d else Q (.exit j) e m d := rfl
theorem blkW_r (i : Nat) (Q : Post) (e : Env) (m : MS) (d : List Nat) : blkW i Q .ret e m d = Q .ret e m d := rfl
theorem roundW_n (J : Nat → Env → MS → List Nat → Prop) (k : Nat) (Q : Post) (e : Env) (m : MS) (d : List Nat) : roundW J k Q .nrm e m d = ∃ k', k' < k ∧ J k' e m d := rfl
theorem roundW_e (J : Nat → Env → MS → List Nat → Prop) (k : Nat) (Q : Post) (i : Nat) (e : Env) (m : MS) (d : List Nat) : roundW J k Q (.exit i) e m d = Q (.exit i) e m d := rfl
theorem roundW_r (J : Nat → Env → MS → List Nat → Prop) (k : Nat) (Q : Post) (e : Env) (m : MS) (d : List Nat) : roundW J k Q .ret e m d = Q .ret e m d := rfl
theorem kW_dec (P : Prop) [Decidable P] (T F : Prop) : kW (some (decide P)) T F ↔ (P → T) ∧ (¬ P → F) := by
  by_cases h : P <;> simp [h, kW]
theorem kW_not (P : Bool) (T F : Prop) : kW (some (!P)) T F ↔ kW (some P) F T := by cases P <;> rfl
theorem kW_bool (P : Bool) (T F : Prop) : kW (some P) T F ↔ (P = true → T) ∧ (P = false → F) := by cases P <;> simp [kW]
@[congr] theorem blkW_congr (i : Nat) (Q : Post) : blkW i Q = blkW i Q := rfl
@[congr] theorem roundW_congr (J : Nat → Env → MS → List Nat → Prop) (k : Nat) (Q : Post) : roundW J k Q = roundW J k Q := rfl
theorem upd_lit (e : Env) (t x : Nat) (v : AV) : upd e t v x = if x = t then v else e x := rfl
@[congr] theorem kQ_congr {r r' : Option Out} (h : r = r') (F : AV → Prop) (X : AV → MS → List Nat → Prop) : kQ r F X = kQ r' F X := by rw [h]
@[congr] theorem kW_congr {r r' : Option Bool} (h : r = r') (T F : Prop) : kW r T F = kW r' T F := by rw [h]
@[congr] theorem WS_congr (p : Pr) (base k : Nat) (ops : List AOp) (env : Env) (M : MS) (D : List Nat) (Q : Env → MS → List Nat → Prop) : WS p base k ops env M D Q = WS p base k ops env M D Q := rfl
@[congr] theorem W_congr (p : Pr) (base : Nat) (c : AC) (env : Env) (M : MS) (D : List Nat) (Q : Post) : W p base c env M D Q = W p base c env M D Q := rfl
@[congr] theorem thenW_congr (p : Pr) (base : Nat) (c : AC) (Q : Post) : thenW p base c Q = thenW p base c Q := rfl
theorem kQ_q (v : AV) (F : AV → Prop) (X : AV → MS → List Nat → Prop) : kQ (some (.q v)) F X = F v := rfl
theorem kQ_x (v : AV) (M : MS) (D : List Nat) (F : AV → Prop) (X : AV → MS → List Nat → Prop) : kQ (some (.x v M D)) F X = X v M D := rfl
theorem kW_t (T F : Prop) : kW (some true) T F = T := rfl
theorem kW_f (T F : Prop) : kW (some false) T F = F := rfl
theorem WS_nil (k : Nat) (env : Env) (M : MS) (D : List Nat) (Q : Env → MS → List Nat → Prop) : WS p base k [] env M D Q = Q env M D := rfl
theorem WS_c0 (i : I) (d : Option Nat) (r : List AOp) (env : Env) (M : MS) (D : List Nat) (Q : Env → MS → List Nat → Prop) : WS p base 0 (⟨d, i, none⟩ :: r) env M D Q =
    kQ (evI (ev p) base env M D i) (fun v => WS p base 0 r (updO env d v) M D Q) (fun v M' D' => WS p base 0 r (updO env d v) M' D' Q) := by
  simp [WS, wantA, kW]
theorem WS_c1 (k : Nat) (i : I) (d : Option Nat) (r : List AOp) (env : Env) (M : MS) (D : List Nat) (Q : Env → MS → List Nat → Prop) : WS p base (k + 1) (⟨d, i, none⟩ :: r) env M D Q =
    kQ (evI (ev p) base env M [] i) (fun v => WS p base k r (updO env d v) M D Q) (fun _ _ _ => False) := by
  simp [WS, wantA, kW]
theorem WS_g0 (i : I) (d : Option Nat) (g : Nat × Bool) (r : List AOp) (env : Env) (M : MS) (D : List Nat) (Q : Env → MS → List Nat → Prop) : WS p base 0 (⟨d, i, some g⟩ :: r) env M D Q =
    kW (wantA env (some g)) (kQ (evI (ev p) base env M D i) (fun v => WS p base 0 r (updO env d v) M D Q) (fun v M' D' => WS p base 0 r (updO env d v) M' D' Q)) (WS p base 0 r (updO env d (.flat undef)) M D Q) := by
  simp [WS]
theorem WS_g1 (k : Nat) (i : I) (d : Option Nat) (g : Nat × Bool) (r : List AOp) (env : Env) (M : MS) (D : List Nat) (Q : Env → MS → List Nat → Prop) : WS p base (k + 1) (⟨d, i, some g⟩ :: r) env M D Q =
    kW (wantA env (some g)) (kQ (evI (ev p) base env M [] i) (fun v => WS p base k r (updO env d v) M D Q) (fun _ _ _ => False)) (WS p base k r (updO env d (.flat undef)) M D Q) := by
  simp [WS]
theorem ev_fn {f : Nat} {af : AF} {args : List AV} {M : MS} {out : Out} (hA : p.A f = some af)
    (h : W p M.length af.body (env0 args) M [] fun ex e m d => (ex = .nrm ∨ ex = .ret) ∧ (resA e m af.res).bind (fun vs => fin M.length af.keep (tupA vs) m d) = some out) : ev p f args M = some out := by
  obtain ⟨ex, e, m, d, h1, h2, h3⟩ := h
  obtain ⟨n, hn⟩ := evC_some.1 h1
  refine ev_some.2 ⟨n + 1, ?_⟩
  rw [evFn, hA]
  simp only [hn]
  cases hr : resA e m af.res with
  | none => rw [hr] at h3; cases h3
  | some vs =>
    rw [hr] at h3
    rcases h2 with rfl | rfl <;> (simp only [hr]; exact h3)
theorem ev_ext {f : Nat} {args : List AV} {M : MS} (hA : p.A f = none) : ev p f args M = p.ext f args M := by
  cases h : p.ext f args M with
  | some out => exact ev_some.2 ⟨1, by rw [evFn, hA]; exact h⟩
  | none =>
    cases h2 : ev p f args M with
    | none => rfl
    | some out =>
      obtain ⟨n, hn⟩ := ev_some.1 h2
      cases n with
      | zero => simp [evFn] at hn
      | succ n => rw [evFn, hA] at hn; simp only at hn; rw [h] at hn; cases hn
theorem ev_ok {P : Program} (HP : PrOk P p) : CallOk P (ev p) :=
  ⟨fun f args M out h => by obtain ⟨n, hn⟩ := ev_some.1 h; exact (evFn_ok HP n).ok _ _ _ _ hn,
   fun f args M out h => by obtain ⟨n, hn⟩ := ev_some.1 h; exact (evFn_ok HP n).snd _ _ _ _ hn,
   fun f args M v M' D h => by obtain ⟨n, hn⟩ := ev_some.1 h; exact (evFn_ok HP n).frame _ _ _ _ _ _ hn⟩
end
end Go.Proofs.Ytopiaiibpacmlaa.Av
