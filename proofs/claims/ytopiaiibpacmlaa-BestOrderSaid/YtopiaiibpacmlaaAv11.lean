/- A region that draws its order: instructions that write nothing come to the same in whatever order; what is forced behind them comes in the text's. -/
import Derived.Test.YtopiaiibpacmlaaAv10
import Derived.Still
namespace Go.Proofs.Ytopiaiibpacmlaa.Av
open Go.RowKit
set_option linter.unusedSimpArgs false

/-- The operands of an instruction. -/
def I.os : I → List O
  | .mov x | .un _ x | .convI _ x | .convS x | .bytesOf x | .strOf x | .lenS x | .lenStr x | .load _ _ x | .box _ x | .fad _ x | .fld _ _ _ x | .ext _ x | .nilck x | .clear _ _ x => [x]
  | .pick c a b => [c, a, b]
  | .bin _ _ x y | .store _ x y | .mslice _ _ _ x y | .idx _ x y | .aidx _ _ x y | .ival _ _ _ x y | .istr x y | .app _ _ x y | .copy _ x y | .min x y | .max x y => [x, y]
  | .alloc _ | .stop => []
  | .build _ ps | .bslice _ _ _ ps => ps.map fun p => p.2.2
  | .slice _ x lo hi mx => x :: lo.toList ++ hi.toList ++ mx.toList
  | .sstr x lo hi => x :: lo.toList ++ hi.toList
  | .clo _ cs => cs
  | .call _ cs => cs
  | .calld f cs => f :: cs
def AOp.reads (o : AOp) : List Nat := o.i.os.flatMap O.reads ++ (match o.g with | some (t, _) => [t] | none => [])
theorem O.ev_congr {e e' : Env} {x : O} (h : ∀ t ∈ x.reads, e t = e' t) : x.ev e = x.ev e' := by
  cases x with
  | t n => exact h n (by simp [O.reads])
  | k v => rfl
theorem parts_congr {e e' : Env} {ps : List (Nat × Nat × O)} (h : ∀ x ∈ ps.map (fun p => p.2.2), x.ev e = x.ev e') : (ps.map fun (o, n, x) => (o, n, x.ev e)) = ps.map fun (o, n, x) => (o, n, x.ev e') := by
  refine List.map_congr_left fun p hp => ?_
  obtain ⟨o, n, x⟩ := p
  have := h x (List.mem_map.2 ⟨(o, n, x), hp, rfl⟩)
  simp only [this]
theorem os_congr {e e' : Env} {xs : List O} (h : ∀ x ∈ xs, x.ev e = x.ev e') : xs.map (·.ev e) = xs.map (·.ev e') := List.map_congr_left h
theorem oo_congr {e e' : Env} {x : Option O} (h : ∀ y ∈ x.toList, y.ev e = y.ev e') : x.map (·.ev e) = x.map (·.ev e') := by
  cases x with
  | none => rfl
  | some x => simp [h x (by simp)]
theorem evI_congr (call : Call) (base : Nat) (M : MS) (D : List Nat) {e e' : Env} {i : I} (h : ∀ x ∈ i.os, x.ev e = x.ev e') : evI call base e M D i = evI call base e' M D i := by
  cases i <;> simp only [I.os, List.mem_cons, List.not_mem_nil, or_false, forall_eq_or_imp, forall_eq, List.mem_append] at h <;> simp only [evI]
  case build zs ps => rw [parts_congr h]
  case bslice sz len zs ps => rw [parts_congr h]
  case slice sz x lo hi mx =>
    rw [h x (by simp), oo_congr (x := lo) fun y hy => h y (by simp [hy]), oo_congr (x := hi) fun y hy => h y (by simp [hy]), oo_congr (x := mx) fun y hy => h y (by simp [hy])]
  case sstr x lo hi =>
    rw [h x (by simp), oo_congr (x := lo) fun y hy => h y (by simp [hy]), oo_congr (x := hi) fun y hy => h y (by simp [hy])]
  case clo fn cs => rw [os_congr h]
  case call f cs => rw [os_congr h]
  case calld f cs => rw [h.1, os_congr h.2]
  all_goals simp [h]
theorem wantA_congr {e e' : Env} {g : Option (Nat × Bool)} (h : ∀ t b, g = some (t, b) → e t = e' t) : wantA e g = wantA e' g := by
  cases g with
  | none => rfl
  | some p => obtain ⟨t, b⟩ := p; simp [wantA, h t b rfl]
/-- One instruction that writes nothing. -/
def stepQ (call : Call) (base : Nat) (M : MS) (o : AOp) (env : Env) : Option AV :=
  match wantA env o.g with
  | some true => match evI call base env M [] o.i with
    | some (.q v) => some v
    | _ => none
  | some false => some (.flat undef)
  | none => none
theorem evQ_cons (call : Call) (base : Nat) (M : MS) (o : AOp) (r : List AOp) (env : Env) :
    evQ call base M (o :: r) env = (stepQ call base M o env).bind fun v => evQ call base M r (updO env o.dst v) := by
  simp only [evQ, stepQ]
  cases wantA env o.g with
  | none => rfl
  | some b => cases b
              · rfl
              · cases evI call base env M [] o.i with
                | none => rfl
                | some out => cases out <;> rfl
theorem stepQ_congr {call : Call} {base : Nat} {M : MS} {o : AOp} {e e' : Env} (h : ∀ t ∈ o.reads, e t = e' t) : stepQ call base M o e = stepQ call base M o e' := by
  have h1 : wantA e o.g = wantA e' o.g := wantA_congr fun t b hg => h t (by simp [AOp.reads, hg])
  have h2 : evI call base e M [] o.i = evI call base e' M [] o.i := evI_congr call base M [] fun x hx => O.ev_congr fun t ht => h t (by
    simp only [AOp.reads, List.mem_append, List.mem_flatMap]
    exact .inl ⟨x, hx, ht⟩)
  simp only [stepQ, h1, h2]

/-! ### Whatever order -/
/-- What a temporary holds when those of L have come. -/
def look : (Nat → Bool) → List (Option Nat × AV) → Nat → AV → AV
  | _, [], _, d => d
  | L, p :: ps, t, d => look (fun k => L (k + 1)) ps t (if L 0 = true ∧ p.1 = some t then p.2 else d)
theorem look_congr : ∀ {ps : List (Option Nat × AV)} {L L' : Nat → Bool} {t : Nat} {d : AV}, (∀ i p, ps[i]? = some p → p.1 = some t → L i = L' i) → look L ps t d = look L' ps t d
  | [], _, _, _, _, _ => rfl
  | p :: ps, L, L', t, d, h => by
    simp only [look]
    rw [look_congr (L := fun k => L (k + 1)) (L' := fun k => L' (k + 1)) fun i q hi ht => h (i + 1) q (by simpa using hi) ht]
    by_cases hp : p.1 = some t
    · rw [h 0 p (by simp) hp]
    · simp [hp]
theorem look_no : ∀ {ps : List (Option Nat × AV)} {L : Nat → Bool} {t : Nat} {d : AV}, (∀ i p, ps[i]? = some p → p.1 = some t → L i = false) → look L ps t d = d
  | [], _, _, _, _ => rfl
  | p :: ps, L, t, d, h => by
    simp only [look]
    rw [look_no (L := fun k => L (k + 1)) fun i q hi ht => h (i + 1) q (by simpa using hi) ht]
    by_cases hp : p.1 = some t
    · have := h 0 p (by simp) hp; simp [this]
    · simp [hp]
theorem look_put : ∀ {ps : List (Option Nat × AV)} {L : Nat → Bool} {j : Nat} {p : Option Nat × AV} {t : Nat} {d : AV}, ps[j]? = some p → (p.1 = some t → ∀ i q, j < i → ps[i]? = some q → q.1 = some t → L i = false) →
    look (fun k => if k = j then true else L k) ps t d = if p.1 = some t then p.2 else look L ps t d
  | [], _, _, _, _, _, hj, _ => by simp at hj
  | p0 :: ps, L, 0, p, t, d, hj, h => by
    simp at hj; subst hj
    simp only [look]
    by_cases hp : p0.1 = some t
    · simp only [hp, if_true]
      rw [look_no]
      · simp
      · intro i q hi ht
        simpa using h hp (i + 1) q (by omega) (by simpa using hi) ht
    · simp only [hp, and_false, if_false]
      exact look_congr fun i q hi ht => by simp
  | p0 :: ps, L, j + 1, p, t, d, hj, h => by
    simp only [look]
    have ih := look_put (ps := ps) (L := fun k => L (k + 1)) (j := j) (p := p) (t := t) (d := if L 0 = true ∧ p0.1 = some t then p0.2 else d) (by simpa using hj) (fun hp i q hi hq ht => h hp (i + 1) q (by omega) (by simpa using hq) ht)
    simpa using ih
/-- The run in the text's order, step by step. -/
theorem evQ_run (call : Call) (base : Nat) (M : MS) : ∀ (ops : List AOp) (env env1 : Env), evQ call base M ops env = some env1 →
    ∃ ps : List (Option Nat × AV), ps.map (·.1) = ops.map (·.dst) ∧ (∀ i o, ops[i]? = some o → ∃ v, ps[i]? = some (o.dst, v) ∧ stepQ call base M o (fun t => look (fun k => decide (k < i)) ps t (env t)) = some v) ∧
      ∀ t, env1 t = look (fun _ => true) ps t (env t)
  | [], env, env1, h => by simp [evQ] at h; subst h; exact ⟨[], rfl, fun i o h => by simp at h, fun t => rfl⟩
  | o :: r, env, env1, h => by
    rw [evQ_cons] at h
    cases hv : stepQ call base M o env with
    | none => rw [hv] at h; cases h
    | some v =>
      rw [hv] at h
      simp only [Option.bind_some] at h
      obtain ⟨ps, h1, h2, h3⟩ := evQ_run call base M r (updO env o.dst v) env1 h
      have hu : ∀ t, updO env o.dst v t = if o.dst = some t then v else env t := by
        intro t
        cases hd : o.dst with
        | none => simp [updO]
        | some d => simp only [updO, upd, Option.some.injEq]; by_cases htd : t = d
                    · subst htd; simp
                    · simp [htd, Ne.symm htd]
      refine ⟨(o.dst, v) :: ps, by simp [h1], fun i o' hi => ?_, fun t => ?_⟩
      · cases i with
        | zero =>
          simp at hi; subst hi
          refine ⟨v, by simp, ?_⟩
          rw [← hv]
          exact stepQ_congr fun t _ => look_no fun i p _ _ => by simp
        | succ i =>
          obtain ⟨v', e1, e2⟩ := h2 i o' (by simpa using hi)
          refine ⟨v', by simpa using e1, ?_⟩
          rw [← e2]
          exact stepQ_congr fun t _ => by simp only [look, hu]; simp
      · rw [h3 t]
        simp only [look, hu]; simp
end Go.Proofs.Ytopiaiibpacmlaa.Av
