/- A region that draws its order. -/
import Derived.Test.YtopiaiibpacmlaaAv12
namespace Go.Proofs.Ytopiaiibpacmlaa.Av
open Go.RowKit
set_option linter.unusedSimpArgs false

theorem getD_both {listed : Array Bool} {i : Nat} (h : listed.getD i true = false) : listed.getD i false = false := by
  rcases Nat.lt_or_ge i listed.size with hl | hl
  · simpa [Array.getD, hl] using h
  · simp [Array.getD, Nat.not_lt.2 hl]
def waitsB (ops : Array Oper) (j i : Nat) : Bool :=
  match ops[j]? with
  | some oj => oj.after.any fun e => Region.binds .any e && e.on == i
  | none => false
def apartA (x y : AOp) : Bool :=
  (match x.dst with
   | some d => !(y.reads.contains d) && y.dst != some d
   | none => true) &&
  (match y.dst with
   | some d => !(x.reads.contains d)
   | none => true)
def backB (ops : Array Oper) : Bool :=
  (List.range ops.size).all fun j => match ops[j]? with
    | some o => o.after.all fun e => !Region.binds .any e || decide (e.on < j)
    | none => true
def pairsB (ops : Array Oper) (as : List AOp) (n : Nat) : Bool :=
  (List.range n).all fun j => (List.range j).all fun i => waitsB ops j i || (match as[i]?, as[j]? with
    | some x, some y => apartA x y
    | _, _ => false)
/-- An instruction that reads no memory. -/
def I.free : I → Bool
  | .mov _ | .pick .. | .bin .. | .un .. | .convI .. | .convS _ | .lenStr _ | .ext .. | .min .. | .max .. => true
  | _ => false
def freeA (as : List AOp) (i : Nat) : Bool := match as[i]? with
  | some o => o.i.free
  | none => false
/-- Operation n waits for i, by others of the head or itself. -/
def sunkB (ops : Array Oper) (n : Nat) : Nat → Nat → Bool
  | 0, _ => false
  | f + 1, i => (List.range (n + 1)).any fun j => decide (i < j) && (waitsB ops j i && (decide (j = n) || sunkB ops n f j))
def headB (ops : Array Oper) (as : List AOp) (n : Nat) : Bool := decide (n = ops.size) || (List.range n).all fun i => sunkB ops n (n + 1) i || (freeA as i && (List.range ops.size).all fun j => decide (j < n) || ((List.range (j + 1)).any fun k => decide (n ≤ k) && waitsB ops k i) || (match as[i]?, as[j]? with
    | some x, some y => apartA x y
    | _, _ => false))
def chainB (ops : Array Oper) (n : Nat) : Bool := (List.range ops.size).all fun t => decide (t ≤ n) || waitsB ops t (t - 1)
def orderB (ops : Array Oper) (as : List AOp) (n : Nat) : Bool := decide (n ≤ ops.size) && (chainB ops n && (backB ops && (pairsB ops as n && headB ops as n)))

theorem waitsB_inv {ops : Array Oper} {j i : Nat} (h : waitsB ops j i = true) : ∃ oj, ops[j]? = some oj ∧ ∃ e ∈ oj.after, Region.binds .any e = true ∧ e.on = i := by
  unfold waitsB at h
  split at h
  · rename_i oj hj
    obtain ⟨e, he, hb⟩ := Array.any_eq_true'.1 h
    simp only [Bool.and_eq_true, beq_iff_eq] at hb
    exact ⟨oj, hj, e, he, hb.1, hb.2⟩
  · cases h
theorem backB_inv {ops : Array Oper} (h : backB ops = true) {j : Nat} {o : Oper} (ho : ops[j]? = some o) {e : Edge} (he : e ∈ o.after) (hb : Region.binds .any e = true) : e.on < j := by
  have hj : j < ops.size := (Array.getElem?_eq_some_iff.1 ho).1
  have h1 := List.all_eq_true.1 h j (List.mem_range.2 hj)
  simp only [ho] at h1
  have h2 := Array.all_eq_true'.1 h1 e he
  simpa [hb] using h2
theorem apartA_inv {x y : AOp} (h : apartA x y = true) : (∀ d, x.dst = some d → d ∉ y.reads ∧ y.dst ≠ some d) ∧ ∀ d, y.dst = some d → d ∉ x.reads := by
  unfold apartA at h
  simp only [Bool.and_eq_true] at h
  refine ⟨fun d hd => ?_, fun d hd => ?_⟩
  · have := h.1; rw [hd] at this; simpa using this
  · have := h.2; rw [hd] at this; simpa using this
theorem pairsB_inv {ops : Array Oper} {as : List AOp} {n : Nat} (h : pairsB ops as n = true) {i j : Nat} (hij : i < j) (hj : j < n) {x y : AOp} (hx : as[i]? = some x) (hy : as[j]? = some y) : waitsB ops j i = true ∨ apartA x y = true := by
  have h1 := List.all_eq_true.1 h j (List.mem_range.2 hj)
  have h2 := List.all_eq_true.1 h1 i (List.mem_range.2 hij)
  simp only [hx, hy, Bool.or_eq_true] at h2
  exact h2
section
variable {P : Program} {w0 : World} {ops : Array Oper} {N : Nat}

def Rel (P : Program) (ops : Array Oper) (N : Nat) (as : List AOp) (k : Nat) : Prop := ∀ (j : Nat) (ao : AOp), as[j]? = some ao → ∃ o, ops[k + j]? = some o ∧ trOp P ops N o = some ao

theorem least {p : Nat → Prop} : ∀ {k : Nat}, p k → ∃ k0, k0 ≤ k ∧ p k0 ∧ ∀ j, j < k0 → ¬ p j := by
  intro k
  induction k using Nat.strongRecOn with
  | _ k ih =>
    intro hk
    by_cases h : ∃ j, j < k ∧ p j
    · obtain ⟨j, hj, hp⟩ := h
      obtain ⟨k0, h1, h2, h3⟩ := ih j hj hp
      exact ⟨k0, by omega, h2, h3⟩
    · exact ⟨k, Nat.le_refl _, hk, fun j hj hp => h ⟨j, hj, hp⟩⟩
def stepS (call : Call) (base : Nat) (M : MS) (D : List Nat) (o : AOp) (env : Env) : Option (AV × MS × List Nat) :=
  match wantA env o.g with
  | some true => match evI call base env M D o.i with
    | some (.q v) => some (v, M, D)
    | some (.x v M' D') => some (v, M', D')
    | none => none
  | some false => some (.flat undef, M, D)
  | none => none
theorem evS_cons (call : Call) (base : Nat) (M : MS) (D : List Nat) (o : AOp) (r : List AOp) (env : Env) :
    evS call base (o :: r) env M D = (stepS call base M D o env).bind fun x => evS call base r (updO env o.dst x.1) x.2.1 x.2.2 := by
  simp only [evS, stepS]
  cases wantA env o.g with
  | none => rfl
  | some b => cases b
              · rfl
              · cases evI call base env M D o.i with
                | none => rfl
                | some out => cases out <;> rfl
theorem stepS_congr {call : Call} {base : Nat} {M : MS} {D : List Nat} {o : AOp} {e e' : Env} (h : ∀ t ∈ o.reads, e t = e' t) : stepS call base M D o e = stepS call base M D o e' := by
  have h1 : wantA e o.g = wantA e' o.g := wantA_congr fun t b hg => h t (by simp [AOp.reads, hg])
  have h2 : evI call base e M D o.i = evI call base e' M D o.i := evI_congr call base M D fun x hx => O.ev_congr fun t ht => h t (by
    simp only [AOp.reads, List.mem_append, List.mem_flatMap]
    exact .inl ⟨x, hx, ht⟩)
  simp only [stepS, h1, h2]
theorem upd_if (env : Env) (d : Option Nat) (v : AV) (t : Nat) : updO env d v t = if d = some t then v else env t := by
  cases d with
  | none => simp [updO]
  | some d => simp only [updO, upd, Option.some.injEq]; by_cases htd : t = d
              · subst htd; simp
              · simp [htd, Ne.symm htd]
theorem evS_run (call : Call) (base : Nat) : ∀ (ops : List AOp) (env env' : Env) (M M' : MS) (D D' : List Nat), evS call base ops env M D = some (env', M', D') →
    ∃ (ps : List (Option Nat × AV)) (Ms : Nat → MS × List Nat), ps.map (·.1) = ops.map (·.dst) ∧ Ms 0 = (M, D) ∧ Ms ops.length = (M', D') ∧
      (∀ i o, ops[i]? = some o → ∃ v, ps[i]? = some (o.dst, v) ∧ stepS call base (Ms i).1 (Ms i).2 o (fun t => look (fun k => decide (k < i)) ps t (env t)) = some (v, Ms (i + 1))) ∧
      ∀ t, env' t = look (fun _ => true) ps t (env t)
  | [], env, env', M, M', D, D', h => by
    simp only [evS, Option.some.injEq, Prod.mk.injEq] at h
    obtain ⟨rfl, rfl, rfl⟩ := h
    exact ⟨[], fun _ => (M, D), rfl, rfl, rfl, fun i o h => by simp at h, fun t => rfl⟩
  | o :: r, env, env', M, M', D, D', h => by
    rw [evS_cons] at h
    cases hv : stepS call base M D o env with
    | none => rw [hv] at h; cases h
    | some x =>
      obtain ⟨v, M1, D1⟩ := x
      rw [hv] at h
      simp only [Option.bind_some] at h
      obtain ⟨ps, Ms, h1, h0, hl, h2, h3⟩ := evS_run call base r (updO env o.dst v) env' M1 M' D1 D' h
      refine ⟨(o.dst, v) :: ps, fun i => match i with | 0 => (M, D) | i + 1 => Ms i, by simp [h1], rfl, hl, fun i o' hi => ?_, fun t => ?_⟩
      · cases i with
        | zero =>
          simp at hi; subst hi
          refine ⟨v, by simp, ?_⟩
          simp only [h0]
          rw [← hv]
          exact stepS_congr fun t _ => look_no fun i p _ _ => by simp
        | succ i =>
          obtain ⟨v', e1, e2⟩ := h2 i o' (by simpa using hi)
          refine ⟨v', by simpa using e1, ?_⟩
          show stepS call base (Ms i).1 (Ms i).2 o' _ = _
          rw [← e2]
          exact stepS_congr fun t _ => by simp only [look, upd_if]; simp
      · rw [h3 t]
        simp only [look, upd_if]; simp
theorem free_step {call : Call} {base : Nat} {M M' : MS} {o : AOp} {env : Env} (h : o.i.free = true) : stepQ call base M o env = stepQ call base M' o env := by
  have : evI call base env M [] o.i = evI call base env M' [] o.i := by
    cases hi : o.i <;> simp only [hi, I.free] at h <;> first | (cases h; done) | rfl
  simp only [stepQ, this]
theorem look_app : ∀ {ps qs : List (Option Nat × AV)} {L : Nat → Bool} {t : Nat} {d : AV}, look L (ps ++ qs) t d = look (fun k => L (k + ps.length)) qs t (look L ps t d)
  | [], _, _, _, _ => rfl
  | p :: ps, qs, L, t, d => by
    simp only [List.cons_append, look]
    rw [look_app]
    simp only [List.length_cons, Nat.add_assoc, Nat.add_comm 1]
theorem order_any {call : Call} (HC : CallOk P call) {base n : Nat} {Q : Exit → Act → World → Prop} {as : List AOp} {M : MS} {env env1 env' : Env} {M' : MS} {D D' : List Nat} {G0 : Gh} {sz : Nat} (hord : orderB ops as n = true) (hlen : as.length = ops.size) (hrel : Rel P ops N as 0)
    (hqq : evQ call base M (as.take n) env = some env1) (hS : evS call base (as.drop n) env1 M D = some (env', M', D'))
    (hQ : ∀ a' w' G', Gle G0 G' → EnvR G' env' a' → a'.tmps.size = sz → Inv w0 G' M' w' → Q .normal a' w') (hN : N ≤ sz) {a : Act} {w : World} (hasz : a.tmps.size = sz) (HE0 : EnvR G0 env a) (HI0 : Inv w0 G0 M w) :
    wpAny P .any ops Q ops.size (Array.replicate ops.size false) a w := by
  simp only [orderB, Bool.and_eq_true, decide_eq_true_eq] at hord
  obtain ⟨hnsz, hchain, hback, hpairs, hhead⟩ := hord
  obtain ⟨p1, hp1, hr1, he1⟩ := evQ_run call base M _ _ _ hqq
  obtain ⟨p2, Ms, hp2, hM0, hMl, hr2, he2⟩ := evS_run call base _ _ _ _ _ _ _ hS
  have hl1 : p1.length = n := by
    have := congrArg List.length hp1
    simp only [List.length_map, List.length_take] at this
    omega
  have hl2 : p2.length = ops.size - n := by
    have := congrArg List.length hp2
    simp only [List.length_map, List.length_drop] at this
    omega
  obtain ⟨ps, hpsd⟩ : ∃ ps, ps = p1 ++ p2 := ⟨_, rfl⟩
  have hpl : ps.length = ops.size := by rw [hpsd, List.length_append]; omega
  have hps' : ∀ {i : Nat} {p : Option Nat × AV}, ps[i]? = some p → ∃ ao, as[i]? = some ao ∧ p.1 = ao.dst ∧ i < ops.size := by
    intro i p hp
    have hi : i < ops.size := by rw [← hpl]; exact (List.getElem?_eq_some_iff.1 hp).1
    have h1 : (ps.map (·.1))[i]? = some p.1 := by simp [hp]
    have h2 : ps.map (·.1) = as.map (·.dst) := by
      rw [hpsd, List.map_append, hp1, hp2, ← List.map_append, List.take_append_drop]
    rw [h2] at h1
    simp only [List.getElem?_map, Option.map_eq_some_iff] at h1
    obtain ⟨ao, h2, h3⟩ := h1
    exact ⟨ao, h2, h3.symm, hi⟩
  have hrunQ : ∀ i o, i < n → as[i]? = some o → ∃ v, ps[i]? = some (o.dst, v) ∧ stepQ call base M o (fun t => look (fun k => decide (k < i)) ps t (env t)) = some v := by
    intro i o hi ho
    obtain ⟨v, h1, h2⟩ := hr1 i o (by simp [hi, ho])
    refine ⟨v, by rw [hpsd, List.getElem?_append_left (by omega)]; exact h1, ?_⟩
    rw [← h2]
    refine stepQ_congr fun t _ => ?_
    rw [hpsd, look_app, look_no]
    intro k p _ _; simp; omega
  have hrunS : ∀ i o, n ≤ i → as[i]? = some o → ∃ v, ps[i]? = some (o.dst, v) ∧ stepS call base (Ms (i - n)).1 (Ms (i - n)).2 o (fun t => look (fun k => decide (k < i)) ps t (env t)) = some (v, Ms (i - n + 1)) := by
    intro i o hi ho
    obtain ⟨v, h1, h2⟩ := hr2 (i - n) o (by rw [List.getElem?_drop, show n + (i - n) = i by omega]; exact ho)
    refine ⟨v, by rw [hpsd, List.getElem?_append_right (by omega), hl1]; exact h1, ?_⟩
    rw [← h2]
    refine stepS_congr fun t _ => ?_
    rw [hpsd, look_app, he1 t]
    rw [look_congr (L := fun k => decide (k < i)) (L' := fun _ => true) (ps := p1)]
    · refine look_congr fun k p _ _ => ?_
      rw [hl1]; simp; omega
    · intro k p hp _
      have : k < p1.length := (List.getElem?_eq_some_iff.1 hp).1
      simp; omega
  have henv' : ∀ t, env' t = look (fun _ => true) ps t (env t) := by
    intro t; rw [he2 t, hpsd, look_app, he1 t]
  clear hr1 hr2 he1 he2 hp1 hp2 hqq hS
  -- what n waits for
  have sunk : ∀ (listed : Array Bool), (∀ j oj, ops[j]? = some oj → listed.getD j false = true → ∀ e ∈ oj.after, Region.binds .any e = true → listed.getD e.on false = true) →
      (∀ oj, ops[n]? = some oj → ∀ e ∈ oj.after, Region.binds .any e = true → listed.getD e.on false = true) → ∀ f i, sunkB ops n f i = true → listed.getD i false = true := by
    intro listed hcl hn f
    induction f with
    | zero => intro i h; simp [sunkB] at h
    | succ f ih =>
      intro i h
      simp only [sunkB, List.any_eq_true, List.mem_range, Bool.and_eq_true, decide_eq_true_eq, Bool.or_eq_true] at h
      obtain ⟨j, _, _, hw, hj⟩ := h
      obtain ⟨oj, hoj, e, he, hb, hon⟩ := waitsB_inv hw
      rcases hj with rfl | hj
      · rw [← hon]; exact hn oj hoj e he hb
      · rw [← hon]; exact hcl j oj hoj (ih j hj) e he hb
  have main : ∀ (f : Nat) (todo : List Nat) (m : Nat) (listed : Array Bool) (a : Act) (w : World) (G : Gh), todo.length = f → todo.Nodup → (∀ k, k ∈ todo ↔ (k < ops.size ∧ listed.getD k true = false)) → n ≤ m → m ≤ ops.size →
      (∀ k, n ≤ k → k < ops.size → (listed.getD k true = false ↔ m ≤ k)) → listed.size = ops.size →
      (∀ j oj, ops[j]? = some oj → listed.getD j false = true → ∀ e ∈ oj.after, Region.binds .any e = true → listed.getD e.on false = true) →
      Gle G0 G → a.tmps.size = sz → EnvR G (fun t => look (fun k => listed.getD k false) ps t (env t)) a → Inv w0 G (Ms (m - n)).1 w → wpAny P .any ops Q f listed a w := by
    intro f
    induction f with
    | zero =>
      intro todo m listed a w G hl hnd hin hnm hms htail hsz hclosed hG hasz HE HI
      have htd : todo = [] := List.eq_nil_of_length_eq_zero hl
      have hall : ∀ k, k < ops.size → listed.getD k true = true := by
        intro k hk
        have h3 : ¬ (k < ops.size ∧ listed.getD k true = false) := by rw [← hin k, htd]; simp
        cases hq : listed.getD k true with
        | true => rfl
        | false => exact absurd ⟨hk, hq⟩ h3
      have hm : m = ops.size := by
        rcases Nat.lt_or_ge m ops.size with h | h
        · have := (htail m hnm h).2 (Nat.le_refl _)
          rw [hall m h] at this; cases this
        · omega
      refine ⟨?_, hQ a w G hG ⟨fun t => ?_, HE.d⟩ hasz ?_⟩
      · rw [List.eq_nil_iff_forall_not_mem]
        intro i hi
        obtain ⟨hu, o, ho, _⟩ := mem_ready.1 hi
        have hi' : i < ops.size := (Array.getElem?_eq_some_iff.1 ho).1
        rw [hall i hi'] at hu; cases hu
      · have := HE.t t
        have e : look (fun k => listed.getD k false) ps t (env t) = env' t := by
          rw [henv' t]
          refine look_congr fun i p hp _ => ?_
          obtain ⟨_, _, _, hi⟩ := hps' hp
          have hks : i < listed.size := by omega
          have := hall i hi
          simpa [Array.getD, hks] using this
        rw [← e]; exact this
      · have e : Ms (m - n) = (M', D') := by rw [hm, ← hMl]; simp [hlen]
        rw [e] at HI; exact HI
    | succ f ih =>
      intro todo m listed a w G hl hnd hin hnm hms htail hsz hclosed hG hasz HE HI
      obtain ⟨k, hk⟩ : ∃ k, k ∈ todo := by
        cases todo with
        | nil => simp at hl
        | cons k r => exact ⟨k, by simp⟩
      obtain ⟨k0, _, ⟨hk0n, hk0u⟩, hk0l⟩ := least (p := fun k => k < ops.size ∧ listed.getD k true = false) ((hin k).1 hk)
      have hk0r : k0 ∈ Region.ready .any ops listed := by
        refine mem_ready.2 ⟨hk0u, ops[k0], Array.getElem?_eq_getElem hk0n, fun e he hb => ?_⟩
        have hlt := backB_inv hback (o := ops[k0]) (Array.getElem?_eq_getElem hk0n) he hb
        have h3 := hk0l e.on hlt
        have hes : e.on < listed.size := by omega
        cases hq : listed.getD e.on true with
        | true => simpa [Array.getD, hes] using hq
        | false => exact absurd ⟨by omega, hq⟩ h3
      refine ⟨fun hr => (by rw [hr] at hk0r; cases hk0r), fun i hi => ?_⟩
      obtain ⟨hiu, oi, hoi, hiall⟩ := mem_ready.1 hi
      have his : i < ops.size := (Array.getElem?_eq_some_iff.1 hoi).1
      have hLi : listed.getD i false = false := getD_both hiu
      have him : n ≤ i → i = m := by
        intro hni
        have h1 := (htail i hni his).1 hiu
        rcases Nat.lt_or_ge m i with h | h
        · exfalso
          have hc := List.all_eq_true.1 hchain i (List.mem_range.2 his)
          simp only [Bool.or_eq_true, decide_eq_true_eq] at hc
          rcases hc with hc | hc
          · omega
          · obtain ⟨oj, hoj, e, he, hb, hon⟩ := waitsB_inv hc
            rw [hoi] at hoj; cases hoj
            have h3 := hiall e he hb
            rw [hon, getD_both ((htail (i - 1) (by omega) (by omega)).2 (by omega))] at h3; cases h3
        · omega
      have hgot : ∀ k, n ≤ k → k < m → listed.getD k false = true := by
        intro k h1 h2
        have h3 := htail k h1 (by omega)
        have hks : k < listed.size := by omega
        cases hq : listed.getD k true with
        | true => simpa [Array.getD, hks] using hq
        | false => have := h3.1 hq; omega
      have hsunkm : n < m → ∀ f i, sunkB ops n f i = true → listed.getD i false = true := fun h => sunk listed hclosed (fun oj hoj => hclosed n oj hoj (hgot n (Nat.le_refl _) h))
      obtain ⟨ao, hao⟩ : ∃ ao, as[i]? = some ao := ⟨as[i]'(by omega), by simp [show i < as.length by omega]⟩
      obtain ⟨o', ho', hto⟩ := hrel i ao hao
      rw [Nat.zero_add, hoi] at ho'; cases ho'
      obtain ⟨t1, t2, t3, _⟩ := trOp_inv hto
      have hwi : ∀ {j : Nat}, waitsB ops i j = true → listed.getD j false = true := by
        intro j hw
        obtain ⟨oj, hoj, e, he, hb, hon⟩ := waitsB_inv hw
        rw [hoi] at hoj; cases hoj
        rw [← hon]; exact hiall e he hb
      have hwj : ∀ {j k : Nat}, waitsB ops j k = true → listed.getD j false = true → listed.getD k false = true := by
        intro j k hw hj
        obtain ⟨oj, hoj, e, he, hb, hon⟩ := waitsB_inv hw
        rw [← hon]; exact hclosed j oj hoj hj e he hb
      have headOf : ∀ {j : Nat} {aj ak : AOp} {k : Nat}, j < n → n ≤ k → as[j]? = some aj → as[k]? = some ak → apartA aj ak = false →
          (∃ f, sunkB ops n f j = true) ∨ ∃ x, n ≤ x ∧ x ≤ k ∧ waitsB ops x j = true := by
        intro j aj ak k hj hk haj hak hap
        have hks : k < ops.size := by rw [← hlen]; exact (List.getElem?_eq_some_iff.1 hak).1
        simp only [headB, Bool.or_eq_true, decide_eq_true_eq] at hhead
        rcases hhead with hh | hh
        · omega
        · have h1 := List.all_eq_true.1 hh j (List.mem_range.2 hj)
          simp only [Bool.or_eq_true, Bool.and_eq_true] at h1
          rcases h1 with h1 | ⟨_, h1⟩
          · exact .inl ⟨_, h1⟩
          · have h2 := List.all_eq_true.1 h1 k (List.mem_range.2 hks)
            simp only [haj, hak, hap, Bool.or_eq_true, decide_eq_true_eq, Bool.false_eq_true, or_false, List.any_eq_true, List.mem_range, Bool.and_eq_true] at h2
            rcases h2 with h2 | ⟨x, hx1, hx2, hx3⟩
            · omega
            · exact .inr ⟨x, hx2, by omega, hx3⟩
      have before : ∀ {j : Nat} {aj : AOp}, as[j]? = some aj → j < i → apartA aj ao = false → listed.getD j false = true := by
        intro j aj haj hji hap
        rcases Nat.lt_or_ge i n with hin' | hin'
        · rcases pairsB_inv hpairs hji hin' haj hao with hw | hw
          · exact hwi hw
          · rw [hap] at hw; cases hw
        · rcases Nat.lt_or_ge j n with hjn | hjn
          · rcases headOf hjn hin' haj hao hap with ⟨f, hf⟩ | ⟨x, hx1, hx2, hx3⟩
            · have him := him hin'
              rcases Nat.lt_or_ge n m with h | h
              · exact hsunkm h f j hf
              · have : i = n := by omega
                subst this
                exact sunk listed hclosed (fun oj hoj => by rw [hoi] at hoj; cases hoj; exact hiall) f j hf
            · have him := him hin'
              by_cases hxi : x = i
              · subst hxi; exact hwi hx3
              · exact hwj hx3 (hgot x hx1 (by omega))
          · exact hgot j hjn (by have := him hin'; omega)
      have behind : ∀ {j : Nat} {aj : AOp}, as[j]? = some aj → i < j → apartA ao aj = false → listed.getD j false = false := by
        intro j aj haj hji hap
        have hjs : j < ops.size := by rw [← hlen]; exact (List.getElem?_eq_some_iff.1 haj).1
        cases hq : listed.getD j false with
        | false => rfl
        | true =>
          exfalso
          have hjl : n ≤ j → j < m := by
            intro h
            rcases Nat.lt_or_ge j m with h2 | h2
            · exact h2
            · have := (htail j h hjs).2 h2
              rw [getD_both this] at hq; cases hq
          have contra : listed.getD i false = true → False := by rw [hLi]; intro h; cases h
          rcases Nat.lt_or_ge j n with hjn | hjn
          · rcases pairsB_inv hpairs hji hjn hao haj with hw | hw
            · exact contra (hwj hw hq)
            · rw [hap] at hw; cases hw
          · rcases Nat.lt_or_ge i n with hin' | hin'
            · rcases headOf hin' hjn hao haj hap with ⟨f, hf⟩ | ⟨x, hx1, hx2, hx3⟩
              · exact contra (hsunkm (by have := hjl hjn; omega) f i hf)
              · exact contra (hwj hx3 (hgot x hx1 (by have := hjl hjn; omega)))
            · have := him hin'; have := hjl hjn; omega
      have hagree : ∀ t ∈ ao.reads, look (fun k => listed.getD k false) ps t (env t) = look (fun k => decide (k < i)) ps t (env t) := by
        refine fun t ht => look_congr fun j p hp hpt => ?_
        obtain ⟨aj, haj, hpd, hjn⟩ := hps' hp
        rw [hpd] at hpt
        rcases Nat.lt_trichotomy j i with h | h | h
        · rw [before haj h]
          · simp [h]
          · cases hq : apartA aj ao with
            | false => rfl
            | true => exact absurd ht ((apartA_inv hq).1 t hpt).1
        · subst h; rw [hLi]; simp
        · rw [behind haj h]
          · simp; omega
          · cases hq : apartA ao aj with
            | false => rfl
            | true => exact absurd ht ((apartA_inv hq).2 t hpt)
      have hd : ∀ t, oi.dst = some t → t < a.tmps.size := fun t htt => Nat.lt_of_lt_of_le (t3 t htt) (by omega)
      have hpsz : ∀ v, (a.put oi.dst v).tmps.size = a.tmps.size := fun v => by cases oi.dst <;> simp [Act.put]
      have hils : i < listed.size := by omega
      have hlook : ∀ v, ps[i]? = some (ao.dst, v) → ∀ t, look (fun k => (listed.setIfInBounds i true).getD k false) ps t (env t) = updO (fun t => look (fun k => listed.getD k false) ps t (env t)) ao.dst v t := by
        intro v hpv t
        have e1 : look (fun k => (listed.setIfInBounds i true).getD k false) ps t (env t) = look (fun k => if k = i then true else listed.getD k false) ps t (env t) := by
          refine look_congr fun j p _ _ => ?_
          by_cases hji : j = i
          · subst hji; simp [hils]
          · rw [getD_set_ne false (Ne.symm hji)]; simp [hji]
        rw [e1, look_put hpv, upd_if]
        intro hpt j q hij hq hqt
        obtain ⟨aj, haj, hpd, hjn⟩ := hps' hq
        rw [hpd] at hqt
        refine behind haj hij ?_
        cases hqq : apartA ao aj with
        | false => rfl
        | true => exact absurd hqt ((apartA_inv hqq).1 t hpt).2
      have next : ∀ (v : AV), ps[i]? = some (ao.dst, v) → ∀ (m' : Nat), (if i < n then m' = m else m' = m + 1) → ∀ (u : Value) (w' : World) (G' : Gh), Gle G G' → R G' v u → Inv w0 G' (Ms (m' - n)).1 w' → wpAny P .any ops Q f (listed.setIfInBounds i true) (a.put oi.dst u) w' := by
        intro v hpv m' hm' u w' G' hG' hu HI'
        refine ih (todo.erase i) m' (listed.setIfInBounds i true) _ w' G' ?_ (hnd.erase i) (fun k => ?_) ?_ ?_ (fun k hk hk2 => ?_) (by simpa using hsz) (fun j oj hj hlj e he hb => ?_) (hG.trans hG') (by rw [hpsz]; exact hasz) ⟨fun t => ?_, (by cases oi.dst <;> exact HE.d)⟩ HI'
        · rw [List.length_erase_of_mem ((hin i).2 ⟨his, hiu⟩), hl]; rfl
        · rw [hnd.mem_erase_iff, hin k]
          by_cases hki : k = i
          · subst hki; simp [hils]
          · rw [getD_set_ne true (Ne.symm hki)]; simp [hki]
        · split at hm' <;> omega
        · split at hm'
          · omega
          · have := him (by omega); omega
        · split at hm'
          · rw [getD_set_ne true (by omega), htail k hk hk2]; omega
          · have := him (by omega)
            by_cases hki : k = i
            · subst hki; simp [hils]; omega
            · rw [getD_set_ne true (Ne.symm hki), htail k hk hk2]; omega
        · by_cases hji : i = j
          · subst hji
            rw [hoi] at hj; cases hj
            exact getD_set_true (hiall e he hb)
          · rw [getD_set_ne false hji] at hlj
            exact getD_set_true (hclosed j oj hj hlj e he hb)
        · rw [hlook v hpv t]
          have := ((HE.mono hG').put hu ao.dst (by rw [t2]; exact hd)).t t
          rw [t2] at this ⊢
          exact this
      unfold wpOp
      simp only [hoi]
      rcases Nat.lt_or_ge i n with hin' | hin'
      · obtain ⟨v, hpv, hstep⟩ := hrunQ i ao hin' hao
        have hstep' : stepQ call base (Ms (m - n)).1 ao (fun t => look (fun k => listed.getD k false) ps t (env t)) = some v := by
          have e1 : stepQ call base (Ms (m - n)).1 ao (fun t => look (fun k => listed.getD k false) ps t (env t)) = stepQ call base M ao (fun t => look (fun k => listed.getD k false) ps t (env t)) := by
            rcases Nat.lt_or_ge n m with h | h
            · refine free_step ?_
              simp only [headB, Bool.or_eq_true, decide_eq_true_eq] at hhead
              rcases hhead with hh | hh
              · omega
              · have h1 := List.all_eq_true.1 hh i (List.mem_range.2 hin')
                simp only [Bool.or_eq_true, Bool.and_eq_true] at h1
                rcases h1 with h1 | ⟨h1, _⟩
                · have := hsunkm h _ i h1; rw [hLi] at this; cases this
                · simpa [freeA, hao] using h1
            · have : m - n = 0 := by omega
              rw [this, hM0]
          rw [e1, ← hstep]
          exact stepQ_congr hagree
        have next := next v hpv m (by simp [hin'])
        unfold stepQ at hstep'
        split at hstep'
        · rename_i hw
          rw [wantA_R HE hto hw]
          simp only [if_true]
          refine .inl ?_
          split at hstep'
          · rename_i v' hv'
            cases hstep'
            exact evI_wp HC HE HI t1 hv' fun u w' G' hG' hO => next u w' G' hG' hO.1 hO.2
          · cases hstep'
        · rename_i hw
          rw [wantA_R HE hto hw]
          simp only [Bool.false_eq_true, if_false]
          cases hstep'
          exact next undef w G (Gle.refl G) (.imm _ _ (.flat undef)) HI
        · cases hstep'
      · obtain ⟨v, hpv, hstep⟩ := hrunS i ao hin' hao
        have him := him hin'
        rw [him] at hstep
        have hstep' : stepS call base (Ms (m - n)).1 (Ms (m - n)).2 ao (fun t => look (fun k => listed.getD k false) ps t (env t)) = some (v, Ms (m - n + 1)) := by
          rw [← hstep]
          exact stepS_congr fun t ht => by have := hagree t ht; rw [him] at this; exact this
        have next := next v hpv (m + 1) (by simp; omega)
        rw [show m + 1 - n = m - n + 1 by omega] at next
        unfold stepS at hstep'
        split at hstep'
        · rename_i hw
          rw [wantA_R HE hto hw]
          simp only [if_true]
          refine .inl ?_
          split at hstep'
          · rename_i v' hv'
            simp only [Option.some.injEq, Prod.mk.injEq] at hstep'
            obtain ⟨rfl, hMs⟩ := hstep'
            refine evI_wp HC HE HI t1 hv' fun u w' G' hG' hO => next u w' G' hG' hO.1 ?_
            rw [← hMs]; exact hO.2
          · rename_i v' M1 D1 hv'
            simp only [Option.some.injEq, Prod.mk.injEq] at hstep'
            obtain ⟨rfl, hMs⟩ := hstep'
            refine evI_wp HC HE HI t1 hv' fun u w' G' hG' hO => next u w' G' hG' hO.1 ?_
            rw [← hMs]; exact hO.2
          · cases hstep'
        · rename_i hw
          rw [wantA_R HE hto hw]
          simp only [Bool.false_eq_true, if_false]
          simp only [Option.some.injEq, Prod.mk.injEq] at hstep'
          obtain ⟨rfl, hMs⟩ := hstep'
          refine next undef w G (Gle.refl G) (.imm _ _ (.flat undef)) ?_
          rw [← hMs]; exact HI
        · cases hstep'
  refine main ops.size (List.range ops.size) n (Array.replicate ops.size false) a w G0 (by simp) List.nodup_range (fun k => ?_) (Nat.le_refl _) hnsz (fun k hk hks => ?_) (by simp) (fun j oj hj hlj => ?_) (Gle.refl G0) hasz ⟨fun t => ?_, HE0.d⟩ ?_
  · simp only [List.mem_range]
    constructor
    · intro hk; exact ⟨hk, by simp [Array.getD, hk]⟩
    · intro hk; exact hk.1
  · simp [Array.getD, hks]; omega
  · have hjs := (Array.getElem?_eq_some_iff.1 hj).1
    simp [Array.getD, hjs] at hlj
  · have e : look (fun k => (Array.replicate ops.size false).getD k false) ps t (env t) = env t := look_no fun i p hp _ => by
      simp [Array.getD]
    show R G0 (look (fun k => (Array.replicate ops.size false).getD k false) ps t (env t)) _
    rw [e]; exact HE0.t t
  · rw [Nat.sub_self, hM0]; exact HI0
end
end Go.Proofs.Ytopiaiibpacmlaa.Av
