/- Rows that grow by append, beside memory that stays. -/
import Derived.Test.YtopiaiibpacmlaaAv25
namespace Go.Proofs.Ytopiaiibpacmlaa.Av
open Go.RowKit
set_option linter.unusedSimpArgs false
/-- The first append to a row that can't be written. -/
theorem app_new {base sz sz' bytes m : Nat} {nl : Bool} {M : MS} {D : List Nat} {cs news : List AV} (hm : 0 < m) (hz : sz' = sz) (ha : allI news = true) (hn : m * sz = news.length) (h1 : cs.length / sz + m ≤ 1099511627776) (h2 : (cs.length / sz + m) * bytes ≤ 140737488355328) :
    appA base M D sz bytes (.list sz' cs nl true) m news = some (.x (.ms M.length 0 (cs.length / sz + m) sz false) (M ++ [some (cs ++ news)]) D) := by
  simp only [appA]
  rw [if_neg (by omega), if_pos ⟨.inr hz, trivial, ha, hn, h1, h2⟩]
theorem app_none {base sz sz' bytes : Nat} {nl cd : Bool} {M : MS} {D : List Nat} {cs news : List AV} : appA base M D sz bytes (.list sz' cs nl cd) 0 news = some (.q (.list sz' cs nl cd)) := by
  simp only [appA, if_true]
attribute [go_sem] app_new app_none
theorem Own.own {lo : Nat} {m : MS} {x : AV} {sz : Nat} {cs : List AV} (h : Own lo m x sz cs) : (x = .list sz [] true true ∧ cs = []) ∨ ∃ id, lo ≤ id ∧ id < m.length ∧ x = .ms id 0 (cs.length / sz) sz false ∧ m[id]? = some (some cs) := by
  obtain ⟨_, _, _, ⟨h1, h2⟩ | ⟨_, id, h1, h2, h3, h4⟩⟩ := h
  · exact .inl ⟨h2, h1⟩
  · exact .inr ⟨id, h1, h2, h3, h4⟩
section
variable {p : Pr} {base : Nat} {env : Env} {M : MS} {D : List Nat} {d : Option Nat} {r : List AOp} {R : Env → MS → List Nat → Prop}
theorem same_pre {B G M' : MS} (h : ∀ id, id < B.length → M'[id]? = (B ++ G)[id]?) : ∃ G', M' = B ++ G' := by
  refine ⟨M'.drop B.length, ?_⟩
  have : M'.take B.length = B := by
    apply List.ext_getElem?
    intro i
    rw [List.getElem?_take]
    split
    · rename_i hi; rw [h i hi, List.getElem?_append_left hi]
    · rename_i hi; rw [List.getElem?_eq_none (by omega)]
  rw [← List.take_append_drop B.length M', this]
  simp
/-- An append to a row of the call's own; what lies below stays. -/
theorem S_ownG {sz bytes : Nat} {s x : O} {cs news : List AV} {k : Nat} (B G : MS) {v : AV} (hb : Own B.length (B ++ G) v sz cs) (hM : M = B ++ G) (hs : s.ev env = v) (hv : view (B ++ G) (x.ev env) = some news) (hl : lenOf (x.ev env) = some k) (hk : k * sz = news.length) (ha : allI news = true)
    (h1 : cs.length / sz + k ≤ 1099511627776) (h2 : (cs.length / sz + k) * bytes ≤ 140737488355328) (hbase : base ≤ B.length)
    (h : ∀ v' G', Own B.length (B ++ G') v' sz (cs ++ news) → WS p base 0 r (updO env d v') (B ++ G') D R) :
    WS p base 0 (⟨d, .app sz bytes s x, none⟩ :: r) env M D R := by
  subst hM
  have hb' : Own base (B ++ G) (s.ev env) sz cs := by
    rw [hs]
    obtain ⟨a, b, c, e | ⟨f, id, g1, g2⟩⟩ := hb
    · exact ⟨a, b, c, .inl e⟩
    · exact ⟨a, b, c, .inr ⟨f, id, by omega, g2⟩⟩
  have hlen := hb'.buf.len
  obtain ⟨h0, hA, ⟨n, hn⟩, hc⟩ := hb
  have hdiv : cs.length / sz = n := by rw [hn, Nat.mul_div_cancel _ h0]
  have hcat : (cs ++ news).length = (n + k) * sz := by rw [List.length_append, hn, ← hk, Nat.add_mul]
  by_cases hk0 : k = 0
  · have hnews : news = [] := List.eq_nil_of_length_eq_zero (by rw [← hk, hk0]; simp)
    subst hnews
    have hq : evI (ev p) base env (B ++ G) D (.app sz bytes s x) = some (.q v) := by
      simp only [evI, hv, hl, appA, hk0, if_true, hs]
      rcases hc with ⟨_, h⟩ | ⟨_, id, _, _, h, hm⟩
      · rw [h]
      · rw [h]; simp only [aliveA, hm, if_true]
    refine S_0 hq (SO_q (h _ G ?_))
    rw [List.append_nil]
    exact ⟨h0, hA, ⟨n, hn⟩, hc⟩
  · have hne : cs ++ news ≠ [] := by
      intro e
      have := congrArg List.length e
      rw [hcat, List.length_nil] at this
      rcases Nat.mul_eq_zero.1 this with h | h <;> omega
    have new : ∀ (M' : MS), B.length ≤ M'.length → Own B.length (M' ++ [some (cs ++ news)]) (.ms M'.length 0 (cs.length / sz + k) sz false) sz (cs ++ news) := fun M' hb' =>
      ⟨h0, allI_app hA ha, ⟨n + k, hcat⟩, .inr ⟨hne, M'.length, hb', by simp, by rw [hcat, Nat.mul_div_cancel _ h0, hdiv], by simp⟩⟩
    rcases hc with ⟨hnil, hv'⟩ | ⟨_, id, hid, hlt, hv', hm⟩
    · subst hnil
      have hq : evI (ev p) base env (B ++ G) D (.app sz bytes s x) = some (.x (.ms (B ++ G).length 0 (([] : List AV).length / sz + k) sz false) (B ++ G ++ [some ([] ++ news)]) D) := by
        simp only [evI, hv, hl, hs, hv', appA, hk0, if_false]
        rw [if_pos ⟨.inl trivial, trivial, ha, hk, h1, h2⟩]
      have := new (B ++ G) (by simp)
      rw [List.append_assoc] at this
      refine S_0 hq (SO_x ?_)
      rw [List.append_assoc]
      exact h _ _ this
    · have hq : evI (ev p) base env (B ++ G) D (.app sz bytes s x) = some (.x (.ms (B ++ G).length 0 (cs.length / sz + k) sz false) ((B ++ G).set id none ++ [some (cs ++ news)]) D) := by
        simp only [evI, hv, hl, hs, hv', appA, hk0, if_false, hm]
        rw [if_pos ⟨trivial, ha, hk, h1, h2, by omega⟩]
        simp only [Bool.false_eq_true, if_false, if_true, hlen, List.take_length, dirt]
        rw [if_neg (by omega)]
      have hset : (B ++ G).set id none = B ++ G.set (id - B.length) none := by
        rw [List.set_append_right _ _ hid]
      have hn' := new (B ++ G.set (id - B.length) none) (by simp)
      refine S_0 hq (SO_x ?_)
      rw [hset, List.append_assoc]
      rw [List.append_assoc] at hn'
      have e1 : (B ++ G.set (id - B.length) none).length = (B ++ G).length := by simp
      rw [e1] at hn'
      exact h _ _ hn'
end
/-- Such a row, handed on. -/
theorem Own.frzG {base lo : Nat} {m : MS} {x : AV} {sz : Nat} {cs : List AV} (h : Own lo m x sz cs) (hb : base ≤ lo) : ∃ m', Av.frz base m x = some (lst sz cs, m') := by
  have : Own base m x sz cs := by
    obtain ⟨a, b, c, e | ⟨f, id, g1, g2⟩⟩ := h
    · exact ⟨a, b, c, .inl e⟩
    · exact ⟨a, b, c, .inr ⟨f, id, by omega, g2⟩⟩
  obtain ⟨m', h1, _⟩ := this.frz
  exact ⟨m', h1⟩
theorem Own.finG {base lo : Nat} {m : MS} {x : AV} {sz : Nat} {cs : List AV} (h : Own lo m x sz cs) (hb : base ≤ lo) : Av.fin base false x m [] = some (Out.q (lst sz cs)) := by
  have : Own base m x sz cs := by
    obtain ⟨a, b, c, e | ⟨f, id, g1, g2⟩⟩ := h
    · exact ⟨a, b, c, .inl e⟩
    · exact ⟨a, b, c, .inr ⟨f, id, by omega, g2⟩⟩
  exact this.fin
theorem lst_nil (sz : Nat) : lst sz [] = .list sz [] true true := rfl
/-- A call of which some answer is told. -/
theorem ev_fnE {p : Pr} {f : Nat} {bd : AC} {rs : List RV} {kp : Bool} {args : List AV} {M : MS} {P : Out → Prop} (hA : p.A f = some ⟨bd, rs, kp⟩)
    (h : W p M.length bd (env0 args) M [] fun ex e m d => (ex = .nrm ∨ ex = .ret) ∧ ∃ out, (resA e m rs).bind (fun vs => fin M.length kp (tupA vs) m d) = some out ∧ P out) : ∃ out, ev p f args M = some out ∧ P out := by
  obtain ⟨ex, e, m, d, h1, h2, out, h3, h4⟩ := h
  exact ⟨out, ev_fn' hA ⟨ex, e, m, d, h1, h2, h3⟩, h4⟩
theorem dirt_in {base id : Nat} {D : List Nat} (h : id < base) : dirt base id D = id :: D := if_pos h
theorem get_set (M : MS) (id : Nat) (h : id < M.length) (v : Option (List AV)) : (M.set id v)[id]? = some v := by rw [List.getElem?_set_self h]
theorem set_set' (M : MS) (id : Nat) (v w : Option (List AV)) : (M.set id v).set id w = M.set id w := List.set_set ..
theorem frzAll_flat (base : Nat) (M : MS) (v : Value) : frzAll base M [.flat v] = some ([.flat v], M) := rfl
theorem frzAll_list (base : Nat) (M : MS) (sz : Nat) (cs : List AV) (nl cd : Bool) : frzAll base M [.list sz cs nl cd] = some ([.list sz cs nl cd], M) := rfl
theorem frzAll1 (base : Nat) (M : MS) (x : AV) (h : isI x = true) : frzAll base M [x] = some ([x], M) := frzAll_I (by simp only [allI, h, Bool.and_self])
theorem rep_flat (n : Nat) (a : AV) : (List.replicate n [a]).flatten = List.replicate n a := by
  induction n with
  | zero => rfl
  | succ n ih => rw [List.replicate_succ, List.flatten_cons, ih, List.replicate_succ]; rfl
attribute [go_sem] dirt_in get_set set_set' frzAll_flat frzAll_list rep_flat List.length_replicate
end Go.Proofs.Ytopiaiibpacmlaa.Av
