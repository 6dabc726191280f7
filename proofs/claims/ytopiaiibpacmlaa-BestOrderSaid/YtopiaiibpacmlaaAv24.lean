/- Rows that grow by append. -/
import Derived.Test.YtopiaiibpacmlaaAv23
namespace Go.Proofs.Ytopiaiibpacmlaa.Av
open Go.RowKit
set_option linter.unusedSimpArgs false
/-- A row that a function of this call's own made by append, or that can't be written: its cells. -/
def Buf (m : MS) (x : AV) (sz : Nat) (cs : List AV) : Prop := 0 < sz ∧ allI cs = true ∧ (∃ n, cs.length = n * sz) ∧
  ((x = .list sz cs true true ∧ cs = []) ∨ x = .list sz cs false true ∨ ∃ id, x = .ms id 0 (cs.length / sz) sz false ∧ m[id]? = some (some cs))
theorem Buf.pos {m : MS} {x : AV} {sz : Nat} {cs : List AV} (h : Buf m x sz cs) : 0 < sz := h.1
theorem Buf.len {m : MS} {x : AV} {sz : Nat} {cs : List AV} (h : Buf m x sz cs) : cs.length / sz * sz = cs.length := by
  obtain ⟨h0, _, ⟨n, hn⟩, _⟩ := h
  rw [hn, Nat.mul_div_cancel _ h0]
theorem Buf.view {m : MS} {x : AV} {sz : Nat} {cs : List AV} (h : Buf m x sz cs) : view m x = some cs := by
  have hl := h.len
  obtain ⟨h0, _, _, h | h | ⟨id, rfl, h⟩⟩ := h
  · rw [h.1]; rfl
  · rw [h]; rfl
  · simp only [Av.view, h, hl, Nat.zero_add, Nat.le_refl, if_true, List.drop_zero, List.take_length]
theorem Buf.lenOf {m : MS} {x : AV} {sz : Nat} {cs : List AV} (h : Buf m x sz cs) : lenOf x = some (cs.length / sz) := by
  obtain ⟨_, _, _, h | h | ⟨id, rfl, h⟩⟩ := h
  · rw [h.1]; rfl
  · rw [h]; rfl
  · rfl
theorem Buf.lenM {m : MS} {x : AV} {sz : Nat} {cs : List AV} (h : Buf m x sz cs) : lenM m x = some (cs.length / sz) := by
  simp only [Av.lenM, h.view, h.lenOf]
theorem Buf.nil (m : MS) {sz : Nat} (h : 0 < sz) : Buf m (.list sz [] true true) sz [] := ⟨h, rfl, ⟨0, by simp⟩, .inl ⟨rfl, rfl⟩⟩
theorem allI_app : ∀ {a b : List AV}, allI a = true → allI b = true → allI (a ++ b) = true
  | [], _, _, h => h
  | c :: a, b, h1, h2 => by
    simp only [allI, Bool.and_eq_true] at h1
    simp only [List.cons_append, allI, Bool.and_eq_true]
    exact ⟨h1.1, allI_app h1.2 h2⟩
section
variable {p : Pr} {base : Nat} {env : Env} {M : MS} {D : List Nat} {d : Option Nat} {r : List AOp} {R : Env → MS → List Nat → Prop}
/-- An append to such a row: what holds of whatever comes. -/
theorem S_app {sz bytes : Nat} {s x : O} {cs news : List AV} {k : Nat} (hb : Buf M (s.ev env) sz cs) (hv : view M (x.ev env) = some news) (hl : lenOf (x.ev env) = some k) (hk : k * sz = news.length) (ha : allI news = true)
    (h1 : cs.length / sz + k ≤ LIM) (h2 : (cs.length / sz + k) * bytes ≤ 140737488355328) (hid : ∀ id off len sz' cd, s.ev env = .ms id off len sz' cd → base ≤ id)
    (h : ∀ s' M', Buf M' s' sz (cs ++ news) → (∀ id off len sz' cd, s' = .ms id off len sz' cd → base ≤ id) → M.length ≤ M'.length →
      (∀ id, id < M.length → (∀ off len sz' cd, s.ev env ≠ .ms id off len sz' cd) → M'[id]? = M[id]?) → WS p base 0 r (updO env d s') M' D R) (hbase : base ≤ M.length) :
    WS p base 0 (⟨d, .app sz bytes s x, none⟩ :: r) env M D R := by
  have hlen := hb.len
  obtain ⟨h0, hA, ⟨n, hn⟩, hc⟩ := hb
  have hdiv : cs.length / sz = n := by rw [hn, Nat.mul_div_cancel _ h0]
  have hcat : (cs ++ news).length = (n + k) * sz := by rw [List.length_append, hn, ← hk, Nat.add_mul]
  by_cases hk0 : k = 0
  · have hnews : news = [] := List.eq_nil_of_length_eq_zero (by rw [← hk, hk0]; simp)
    subst hnews
    have hq : evI (ev p) base env M D (.app sz bytes s x) = some (.q (s.ev env)) := by
      simp only [evI, hv, hl, appA, hk0, if_true]
      rcases hc with ⟨h, _⟩ | h | ⟨id, h, hm⟩
      · rw [h]
      · rw [h]
      · rw [h]; simp only [aliveA, hm, if_true]
    refine S_0 hq (SO_q (h _ M ?_ hid (Nat.le_refl _) fun _ _ _ => rfl))
    rw [List.append_nil]
    exact ⟨h0, hA, ⟨n, hn⟩, hc⟩
  · have new : ∀ (M' : MS), Buf (M' ++ [some (cs ++ news)]) (.ms M'.length 0 (cs.length / sz + k) sz false) sz (cs ++ news) := fun M' =>
      ⟨h0, allI_app hA ha, ⟨n + k, hcat⟩, .inr (.inr ⟨M'.length, by rw [hcat, Nat.mul_div_cancel _ h0, hdiv], by simp⟩)⟩
    rcases hc with ⟨hs, hnil⟩ | hs | ⟨id, hs, hm⟩
    · subst hnil
      have hq : evI (ev p) base env M D (.app sz bytes s x) = some (.x (.ms M.length 0 (([] : List AV).length / sz + k) sz false) (M ++ [some ([] ++ news)]) D) := by
        simp only [evI, hv, hl, hs, appA, hk0, if_false]
        rw [if_pos ⟨.inl trivial, trivial, ha, hk, h1, h2⟩]
      exact S_0 hq (SO_x (h _ _ (new M) (fun id' off len sz' cd he => by cases he; exact hbase) (by simp) fun id' hid' _ => by rw [List.getElem?_append_left hid']))
    · have hq : evI (ev p) base env M D (.app sz bytes s x) = some (.x (.ms M.length 0 (cs.length / sz + k) sz false) (M ++ [some (cs ++ news)]) D) := by
        simp only [evI, hv, hl, hs, appA, hk0, if_false]
        rw [if_pos ⟨.inr trivial, trivial, ha, hk, h1, h2⟩]
      exact S_0 hq (SO_x (h _ _ (new M) (fun id' off len sz' cd he => by cases he; exact hbase) (by simp) fun id' hid' _ => by rw [List.getElem?_append_left hid']))
    · have hb := hid _ _ _ _ _ hs
      have hq : evI (ev p) base env M D (.app sz bytes s x) = some (.x (.ms M.length 0 (cs.length / sz + k) sz false) (M.set id none ++ [some (cs ++ news)]) D) := by
        simp only [evI, hv, hl, hs, appA, hk0, if_false, hm]
        rw [if_pos ⟨trivial, ha, hk, h1, h2, by omega⟩]
        simp only [Bool.false_eq_true, if_false, if_true, hlen, List.take_length, dirt]
        rw [if_neg (by omega)]
      have hn' := new (M.set id none)
      rw [List.length_set] at hn'
      exact S_0 hq (SO_x (h _ _ hn' (fun id' off len sz' cd he => by cases he; exact hbase) (by simp) fun id' hid' hne => by
        rw [List.getElem?_append_left (by simpa using hid'), List.getElem?_set_ne (fun e => hne _ _ _ _ (by rw [← e]; exact hs))]))
end
/-- A row that a function has made by append alone: nil as long as nothing came. -/
def Own (base : Nat) (m : MS) (x : AV) (sz : Nat) (cs : List AV) : Prop := 0 < sz ∧ allI cs = true ∧ (∃ n, cs.length = n * sz) ∧
  ((cs = [] ∧ x = .list sz [] true true) ∨ (cs ≠ [] ∧ ∃ id, base ≤ id ∧ id < m.length ∧ x = .ms id 0 (cs.length / sz) sz false ∧ m[id]? = some (some cs)))
theorem Own.buf {base : Nat} {m : MS} {x : AV} {sz : Nat} {cs : List AV} (h : Own base m x sz cs) : Buf m x sz cs := by
  obtain ⟨h0, h1, h2, ⟨rfl, rfl⟩ | ⟨_, id, _, _, h3, h4⟩⟩ := h
  · exact ⟨h0, h1, h2, .inl ⟨rfl, rfl⟩⟩
  · exact ⟨h0, h1, h2, .inr (.inr ⟨id, h3, h4⟩)⟩
theorem Own.view {base : Nat} {m : MS} {x : AV} {sz : Nat} {cs : List AV} (h : Own base m x sz cs) : view m x = some cs := h.buf.view
theorem Own.lenM {base : Nat} {m : MS} {x : AV} {sz : Nat} {cs : List AV} (h : Own base m x sz cs) : lenM m x = some (cs.length / sz) := h.buf.lenM
theorem Own.lenOf {base : Nat} {m : MS} {x : AV} {sz : Nat} {cs : List AV} (h : Own base m x sz cs) : lenOf x = some (cs.length / sz) := h.buf.lenOf
theorem Own.nil (base : Nat) (m : MS) {sz : Nat} (h : 0 < sz) : Own base m (.list sz [] true true) sz [] := ⟨h, rfl, ⟨0, by simp⟩, .inl ⟨rfl, rfl⟩⟩
/-- What such a row is when it is handed on. -/
def lst (sz : Nat) (cs : List AV) : AV := .list sz cs cs.isEmpty cs.isEmpty
theorem Own.frz {base : Nat} {m : MS} {x : AV} {sz : Nat} {cs : List AV} (h : Own base m x sz cs) : ∃ m', frz base m x = some (lst sz cs, m') ∧ m'.length = m.length ∧ ∀ id, (∀ off len sz' cd, x ≠ .ms id off len sz' cd) → m'[id]? = m[id]? := by
  have hl := h.buf.len
  obtain ⟨h0, h1, h2, ⟨rfl, rfl⟩ | ⟨hne, id, hb, hlt, rfl, h4⟩⟩ := h
  · exact ⟨m, rfl, rfl, fun _ _ => rfl⟩
  · refine ⟨m.set id none, ?_, by simp, fun id' hid => ?_⟩
    · simp only [Av.frz, h4, hl, Nat.zero_add, Nat.le_refl, h1, and_self, and_true, hb, if_true, List.drop_zero, List.take_length]
      cases cs with
      | nil => exact absurd rfl hne
      | cons c cs => rfl
    · rw [List.getElem?_set_ne (fun e => hid _ _ _ _ (by rw [← e]))]
theorem Own.fin {base : Nat} {m : MS} {x : AV} {sz : Nat} {cs : List AV} (h : Own base m x sz cs) : fin base false x m [] = some (.q (lst sz cs)) := by
  obtain ⟨m', h1, _⟩ := h.frz
  have h2 : frzV base m x = some (lst sz cs, m') := by
    obtain ⟨_, _, _, ⟨_, rfl⟩ | ⟨_, id, _, _, rfl, _⟩⟩ := h
    · exact h1
    · exact h1
  simp only [Av.fin, Bool.false_eq_true, if_false, h2, lst, isI, if_true]
section
variable {p : Pr} {base : Nat} {env : Env} {M : MS} {D : List Nat} {d : Option Nat} {r : List AOp} {R : Env → MS → List Nat → Prop}
/-- An append to such a row. -/
theorem S_own {sz bytes : Nat} {s x : O} {cs news : List AV} {k : Nat} (hb : Own base M (s.ev env) sz cs) (hv : view M (x.ev env) = some news) (hl : lenOf (x.ev env) = some k) (hk : k * sz = news.length) (ha : allI news = true)
    (h1 : cs.length / sz + k ≤ LIM) (h2 : (cs.length / sz + k) * bytes ≤ 140737488355328) (hbase : base ≤ M.length)
    (h : ∀ s' M', Own base M' s' sz (cs ++ news) → M.length ≤ M'.length → (∀ id, id < M.length → (∀ off len sz' cd, s.ev env ≠ .ms id off len sz' cd) → M'[id]? = M[id]?) → WS p base 0 r (updO env d s') M' D R) :
    WS p base 0 (⟨d, .app sz bytes s x, none⟩ :: r) env M D R := by
  have hlen := hb.buf.len
  obtain ⟨h0, hA, ⟨n, hn⟩, hc⟩ := hb
  have hdiv : cs.length / sz = n := by rw [hn, Nat.mul_div_cancel _ h0]
  have hcat : (cs ++ news).length = (n + k) * sz := by rw [List.length_append, hn, ← hk, Nat.add_mul]
  by_cases hk0 : k = 0
  · have hnews : news = [] := List.eq_nil_of_length_eq_zero (by rw [← hk, hk0]; simp)
    subst hnews
    have hq : evI (ev p) base env M D (.app sz bytes s x) = some (.q (s.ev env)) := by
      simp only [evI, hv, hl, appA, hk0, if_true]
      rcases hc with ⟨_, h⟩ | ⟨_, id, _, _, h, hm⟩
      · rw [h]
      · rw [h]; simp only [aliveA, hm, if_true]
    refine S_0 hq (SO_q (h _ M ?_ (Nat.le_refl _) fun _ _ _ => rfl))
    rw [List.append_nil]
    exact ⟨h0, hA, ⟨n, hn⟩, hc⟩
  · have hne : cs ++ news ≠ [] := by
      intro e
      have := congrArg List.length e
      rw [hcat, List.length_nil] at this
      rcases Nat.mul_eq_zero.1 this with h | h <;> omega
    have new : ∀ (M' : MS), base ≤ M'.length → Own base (M' ++ [some (cs ++ news)]) (.ms M'.length 0 (cs.length / sz + k) sz false) sz (cs ++ news) := fun M' hb' =>
      ⟨h0, allI_app hA ha, ⟨n + k, hcat⟩, .inr ⟨hne, M'.length, hb', by simp, by rw [hcat, Nat.mul_div_cancel _ h0, hdiv], by simp⟩⟩
    rcases hc with ⟨hnil, hs⟩ | ⟨_, id, hid, hlt, hs, hm⟩
    · subst hnil
      have hq : evI (ev p) base env M D (.app sz bytes s x) = some (.x (.ms M.length 0 (([] : List AV).length / sz + k) sz false) (M ++ [some ([] ++ news)]) D) := by
        simp only [evI, hv, hl, hs, appA, hk0, if_false]
        rw [if_pos ⟨.inl trivial, trivial, ha, hk, h1, h2⟩]
      exact S_0 hq (SO_x (h _ _ (new M hbase) (by simp) fun id' hid' _ => by rw [List.getElem?_append_left hid']))
    · have hq : evI (ev p) base env M D (.app sz bytes s x) = some (.x (.ms M.length 0 (cs.length / sz + k) sz false) (M.set id none ++ [some (cs ++ news)]) D) := by
        simp only [evI, hv, hl, hs, appA, hk0, if_false, hm]
        rw [if_pos ⟨trivial, ha, hk, h1, h2, by omega⟩]
        simp only [Bool.false_eq_true, if_false, if_true, hlen, List.take_length, dirt]
        rw [if_neg (by omega)]
      have hn' := new (M.set id none) (by simpa using hbase)
      rw [List.length_set] at hn'
      exact S_0 hq (SO_x (h _ _ hn' (by simp) fun id' hid' hne => by
        rw [List.getElem?_append_left (by simpa using hid'), List.getElem?_set_ne (fun e => hne _ _ _ _ (by rw [← e]; exact hs))]))
theorem frzAll_I {base : Nat} {M : MS} : ∀ {cs : List AV}, allI cs = true → frzAll base M cs = some (cs, M)
  | [], _ => rfl
  | c :: cs, h => by
    simp only [allI, Bool.and_eq_true] at h
    have h1 : frz base M c = some (c, M) := by
      cases c <;> simp_all [frz, isI]
    simp only [frzAll, h1, frzAll_I h.2]
theorem allI_take {cs : List AV} : ∀ (n : Nat), allI cs = true → allI (cs.take n) = true := by
  induction cs with
  | nil => intro n _; simp [allI]
  | cons c cs ih => intro n h; cases n with
    | zero => rfl
    | succ n => simp only [allI, Bool.and_eq_true] at h; simp only [List.take_succ_cons, allI, Bool.and_eq_true]; exact ⟨h.1, ih n h.2⟩
theorem allI_drop {cs : List AV} : ∀ (n : Nat), allI cs = true → allI (cs.drop n) = true := by
  induction cs with
  | nil => intro n _; simp [allI]
  | cons c cs ih => intro n h; cases n with
    | zero => exact h
    | succ n => simp only [allI, Bool.and_eq_true] at h; exact ih n h.2
/-- A store into such a row. -/
theorem S_put {sz k n : Nat} {a x : O} {y : AV} {cs vs : List AV} (hb : Own base M y sz cs) (hy : a.ev env = .elem y k) (hx : cellsOf (x.ev env) = some vs) (hn : vs.length = n) (hvs : allI vs = true) (hk : k + n ≤ cs.length) (hpos : 0 < n)
    (h : ∀ M', Own base M' y sz (splice cs k vs) → M'.length = M.length → (∀ id, (∀ off len sz' cd, y ≠ .ms id off len sz' cd) → M'[id]? = M[id]?) → WS p base 0 r (updO env d (.flat undef)) M' D R) :
    WS p base 0 (⟨d, .store n a x, none⟩ :: r) env M D R := by
  have hlen := hb.buf.len
  obtain ⟨h0, hA, ⟨q, hq⟩, ⟨hnil, _⟩ | ⟨hne, id, hid, hlt, hs, hm⟩⟩ := hb
  · subst hnil; simp at hk; omega
  · have hsl : (splice cs k vs).length = cs.length := by simp [splice]; omega
    have hv : evI (ev p) base env M D (.store n a x) = some (.x (.flat undef) (M.set id (some (splice cs k vs))) D) := by
      simp only [evI, hx, hn, if_true, hy, hs, storeA, frzAll_I hvs, hm, Nat.zero_add, hlen]
      rw [if_pos ⟨by omega, Nat.le_refl _⟩]
      simp only [dirt]
      rw [if_neg (by omega)]
    refine S_0 hv (SO_x (h _ ⟨h0, ?_, ⟨q, by rw [hsl, hq]⟩, .inr ⟨?_, id, hid, by simpa using hlt, by rw [hsl]; exact hs, by rw [List.getElem?_set_self hlt]⟩⟩ (by simp) fun id' hid' => ?_))
    · exact allI_app (allI_app (allI_take _ hA) hvs) (allI_drop _ hA)
    · intro e; have := congrArg List.length e; rw [hsl] at this; exact hne (List.eq_nil_of_length_eq_zero (by simpa using this))
    · rw [List.getElem?_set_ne (fun e => hid' _ _ _ _ (by rw [← e]; exact hs))]
end
end Go.Proofs.Ytopiaiibpacmlaa.Av
