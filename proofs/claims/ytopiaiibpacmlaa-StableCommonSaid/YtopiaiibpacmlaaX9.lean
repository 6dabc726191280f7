/- What trimming comes to, whatever the order: plain lists. -/
import Derived.Test.YtopiaiibpacmlaaX5
import Derived.Test.YtopiaiibpacmlaaX7
import Derived.Test.YtopiaiibpacmlaaX8
namespace Go.Proofs.Ytopiaiibpacmlaa.Av
set_option linter.unusedSimpArgs false
set_option linter.unusedVariables false
abbrev Pa := List Int
abbrev In := List (List Pa)
def atL (L : In) (u : Int) : List Pa := L.getD u.toNat []
def sureP (L : In) : Pa → Prop
  | [] => False
  | _ :: r => r.head? = some 0 ∨ (∃ u, r.head? = some u ∧ atL L u = [r] ∧ sureP L r)
def usel (L : In) (p : Pa) : Prop := p.getD 1 0 ≠ 0 ∧ p.drop 1 ∉ atL L (p.getD 1 0)
def idle (L : In) (v : Int) (p : Pa) : Prop := ∃ q, [q, p].Sublist (atL L v) ∧ sureP L q
def goes (L : In) (p : Pa) : Prop := ∃ v, p.head? = some v ∧ p ∈ atL L v ∧ (usel L p ∨ idle L v p)
def InOk (L : In) : Prop := L.getD 0 [] = [] ∧ ∀ u : Nat, (L.getD u []).Nodup ∧ ∀ p ∈ L.getD u [], ∃ t, p = (u : Int) :: t ∧ t ≠ [] ∧ (∀ a ∈ t, 0 ≤ a) ∧ (t.head? = some 0 → t = [0])
def keepL (L : In) (K : Pa → Bool) : In := L.map (·.filter K)
def delP (L : In) (p : Pa) : In := keepL L fun q => decide (q ≠ p)
theorem getD_keep (L : In) (K : Pa → Bool) (u : Nat) : (keepL L K).getD u [] = (L.getD u []).filter K := by
  simp only [keepL, List.getD, List.getElem?_map]
  cases L[u]? <;> rfl
theorem at_keep (L : In) (K : Pa → Bool) (u : Int) : atL (keepL L K) u = (atL L u).filter K := getD_keep ..
theorem at_del (L : In) (p : Pa) (u : Int) : atL (delP L p) u = (atL L u).filter fun q => decide (q ≠ p) := at_keep ..
theorem keep_len (L : In) (K : Pa → Bool) : (keepL L K).length = L.length := by simp [keepL]
theorem keep_keep (L : In) (K K' : Pa → Bool) : keepL (keepL L K) K' = keepL L fun q => K q && K' q := by
  simp only [keepL, List.map_map]
  refine List.map_congr_left fun l _ => ?_
  simp [Function.comp_def, List.filter_filter, Bool.and_comm]
theorem keep_congr {L : In} {K K' : Pa → Bool} (h : ∀ l ∈ L, ∀ p ∈ l, K p = K' p) : keepL L K = keepL L K' :=
  List.map_congr_left fun l hl => List.filter_congr (h l hl)
theorem keep_true {L : In} {K : Pa → Bool} (h : ∀ l ∈ L, ∀ p ∈ l, K p = true) : keepL L K = L := by
  rw [keep_congr (K' := fun _ => true) h]
  have : (fun x : List Pa => List.filter (fun _ => true) x) = id := by funext x; simp
  rw [keepL, this, List.map_id]
theorem ok_keep {L : In} (h : InOk L) (K : Pa → Bool) : InOk (keepL L K) := by
  refine ⟨by rw [getD_keep, h.1]; rfl, fun u => ?_⟩
  rw [getD_keep]
  exact ⟨(h.2 u).1.filter _, fun p hp => (h.2 u).2 p (List.mem_filter.1 hp).1⟩
theorem ok_at {L : In} (h : InOk L) {u : Int} {p : Pa} (hp : p ∈ atL L u) (hu : p.head? = some u) : ∃ (w : Nat) (t : Pa), u = w ∧ p = (w : Int) :: t ∧ t ≠ [] ∧ (∀ a ∈ t, 0 ≤ a) ∧ (t.head? = some 0 → t = [0]) := by
  obtain ⟨t, h1, h2⟩ := (h.2 u.toNat).2 p hp
  subst h1
  simp only [List.head?_cons, Option.some.injEq] at hu
  exact ⟨u.toNat, t, hu.symm, rfl, h2⟩
theorem sure_not_usel {L : In} {p : Pa} (h : sureP L p) : ¬ usel L p := by
  match p, h with
  | a :: t, h =>
    rintro ⟨h1, h2⟩
    have e : (a :: t).getD 1 0 = t.head?.getD 0 := by cases t <;> rfl
    rw [e] at h1 h2
    rcases h with h | ⟨u, h3, h4, _⟩
    · rw [h] at h1; exact h1 rfl
    · rw [h3] at h2
      simp only [Option.getD_some, List.drop_succ_cons, List.drop_zero] at h2
      exact h2 (by rw [h4]; simp)
theorem bef_trans {a b c : Pa} : ∀ {l : List Pa}, l.Nodup → [a, b].Sublist l → [b, c].Sublist l → [a, c].Sublist l
  | [], _, h, _ => by cases h
  | x :: l, hn, h1, h2 => by
    obtain ⟨hx, hn⟩ := List.nodup_cons.1 hn
    have hc : ∀ h : [b, c].Sublist l, c ∈ l := fun h => h.subset (by simp)
    cases h1 with
    | cons _ h1 =>
      have hb : b ∈ l := h1.subset (by simp)
      cases h2 with
      | cons _ h2 => exact (bef_trans hn h1 h2).cons _
      | cons_cons _ h2 => exact absurd hb hx
    | cons_cons _ h1 =>
      have hb : b ∈ l := h1.subset (by simp)
      cases h2 with
      | cons _ h2 => exact .cons_cons _ (List.singleton_sublist.2 (hc h2))
      | cons_cons _ h2 => exact absurd hb hx
theorem bef_irr {a : Pa} {l : List Pa} (hn : l.Nodup) : ¬ [a, a].Sublist l := fun h => by
  have := hn.sublist h
  simp at this
theorem sure_del {L : In} {r : Pa} (hr : goes L r) : ∀ {q : Pa}, sureP L q → sureP (delP L r) q
  | [], h => h
  | a :: t, h => by
    rcases h with h | ⟨u, h1, h2, h3⟩
    · exact .inl h
    · refine .inr ⟨u, h1, ?_, sure_del hr h3⟩
      have hne : t ≠ r := by
        intro e
        subst e
        obtain ⟨v, hv, hm, hg⟩ := hr
        rw [h1] at hv
        cases hv
        rcases hg with hg | ⟨q, hq, _⟩
        · exact sure_not_usel h3 hg
        · rw [h2] at hq
          have := hq.length_le
          simp at this
      rw [at_del, h2]
      simp [hne]
theorem goes_del {L : In} (hO : InOk L) {p r : Pa} (hp : goes L p) (hr : goes L r) (hne : p ≠ r) : goes (delP L r) p := by
  obtain ⟨v, hv, hm, hg⟩ := hp
  refine ⟨v, hv, by rw [at_del]; exact List.mem_filter.2 ⟨hm, by simpa using hne⟩, ?_⟩
  rcases hg with ⟨h1, h2⟩ | ⟨q, hq, hs⟩
  · refine .inl ⟨h1, fun h => h2 ?_⟩
    rw [at_del] at h
    exact (List.mem_filter.1 h).1
  · have key : ∀ q', [q', p].Sublist (atL L v) → q' ≠ r → sureP L q' → idle (delP L r) v p := fun q' h1 h2 h3 => by
      refine ⟨q', ?_, sure_del hr h3⟩
      rw [at_del]
      have := h1.filter fun q => decide (q ≠ r)
      simpa [h2, hne] using this
    by_cases hqr : q = r
    · subst hqr
      obtain ⟨v', hv', hm', hg'⟩ := hr
      have hqm : q ∈ atL L v := hq.subset (by simp)
      have hvv : v' = v := by
        obtain ⟨t, ht, _⟩ := (hO.2 v.toNat).2 q hqm
        obtain ⟨t', ht', _⟩ := (hO.2 v.toNat).2 p hm
        rw [ht] at hv'
        rw [ht'] at hv
        simp only [List.head?_cons, Option.some.injEq] at hv hv'
        omega
      subst hvv
      rcases hg' with hg' | ⟨q2, hq2, hs2⟩
      · exact absurd hg' (sure_not_usel hs)
      · refine .inr (key q2 (bef_trans (hO.2 _).1 hq2 hq) ?_ hs2)
        intro e
        subst e
        exact bef_irr (hO.2 _).1 hq2
    · exact .inr (key q hq hqr hs)
theorem del_comm (L : In) (p r : Pa) : delP (delP L p) r = delP (delP L r) p := by
  simp only [delP, keep_keep, Bool.and_comm]
inductive Red : Nat → In → In → Prop
  | refl (L : In) : Red 0 L L
  | step {k : Nat} {L N : In} {p : Pa} (h : goes L p) (r : Red k (delP L p) N) : Red (k + 1) L N
def NF (L : In) : Prop := ∀ p, ¬ goes L p
theorem red_first {k : Nat} {L N : In} (h : Red k L N) : InOk L → NF N → ∀ {p}, goes L p → ∃ k', k = k' + 1 ∧ Red k' (delP L p) N := by
  induction h with
  | refl L => intro _ hN p hp; exact absurd hp (hN p)
  | @step k L N q hq r ih =>
    intro hO hN p hp
    by_cases e : p = q
    · subst e; exact ⟨k, rfl, r⟩
    · obtain ⟨k', rfl, h⟩ := ih (ok_keep hO _) hN (goes_del hO hp hq e)
      refine ⟨k' + 1, rfl, .step (goes_del hO hq hp (Ne.symm e)) ?_⟩
      rwa [del_comm]
theorem red_uniq {k : Nat} {L N : In} (h : Red k L N) : InOk L → NF N → ∀ {m N'}, Red m L N' → NF N' → k = m ∧ N = N' := by
  induction h with
  | refl L =>
    intro _ hN m N' h' _
    cases h' with
    | refl => exact ⟨rfl, rfl⟩
    | step h _ => exact absurd h (hN _)
  | @step k L N q hq r ih =>
    intro hO hN m N' h' hN'
    obtain ⟨m', rfl, h⟩ := red_first h' hO hN' hq
    obtain ⟨h1, h2⟩ := ih (ok_keep hO _) hN h hN'
    exact ⟨by omega, h2⟩
theorem red_trans {k m : Nat} {L M N : In} (h : Red k L M) (h' : Red m M N) : Red (k + m) L N := by
  induction h with
  | refl => simpa using h'
  | step h _ ih => rw [show ∀ k, k + 1 + m = (k + m) + 1 by intro k; omega]; exact .step h (ih h')
theorem red_ok {k : Nat} {L N : In} (h : Red k L N) : InOk L → InOk N := by
  induction h with
  | refl => exact id
  | step _ _ ih => exact fun hO => ih (ok_keep hO _)
theorem red_len {k : Nat} {L N : In} (h : Red k L N) : N.length = L.length := by
  induction h with
  | refl => rfl
  | step _ _ ih => rw [ih, delP, keep_len]
theorem red_batch : ∀ {S : List Pa} {L : In}, InOk L → S.Nodup → (∀ p ∈ S, goes L p) → Red S.length L (keepL L fun q => decide (q ∉ S))
  | [], L, _, _, _ => by rw [keep_true (by simp)]; exact .refl L
  | p :: S, L, hO, hn, h => by
    obtain ⟨hx, hn⟩ := List.nodup_cons.1 hn
    refine .step (h p (by simp)) ?_
    have := red_batch (S := S) (ok_keep hO fun q => decide (q ≠ p)) hn fun q hq => goes_del hO (h q (by simp [hq])) (h p (by simp)) (fun e => hx (e ▸ hq))
    rw [keep_keep] at this
    rwa [keep_congr (K' := fun q => decide (q ≠ p) && decide (q ∉ S)) (fun l _ q _ => by simp [not_or])]
theorem sub_filter {l' l : List Pa} (h : l'.Sublist l) : l.Nodup → l.filter (fun p => decide (p ∈ l')) = l' := by
  induction h with
  | slnil => intro _; rfl
  | @cons l1 l2 a h ih =>
    intro hn
    obtain ⟨hx, hn⟩ := List.nodup_cons.1 hn
    rw [List.filter_cons, if_neg (by simpa using fun h' => hx (h.subset h')), ih hn]
  | @cons_cons l1 l2 a h ih =>
    intro hn
    obtain ⟨hx, hn⟩ := List.nodup_cons.1 hn
    rw [List.filter_cons, if_pos (by simp)]
    have : l2.filter (fun p => decide (p ∈ a :: l1)) = l2.filter (fun p => decide (p ∈ l1)) := List.filter_congr fun q hq => by
      have : q ≠ a := fun e => hx (e ▸ hq)
      simp [this]
    rw [this, ih hn]
theorem len_split (l : List Pa) (K : Pa → Bool) : (l.filter fun p => !K p).length + (l.filter K).length = l.length := by
  induction l with
  | nil => rfl
  | cons a l ih => cases h : K a <;> simp [h] <;> omega
/-- Paths of one node go. -/
theorem cut_red {L : In} (hO : InOk L) (v : Nat) {l' : List Pa} (hl : l'.Sublist (L.getD v [])) (h : ∀ p ∈ L.getD v [], p ∉ l' → goes L p) : Red ((L.getD v []).length - l'.length) L (L.set v l') := by
  have hn := (hO.2 v).1
  have hf := sub_filter hl hn
  have hS := red_batch (S := (L.getD v []).filter fun p => !decide (p ∈ l')) hO (hn.filter _) fun p hp => by
    obtain ⟨h1, h2⟩ := List.mem_filter.1 hp
    exact h p h1 (by simpa using h2)
  have hlen := len_split (L.getD v []) fun p => decide (p ∈ l')
  rw [hf] at hlen
  rw [show (L.getD v []).length - l'.length = ((L.getD v []).filter fun p => !decide (p ∈ l')).length by omega]
  have : (keepL L fun q => decide (q ∉ (L.getD v []).filter fun p => !decide (p ∈ l'))) = L.set v l' := by
    obtain ⟨S, hSe⟩ : ∃ S, S = (L.getD v []).filter fun p => !decide (p ∈ l') := ⟨_, rfl⟩
    rw [← hSe]
    refine List.ext_getElem (by simp [keepL]) fun i h1 h2 => ?_
    have hi : i < L.length := by simpa [keepL] using h1
    have hLi : L.getD i [] = L[i] := by simp [List.getD, hi]
    have e1 : (keepL L fun q => decide (q ∉ S))[i] = L[i].filter fun q => decide (q ∉ S) := by simp [keepL]
    rw [e1, List.getElem_set]
    split
    · rename_i e
      subst e
      rw [hLi] at hf hSe
      refine Eq.trans (List.filter_congr fun q hq => ?_) hf
      rw [hSe]
      simp [hq]
    · rename_i hne
      refine List.filter_eq_self.2 fun q hq => ?_
      have hq' : q ∉ L.getD v [] := fun hv => by
        obtain ⟨t, ht, _⟩ := (hO.2 v).2 q hv
        obtain ⟨t', ht', _⟩ := (hO.2 i).2 q (by rw [hLi]; exact hq)
        rw [ht] at ht'
        simp only [List.cons.injEq] at ht'
        omega
      have : q ∉ S := fun h => hq' (by rw [hSe] at h; exact (List.mem_filter.1 h).1)
      simpa using this
  rw [← this]
  exact hS
end Go.Proofs.Ytopiaiibpacmlaa.Av
namespace Go.Proofs.Ytopiaiibpacmlaa.Av
set_option linter.unusedSimpArgs false
set_option linter.unusedVariables false
def prodL : List (List Pa) → List (List Pa)
  | [] => [[]]
  | l :: r => (l ++ [[]]).flatMap fun p => (prodL r).map (p :: ·)
def sts (L : In) : List (List Pa) := (prodL (L.drop 1)).map ([0] :: ·)
noncomputable def evF (L : In) : List (List Pa) := open Classical in (sts L).filter fun s => decide (StabP L s)
theorem prodL_mem : ∀ {R : List (List Pa)} {s : List Pa}, s ∈ prodL R ↔ s.length = R.length ∧ ∀ i, i < R.length → s.getD i [] = [] ∨ s.getD i [] ∈ R.getD i []
  | [], s => by simp [prodL]
  | l :: R, s => by
    simp only [prodL, List.mem_flatMap, List.mem_map, List.mem_append, List.mem_singleton]
    constructor
    · rintro ⟨p, hp, t, ht, rfl⟩
      obtain ⟨h1, h2⟩ := prodL_mem.1 ht
      refine ⟨by simp [h1], fun i hi => ?_⟩
      cases i with
      | zero => simp only [List.getD_cons_zero]; exact hp.symm
      | succ i => simp only [List.getD_cons_succ]; exact h2 i (by simpa using hi)
    · rintro ⟨h1, h2⟩
      match s, h1 with
      | p :: t, h1 =>
        refine ⟨p, by have := h2 0 (by simp); simp only [List.getD_cons_zero] at this; exact this.symm, t, prodL_mem.2 ⟨by simpa using h1, fun i hi => ?_⟩, rfl⟩
        have := h2 (i + 1) (by simpa using hi)
        simpa only [List.getD_cons_succ] using this
theorem prodL_nodup : ∀ {R : List (List Pa)}, (∀ l ∈ R, l.Nodup ∧ [] ∉ l) → (prodL R).Nodup
  | [], _ => by simp [prodL]
  | l :: R, h => by
    have ih := prodL_nodup (R := R) fun l hl => h l (by simp [hl])
    obtain ⟨h1, h2⟩ := h l (by simp)
    have hn : (l ++ [[]]).Nodup := by
      rw [List.nodup_append]
      exact ⟨h1, by simp, fun a ha b hb => by simp only [List.mem_singleton] at hb; subst hb; rintro rfl; exact h2 ha⟩
    simp only [prodL]
    generalize l ++ [[]] = l' at hn
    induction l' with
    | nil => simp
    | cons a l' ih' =>
      obtain ⟨h3, h4⟩ := List.nodup_cons.1 hn
      rw [List.flatMap_cons, List.nodup_append]
      refine ⟨List.Pairwise.map _ (fun x y hxy => by simpa using hxy) ih, ih' h4, ?_⟩
      intro x hx y hy
      obtain ⟨t, _, rfl⟩ := List.mem_map.1 hx
      obtain ⟨b, hb, hy⟩ := List.mem_flatMap.1 hy
      obtain ⟨t', _, rfl⟩ := List.mem_map.1 hy
      intro e
      simp only [List.cons.injEq] at e
      exact h3 (e.1 ▸ hb)
theorem prodL_keep (K : Pa → Bool) (hK : K [] = true) : ∀ R : List (List Pa), prodL (R.map (·.filter K)) = (prodL R).filter fun s => s.all K
  | [] => by simp [prodL]; rfl
  | l :: R => by
    simp only [List.map_cons, prodL, prodL_keep K hK R]
    have h1 : l.filter K ++ [[]] = (l ++ [[]]).filter K := by simp [hK]
    rw [h1]
    generalize l ++ [[]] = l'
    induction l' with
    | nil => rfl
    | cons a l' ih =>
      rw [List.flatMap_cons, List.filter_append, ← ih, List.filter_map]
      by_cases h : K a = true
      · rw [List.filter_cons, if_pos h, List.flatMap_cons]
        have : (fun s => List.all s K) ∘ (fun x => a :: x) = fun s : List Pa => s.all K := by funext s; simp [h]
        rw [this]
      · rw [List.filter_cons, if_neg h]
        have : ((fun s => List.all s K) ∘ (fun x => a :: x)) = fun s : List Pa => false := by funext s; simp [h]
        rw [this]
        simp
theorem sts_mem {L : In} (hL : L ≠ []) {s : List Pa} : s ∈ sts L ↔ s.length = L.length ∧ s.getD 0 [] = [0] ∧ ∀ v, 1 ≤ v → v < L.length → s.getD v [] = [] ∨ s.getD v [] ∈ L.getD v [] := by
  match L, hL with
  | l :: R, _ =>
    simp only [sts, List.mem_map, List.drop_succ_cons, List.drop_zero]
    constructor
    · rintro ⟨t, ht, rfl⟩
      obtain ⟨h1, h2⟩ := prodL_mem.1 ht
      refine ⟨by simp [h1], rfl, fun v hv1 hv2 => ?_⟩
      obtain ⟨k, rfl⟩ : ∃ k, v = k + 1 := ⟨v - 1, by omega⟩
      simp only [List.getD_cons_succ]
      exact h2 k (by simpa using hv2)
    · rintro ⟨h1, h2, h3⟩
      match s, h1, h2 with
      | p :: t, h1, h2 =>
        simp only [List.getD_cons_zero] at h2
        subst h2
        refine ⟨t, prodL_mem.2 ⟨by simpa using h1, fun i hi => ?_⟩, rfl⟩
        have := h3 (i + 1) (by omega) (by simpa using hi)
        simpa only [List.getD_cons_succ] using this
theorem sts_nodup {L : In} (hO : InOk L) : (sts L).Nodup := by
  refine List.Pairwise.map _ (fun x y hxy => by simpa using hxy) (prodL_nodup fun l hl => ?_)
  obtain ⟨i, hi, rfl⟩ := List.mem_iff_getElem.1 (List.mem_of_mem_drop hl)
  have := hO.2 i
  rw [show L.getD i [] = L[i] by simp [List.getD, hi]] at this
  exact ⟨this.1, fun h => by obtain ⟨t, ht, _⟩ := this.2 _ h; cases ht⟩
theorem opn_cons {s : List Pa} {a : Int} {t : Pa} : opn s (a :: t) ↔ ∃ u : Nat, t.head? = some (u : Int) ∧ s[u]? = some t := by
  unfold opn
  constructor
  · rintro ⟨u, h1, h2⟩
    refine ⟨u, ?_, by simpa using h2⟩
    cases t with
    | nil => simp at h1
    | cons b t => simpa using h1
  · rintro ⟨u, h1, h2⟩
    refine ⟨u, ?_, by simpa using h2⟩
    cases t with
    | nil => simp at h1
    | cons b t => simpa using h1
theorem getD_out {α : Type} {l : List α} {i : Nat} {d : α} (h : l.length ≤ i) : l.getD i d = d := by simp [List.getD, h]
theorem getD_of {α : Type} {s : List α} {u : Nat} {x d : α} (h : s[u]? = some x) : s.getD u d = x := by simp [List.getD, h]
theorem get_of' {s : List Pa} {u : Nat} {t : Pa} (h : s.getD u [] = t) (ht : t ≠ []) : s[u]? = some t := by
  simp only [List.getD] at h
  cases hs : s[u]? with
  | none => rw [hs] at h; exact absurd h.symm ht
  | some x => rw [hs] at h; simpa using h
/-- A sure path is open in each stable state. -/
theorem sure_opn {M : In} (hO : InOk M) {s : List Pa} (h0 : s.getD 0 [] = [0]) (hst : StabP M s) : ∀ {q : Pa} (v : Nat), q ∈ M.getD v [] → sureP M q → opn s q
  | [], _, _, h => h.elim
  | a :: t, v, hm, h => by
    obtain ⟨t', e, h1, h2, h3⟩ := (hO.2 v).2 _ hm
    obtain rfl : t = t' := by simp only [List.cons.injEq] at e; exact e.2
    rcases h with h | ⟨u, h4, h5, h6⟩
    · refine opn_cons.2 ⟨0, h, ?_⟩
      rw [h3 h]
      exact get_of' h0 (by simp)
    · have hu : 0 ≤ u := h2 u (by cases t <;> simp_all)
      have hm' : t ∈ M.getD u.toNat [] := by rw [show M.getD u.toNat [] = [t] from h5]; simp
      have ih := sure_opn hO h0 hst u.toNat hm' h6
      have hu0 : u.toNat ≠ 0 := fun e => by rw [e, hO.1] at hm'; simp at hm'
      have hul : u.toNat < M.length := by
        rcases Nat.lt_or_ge u.toNat M.length with h | h
        · exact h
        · rw [getD_out h] at hm'; simp at hm'
      have hs := hst u.toNat (by omega) hul
      rw [show M.getD u.toNat [] = [t] from h5] at hs
      have : resp s [t] = t := by simp [resp, List.find?, ih]
      rw [this] at hs
      exact opn_cons.2 ⟨u.toNat, by rw [h4, Int.toNat_of_nonneg hu], get_of' hs h1⟩
theorem resp_mem' (s : List Pa) (l : List Pa) : resp s l = [] ∨ resp s l ∈ l ∧ opn s (resp s l) := by
  unfold resp
  cases h : l.find? fun p => decide (opn s p) with
  | none => exact .inl rfl
  | some p => exact .inr ⟨List.mem_of_find?_eq_some h, by simpa using List.find?_some h⟩
/-- Something before a path that is open: the path is not chosen. -/
theorem resp_bef {s : List Pa} {l : List Pa} {q p : Pa} (hn : l.Nodup) (hp0 : p ≠ []) (hq : [q, p].Sublist l) (ho : opn s q) : resp s l ≠ p := by
  induction l with
  | nil => cases hq
  | cons x l ih =>
    obtain ⟨hx, hn⟩ := List.nodup_cons.1 hn
    unfold resp at ih ⊢
    rw [List.find?_cons]
    cases hq with
    | cons _ hq =>
      have hp : p ∈ l := hq.subset (by simp)
      split
      · intro e
        simp only [Option.getD_some] at e
        exact hx (e ▸ hp)
      · exact ih hn hq
    | cons_cons _ hq =>
      have hp : p ∈ l := hq.subset (by simp)
      simp only [ho, decide_true, Option.getD_some]
      rintro rfl
      exact hx hp
/-- A path that isn't chosen may go. -/
theorem resp_del {s : List Pa} {l : List Pa} {p : Pa} (hp0 : p ≠ []) (h : resp s l ≠ p ∨ ¬ opn s p) : resp s (l.filter fun q => decide (q ≠ p)) = resp s l := by
  induction l with
  | nil => rfl
  | cons x l ih =>
    unfold resp at ih h ⊢
    rw [List.find?_cons] at h ⊢
    by_cases hx : x = p
    · subst hx
      rw [List.filter_cons, if_neg (by simp)]
      by_cases ho : opn s x
      · simp [ho] at h
      · simp only [ho, decide_false] at h ⊢
        exact ih (.inr ho)
    · rw [List.filter_cons, if_pos (by simpa using hx), List.find?_cons]
      by_cases ho : opn s x
      · simp [ho]
      · simp only [ho, decide_false] at h ⊢
        exact ih h
theorem resp_del' {s : List Pa} {l : List Pa} {p : Pa} (hp0 : p ≠ []) (h : ¬ opn s p ∨ ∃ q, [q, p].Sublist l ∧ opn s q) (hn : l.Nodup) : resp s (l.filter fun q => decide (q ≠ p)) = resp s l :=
  resp_del hp0 (h.elim .inr fun ⟨_, h1, h2⟩ => .inl (resp_bef hn hp0 h1 h2))
/-- What goes isn't chosen in a stable state, of the one or of the other. -/
theorem goes_no {L M : In} (hO : InOk L) (hOM : InOk M) (hsub : ∀ u, (M.getD u []).Sublist (L.getD u [])) (hlen : M.length = L.length) {p : Pa} (hg : goes L p) (hsm : ∀ q, sureP L q → sureP M q) (hbef : ∀ q v, [q, p].Sublist (L.getD v []) → sureP L q → q ∈ M.getD v [])
    {s : List Pa} (h0 : s.getD 0 [] = [0]) (hl : s.length = M.length) (hst : StabP M s) : ¬ opn s p ∨ ∃ v : Nat, p.head? = some (v : Int) ∧ ∃ q, [q, p].Sublist (L.getD v []) ∧ opn s q := by
  obtain ⟨v, hv, hm, hg⟩ := hg
  obtain ⟨w, t, rfl, rfl, h1, h2, h3⟩ := ok_at hO hm hv
  rcases hg with ⟨hg1, hg2⟩ | ⟨q, hq, hs⟩
  · left
    intro ho
    obtain ⟨u, h4, h5⟩ := opn_cons.1 ho
    have e : ((w : Int) :: t).getD 1 0 = u := by cases t <;> simp_all
    rw [e] at hg1 hg2
    have hu : u < M.length := by rw [← hl]; exact (List.getElem?_eq_some_iff.1 h5).1
    have hsu := hst u (by omega) hu
    rw [getD_of h5] at hsu
    rcases resp_mem' s (M.getD u []) with h | ⟨h, _⟩
    · rw [h] at hsu; exact h1 hsu
    · rw [← hsu] at h
      exact hg2 ((hsub u).subset h)
  · right
    exact ⟨w, rfl, q, hq, sure_opn hOM h0 hst w (hbef q w hq hs) (hsm q hs)⟩
theorem stab_del {L : In} (hO : InOk L) {p : Pa} (hg : goes L p) {s : List Pa} (h0 : s.getD 0 [] = [0]) (hl : s.length = L.length) : StabP L s ↔ StabP (delP L p) s ∧ p ∉ s.drop 1 := by
  have hp0 : p ≠ [] := by obtain ⟨v, hv, _⟩ := hg; rintro rfl; simp at hv
  have hp := hg
  obtain ⟨v, hv, hm, _⟩ := hp
  obtain ⟨w, t, rfl, ept, _⟩ := ok_at hO hm hv
  have other : ∀ u, u ≠ w → p ∉ L.getD u [] := fun u hu hh => by
    obtain ⟨t', ht', _⟩ := (hO.2 u).2 p hh
    rw [ept] at ht'
    simp only [List.cons.injEq] at ht'
    omega
  have eqr : ∀ M, (M = L ∨ M = delP L p) → StabP M s → ∀ u, resp s ((delP L p).getD u []) = resp s (L.getD u []) := by
    intro M hM hst u
    have h1 : InOk M := by
      rcases hM with e | e
      · rw [e]; exact hO
      · rw [e]; exact ok_keep hO _
    have h2 : ∀ u, (M.getD u []).Sublist (L.getD u []) := by
      rcases hM with e | e
      · rw [e]; exact fun u => List.Sublist.refl _
      · rw [e]; exact fun u => by rw [delP, getD_keep]; exact List.filter_sublist
    have h3 : M.length = L.length := by
      rcases hM with e | e
      · rw [e]
      · rw [e]; exact keep_len _ _
    have h4 : ∀ q, sureP L q → sureP M q := by
      rcases hM with e | e
      · rw [e]; exact fun q h => h
      · rw [e]; exact fun q h => sure_del hg h
    have h5 : ∀ q v, [q, p].Sublist (L.getD v []) → sureP L q → q ∈ M.getD v [] := by
      rcases hM with e | e
      · rw [e]; exact fun q v h _ => h.subset (by simp)
      · rw [e]
        intro q v h _
        rw [delP, getD_keep]
        refine List.mem_filter.2 ⟨h.subset (by simp), ?_⟩
        simp only [ne_eq, decide_not, Bool.not_eq_true', decide_eq_false_iff_not]
        rintro rfl
        exact bef_irr (hO.2 v).1 h
    have hno := goes_no (M := M) hO h1 h2 h3 hg h4 h5 h0 (by omega) hst
    rw [delP, getD_keep]
    rcases hno with h | ⟨v, hv', q, h1, h2⟩
    · exact resp_del hp0 (.inr h)
    · have hvw : v = w := by rw [hv'] at hv; simp only [Option.some.injEq] at hv; omega
      subst hvw
      by_cases hu : u = v
      · subst hu; exact resp_del' hp0 (.inr ⟨q, h1, h2⟩) (hO.2 u).1
      · refine resp_del hp0 (.inl fun e => ?_)
        rcases resp_mem' s (L.getD u []) with h | ⟨h, _⟩
        · rw [h] at e; exact hp0 e.symm
        · rw [e] at h; exact other u hu h
  have hdl : (delP L p).length = L.length := keep_len _ _
  constructor
  · intro hst
    refine ⟨fun v h1 h2 => by rw [eqr L (.inl rfl) hst v]; exact hst v h1 (by omega), fun hmem => ?_⟩
    obtain ⟨i, hi, he⟩ := List.mem_iff_getElem.1 hmem
    rw [List.length_drop] at hi
    have hs1 := hst (1 + i) (by omega) (by omega)
    have he' : s.getD (1 + i) [] = p := by
      rw [← he, List.getElem_drop]
      have : 1 + i < s.length := by omega
      simp [List.getD, this]
    rw [he'] at hs1
    have := eqr L (.inl rfl) hst (1 + i)
    rw [← hs1, delP, getD_keep] at this
    rcases resp_mem' s ((L.getD (1 + i) []).filter fun q => decide (q ≠ p)) with h | ⟨h, _⟩
    · rw [h] at this; exact hp0 this.symm
    · rw [this] at h
      have := (List.mem_filter.1 h).2
      simp at this
  · rintro ⟨hst, _⟩ v h1 h2
    rw [← eqr _ (.inr rfl) hst v]
    exact hst v h1 (by omega)
theorem evF_del {L : In} (hO : InOk L) {p : Pa} (hg : goes L p) : evF (delP L p) = evF L := by
  have hp0 : p ≠ [] := by obtain ⟨v, hv, _⟩ := hg; rintro rfl; simp at hv
  have hL : L ≠ [] := by rintro rfl; obtain ⟨v, hv, hm, _⟩ := hg; simp [atL] at hm
  unfold evF sts
  have h1 : (delP L p).drop 1 = (L.drop 1).map (·.filter fun q => decide (q ≠ p)) := by simp [delP, keepL, List.map_drop]
  rw [h1, prodL_keep _ (by simpa using Ne.symm hp0), List.filter_map, List.filter_map, List.filter_filter]
  refine congrArg (List.map _) (List.filter_congr fun t ht => ?_)
  have hs : ([0] :: t) ∈ sts L := List.mem_map.2 ⟨t, ht, rfl⟩
  obtain ⟨h2, h3, _⟩ := (sts_mem hL).1 hs
  have := stab_del hO hg h3 h2
  simp only [Function.comp_apply]
  rw [Bool.eq_iff_iff]
  simp only [Bool.and_eq_true, decide_eq_true_eq, List.all_eq_true]
  rw [this]
  simp only [List.drop_succ_cons, List.drop_zero]
  exact and_congr_right fun _ => ⟨fun h hm => (h p hm) rfl, fun h q hq e => h (e ▸ hq)⟩
/-- A trimmed instance has the same stable states. -/
theorem evF_red {k : Nat} {L N : In} (h : Red k L N) : InOk L → evF N = evF L := by
  induction h with
  | refl => intro _; rfl
  | step hg _ ih => intro hO; rw [ih (ok_keep hO _), evF_del hO hg]
theorem filter_one {α : Type} {P : α → Bool} {x : α} : ∀ {l : List α}, l.Nodup → x ∈ l → (∀ y ∈ l, P y = true ↔ y = x) → l.filter P = [x]
  | [], _, h, _ => by simp at h
  | a :: l, hn, hm, h => by
    obtain ⟨ha, hn⟩ := List.nodup_cons.1 hn
    by_cases e : a = x
    · subst e
      rw [List.filter_cons, if_pos ((h a (by simp)).2 rfl)]
      have : l.filter P = [] := List.filter_eq_nil_iff.2 fun y hy hP => ha (((h y (by simp [hy])).1 hP) ▸ hy)
      rw [this]
    · rw [List.filter_cons, if_neg fun hP => e ((h a (by simp)).1 hP)]
      exact filter_one hn ((List.mem_cons.1 hm).resolve_left fun h => e h.symm) fun y hy => h y (by simp [hy])
theorem ext_getD {s t : List Pa} (hl : s.length = t.length) (h : ∀ i, i < s.length → s.getD i [] = t.getD i []) : s = t := by
  refine List.ext_getElem hl fun i h1 h2 => ?_
  have := h i h1
  simpa [List.getD, h1, h2] using this
/-- One state that is told by its paths. -/
theorem evF_one {L : In} (hO : InOk L) (hL : L ≠ []) {s : List Pa} (hs : s ∈ sts L) (hst : StabP L s) (hu : ∀ t ∈ sts L, StabP L t → ∀ v, 1 ≤ v → v < L.length → t.getD v [] = s.getD v []) : evF L = [s] := by
  refine filter_one (sts_nodup hO) hs fun t ht => ?_
  rw [decide_eq_true_eq]
  refine ⟨fun h => ?_, fun e => e ▸ hst⟩
  obtain ⟨h1, h2, _⟩ := (sts_mem hL).1 hs
  obtain ⟨h3, h4, _⟩ := (sts_mem hL).1 ht
  refine ext_getD (by omega) fun i hi => ?_
  rcases Nat.eq_zero_or_pos i with rfl | h0
  · rw [h2, h4]
  · exact hu t ht h i h0 (by omega)
def sol (L : In) : List Pa := [0] :: (L.drop 1).map (·.headD [])
theorem sol_getD {L : In} {v : Nat} (hv : 1 ≤ v) : (sol L).getD v [] = (L.getD v []).headD [] := by
  obtain ⟨k, rfl⟩ : ∃ k, v = k + 1 := ⟨v - 1, by omega⟩
  simp only [sol, List.getD_cons_succ]
  simp only [List.getD, List.getElem?_map, List.getElem?_drop, Nat.add_comm 1 k]
  cases L[k + 1]? <;> rfl
/-- All nodes settled: one stable state. -/
theorem evF_sol {L : In} (hO : InOk L) (hL : L ≠ []) (h : ∀ v, 1 ≤ v → v < L.length → L.getD v [] = [] ∨ ∃ p, L.getD v [] = [p] ∧ sureP L p) : evF L = [sol L] := by
  have hlen : (sol L).length = L.length := by
    cases L with
    | nil => exact absurd rfl hL
    | cons a l => simp [sol]
  have hmem : sol L ∈ sts L := (sts_mem hL).2 ⟨hlen, rfl, fun v h1 h2 => by
    rw [sol_getD h1]
    rcases h v h1 h2 with h | ⟨p, h, _⟩ <;> rw [h] <;> simp⟩
  have hop : ∀ v, 1 ≤ v → ∀ p, L.getD v [] = [p] → sureP L p → opn (sol L) p := by
    intro v h1 p hp hs
    obtain ⟨t, rfl, h3, h4, h5⟩ := (hO.2 v).2 p (by rw [hp]; simp)
    rcases hs with hs | ⟨u, h6, h7, _⟩
    · exact opn_cons.2 ⟨0, hs, by rw [h5 hs]; rfl⟩
    · have hu : 0 ≤ u := h4 u (by cases t <;> simp_all)
      have hu0 : u.toNat ≠ 0 := fun e => by unfold atL at h7; rw [e, hO.1] at h7; simp at h7
      refine opn_cons.2 ⟨u.toNat, by rw [h6, Int.toNat_of_nonneg hu], get_of' ?_ h3⟩
      rw [sol_getD (by omega), show L.getD u.toNat [] = [t] from h7]; rfl
  refine evF_one hO hL hmem (fun v h1 h2 => ?_) fun t ht hst v h1 h2 => ?_
  · rw [sol_getD h1]
    rcases h v h1 h2 with hh | ⟨p, hh, hs⟩
    · rw [hh]; rfl
    · have := hop v h1 p hh hs
      rw [hh]
      simp [resp, List.find?, this]
  · rw [hst v h1 h2, sol_getD h1]
    rcases h v h1 h2 with hh | ⟨p, hh, hs⟩
    · rw [hh]; rfl
    · have := sure_opn hO ((sts_mem hL).1 ht).2.1 hst v (by rw [hh]; simp) hs
      rw [hh]
      simp [resp, List.find?, this]
/-- The paths of a state alone. -/
def oneL (p : Pa) : List Pa := if p = [] then [] else [p]
def onl (s : List Pa) : In := [] :: (s.drop 1).map oneL
theorem onl_getD {s : List Pa} {v : Nat} (hv : 1 ≤ v) : (onl s).getD v [] = oneL (s.getD v []) := by
  obtain ⟨k, rfl⟩ : ∃ k, v = k + 1 := ⟨v - 1, by omega⟩
  simp only [onl, List.getD_cons_succ]
  simp only [List.getD, List.getElem?_map, List.getElem?_drop, Nat.add_comm 1 k]
  cases s[k + 1]? <;> rfl
theorem evF_onl {L : In} {s : List Pa} (hO : InOk L) (hL : L ≠ []) (hs : s ∈ sts L) (hst : StabP L s) : StabP (onl s) s ∧ evF (onl s) = [s] := by
  obtain ⟨hl, h0, hm⟩ := (sts_mem hL).1 hs
  have hs0 : 0 < s.length := by rw [hl]; exact List.length_pos_iff.2 hL
  have hlen : (onl s).length = s.length := by simp [onl]; omega
  have hsh : ∀ v, 1 ≤ v → v < s.length → s.getD v [] ≠ [] → opn s (s.getD v []) ∧ ∃ t, s.getD v [] = (v : Int) :: t ∧ t ≠ [] ∧ (∀ a ∈ t, 0 ≤ a) ∧ (t.head? = some 0 → t = [0]) := by
    intro v h1 h2 h3
    have := hst v h1 (by omega)
    rcases resp_mem' s (L.getD v []) with h | ⟨h4, h5⟩
    · rw [h] at this; exact absurd this h3
    · rw [← this] at h4 h5
      exact ⟨h5, (hO.2 v).2 _ h4⟩
  have hOO : InOk (onl s) := by
    refine ⟨rfl, fun u => ?_⟩
    rcases Nat.eq_zero_or_pos u with rfl | hu
    · exact ⟨by simp [onl], fun p hp => by simp [onl] at hp⟩
    · rw [onl_getD hu, oneL]
      split
      · exact ⟨by simp, fun p hp => by simp at hp⟩
      · rename_i hne
        refine ⟨by simp, fun p hp => ?_⟩
        simp only [List.mem_singleton] at hp
        subst hp
        have hus : u < s.length := by
          rcases Nat.lt_or_ge u s.length with h | h
          · exact h
          · exact absurd (getD_out h) hne
        exact (hsh u hu hus hne).2
  have hne : onl s ≠ [] := by simp [onl]
  have hmem : s ∈ sts (onl s) := (sts_mem hne).2 ⟨hlen.symm, h0, fun v h1 h2 => by
    rw [onl_getD h1, oneL]
    by_cases h : s.getD v [] = []
    · exact .inl h
    · right; rw [if_neg h]; simp⟩
  have hstab : StabP (onl s) s := fun v h1 h2 => by
    rw [onl_getD h1, oneL]
    by_cases h : s.getD v [] = []
    · rw [if_pos h, h]; rfl
    · rw [if_neg h]
      have := (hsh v h1 (by omega) h).1
      simp only [resp, List.find?, this, decide_true, Option.getD_some]
  refine ⟨hstab, evF_one hOO hne hmem hstab fun t ht htst => ?_⟩
  obtain ⟨ht1, ht0, _⟩ := (sts_mem hne).1 ht
  have : ∀ k v, 1 ≤ v → v < (onl s).length → (s.getD v []).length ≤ k → t.getD v [] = s.getD v [] := by
    intro k
    induction k with
    | zero =>
      intro v h1 h2 hk
      have h : s.getD v [] = [] := List.eq_nil_of_length_eq_zero (by omega)
      have := htst v h1 h2
      rw [onl_getD h1, oneL, if_pos h] at this
      rw [this, h]; rfl
    | succ k ih =>
      intro v h1 h2 hk
      have hv := htst v h1 h2
      rw [onl_getD h1, oneL] at hv
      by_cases h : s.getD v [] = []
      · rw [if_pos h] at hv
        rw [hv, h]; rfl
      · rw [if_neg h] at hv
        obtain ⟨ho, r, e, hr, hr2, hr3⟩ := hsh v h1 (by omega) h
        rw [e] at ho hk
        obtain ⟨u, hu1, hu2⟩ := opn_cons.1 ho
        have : opn t (s.getD v []) := by
          rw [e]
          refine opn_cons.2 ⟨u, hu1, ?_⟩
          rcases Nat.eq_zero_or_pos u with rfl | hu
          · rw [hr3 hu1]; exact get_of' ht0 (by simp)
          · have hul := (List.getElem?_eq_some_iff.1 hu2).1
            refine get_of' ?_ hr
            rw [ih u hu (by omega) (by rw [getD_of hu2]; simp only [List.length_cons] at hk; omega), getD_of hu2]
        rw [hv]
        simp only [resp, List.find?, this, decide_true, Option.getD_some]
  exact fun v h1 h2 => this _ v h1 h2 (Nat.le_refl _)
end Go.Proofs.Ytopiaiibpacmlaa.Av
namespace Go.Proofs.Ytopiaiibpacmlaa.Av
open Go.RowKit
set_option linter.unusedSimpArgs false
set_option linter.unusedVariables false
set_option maxHeartbeats 10000000
/-- A state, as a value. -/
structure Sta where
  s : List Pth
  ns : Bool
  cs : Bool
def Sta.av (x : Sta) : AV := .list 1 (x.s.map Pth.av) x.ns x.cs
def Sta.l (x : Sta) : List Pa := pl x.s
theorem allI_stas : ∀ l : List Sta, allI (l.map Sta.av) = true := allI_map fun _ => rfl
def idOf : AV → Option Nat
  | .ms id _ _ _ _ => some id
  | _ => none
/-- A state that is read, and given up. -/
def SV (M : MS) (x : AV) (s : List Pth) : Prop := (∃ ns cs, x = .list 1 (s.map Pth.av) ns cs) ∨ ∃ id, id < M.length ∧ x = .ms id 0 s.length 1 false ∧ M[id]? = some (some (s.map Pth.av))
/-- A row that grows. -/
def SRow (M : MS) (x : AV) (cs : List AV) : Prop := (x = .list 1 [] true true ∧ cs = []) ∨ ∃ id, id < M.length ∧ x = .ms id 0 cs.length 1 false ∧ M[id]? = some (some cs)
theorem SV.view {M : MS} {x : AV} {s : List Pth} (h : SV M x s) : Av.view M x = some (s.map Pth.av) := by
  rcases h with ⟨ns, cs, rfl⟩ | ⟨id, _, rfl, h⟩
  · rfl
  · simp only [Av.view, h]
    rw [if_pos (by simp)]
    simp [List.take_of_length_le]
theorem SV.len {M : MS} {x : AV} {s : List Pth} (h : SV M x s) : lenOf x = some s.length := by
  rcases h with ⟨ns, cs, rfl⟩ | ⟨id, _, rfl, h⟩
  · simp [lenOf]
  · rfl
theorem SV.cell {M : MS} {x : AV} {s : List Pth} (h : SV M x s) : cellsOf x = some [x] := by
  rcases h with ⟨ns, cs, rfl⟩ | ⟨id, _, rfl, h⟩ <;> rfl
theorem SV.keep {M M' : MS} {x : AV} {s : List Pth} (h : SV M x s) (hl : M.length ≤ M'.length) (hk : ∀ id, id < M.length → idOf x = some id → M'[id]? = M[id]?) : SV M' x s := by
  rcases h with h | ⟨id, h1, rfl, h⟩
  · exact .inl h
  · exact .inr ⟨id, by omega, rfl, by rw [hk id h1 rfl]; exact h⟩
theorem SRow.keep {M M' : MS} {x : AV} {cs : List AV} (h : SRow M x cs) (hl : M.length ≤ M'.length) (hk : ∀ id, id < M.length → idOf x = some id → M'[id]? = M[id]?) : SRow M' x cs := by
  rcases h with h | ⟨id, h1, rfl, h⟩
  · exact .inl h
  · exact .inr ⟨id, by omega, rfl, by rw [hk id h1 rfl]; exact h⟩
theorem SV.vw {M : MS} {x : AV} {s : List Pth} (h : SV M x s) : Vw M x (s.map Pth.av) s.length :=
  ⟨h.len, fun G => (h.keep (M' := M ++ G) (by simp) fun id hid _ => by rw [List.getElem?_append_left hid]).view, h.cell⟩
theorem SV.lt {M : MS} {x : AV} {s : List Pth} (h : SV M x s) {id : Nat} (hi : idOf x = some id) : id < M.length := by
  rcases h with ⟨ns, cs, rfl⟩ | ⟨i, h1, rfl, _⟩
  · cases hi
  · cases hi; exact h1
theorem SRow.lt {M : MS} {x : AV} {cs : List AV} (h : SRow M x cs) {id : Nat} (hi : idOf x = some id) : id < M.length := by
  rcases h with ⟨rfl, _⟩ | ⟨i, h1, rfl, _⟩
  · cases hi
  · cases hi; exact h1
section
variable {p : Pr} {base : Nat} {env : Env} {m : MS} {D : List Nat} {d : Option Nat} {r : List AOp} {R : Env → MS → List Nat → Prop}
theorem S_bslS {x : O} {zs : List AV} {sv : AV} {s : List Pth} (hs : SV m sv s) (hx : x.ev env = sv) (hz : zs.length = 1)
    (h : ∀ m' ns cs D', (∀ i, some i ≠ idOf sv → m'[i]? = m[i]?) → m'.length = m.length → (∀ i ∈ D', i ∈ D ∨ some i = idOf sv) → WS p base 0 r (updO env d (.list 1 [.list 1 (s.map Pth.av) ns cs] false true)) m' D' R) :
    WS p base 0 (⟨d, .bslice 1 1 zs [(0, 1, x)], none⟩ :: r) env m D R := by
  have hf : fillA (List.replicate 1 zs).flatten (List.map (fun x => match x with | (o, n, x) => (o, n, x.ev env)) [(0, 1, x)]) = some [sv] := by
    match zs, hz with
    | [z], _ => simp [fillA, hx, hs.cell]
  rcases hs with ⟨ns, cs, rfl⟩ | ⟨id, h1, rfl, h2⟩
  · have hv : evI (ev p) base env m D (.bslice 1 1 zs [(0, 1, x)]) = some (.q (.list 1 [.list 1 (s.map Pth.av) ns cs] false true)) := by
      simp only [evI, hf]; rfl
    exact S_0 hv (SO_q (h m ns cs D (fun _ _ => rfl) rfl fun i hi => .inl hi))
  · have hv : evI (ev p) base env m D (.bslice 1 1 zs [(0, 1, x)]) = some (.x (.list 1 [.list 1 (s.map Pth.av) false false] false true) (m.set id none) (dirt base id D)) := by
      simp only [evI, hf, allI, isI, Bool.false_and, Bool.false_eq_true, if_false]
      simp only [frzAll, frz, h2]
      rw [if_pos ⟨Nat.zero_le _, by simp, allI_pths s⟩]
      simp only [List.drop_zero, dirts, Nat.mul_one]
      rw [List.take_of_length_le (by simp)]
    refine S_0 hv (SO_x (h _ _ _ _ (fun i hi => ?_) (by simp) fun i hi => ?_))
    · rw [List.getElem?_set_ne]; intro e; exact hi (by rw [e]; rfl)
    · unfold dirt at hi
      split at hi
      · rcases List.mem_cons.1 hi with rfl | hi
        · exact .inr rfl
        · exact .inl hi
      · exact .inl hi
theorem S_appR {s x : O} {fv y : AV} {cs : List AV} {bytes : Nat} (hf : SRow m fv cs) (hs : s.ev env = fv) (hx : x.ev env = .list 1 [y] false true) (hy : isI y = true) (hA : allI cs = true) (hl : cs.length ≤ 3000) (hb : bytes ≤ 1000)
    (h : ∀ w m' D', SRow m' w (cs ++ [y]) → m.length ≤ m'.length → (∀ i, i < m.length → some i ≠ idOf fv → m'[i]? = m[i]?) → (∀ i ∈ D', i ∈ D ∨ some i = idOf fv) → (∀ id, idOf w = some id → m.length ≤ id) → WS p base 0 r (updO env d w) m' D' R) :
    WS p base 0 (⟨d, .app 1 bytes s x, none⟩ :: r) env m D R := by
  have hbb : ∀ k, k ≤ 3001 → k * bytes ≤ 140737488355328 := fun k hk => Nat.le_trans (Nat.mul_le_mul hk hb) (by decide)
  have hyA : allI [y] = true := by simp only [allI, hy, Bool.and_self]
  rcases hf with ⟨rfl, rfl⟩ | ⟨id, h1, rfl, h2⟩
  · have hv : evI (ev p) base env m D (.app 1 bytes s x) = some (.x (.ms m.length 0 1 1 false) (m ++ [some [y]]) D) := by
      simp only [evI, hx, view_list, lenOf_list, hs, List.length_singleton, Nat.div_one, appA]
      rw [if_neg (by decide), if_pos ⟨.inl trivial, trivial, hyA, trivial, by decide, hbb _ (by simp)⟩]
      rfl
    refine S_0 hv (SO_x (h _ _ _ (.inr ⟨m.length, by simp, rfl, by simp⟩) (by simp) (fun i hi _ => by rw [List.getElem?_append_left hi]) (fun i hi => .inl hi) fun id hid => by cases hid; exact Nat.le_refl _))
  · have hv : evI (ev p) base env m D (.app 1 bytes s x) = some (.x (.ms m.length 0 (cs.length + 1) 1 false) (m.set id none ++ [some (cs ++ [y])]) (dirt base id D)) := by
      simp only [evI, hx, view_list, lenOf_list, hs, List.length_singleton, Nat.div_one, appA, h2]
      rw [if_neg (by decide), if_pos ⟨trivial, hyA, trivial, by unfold LIM; omega, hbb _ (by omega), by simp⟩]
      simp only [Bool.false_eq_true, if_false, if_true, Nat.mul_one, List.take_length]
    refine S_0 hv (SO_x (h _ _ _ (.inr ⟨m.length, by simp, by simp, by simp⟩) (by simp) (fun i hi hne => ?_) (fun i hi => ?_) fun id hid => by cases hid; exact Nat.le_refl _))
    · rw [List.getElem?_append_left (by simpa using hi), List.getElem?_set_ne]
      intro e; exact hne (by rw [e]; rfl)
    · unfold dirt at hi
      split at hi
      · rcases List.mem_cons.1 hi with rfl | hi
        · exact .inr rfl
        · exact .inl hi
      · exact .inl hi
end
/-- The stable states that begin with some paths. -/
noncomputable def evX (L : In) (s : List Pa) (ps : List Pa) (R : List (List Pa)) : List (List Pa) := (((ps.flatMap fun p => (prodL R).map (p :: ·)).map (s ++ ·)).filter fun t => decide (StabP L t))
theorem evX_snoc (L : In) (s ps : List Pa) (p : Pa) (R : List (List Pa)) : evX L s (ps ++ [p]) R = evX L s ps R ++ ((prodL R).map ((s ++ [p]) ++ ·)).filter fun t => decide (StabP L t) := by
  simp only [evX, List.flatMap_append, List.flatMap_cons, List.flatMap_nil, List.append_nil, List.map_append, List.filter_append, List.map_map]
  congr 3
  funext t
  simp
end Go.Proofs.Ytopiaiibpacmlaa.Av
namespace Go.Proofs.Ytopiaiibpacmlaa.Av
open Go.RowKit
set_option linter.unusedSimpArgs false
set_option linter.unusedVariables false
set_option maxHeartbeats 10000000
theorem sta_av_eq (x : Sta) : x.av = .list 1 (x.s.map Pth.av) x.ns x.cs := rfl
attribute [go_sem] sta_av_eq
set_option maxRecDepth 100000 in
theorem lives23_0 : ev pr 48 [] [] = some (.q (.flat (.bool true))) := ev_some.2 ⟨80, by kernel_rfl⟩
theorem lives23 (M : MS) : ev pr 48 [] M = some (.q (.flat (.bool true))) := any rfl rfl lives23_0 M
theorem t128 {P : Sta → Prop} [DecidablePred P] {x : List Sta} {nx cx : Bool} {fn : Nat} {caps : List AV} {M : MS} (hx : x.length ≤ 9223372036854775807)
    (h : ∀ a ∈ x, ev pr fn (.list 1 (a.s.map Pth.av) a.ns a.cs :: caps) M = some (.q (.flat (.bool (decide (P a)))))) : ev pr 128 [.list 1 (x.map Sta.av) nx cx, .clo fn caps] M = some (.q (.flat (.int .i64 (fst P x)))) := by
  refine ev_fn' A128 ?_
  repeat' (first | ((with_reducible first | apply S_0 | apply S_q1 | apply S_g | apply S_c); exact sgc) | (with_reducible first | apply SO_q | apply SG_t | apply SG_f0 | apply SG_f1 | apply S_nil | apply T_n | apply W_seq | apply W_region | apply SO_x | apply SC_t | apply SC_f | apply W_block | apply W_ret | apply W_skip | apply W_exit | apply T_r | apply T_e | apply B_n | apply B_e) | (with_reducible apply B_ne; focus decide) | (with_reducible first | apply B_r | apply R_e | apply R_r | apply H_e | apply H_r | apply G_e | apply G_r) | (with_reducible apply SC_n) | ((with_reducible first | apply SC_d | apply SG_d | apply SG_n | apply SC_b | apply SG_b) <;> intro hc <;> try simp only [decide_eq_true_eq, decide_eq_false_iff_not, Classical.not_not, Bool.not_eq_true', Bool.not_eq_false'] at hc))
  refine W_rng 8 0 x.length (fun i _ => ∀ j, j < i → ∀ h : j < x.length, ¬ P x[j]) (by simp only [asg, asgO, List.append_nil, List.nil_append, List.cons_append]; rfl) (by exact svc) (by omega) (fun j hj => by omega) ?_
  rintro i e _ hi hk e8 hl
  repeat' (first | ((with_reducible first | apply S_0 | apply S_q1 | apply S_g | apply S_c); exact sgc) | (with_reducible first | apply SO_q | apply SG_t | apply SG_f0 | apply SG_f1 | apply S_nil | apply T_n | apply W_seq | apply W_region | apply SO_x | apply SC_t | apply SC_f | apply W_block | apply W_ret | apply W_skip | apply W_exit | apply T_r | apply T_e | apply B_n | apply B_e) | (with_reducible apply B_ne; focus decide) | (with_reducible first | apply B_r | apply R_e | apply R_r | apply H_e | apply H_r | apply G_e | apply G_r) | (with_reducible apply SC_n) | ((with_reducible first | apply SC_d | apply SG_d | apply SG_n | apply SC_b | apply SG_b) <;> intro hc <;> try simp only [decide_eq_true_eq, decide_eq_false_iff_not, Classical.not_not, Bool.not_eq_true', Bool.not_eq_false'] at hc))
  · (refine ⟨by first | exact .inr rfl | exact .inl rfl, ?_⟩; simp (disch := first | assumption | decide | omega | exact Pth.le _ | exact Rks.le _ | exact List.getElem_mem _ | exact allI_ints _ | exact allI_rks _ | exact allI_pths _ | exact Pth.nil _ | exact Rks.nil _ | (intro hh; simp only [Pth.nil _ hh, List.take_nil, List.drop_nil]; done) | (intro hh; simp only [Rks.nil _ hh, List.take_nil, List.drop_nil]; done) | (simp only [List.length_take, List.length_drop, List.length_append, List.length_cons, List.length_nil, List.length_replicate, List.length_map, ints_len]; omega)) only [resA, rvA, tupA, fin, frzV, frzTup, frzA, frz, isI, isI.all, Option.bind_some, go_sem, if_pos, if_neg, Nat.reduceBEq, Nat.reduceEqDiff, ↓reduceIte, Nat.reduceSub, Nat.reduceAdd, Int.reduceToNat, reduceCtorEq, Nat.reduceLeDiff, Nat.reduceLT, Nat.reduceMul, Nat.reduceDiv, Int.reduceLT, Int.reduceLE, Int.reduceEq, Int.reduceNe, Int.reduceAdd, Int.reduceSub, Int.reduceNeg, Int.reduceGT, Int.reduceGE, Int.reduceBEq, Int.reduceBNe, Int.reduceMul, *])
    rw [fst_at (i := i) (by omega) hc hl]
  · exact H_n (by exact svc) (by omega) (ext1 hl fun _ => hc)
  · (refine ⟨by first | exact .inr rfl | exact .inl rfl, ?_⟩; simp (disch := first | assumption | decide | omega | exact Pth.le _ | exact Rks.le _ | exact List.getElem_mem _ | exact allI_ints _ | exact allI_rks _ | exact allI_pths _ | exact Pth.nil _ | exact Rks.nil _ | (intro hh; simp only [Pth.nil _ hh, List.take_nil, List.drop_nil]; done) | (intro hh; simp only [Rks.nil _ hh, List.take_nil, List.drop_nil]; done) | (simp only [List.length_take, List.length_drop, List.length_append, List.length_cons, List.length_nil, List.length_replicate, List.length_map, ints_len]; omega)) only [resA, rvA, tupA, fin, frzV, frzTup, frzA, frz, isI, isI.all, Option.bind_some, go_sem, if_pos, if_neg, Nat.reduceBEq, Nat.reduceEqDiff, ↓reduceIte, Nat.reduceSub, Nat.reduceAdd, Int.reduceToNat, reduceCtorEq, Nat.reduceLeDiff, Nat.reduceLT, Nat.reduceMul, Nat.reduceDiv, Int.reduceLT, Int.reduceLE, Int.reduceEq, Int.reduceNe, Int.reduceAdd, Int.reduceSub, Int.reduceNeg, Int.reduceGT, Int.reduceGE, Int.reduceBEq, Int.reduceBNe, Int.reduceMul, *])
    rw [fst_no (all_of (Q := fun a => ¬ P a) (by omega) hl)]
theorem t101 {P : Sta → Prop} [DecidablePred P] {x : List Sta} {nx cx : Bool} {fn : Nat} {caps : List AV} {M : MS} (hx : x.length ≤ 9223372036854775807)
    (h : ∀ a ∈ x, ev pr fn (.list 1 (a.s.map Pth.av) a.ns a.cs :: caps) M = some (.q (.flat (.bool (decide (P a)))))) : ev pr 101 [.list 1 (x.map Sta.av) nx cx, .clo fn caps] M = some (.q (.flat (.bool (decide (∃ a ∈ x, P a))))) := by
  have h1 := @t128 P _ x nx cx fn caps M hx h
  have h2 : decide (∃ a ∈ x, P a) = decide (0 ≤ fst P x) := decide_eq_decide.2 fst_ge.symm
  rw [h2]
  refine ev_fn' A101 ?_
  repeat' (first | ((with_reducible first | apply S_0 | apply S_q1 | apply S_g | apply S_c); exact sgc) | (with_reducible first | apply SO_q | apply SG_t | apply SG_f0 | apply SG_f1 | apply S_nil | apply T_n | apply W_seq | apply W_region | apply SO_x | apply SC_t | apply SC_f | apply W_block | apply W_ret | apply W_skip | apply W_exit | apply T_r | apply T_e | apply B_n | apply B_e) | (with_reducible apply B_ne; focus decide) | (with_reducible first | apply B_r | apply R_e | apply R_r | apply H_e | apply H_r | apply G_e | apply G_r) | (with_reducible apply SC_n) | ((with_reducible first | apply SC_d | apply SG_d | apply SG_n | apply SC_b | apply SG_b) <;> intro hc <;> try simp only [decide_eq_true_eq, decide_eq_false_iff_not, Classical.not_not, Bool.not_eq_true', Bool.not_eq_false'] at hc))
  (first | exact fincR | exact fincN)
theorem t102 (x : List Sta) (nx cx : Bool) (a : Sta) (id : Nat) (M : MS) (hM : M[id]? = some (some [.list 1 (x.map Sta.av) nx cx])) (h0 : 0 < x.length) : ev pr 102 [.list 1 (a.s.map Pth.av) a.ns a.cs, .mptr id 0] M = some (.q (.flat (.bool (decide (a.s.length ≠ x[0].s.length))))) := by
  have h0Z : (0 : Int) < x.length := by omega
  refine ev_fn' A102 ?_
  repeat' (first | ((with_reducible first | apply S_0 | apply S_q1 | apply S_g | apply S_c); exact sgc) | (with_reducible first | apply SO_q | apply SG_t | apply SG_f0 | apply SG_f1 | apply S_nil | apply T_n | apply W_seq | apply W_region | apply SO_x | apply SC_t | apply SC_f | apply W_block | apply W_ret | apply W_skip | apply W_exit | apply T_r | apply T_e | apply B_n | apply B_e) | (with_reducible apply B_ne; focus decide) | (with_reducible first | apply B_r | apply R_e | apply R_r | apply H_e | apply H_r | apply G_e | apply G_r) | (with_reducible apply SC_n) | ((with_reducible first | apply SC_d | apply SG_d | apply SG_n | apply SC_b | apply SG_b) <;> intro hc <;> try simp only [decide_eq_true_eq, decide_eq_false_iff_not, Classical.not_not, Bool.not_eq_true', Bool.not_eq_false'] at hc))
  (refine ⟨by first | exact .inr rfl | exact .inl rfl, ?_⟩; simp (disch := first | assumption | decide | omega | exact Pth.le _ | exact Rks.le _ | exact List.getElem_mem _ | exact allI_ints _ | exact allI_rks _ | exact allI_pths _ | exact Pth.nil _ | exact Rks.nil _ | (intro hh; simp only [Pth.nil _ hh, List.take_nil, List.drop_nil]; done) | (intro hh; simp only [Rks.nil _ hh, List.take_nil, List.drop_nil]; done) | (simp only [List.length_take, List.length_drop, List.length_append, List.length_cons, List.length_nil, List.length_replicate, List.length_map, ints_len]; omega)) only [resA, rvA, tupA, fin, frzV, frzTup, frzA, frz, isI, isI.all, Option.bind_some, go_sem, if_pos, if_neg, Nat.reduceBEq, Nat.reduceEqDiff, ↓reduceIte, Nat.reduceSub, Nat.reduceAdd, Int.reduceToNat, reduceCtorEq, Nat.reduceLeDiff, Nat.reduceLT, Nat.reduceMul, Nat.reduceDiv, Int.reduceLT, Int.reduceLE, Int.reduceEq, Int.reduceNe, Int.reduceAdd, Int.reduceSub, Int.reduceNeg, Int.reduceGT, Int.reduceGE, Int.reduceBEq, Int.reduceBNe, Int.reduceMul, *])
  congr 5
  exact propext ⟨fun h e => h (by omega), fun h e => h (by omega)⟩
theorem t103 (x : List Sta) (nx cx : Bool) (a : Sta) (v id vid : Nat) (M : MS) (hM : M[id]? = some (some [.list 1 (x.map Sta.av) nx cx])) (hV : M[vid]? = some (some [.flat (.int .i64 v)])) (h0 : 0 < x.length) (hv : v < x[0].s.length) (ha : v < a.s.length) :
    ev pr 103 [.list 1 (a.s.map Pth.av) a.ns a.cs, .mptr vid 0, .mptr id 0] M = some (.q (.flat (.bool (decide (¬ a.s[v].l = x[0].s[v].l))))) := by
  have h0Z : (0 : Int) < x.length := by omega
  have hvZ : (v : Int) < x[0].s.length := by omega
  have haZ : (v : Int) < a.s.length := by omega
  have hle := a.s[v].le
  refine ev_fn' A103 ?_
  repeat' (first | ((with_reducible first | apply S_0 | apply S_q1 | apply S_g | apply S_c); exact sgc) | (with_reducible first | apply SO_q | apply SG_t | apply SG_f0 | apply SG_f1 | apply S_nil | apply T_n | apply W_seq | apply W_region | apply SO_x | apply SC_t | apply SC_f | apply W_block | apply W_ret | apply W_skip | apply W_exit | apply T_r | apply T_e | apply B_n | apply B_e) | (with_reducible apply B_ne; focus decide) | (with_reducible first | apply B_r | apply R_e | apply R_r | apply H_e | apply H_r | apply G_e | apply G_r) | (with_reducible apply SC_n) | ((with_reducible first | apply SC_d | apply SG_d | apply SG_n | apply SC_b | apply SG_b) <;> intro hc <;> try simp only [decide_eq_true_eq, decide_eq_false_iff_not, Classical.not_not, Bool.not_eq_true', Bool.not_eq_false'] at hc))
  (refine ⟨by first | exact .inr rfl | exact .inl rfl, ?_⟩; simp (disch := first | assumption | decide | omega | exact Pth.le _ | exact Rks.le _ | exact List.getElem_mem _ | exact allI_ints _ | exact allI_rks _ | exact allI_pths _ | exact Pth.nil _ | exact Rks.nil _ | (intro hh; simp only [Pth.nil _ hh, List.take_nil, List.drop_nil]; done) | (intro hh; simp only [Rks.nil _ hh, List.take_nil, List.drop_nil]; done) | (simp only [List.length_take, List.length_drop, List.length_append, List.length_cons, List.length_nil, List.length_replicate, List.length_map, ints_len]; omega)) only [resA, rvA, tupA, fin, frzV, frzTup, frzA, frz, isI, isI.all, Option.bind_some, go_sem, if_pos, if_neg, Nat.reduceBEq, Nat.reduceEqDiff, ↓reduceIte, Nat.reduceSub, Nat.reduceAdd, Int.reduceToNat, reduceCtorEq, Nat.reduceLeDiff, Nat.reduceLT, Nat.reduceMul, Nat.reduceDiv, Int.reduceLT, Int.reduceLE, Int.reduceEq, Int.reduceNe, Int.reduceAdd, Int.reduceSub, Int.reduceNeg, Int.reduceGT, Int.reduceGE, Int.reduceBEq, Int.reduceBNe, Int.reduceMul, *])
  simp
/-- The nodes below k that have the same path in all states. -/
noncomputable def comF (x : List Sta) (x0 : List Pa) : Nat → List Int
  | 0 => []
  | k + 1 => open Classical in comF x x0 k ++ if ∀ a ∈ x, a.l.getD k [] = x0.getD k [] then [(k : Int)] else []
theorem comF_len (x : List Sta) (x0 : List Pa) : ∀ k, (comF x x0 k).length ≤ k
  | 0 => by simp [comF]
  | k + 1 => by
    have := comF_len x x0 k
    simp only [comF, List.length_append]
    split <;> simp <;> omega
theorem t63 (x : List Sta) (nx cx : Bool) (M : MS) (hx : x.length ≤ 1000) (hs : ∀ a ∈ x, a.s.length ≤ 1000) :
    ev pr 63 [.list 1 (x.map Sta.av) nx cx] M = some (.q (lst 1 (intsA (if h : 0 < x.length ∧ ∀ a ∈ x, a.s.length = (x.headD ⟨[], true, true⟩).s.length then comF x (x.headD ⟨[], true, true⟩).l (x.headD ⟨[], true, true⟩).s.length else [])))) := by
  rcases Nat.eq_zero_or_pos x.length with h0 | h0
  · have : x = [] := List.eq_nil_of_length_eq_zero h0
    subst this
    rw [dif_neg (by simp)]
    refine ev_fn' A63 ?_
    repeat' (first | ((with_reducible first | apply S_0 | apply S_q1 | apply S_g | apply S_c); exact sgc) | (with_reducible first | apply SO_q | apply SG_t | apply SG_f0 | apply SG_f1 | apply S_nil | apply T_n | apply W_seq | apply W_region | apply SO_x | apply SC_t | apply SC_f | apply W_block | apply W_ret | apply W_skip | apply W_exit | apply T_r | apply T_e | apply B_n | apply B_e) | (with_reducible apply B_ne; focus decide) | (with_reducible first | apply B_r | apply R_e | apply R_r | apply H_e | apply H_r | apply G_e | apply G_r) | (with_reducible apply SC_n) | ((with_reducible first | apply SC_d | apply SG_d | apply SG_n | apply SC_b | apply SG_b) <;> intro hc <;> try simp only [decide_eq_true_eq, decide_eq_false_iff_not, Classical.not_not, Bool.not_eq_true', Bool.not_eq_false'] at hc))
    (refine ⟨by first | exact .inr rfl | exact .inl rfl, ?_⟩; simp (disch := first | assumption | decide | omega | exact Pth.le _ | exact Rks.le _ | exact List.getElem_mem _ | exact allI_ints _ | exact allI_rks _ | exact allI_pths _ | exact Pth.nil _ | exact Rks.nil _ | (intro hh; simp only [Pth.nil _ hh, List.take_nil, List.drop_nil]; done) | (intro hh; simp only [Rks.nil _ hh, List.take_nil, List.drop_nil]; done) | (simp only [List.length_take, List.length_drop, List.length_append, List.length_cons, List.length_nil, List.length_replicate, List.length_map, ints_len]; omega)) only [resA, rvA, tupA, fin, frzV, frzTup, frzA, frz, isI, isI.all, Option.bind_some, go_sem, if_pos, if_neg, Nat.reduceBEq, Nat.reduceEqDiff, ↓reduceIte, Nat.reduceSub, Nat.reduceAdd, Int.reduceToNat, reduceCtorEq, Nat.reduceLeDiff, Nat.reduceLT, Nat.reduceMul, Nat.reduceDiv, Int.reduceLT, Int.reduceLE, Int.reduceEq, Int.reduceNe, Int.reduceAdd, Int.reduceSub, Int.reduceNeg, Int.reduceGT, Int.reduceGE, Int.reduceBEq, Int.reduceBNe, Int.reduceMul, *])
    rfl
  · have h0Z : ¬ (x.length : Int) = 0 := by omega
    have hhd : x.headD ⟨[], true, true⟩ = x[0] := by
      cases x with
      | nil => simp at h0
      | cons a x => rfl
    rw [hhd]
    have h102 := @t101 (fun a => a.s.length ≠ x[0].s.length) _ x nx cx 102 [.mptr M.length 0] (M ++ [some [.list 1 (x.map Sta.av) nx cx]]) (by omega) fun a _ => t102 x nx cx a M.length _ (by simp) h0
    by_cases he : ∀ a ∈ x, a.s.length = x[0].s.length
    · rw [dif_pos ⟨h0, he⟩]
      have hd : decide (∃ a ∈ x, a.s.length ≠ x[0].s.length) = false := decide_eq_false fun ⟨a, ha, h⟩ => h (he a ha)
      rw [hd] at h102
      have hs0 := hs _ (List.getElem_mem h0)
      have h103 : ∀ (G : MS) (v vid : Nat), v < x[0].s.length → (M ++ (some [.list 1 (x.map Sta.av) nx cx] :: G))[vid]? = some (some [.flat (.int .i64 v)]) →
          ev pr 101 [.list 1 (x.map Sta.av) nx cx, .clo 103 [.mptr vid 0, .mptr M.length 0]] (M ++ (some [.list 1 (x.map Sta.av) nx cx] :: G)) = some (.q (.flat (.bool (decide (∃ a ∈ x, ¬ a.l.getD v [] = x[0].l.getD v []))))) := fun G v vid hv hV =>
        t101 (P := fun a => ¬ a.l.getD v [] = x[0].l.getD v []) (by omega) fun a ha => by
          have h := t103 x nx cx a v M.length vid _ (by simp) hV h0 hv (by rw [he a ha]; exact hv)
          rw [h]
          have e1 : a.l.getD v [] = (a.s[v]'(by rw [he a ha]; exact hv)).l := pl_getD _
          have e2 : x[0].l.getD v [] = x[0].s[v].l := pl_getD _
          simp only [e1, e2]
      clear he hd hs
      refine ev_fn' A63 ?_
      repeat' (first | ((with_reducible first | apply S_0 | apply S_q1 | apply S_g | apply S_c); exact sgc) | (with_reducible first | apply SO_q | apply SG_t | apply SG_f0 | apply SG_f1 | apply S_nil | apply T_n | apply W_seq | apply W_region | apply SO_x | apply SC_t | apply SC_f | apply W_block | apply W_ret | apply W_skip | apply W_exit | apply T_r | apply T_e | apply B_n | apply B_e) | (with_reducible apply B_ne; focus decide) | (with_reducible first | apply B_r | apply R_e | apply R_r | apply H_e | apply H_r | apply G_e | apply G_r) | (with_reducible apply SC_n) | ((with_reducible first | apply SC_d | apply SG_d | apply SG_n | apply SC_b | apply SG_b) <;> intro hc <;> try simp only [decide_eq_true_eq, decide_eq_false_iff_not, Classical.not_not, Bool.not_eq_true', Bool.not_eq_false'] at hc))
      refine W_rngM 18 0 x[0].s.length (fun i e m => ∃ v G, e 3 = v ∧ m = (M ++ [some [.list 1 (x.map Sta.av) nx cx]]) ++ G ∧ Own (M ++ [some [AV.list 1 (x.map Sta.av) nx cx]]).length ((M ++ [some [AV.list 1 (x.map Sta.av) nx cx]]) ++ G) v 1 (intsA (comF x x[0].l i))) (by simp only [asg, asgO, List.append_nil, List.nil_append, List.cons_append]; rfl) (by exact svc) (by omega)
        ⟨.list 1 [] true true, [], by exact svc, by simp, by simpa [comF, intsA] using Own.nil _ _ (by decide)⟩ ?_
      rintro i e _ hi0 hi hk e18 ⟨w, G, e3, rfl, hO⟩
      have k1 : e 1 = .mptr M.length 0 := by rw [hk 1 rfl]; exact svc
      have k17 : e 17 = .flat (.int .i64 x[0].s.length) := by rw [hk 17 rfl]; exact svc
      clear hk
      have hcl := comF_len x x[0].l i
      have hbx : ∀ G, (M ++ (some [AV.list 1 (x.map Sta.av) nx cx] :: G))[M.length]? = some (some [.list 1 (x.map Sta.av) nx cx]) := fun G => by simp
      have hd0 : ∀ k : Nat, dirt M.length (M.length + k) ([] : List Nat) = [] := fun k => dirt_out (by omega)
      rcases Nat.lt_or_ge i x[0].s.length with hlt | hlt
      · have hltZ : (i : Int) < x[0].s.length := by omega
        have h103' := h103 (G ++ [some [.flat (.int .i64 i)]]) i (M.length + (G.length + 1)) hlt (by simp)
        have hgx : (M ++ (some [AV.list 1 (x.map Sta.av) nx cx] :: (G ++ [some [.flat (.int .i64 i)]])))[M.length + (G.length + 1)]? = some (some [.flat (.int .i64 i)]) := by simp
        have hO' := hO.growG [some [.flat (.int .i64 i)]]
        clear h103
        by_cases hc : ∀ a ∈ x, a.l.getD i [] = x[0].l.getD i []
        · have hd : decide (∃ a ∈ x, ¬ a.l.getD i [] = x[0].l.getD i []) = false := decide_eq_false fun ⟨a, ha, h⟩ => h (hc a ha)
          have hcf : intsA (comF x x[0].l (i + 1)) = intsA (comF x x[0].l i) ++ [.flat (.int .i64 i)] := by
            simp only [comF]; rw [if_pos hc]; simp [intsA]
          rw [hd] at h103'
          clear hc hd
          repeat' (first | ((with_reducible first | apply S_0 | apply S_q1 | apply S_g | apply S_c); exact sgc) | (with_reducible first | apply SO_q | apply SG_t | apply SG_f0 | apply SG_f1 | apply S_nil | apply T_n | apply W_seq | apply W_region | apply SO_x | apply SC_t | apply SC_f | apply W_block | apply W_ret | apply W_skip | apply W_exit | apply T_r | apply T_e | apply B_n | apply B_e) | (with_reducible apply B_ne; focus decide) | (with_reducible first | apply B_r | apply R_e | apply R_r | apply H_e | apply H_r | apply G_e | apply G_r) | (with_reducible apply SC_n) | ((with_reducible first | apply SC_d | apply SG_d | apply SG_n | apply SC_b | apply SG_b) <;> intro hc <;> try simp only [decide_eq_true_eq, decide_eq_false_iff_not, Classical.not_not, Bool.not_eq_true', Bool.not_eq_false'] at hc))
          (refine S_ownG (cs := intsA (comF x x[0].l i)) (M ++ [some [.list 1 (x.map Sta.av) nx cx]]) (G ++ [some [.flat (.int .i64 i)]]) (by assumption) (by first | rfl | simp only [List.append_assoc, List.cons_append, List.nil_append]) (by exact sgc) (by exact sgc) (by exact sgc) (by exact sgc) (by exact sgc) (by (first | assumption | omega | (simp only [ints_len, Nat.div_one, Nat.one_mul, Nat.mul_one, List.length_map, rks_len, half, List.length_cons, List.length_nil, List.length_append, List.length_replicate]; omega))) (by (first | assumption | omega | (simp only [ints_len, Nat.div_one, Nat.one_mul, Nat.mul_one, List.length_map, rks_len, half, List.length_cons, List.length_nil, List.length_append, List.length_replicate]; omega))) (by first | omega | (simp; done) | (simp; omega)) ?_)
          intro v' G' hO2
          rw [← hcf] at hO2
          repeat' (first | ((with_reducible first | apply S_0 | apply S_q1 | apply S_g | apply S_c); exact sgc) | (with_reducible first | apply SO_q | apply SG_t | apply SG_f0 | apply SG_f1 | apply S_nil | apply T_n | apply W_seq | apply W_region | apply SO_x | apply SC_t | apply SC_f | apply W_block | apply W_ret | apply W_skip | apply W_exit | apply T_r | apply T_e | apply B_n | apply B_e) | (with_reducible apply B_ne; focus decide) | (with_reducible first | apply B_r | apply R_e | apply R_r | apply H_e | apply H_r | apply G_e | apply G_r) | (with_reducible apply SC_n) | ((with_reducible first | apply SC_d | apply SG_d | apply SG_n | apply SC_b | apply SG_b) <;> intro hc <;> try simp only [decide_eq_true_eq, decide_eq_false_iff_not, Classical.not_not, Bool.not_eq_true', Bool.not_eq_false'] at hc))
          exact G_n (by exact svc) hlt ⟨v', G', by exact svc, by simp, hO2⟩
        · have hd : decide (∃ a ∈ x, ¬ a.l.getD i [] = x[0].l.getD i []) = true := decide_eq_true (by
            refine Classical.byContradiction fun h => hc fun a ha => Classical.byContradiction fun h2 => h ⟨a, ha, h2⟩)
          have hcf : comF x x[0].l (i + 1) = comF x x[0].l i := by
            simp only [comF]; rw [if_neg hc]; simp
          rw [hd] at h103'
          rw [← hcf] at hO'
          clear hc hd
          repeat' (first | ((with_reducible first | apply S_0 | apply S_q1 | apply S_g | apply S_c); exact sgc) | (with_reducible first | apply SO_q | apply SG_t | apply SG_f0 | apply SG_f1 | apply S_nil | apply T_n | apply W_seq | apply W_region | apply SO_x | apply SC_t | apply SC_f | apply W_block | apply W_ret | apply W_skip | apply W_exit | apply T_r | apply T_e | apply B_n | apply B_e) | (with_reducible apply B_ne; focus decide) | (with_reducible first | apply B_r | apply R_e | apply R_r | apply H_e | apply H_r | apply G_e | apply G_r) | (with_reducible apply SC_n) | ((with_reducible first | apply SC_d | apply SG_d | apply SG_n | apply SC_b | apply SG_b) <;> intro hc <;> try simp only [decide_eq_true_eq, decide_eq_false_iff_not, Classical.not_not, Bool.not_eq_true', Bool.not_eq_false'] at hc))
          exact G_n (by exact svc) hlt ⟨w, G ++ [some [.flat (.int .i64 i)]], by exact svc, by simp, hO'⟩
      · have hltZ : ¬ (i : Int) < x[0].s.length := by omega
        obtain rfl : i = x[0].s.length := by omega
        clear h103
        have hfin := hO.finG (base := M.length) (by simp)
        simp only [List.append_assoc, List.cons_append, List.nil_append] at hfin
        repeat' (first | ((with_reducible first | apply S_0 | apply S_q1 | apply S_g | apply S_c); exact sgc) | (with_reducible first | apply SO_q | apply SG_t | apply SG_f0 | apply SG_f1 | apply S_nil | apply T_n | apply W_seq | apply W_region | apply SO_x | apply SC_t | apply SC_f | apply W_block | apply W_ret | apply W_skip | apply W_exit | apply T_r | apply T_e | apply B_n | apply B_e) | (with_reducible apply B_ne; focus decide) | (with_reducible first | apply B_r | apply R_e | apply R_r | apply H_e | apply H_r | apply G_e | apply G_r) | (with_reducible apply SC_n) | ((with_reducible first | apply SC_d | apply SG_d | apply SG_n | apply SC_b | apply SG_b) <;> intro hc <;> try simp only [decide_eq_true_eq, decide_eq_false_iff_not, Classical.not_not, Bool.not_eq_true', Bool.not_eq_false'] at hc))
        refine ⟨.inr rfl, ?_⟩
        simp only [resA, rvA, tupA, Option.bind_some]
        (simp (disch := first | assumption | decide | omega | exact Pth.le _ | exact Rks.le _ | exact List.getElem_mem _ | exact allI_ints _ | exact allI_rks _ | exact allI_pths _ | exact Pth.nil _ | exact Rks.nil _ | (intro hh; simp only [Pth.nil _ hh, List.take_nil, List.drop_nil]; done) | (intro hh; simp only [Rks.nil _ hh, List.take_nil, List.drop_nil]; done) | (simp only [List.length_take, List.length_drop, List.length_append, List.length_cons, List.length_nil, List.length_replicate, List.length_map, ints_len]; omega)) only [go_sem, if_pos, if_neg, Nat.reduceBEq, Nat.reduceEqDiff, ↓reduceIte, Nat.reduceSub, Nat.reduceAdd, Int.reduceToNat, reduceCtorEq, Nat.reduceLeDiff, Nat.reduceLT, Nat.reduceMul, Nat.reduceDiv, Int.reduceLT, Int.reduceLE, Int.reduceEq, Int.reduceNe, Int.reduceAdd, Int.reduceSub, Int.reduceNeg, Int.reduceGT, Int.reduceGE, Int.reduceBEq, Int.reduceBNe, Int.reduceMul, *])
    · rw [dif_neg fun h => he h.2]
      have hd : decide (∃ a ∈ x, a.s.length ≠ x[0].s.length) = true := decide_eq_true (by
        refine Classical.byContradiction fun h => he fun a ha => Classical.byContradiction fun h2 => h ⟨a, ha, h2⟩)
      rw [hd] at h102
      clear he hd hs
      refine ev_fn' A63 ?_
      repeat' (first | ((with_reducible first | apply S_0 | apply S_q1 | apply S_g | apply S_c); exact sgc) | (with_reducible first | apply SO_q | apply SG_t | apply SG_f0 | apply SG_f1 | apply S_nil | apply T_n | apply W_seq | apply W_region | apply SO_x | apply SC_t | apply SC_f | apply W_block | apply W_ret | apply W_skip | apply W_exit | apply T_r | apply T_e | apply B_n | apply B_e) | (with_reducible apply B_ne; focus decide) | (with_reducible first | apply B_r | apply R_e | apply R_r | apply H_e | apply H_r | apply G_e | apply G_r) | (with_reducible apply SC_n) | ((with_reducible first | apply SC_d | apply SG_d | apply SG_n | apply SC_b | apply SG_b) <;> intro hc <;> try simp only [decide_eq_true_eq, decide_eq_false_iff_not, Classical.not_not, Bool.not_eq_true', Bool.not_eq_false'] at hc))
      (refine ⟨by first | exact .inr rfl | exact .inl rfl, ?_⟩; simp (disch := first | assumption | decide | omega | exact Pth.le _ | exact Rks.le _ | exact List.getElem_mem _ | exact allI_ints _ | exact allI_rks _ | exact allI_pths _ | exact Pth.nil _ | exact Rks.nil _ | (intro hh; simp only [Pth.nil _ hh, List.take_nil, List.drop_nil]; done) | (intro hh; simp only [Rks.nil _ hh, List.take_nil, List.drop_nil]; done) | (simp only [List.length_take, List.length_drop, List.length_append, List.length_cons, List.length_nil, List.length_replicate, List.length_map, ints_len]; omega)) only [resA, rvA, tupA, fin, frzV, frzTup, frzA, frz, isI, isI.all, Option.bind_some, go_sem, if_pos, if_neg, Nat.reduceBEq, Nat.reduceEqDiff, ↓reduceIte, Nat.reduceSub, Nat.reduceAdd, Int.reduceToNat, reduceCtorEq, Nat.reduceLeDiff, Nat.reduceLT, Nat.reduceMul, Nat.reduceDiv, Int.reduceLT, Int.reduceLE, Int.reduceEq, Int.reduceNe, Int.reduceAdd, Int.reduceSub, Int.reduceNeg, Int.reduceGT, Int.reduceGE, Int.reduceBEq, Int.reduceBNe, Int.reduceMul, *])
      rfl
end Go.Proofs.Ytopiaiibpacmlaa.Av
