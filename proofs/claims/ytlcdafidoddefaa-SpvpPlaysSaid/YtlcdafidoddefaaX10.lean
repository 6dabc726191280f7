/- The document's machines as values: their lines; rows beside one another; whether one is quiet; what a node chooses. -/
import Derived.Test.YtlcdafidoddefaaX8
namespace Go.Proofs.Ytlcdafidoddefaa.Av
open Go.RowKit
set_option linter.unusedSimpArgs false
set_option linter.unusedVariables false
set_option maxHeartbeats 10000000
/-- A row of paths, as a slice. -/
structure Pths where
  l : List Pth
  nl : Bool
  cd : Bool
def Pths.av (p : Pths) : AV := .list 1 (p.l.map Pth.av) p.nl p.cd
theorem Pths.av_eq (p : Pths) : p.av = .list 1 (p.l.map Pth.av) p.nl p.cd := rfl
/-- A line of the document's machine. -/
structure RLn where
  u : Int
  v : Int
  R : Pths
  H : Pth
  any : Bool
def RLn.cs (r : RLn) : List AV := [.flat (.int .i64 r.u), .flat (.int .i64 r.v), r.R.av, r.H.av, .flat (.bool r.any)]
def rlnsA (l : List RLn) : List AV := (l.map RLn.cs).flatten
theorem rlns_cons (a : RLn) (l : List RLn) : rlnsA (a :: l) = .flat (.int .i64 a.u) :: .flat (.int .i64 a.v) :: a.R.av :: a.H.av :: .flat (.bool a.any) :: rlnsA l := rfl
theorem rlns_len (l : List RLn) : (rlnsA l).length = l.length * 5 := by
  induction l with
  | nil => rfl
  | cons a l ih => rw [rlns_cons]; simp only [List.length_cons, ih]; omega
theorem rlns_app (a b : List RLn) : rlnsA (a ++ b) = rlnsA a ++ rlnsA b := by simp [rlnsA]
theorem rlns_drop (l : List RLn) (k : Nat) : (rlnsA l).drop (k * 5) = rlnsA (l.drop k) := by
  induction l generalizing k with
  | nil => simp [rlnsA]
  | cons a l ih =>
    cases k with
    | zero => rfl
    | succ k => rw [rlns_cons, Nat.add_mul, Nat.one_mul]; simp only [List.drop_succ_cons]; exact ih k
theorem rlns_take (l : List RLn) (k : Nat) : (rlnsA l).take (k * 5) = rlnsA (l.take k) := by
  induction l generalizing k with
  | nil => simp [rlnsA]
  | cons a l ih =>
    cases k with
    | zero => rw [Nat.zero_mul]; rfl
    | succ k => rw [rlns_cons, Nat.add_mul, Nat.one_mul]; simp only [List.take_succ_cons]; rw [rlns_cons, ih k]
theorem rlns_at (l : List RLn) (k : Nat) (h : k < l.length) : (rlnsA l).drop (k * 5) = .flat (.int .i64 l[k].u) :: .flat (.int .i64 l[k].v) :: l[k].R.av :: l[k].H.av :: .flat (.bool l[k].any) :: rlnsA (l.drop (k + 1)) := by
  rw [rlns_drop, List.drop_eq_getElem_cons h, rlns_cons]
theorem rlns_get (l : List RLn) (k j : Nat) (h : k < l.length) (hj : j < 5) : (rlnsA l)[k * 5 + j]? = l[k].cs[j]? := by
  have h1 : ((rlnsA l).drop (k * 5))[j]? = (l[k].cs ++ rlnsA (l.drop (k + 1)))[j]? := congrArg (·[j]?) (rlns_at l k h)
  rw [List.getElem?_drop] at h1
  rw [h1, List.getElem?_append_left (by simp [RLn.cs]; omega)]
theorem rlns_g0 (l : List RLn) (k : Nat) (h : k < l.length) : (rlnsA l)[k * 5]? = some (.flat (.int .i64 l[k].u)) := rlns_get l k 0 h (by decide)
theorem rlns_g1 (l : List RLn) (k : Nat) (h : k < l.length) : (rlnsA l)[k * 5 + 1]? = some (.flat (.int .i64 l[k].v)) := rlns_get l k 1 h (by decide)
theorem rlns_g2 (l : List RLn) (k : Nat) (h : k < l.length) : (rlnsA l)[k * 5 + 2]? = some l[k].R.av := rlns_get l k 2 h (by decide)
theorem rlns_g3 (l : List RLn) (k : Nat) (h : k < l.length) : (rlnsA l)[k * 5 + 3]? = some l[k].H.av := rlns_get l k 3 h (by decide)
theorem rlns_g4 (l : List RLn) (k : Nat) (h : k < l.length) : (rlnsA l)[k * 5 + 4]? = some (.flat (.bool l[k].any)) := rlns_get l k 4 h (by decide)
theorem rlns_set (l : List RLn) (k : Nat) (h : k < l.length) (z : RLn) : rlnsA (l.set k z) = rlnsA (l.take k) ++ (z.cs ++ rlnsA (l.drop (k + 1))) := by
  rw [List.set_eq_take_append_cons_drop, if_pos h, rlns_app]; rfl
theorem allI_rlns : ∀ l : List RLn, allI (rlnsA l) = true
  | [] => rfl
  | a :: l => by rw [rlns_cons]; simp only [allI, isI, Pths.av, Pth.av, allI_rlns l, Bool.and_self]
theorem fifth (n : Nat) : n * 5 / 5 = n := Nat.mul_div_cancel n (by decide)
attribute [go_sem] fifth Pths.av_eq rlns_len rlns_take rlns_at rlns_g0 rlns_g1 rlns_g2 rlns_g3 rlns_g4 allI_rlns
theorem t55 (x y : List Pth) (nx cx ny cy : Bool) (M : MS) (hx : x.length ≤ 9223372036854775807) : ev pr 55 [.list 1 (x.map Pth.av) nx cx, .list 1 (y.map Pth.av) ny cy] M = some (.q (.flat (.bool (decide (pl x = pl y))))) := by
  have h16 := fun (i : Nat) (h : i < x.length) (h' : i < y.length) (M : MS) => t16 x[i].l y[i].l x[i].nl x[i].cd y[i].nl y[i].cd M x[i].le
  refine ev_fn' A55 ?_
  by_cases hl : x.length = y.length
  · have hl' : (x.length : Int) = y.length := by omega
    repeat' (first | ((with_reducible first | apply S_0 | apply S_q1 | apply S_g | apply S_c); exact sgc) | refine Stp.h ?_ | (with_reducible apply B_ne; focus decide) | ((with_reducible first | apply SC_d | apply SG_d | apply SG_n | apply SC_b | apply SG_b) <;> intro hc <;> try simp only [dq1, dq2, dq3, dq4, dq5] at hc))
    refine W_rng 5 0 x.length (fun i e => pl (x.take i) = pl (y.take i)) (by simp only [asg, asgO, List.append_nil, List.nil_append, List.cons_append]; rfl) (by exact svc) (by omega) rfl ?_
    rintro i e _ hi hk e5 hI
    have k0 : e 0 = .list 1 (x.map Pth.av) nx cx := by rw [hk 0 rfl]; exact svc
    have k1 : e 1 = .list 1 (y.map Pth.av) ny cy := by rw [hk 1 rfl]; exact svc
    clear hk
    rcases Nat.lt_or_ge i x.length with hlt | hlt
    · have hlt' : (i : Int) < x.length := by omega
      have hlty : i < y.length := by omega
      have hlty' : (i : Int) < y.length := by omega
      replace h16 := h16 i hlt hlty
      have hH : Hid (pl (x.take i) = pl (y.take i)) := hI
      have hH2 : Hid (x.length = y.length) := hl
      clear hI hl
      by_cases he : x[i].l = y[i].l
      · rw [decide_eq_true he] at h16
        have hHe : Hid (x[i].l = y[i].l) := he
        clear he
        repeat' (first | ((with_reducible first | apply S_0 | apply S_q1 | apply S_g | apply S_c); exact sgc) | refine Stp.h ?_ | (with_reducible apply B_ne; focus decide) | ((with_reducible first | apply SC_d | apply SG_d | apply SG_n | apply SC_b | apply SG_b) <;> intro hc <;> try simp only [dq1, dq2, dq3, dq4, dq5] at hc))
        refine H_n (by exact svc) hlt ?_
        rw [List.take_succ_eq_append_getElem hlt, List.take_succ_eq_append_getElem hlty]
        simp only [pl, List.map_append, List.map_cons, List.map_nil] at hH ⊢
        rw [show (x.take i).map Pth.l = (y.take i).map Pth.l from hH, show x[i].l = y[i].l from hHe]
      · rw [decide_eq_false he] at h16
        have hne : pl x ≠ pl y := fun h => he (by
          have := congrArg (·[i]?) h
          simpa [pl, hlt, hlty] using this)
        rw [decide_eq_false hne]
        clear he hne
        repeat' (first | ((with_reducible first | apply S_0 | apply S_q1 | apply S_g | apply S_c); exact sgc) | refine Stp.h ?_ | (with_reducible apply B_ne; focus decide) | ((with_reducible first | apply SC_d | apply SG_d | apply SG_n | apply SC_b | apply SG_b) <;> intro hc <;> try simp only [dq1, dq2, dq3, dq4, dq5] at hc))
        (first | exact fincR | exact fincN)
    · have hlt' : ¬ (i : Int) < x.length := by omega
      have hlt2 : ¬ (i : Int) < y.length := by omega
      have hil : i = x.length := by omega
      have he : pl x = pl y := by
        rw [List.take_of_length_le (by omega), List.take_of_length_le (by omega)] at hI; exact hI
      rw [decide_eq_true he]
      clear hI hil he hl
      repeat' (first | ((with_reducible first | apply S_0 | apply S_q1 | apply S_g | apply S_c); exact sgc) | refine Stp.h ?_ | (with_reducible apply B_ne; focus decide) | ((with_reducible first | apply SC_d | apply SG_d | apply SG_n | apply SC_b | apply SG_b) <;> intro hc <;> try simp only [dq1, dq2, dq3, dq4, dq5] at hc))
      (first | exact fincR | exact fincN)
  · have hl' : ¬ (x.length : Int) = y.length := by omega
    have hne : pl x ≠ pl y := fun h => hl (by have := congrArg List.length h; simpa [pl] using this)
    rw [decide_eq_false hne]
    clear hne hl
    repeat' (first | ((with_reducible first | apply S_0 | apply S_q1 | apply S_g | apply S_c); exact sgc) | refine Stp.h ?_ | (with_reducible apply B_ne; focus decide) | ((with_reducible first | apply SC_d | apply SG_d | apply SG_n | apply SC_b | apply SG_b) <;> intro hc <;> try simp only [dq1, dq2, dq3, dq4, dq5] at hc))
    (first | exact fincR | exact fincN)
theorem t54 (n : Int) (l : List Rks) (nl cd : Bool) (L : List RLn) (lv cv : AV) (M : MS) (hvw : Vw M lv (rlnsA L) L.length) (hcv : cellsOf cv = some [cv]) (hL : L.length ≤ 1000) :
    ev pr 54 [.agg [.flat (.int .i64 n), .list 1 (l.map Rks.av) nl cd, lv, cv]] M = some (.q (.flat (.bool (decide (∀ r ∈ L, r.R.l.length = 0))))) := by
  have e0 := hvw.vw
  have e1 := hvw.len
  have e2 := hvw.cell
  clear hvw
  refine ev_fn' A54 ?_
  repeat' (first | ((with_reducible first | apply S_0 | apply S_q1 | apply S_g | apply S_c); exact sgc) | refine Stp.h ?_ | (with_reducible apply B_ne; focus decide) | ((with_reducible first | apply SC_d | apply SG_d | apply SG_n | apply SC_b | apply SG_b) <;> intro hc <;> try simp only [dq1, dq2, dq3, dq4, dq5] at hc))
  refine W_rng 3 0 L.length (fun i e => ∀ j, j < i → ∀ h : j < L.length, L[j].R.l.length = 0) (by simp only [asg, asgO, List.append_nil, List.nil_append, List.cons_append]; rfl) (by exact svc) (by omega) (fun j hj => by omega) ?_
  rintro i e _ hi hk e3 hI
  have k1 : e 1 = .mptr M.length 0 := by rw [hk 1 rfl]; exact svc
  clear hk
  have hH : Hid (∀ j, j < i → ∀ h : j < L.length, L[j].R.l.length = 0) := hI
  clear hI
  rcases Nat.lt_or_ge i L.length with hlt | hlt
  · have hlt' : (i : Int) < L.length := by omega
    rcases Nat.eq_zero_or_pos L[i].R.l.length with h0 | h0
    · have h0' : ¬ (0 : Int) < L[i].R.l.length := by omega
      have hH0 : Hid (L[i].R.l.length = 0) := h0
      clear h0
      repeat' (first | ((with_reducible first | apply S_0 | apply S_q1 | apply S_g | apply S_c); exact sgc) | refine Stp.h ?_ | (with_reducible apply B_ne; focus decide) | ((with_reducible first | apply SC_d | apply SG_d | apply SG_n | apply SC_b | apply SG_b) <;> intro hc <;> try simp only [dq1, dq2, dq3, dq4, dq5] at hc))
      exact H_n (by exact svc) hlt (ext1 hH fun _ => hH0)
    · have h0' : (0 : Int) < L[i].R.l.length := by omega
      have hn : ¬ ∀ r ∈ L, r.R.l.length = 0 := fun h => by have := h _ (List.getElem_mem hlt); omega
      rw [decide_eq_false hn]
      clear hn h0
      repeat' (first | ((with_reducible first | apply S_0 | apply S_q1 | apply S_g | apply S_c); exact sgc) | refine Stp.h ?_ | (with_reducible apply B_ne; focus decide) | ((with_reducible first | apply SC_d | apply SG_d | apply SG_n | apply SC_b | apply SG_b) <;> intro hc <;> try simp only [dq1, dq2, dq3, dq4, dq5] at hc))
      (first | exact fincR | exact fincN)
  · have hlt' : ¬ (i : Int) < L.length := by omega
    rw [decide_eq_true (all_of (Q := fun r : RLn => r.R.l.length = 0) (by omega) hH)]
    repeat' (first | ((with_reducible first | apply S_0 | apply S_q1 | apply S_g | apply S_c); exact sgc) | refine Stp.h ?_ | (with_reducible apply B_ne; focus decide) | ((with_reducible first | apply SC_d | apply SG_d | apply SG_n | apply SC_b | apply SG_b) <;> intro hc <;> try simp only [dq1, dq2, dq3, dq4, dq5] at hc))
    (first | exact fincR | exact fincN)
end Go.Proofs.Ytlcdafidoddefaa.Av
namespace Go.Proofs.Ytlcdafidoddefaa.Av
open Go.RowKit
set_option linter.unusedSimpArgs false
set_option linter.unusedVariables false
set_option maxHeartbeats 10000000
def mtch (r : RLn) (v : Int) (p : List Int) : Prop := r.u = p.getD 1 0 ∧ r.v = v ∧ r.any = true ∧ r.H.l = p.drop 1
instance (r : RLn) (v : Int) (p : List Int) : Decidable (mtch r v p) := by unfold mtch; infer_instance
def hasR (L : List RLn) (v : Int) (p : List Int) : Bool := L.any fun r => decide (mtch r v p)
def choR (L : List RLn) (v : Int) (r : List Rnk) : Pth := match r.find? (fun q => hasR L v q.p.l) with
  | some q => q.p
  | none => nilPth
theorem t53 (n : Int) (l : List Rks) (nl cd : Bool) (L : List RLn) (sv cv : AV) (v : Nat) (M : MS) (hvw : Vw M sv (rlnsA L) L.length) (hcv : cellsOf cv = some [cv]) (hL : L.length ≤ 1000) (hv : v < l.length) (hr : l[v].l.length ≤ 1000) (hl : l.length ≤ 1000) (hH : ∀ r ∈ L, r.H.l.length ≤ 1000)
    (hp : ∀ (j : Nat) (hj : j < l[v].l.length), 2 ≤ l[v].l[j].p.l.length ∧ l[v].l[j].p.l.length ≤ 1000) :
    ev pr 53 [.agg [.flat (.int .i64 n), .list 1 (l.map Rks.av) nl cd, sv, cv], .flat (.int .i64 v)] M = some (.q (choR L v l[v].l).av) := by
  have e0 := hvw.vw
  have e1 := hvw.len
  have e2 := hvw.cell
  clear hvw
  refine ev_fn' A53 ?_
  repeat' (first | ((with_reducible first | apply S_0 | apply S_q1 | apply S_g | apply S_c); exact sgc) | refine Stp.h ?_ | (with_reducible apply B_ne; focus decide) | ((with_reducible first | apply SC_d | apply SG_d | apply SG_n | apply SC_b | apply SG_b) <;> intro hc <;> try simp only [dq1, dq2, dq3, dq4, dq5] at hc))
  refine W_rng 5 0 l[v].l.length (fun i e => ∀ j, j < i → ∀ h : j < l[v].l.length, hasR L v l[v].l[j].p.l = false) (by simp only [asg, asgO, List.append_nil, List.nil_append, List.cons_append]; rfl) (by exact svc) (by omega) (fun j hj => by omega) ?_
  rintro i e _ hi hk e5 hI
  have k1 : e 1 = .flat (.int .i64 v) := by rw [hk 1 rfl]; exact svc
  have k2 : e 2 = .mptr M.length 0 := by rw [hk 2 rfl]; exact svc
  clear hk
  have hHI : Hid (∀ j, j < i → ∀ h : j < l[v].l.length, hasR L v l[v].l[j].p.l = false) := hI
  clear hI
  rcases Nat.lt_or_ge i l[v].l.length with hlt | hlt
  · have hlt' : (i : Int) < l[v].l.length := by omega
    obtain ⟨q1, q2⟩ := hp i hlt
    have hnp := l[v].l[i].p.nil
    have hg1 : l[v].l[i].p.l.getD 1 0 = l[v].l[i].p.l[1] := getD_of (by omega)
    clear hp
    repeat' (first | ((with_reducible first | apply S_0 | apply S_q1 | apply S_g | apply S_c); exact sgc) | refine Stp.h ?_ | (with_reducible apply B_ne; focus decide) | ((with_reducible first | apply SC_d | apply SG_d | apply SG_n | apply SC_b | apply SG_b) <;> intro hc <;> try simp only [dq1, dq2, dq3, dq4, dq5] at hc))
    refine W_rng 7 0 L.length (fun k e => ∀ j, j < k → ∀ h : j < L.length, ¬ mtch L[j] v l[v].l[i].p.l) (by simp only [asg, asgO, List.append_nil, List.nil_append, List.cons_append]; rfl) (by exact svc) (by omega) (fun j hj => by omega) ?_
    rintro k e' _ hi2 hk2 e7 hI
    have i1 : e' 1 = .flat (.int .i64 v) := by rw [hk2 1 rfl]; exact svc
    have i2 : e' 2 = .mptr M.length 0 := by rw [hk2 2 rfl]; exact svc
    have i5 : e' 5 = .flat (.int .i64 i) := by rw [hk2 5 rfl]; exact svc
    have i6 : e' 6 = .list 1 (intsA l[v].l[i].p.l) l[v].l[i].p.nl l[v].l[i].p.cd := by rw [hk2 6 rfl]; exact svc
    clear hk2 k1 k2 e5
    have hHJ : Hid (∀ j, j < k → ∀ h : j < L.length, ¬ mtch L[j] v l[v].l[i].p.l) := hI
    clear hI
    rcases Nat.lt_or_ge k L.length with hlt2 | hlt2
    · have hlt2' : (k : Int) < L.length := by omega
      have hHl : L[k].H.l.length ≤ 1000 := hH _ (List.getElem_mem hlt2)
      have hHH : Hid (∀ r ∈ L, r.H.l.length ≤ 1000) := hH
      have hg : Hid (l[v].l[i].p.l.getD 1 0 = l[v].l[i].p.l[1]) := hg1
      clear hH hg1
      by_cases hm : mtch L[k] v l[v].l[i].p.l
      · have hms : hasR L v l[v].l[i].p.l = true := List.any_eq_true.2 ⟨_, List.getElem_mem hlt2, decide_eq_true hm⟩
        have hc : choR L v l[v].l = l[v].l[i].p := by
          have hf : l[v].l.find? (fun q => hasR L v q.p.l) = some l[v].l[i] := by
            rw [List.find?_eq_some_iff_getElem]
            exact ⟨hms, i, hlt, rfl, fun j hj => by rw [(show ∀ j, j < i → ∀ h : j < l[v].l.length, hasR L v l[v].l[j].p.l = false from hHI) j hj (by omega)]; rfl⟩
          rw [choR, hf]
        rw [hc]
        obtain ⟨m1, m2, m3, m4⟩ := hm
        rw [show l[v].l[i].p.l.getD 1 0 = l[v].l[i].p.l[1] from hg] at m1
        have m4' : decide (L[k].H.l = l[v].l[i].p.l.drop 1) = true := decide_eq_true m4
        clear hms hc m4
        repeat' (first | ((with_reducible first | apply S_0 | apply S_q1 | apply S_g | apply S_c); exact sgc) | refine Stp.h ?_ | (with_reducible apply B_ne; focus decide) | ((with_reducible first | apply SC_d | apply SG_d | apply SG_n | apply SC_b | apply SG_b) <;> intro hc <;> try simp only [dq1, dq2, dq3, dq4, dq5] at hc))
        (first | exact fincR | exact fincN)
      · have hHm : Hid (¬ mtch L[k] v l[v].l[i].p.l) := hm
        clear hm
        by_cases m1 : L[k].u = l[v].l[i].p.l[1]
        · by_cases m2 : L[k].v = v
          · by_cases m3 : L[k].any = true
            · have m4 : ¬ L[k].H.l = l[v].l[i].p.l.drop 1 := fun h4 => hHm ⟨by rw [show l[v].l[i].p.l.getD 1 0 = l[v].l[i].p.l[1] from hg]; exact m1, m2, m3, h4⟩
              have m4' : decide (L[k].H.l = l[v].l[i].p.l.drop 1) = false := decide_eq_false m4
              clear m4
              repeat' (first | ((with_reducible first | apply S_0 | apply S_q1 | apply S_g | apply S_c); exact sgc) | refine Stp.h ?_ | (with_reducible apply B_ne; focus decide) | ((with_reducible first | apply SC_d | apply SG_d | apply SG_n | apply SC_b | apply SG_b) <;> intro hc <;> try simp only [dq1, dq2, dq3, dq4, dq5] at hc))
              exact H_n (by exact svc) hlt2 (ext1 hHJ fun _ => hHm)
            · have m3 : L[k].any = false := by simpa using m3
              repeat' (first | ((with_reducible first | apply S_0 | apply S_q1 | apply S_g | apply S_c); exact sgc) | refine Stp.h ?_ | (with_reducible apply B_ne; focus decide) | ((with_reducible first | apply SC_d | apply SG_d | apply SG_n | apply SC_b | apply SG_b) <;> intro hc <;> try simp only [dq1, dq2, dq3, dq4, dq5] at hc))
              exact H_n (by exact svc) hlt2 (ext1 hHJ fun _ => hHm)
          · repeat' (first | ((with_reducible first | apply S_0 | apply S_q1 | apply S_g | apply S_c); exact sgc) | refine Stp.h ?_ | (with_reducible apply B_ne; focus decide) | ((with_reducible first | apply SC_d | apply SG_d | apply SG_n | apply SC_b | apply SG_b) <;> intro hc <;> try simp only [dq1, dq2, dq3, dq4, dq5] at hc))
            exact H_n (by exact svc) hlt2 (ext1 hHJ fun _ => hHm)
        · repeat' (first | ((with_reducible first | apply S_0 | apply S_q1 | apply S_g | apply S_c); exact sgc) | refine Stp.h ?_ | (with_reducible apply B_ne; focus decide) | ((with_reducible first | apply SC_d | apply SG_d | apply SG_n | apply SC_b | apply SG_b) <;> intro hc <;> try simp only [dq1, dq2, dq3, dq4, dq5] at hc))
          exact H_n (by exact svc) hlt2 (ext1 hHJ fun _ => hHm)
    · have hlt2' : ¬ (k : Int) < L.length := by omega
      clear hg1
      have hno : hasR L v l[v].l[i].p.l = false := by
        rw [hasR, List.any_eq_false]
        intro r hr
        have := all_of (Q := fun r => ¬ mtch r v l[v].l[i].p.l) hlt2 hHJ r hr
        simpa using this
      have hHn : Hid (hasR L v l[v].l[i].p.l = false) := hno
      clear hno hH
      repeat' (first | ((with_reducible first | apply S_0 | apply S_q1 | apply S_g | apply S_c); exact sgc) | refine Stp.h ?_ | (with_reducible apply B_ne; focus decide) | ((with_reducible first | apply SC_d | apply SG_d | apply SG_n | apply SC_b | apply SG_b) <;> intro hc <;> try simp only [dq1, dq2, dq3, dq4, dq5] at hc))
      exact H_n (by exact svc) hlt (ext1 hHI fun _ => hHn)
  · have hlt' : ¬ (i : Int) < l[v].l.length := by omega
    have hc : choR L v l[v].l = nilPth := by
      have hf : l[v].l.find? (fun q => hasR L v q.p.l) = none := by
        rw [List.find?_eq_none]
        intro q hq
        have := all_of (Q := fun q : Rnk => hasR L v q.p.l = false) hlt hHI q hq
        rw [this]; simp
      rw [choR, hf]
    rw [hc]
    clear hc hp hH
    repeat' (first | ((with_reducible first | apply S_0 | apply S_q1 | apply S_g | apply S_c); exact sgc) | refine Stp.h ?_ | (with_reducible apply B_ne; focus decide) | ((with_reducible first | apply SC_d | apply SG_d | apply SG_n | apply SC_b | apply SG_b) <;> intro hc <;> try simp only [dq1, dq2, dq3, dq4, dq5] at hc))
    (refine ⟨by first | exact .inr rfl | exact .inl rfl, ?_⟩; simp (disch := first | assumption | decide | omega | exact Pth.le _ | exact Rks.le _ | exact List.getElem_mem _ | exact allI_ints _ | exact allI_rks _ | exact allI_pths _ | exact Pth.nil _ | exact Rks.nil _ | (intro hh; simp only [Pth.nil _ hh, List.take_nil, List.drop_nil]; done) | (intro hh; simp only [Rks.nil _ hh, List.take_nil, List.drop_nil]; done) | (simp only [List.length_take, List.length_drop, List.length_append, List.length_cons, List.length_nil, List.length_replicate, List.length_map, ints_len]; omega)) only [resA, rvA, tupA, fin, frzV, frzTup, frzA, frz, isI, isI.all, Option.bind_some, go_sem, if_pos, if_neg, Nat.reduceBEq, Nat.reduceEqDiff, ↓reduceIte, Nat.reduceSub, Nat.reduceAdd, Int.reduceToNat, reduceCtorEq, Nat.reduceLeDiff, Nat.reduceLT, Nat.reduceMul, Nat.reduceDiv, Int.reduceLT, Int.reduceLE, Int.reduceEq, Int.reduceNe, Int.reduceAdd, Int.reduceSub, Int.reduceNeg, Int.reduceGT, Int.reduceGE, Int.reduceBEq, Int.reduceBNe, Int.reduceMul, *])
    rfl
end Go.Proofs.Ytlcdafidoddefaa.Av
namespace Go.Proofs.Ytlcdafidoddefaa.Av
open Go.RowKit
set_option linter.unusedSimpArgs false
set_option linter.unusedVariables false
set_option maxHeartbeats 10000000
section
variable {p : Pr} {base : Nat} {r : List AOp} {d : Option Nat} {env : Env} {m : MS} {D : List Nat} {R : Env → MS → List Nat → Prop}
/-- A store of what never changes into a row of the call's own: what the memory is then. -/
theorem S_SE {n : Nat} {a x : O} {id off len sz k : Nat} {cd : Bool} {cs old : List AV} (ha : a.ev env = .elem (.ms id off len sz cd) k) (hx : cellsOf (x.ev env) = some cs) (hn : cs.length = n) (hI : allI cs = true) (hm : m[id]? = some (some old)) (h1 : k + n ≤ len * sz) (h2 : off + len * sz ≤ old.length) (hb : base ≤ id)
    (h : ∀ m', m'.length = m.length → m'[id]? = some (some (splice old (off + k) cs)) → (∀ i, i ≠ id → m'[i]? = m[i]?) → WS p base 0 r (updO env d (.flat undef)) m' D R) : WS p base 0 (⟨d, .store n a x, none⟩ :: r) env m D R := by
  have hv : evI (ev p) base env m D (.store n a x) = some (.x (.flat undef) (m.set id (some (splice old (off + k) cs))) D) := by
    simp only [evI, hx, ha, hn, if_true, storeA, frzAll_I hI, hm, dirt, if_neg (Nat.not_lt.2 hb)]
    rw [if_pos ⟨h1, h2⟩]
  exact S_0 hv (SO_x (h _ (by simp) (by rw [List.getElem?_set_self (get_lt hm)]) fun i hi => by rw [List.getElem?_set_ne (Ne.symm hi)]))
/-- A row of the call's own is stored into another one: it is given up. -/
theorem S_SR {a x : O} {id off len sz k j c : Nat} {cd cd2 : Bool} {rc old : List AV} (ha : a.ev env = .elem (.ms id off len sz cd) k) (hx : x.ev env = .ms j 0 c 1 cd2) (hj : m[j]? = some (some rc)) (hjb : base ≤ j) (hjc : c ≤ rc.length) (hI : allI rc = true) (hne : j ≠ id) (hm : m[id]? = some (some old)) (h1 : k + 1 ≤ len * sz) (h2 : off + len * sz ≤ old.length) (hb : base ≤ id)
    (h : ∀ m', m'.length = m.length → m'[id]? = some (some (splice old (off + k) [.list 1 (rc.take c) false cd2])) → (∀ i, i ≠ id → i ≠ j → m'[i]? = m[i]?) → WS p base 0 r (updO env d (.flat undef)) m' D R) : WS p base 0 (⟨d, .store 1 a x, none⟩ :: r) env m D R := by
  have hf : frzAll base m [.ms j 0 c 1 cd2] = some ([.list 1 (rc.take c) false cd2], m.set j none) := by
    simp only [frzAll, frz, hj, Nat.mul_one, Nat.zero_add, List.drop_zero]
    rw [if_pos ⟨hjb, hjc, hI⟩]
  have hm2 : (m.set j none)[id]? = some (some old) := by rw [List.getElem?_set_ne hne]; exact hm
  have hv : evI (ev p) base env m D (.store 1 a x) = some (.x (.flat undef) ((m.set j none).set id (some (splice old (off + k) [.list 1 (rc.take c) false cd2]))) D) := by
    simp only [evI, hx, cellsOf, ha, List.length_cons, List.length_nil, if_true, storeA, hf, hm2, dirt, if_neg (Nat.not_lt.2 hb)]
    rw [if_pos ⟨h1, h2⟩]
  exact S_0 hv (SO_x (h _ (by simp) (by rw [List.getElem?_set_self (get_lt hm2)]) fun i hi hi2 => by rw [List.getElem?_set_ne (Ne.symm hi), List.getElem?_set_ne (Ne.symm hi2)]))
end
def RLn.pair (r : RLn) : I2 := (r.u, r.v)
def RLn.pln (r : RLn) : PL := ⟨r.R.l.map Pth.l, r.H.l, r.any⟩
theorem splice_at {A B C : List AV} {x y : AV} : splice (A ++ (B ++ x :: C)) (A.length + B.length) [y] = A ++ (B ++ y :: C) := by
  simp only [splice, List.length_cons, List.length_nil]
  rw [List.take_append, List.drop_append, List.take_of_length_le (by omega), List.drop_eq_nil_of_le (by omega), show A.length + B.length - A.length = B.length by omega, show A.length + B.length + (0 + 1) - A.length = B.length + 1 by omega, List.take_left', List.drop_append]
  · simp
  · rfl
theorem splice_rln {L : List RLn} {k : Nat} (h : k < L.length) {B C : List AV} {x : AV} (hc : L[k].cs = B ++ x :: C) {z : RLn} {y : AV} (hz : z.cs = B ++ y :: C) {n : Nat} (hn : n = k * 5 + B.length) : splice (rlnsA L) n [y] = rlnsA (L.set k z) := by
  subst hn
  rw [rlns_set _ _ h, hz]
  have e : rlnsA L = rlnsA (L.take k) ++ (B ++ x :: (C ++ rlnsA (L.drop (k + 1)))) := by
    have h1 : L = L.set k L[k] := by rw [List.set_getElem_self]
    have h2 := rlns_set L k h L[k]
    rw [← h1, hc] at h2
    rw [h2]; simp
  have h3 : (rlnsA (L.take k)).length = k * 5 := by rw [rlns_len, List.length_take, Nat.min_eq_left (by omega)]
  rw [e, ← h3, splice_at]; simp
theorem fin_rm {base i3 i4 a c : Nat} {n how : Int} {x : AV} {N : MS} {L : List RLn} {C : List Pth} {cd cd' : Bool} (hx : isI x = true) (hx2 : ∀ M, frz base M x = some (x, M)) (h3 : N[i3]? = some (some (rlnsA L))) (h4 : N[i4]? = some (some (C.map Pth.av))) (hb3 : base ≤ i3) (hb4 : base ≤ i4) (hne : i3 ≠ i4) (ha : a = L.length) (hc : c = C.length) :
    fin base false (.tup [.agg [.flat (.int .i64 n), x, .ms i3 0 a 5 cd, .ms i4 0 c 1 cd'], .flat (.int .i64 how)]) N [] = some (.q (.tup [.agg [.flat (.int .i64 n), x, .list 5 (rlnsA L) false cd, .list 1 (C.map Pth.av) false cd'], .flat (.int .i64 how)])) := by
  subst ha; subst hc
  have h5 : (N.set i3 none)[i4]? = some (some (C.map Pth.av)) := by rw [List.getElem?_set_ne hne]; exact h4
  have e1 : L.length * 5 ≤ (rlnsA L).length := by rw [rlns_len]; exact Nat.le_refl _
  have e2 : (rlnsA L).take (L.length * 5) = rlnsA L := List.take_of_length_le (by rw [rlns_len]; exact Nat.le_refl _)
  have e3 : (C.map Pth.av).take C.length = C.map Pth.av := List.take_of_length_le (by simp)
  have f3 : frz base N (.ms i3 0 L.length 5 cd) = some (.list 5 (rlnsA L) false cd, N.set i3 none) := by
    simp only [frz, h3, Nat.zero_add, List.drop_zero]
    rw [if_pos ⟨hb3, e1, allI_rlns L⟩, e2]
  have f4 : frz base (N.set i3 none) (.ms i4 0 C.length 1 cd') = some (.list 1 (C.map Pth.av) false cd', (N.set i3 none).set i4 none) := by
    simp only [frz, h5, Nat.zero_add, List.drop_zero, Nat.mul_one]
    rw [if_pos ⟨hb4, by simp, allI_pths C⟩, e3]
  have f0 : ∀ M k, frz base M (.flat (.int .i64 k)) = some (.flat (.int .i64 k), M) := fun _ _ => rfl
  have hall : frzTup base N [.agg [.flat (.int .i64 n), x, .ms i3 0 L.length 5 cd, .ms i4 0 C.length 1 cd'], .flat (.int .i64 how)] = some ([.agg [.flat (.int .i64 n), x, .list 5 (rlnsA L) false cd, .list 1 (C.map Pth.av) false cd'], .flat (.int .i64 how)], (N.set i3 none).set i4 none) := by
    simp only [frzTup, frzA, frzAll, f0, hx2, f3, f4, Option.map_some]
  simp only [fin, Bool.false_eq_true, if_false, frzV, hall, Option.map_some, isI, isI.all, hx, Bool.and_self, if_true]
theorem hasR_eq {L : List RLn} {v : Nat} {p : List Int} (hnd : (L.map RLn.pair).Nodup) (h0 : p.getD 0 0 = v) (hm : (p.getD 1 0, p.getD 0 0) ∈ L.map RLn.pair) : hasR L v p = hasQ (L.map RLn.pair) (L.map RLn.pln) p := by
  have h1 := List.idxOf_lt_length_of_mem hm
  have h2 : (L.map RLn.pair)[(L.map RLn.pair).idxOf (p.getD 1 0, p.getD 0 0)] = (p.getD 1 0, p.getD 0 0) := List.getElem_idxOf h1
  rw [hasQ]
  generalize hk : (L.map RLn.pair).idxOf (p.getD 1 0, p.getD 0 0) = k at *
  have hkL : k < L.length := by simpa using h1
  have h3 : L[k].pair = (p.getD 1 0, p.getD 0 0) := by simpa using h2
  have h4 : (L.map RLn.pln)[k]? = some L[k].pln := by simp [hkL]
  rw [h4]
  simp only [RLn.pair, Prod.mk.injEq] at h3
  rw [Bool.eq_iff_iff, hasR, List.any_eq_true]
  simp only [Bool.and_eq_true, decide_eq_true_eq, RLn.pln]
  constructor
  · rintro ⟨r, hr, m1, m2, m3, m4⟩
    obtain ⟨j, hj, rfl⟩ := List.getElem_of_mem hr
    have hjk : j = k := by
      have e : (L.map RLn.pair)[j]'(by simpa using hj) = (L.map RLn.pair)[k] := by
        simp only [List.getElem_map, RLn.pair, h3.1, h3.2, m1, m2, h0]
      rcases Nat.lt_trichotomy j k with h | h | h
      · exact absurd e (List.pairwise_iff_getElem.1 hnd _ _ _ _ h)
      · exact h
      · exact absurd e.symm (List.pairwise_iff_getElem.1 hnd _ _ _ _ h)
    subst hjk
    exact ⟨m3, decide_eq_true m4⟩
  · rintro ⟨m3, m4⟩
    exact ⟨L[k], List.getElem_mem hkL, h3.1, by rw [h3.2, h0], m3, of_decide_eq_true m4⟩
theorem find_congr {α : Type} {f g : α → Bool} : ∀ {l : List α}, (∀ a ∈ l, f a = g a) → l.find? f = l.find? g
  | [], _ => rfl
  | a :: l, h => by
    have ih := find_congr (f := f) (g := g) (l := l) fun b hb => h b (List.mem_cons_of_mem _ hb)
    simp only [List.find?_cons, h a (by simp), ih]
theorem choR_eq {l : List Rks} {L : List RLn} {v : Nat} (hF : Fit (plX l) (L.map RLn.pair)) (hv : v < l.length) : (choR L v l[v].l).l = choQ (L.map RLn.pair) (L.map RLn.pln) (paths l[v].l) := by
  have h1 : (paths l[v].l).find? (hasQ (L.map RLn.pair) (L.map RLn.pln)) = (l[v].l.find? fun q => hasR L v q.p.l).map (·.p.l) := by
    rw [paths, List.find?_map]
    congr 1
    refine find_congr fun q hq => ?_
    have hv' : v < (plX l).length := by rw [plX_len]; exact hv
    have hg : (plX l)[v] = paths l[v].l := by simp [plX]
    obtain ⟨_, h2, h3⟩ := hF.pth v hv' q.p.l (by rw [hg]; exact List.mem_map.2 ⟨q, hq, rfl⟩)
    exact (hasR_eq hF.nd h2 h3).symm
  rw [choQ, h1, choR]
  cases l[v].l.find? fun q => hasR L v q.p.l <;> rfl
end Go.Proofs.Ytlcdafidoddefaa.Av
namespace Go.Proofs.Ytlcdafidoddefaa.Av
open Go.RowKit
set_option linter.unusedSimpArgs false
set_option linter.unusedVariables false
set_option maxHeartbeats 10000000
/-- How large a machine of the document's may be. -/
structure RSm (L : List RLn) (C : List Pth) : Prop where
  len : L.length ≤ 1000
  row : ∀ r ∈ L, r.R.l.length ≤ 64 ∧ r.H.l.length ≤ 1000 ∧ (∀ p ∈ r.R.l, p.l.length ≤ 1000) ∧ (r.R.nl = true → r.R.l = [])
  cho : ∀ p ∈ C, p.l.length ≤ 1000
def rmA (n : Int) (l : List Rks) (nl cd : Bool) (L : List RLn) (ln lc : Bool) (C : List Pth) (cn cc : Bool) : AV := .agg [.flat (.int .i64 n), .list 1 (l.map Rks.av) nl cd, .list 5 (rlnsA L) ln lc, .list 1 (C.map Pth.av) cn cc]
def howQ (x : PM × Bool × Int) : Int := if x.2.1 = true then 1 else if x.2.2 = 11 then 2 else 0
def rpm (L : List RLn) (C : List Pth) : PM := ⟨L.map RLn.pln, pl C⟩
/-- What comes of a delivery. -/
def Rdl (n : Int) (l : List Rks) (nl cd : Bool) (L : List RLn) (C : List Pth) (i : Int) (out : Out) : Prop :=
  ∃ L' ln' lc' C' cn' cc', out = .q (.tup [rmA n l nl cd L' ln' lc' C' cn' cc', .flat (.int .i64 (howQ (dlv (plX l) (L.map RLn.pair) (rpm L C) i)))]) ∧ L'.map RLn.pair = L.map RLn.pair ∧ rpm L' C' = (dlv (plX l) (L.map RLn.pair) (rpm L C) i).1 ∧ RSm L' C'
theorem Own.agree {lo : Nat} {m m' : MS} {x : AV} {sz : Nat} {cs : List AV} (h : Own lo m x sz cs) (hl : m'.length = m.length) (hf : ∀ i, lo ≤ i → m'[i]? = m[i]?) : Own lo m' x sz cs := by
  obtain ⟨a, b, c, e | ⟨f, id, g1, g2, g3, g4⟩⟩ := h
  · exact ⟨a, b, c, .inl e⟩
  · exact ⟨a, b, c, .inr ⟨f, id, g1, by omega, g3, by rw [hf id g1]; exact g4⟩⟩
/-- A row of the call's own, or none, is stored into another one: it is given up. -/
theorem S_SO {p : Pr} {base : Nat} {r : List AOp} {d : Option Nat} {env : Env} {m : MS} {D : List Nat} {R : Env → MS → List Nat → Prop} {a x : O} {id off len sz k lo : Nat} {cd : Bool} {y : AV} {rc old : List AV} (ha : a.ev env = .elem (.ms id off len sz cd) k) (hx : x.ev env = y) (hO : Own lo m y 1 rc) (hlo : id < lo) (hm : m[id]? = some (some old)) (h1 : k + 1 ≤ len * sz) (h2 : off + len * sz ≤ old.length) (hb : base ≤ id)
    (h : ∀ m', m'.length = m.length → m'[id]? = some (some (splice old (off + k) [lst 1 rc])) → (∀ i, i ≠ id → i < lo → m'[i]? = m[i]?) → WS p base 0 r (updO env d (.flat undef)) m' D R) : WS p base 0 (⟨d, .store 1 a x, none⟩ :: r) env m D R := by
  obtain ⟨o1, o2, o3, ⟨rfl, rfl⟩ | ⟨hne, j, g1, g2, rfl, g4⟩⟩ := hO
  · exact S_SE ha (cs := [.list 1 [] true true]) (by rw [hx]; rfl) rfl rfl hm h1 h2 hb fun m' e1 e2 e3 => h m' e1 e2 fun i hi _ => e3 i hi
  · rw [Nat.div_one] at hx
    refine S_SR ha hx g4 (by omega) (Nat.le_refl _) o2 (by omega) hm h1 h2 hb fun m' e1 e2 e3 => h m' e1 ?_ fun i hi hlt => e3 i hi (by omega)
    rw [List.take_length] at e2
    rw [e2]
    have : rc.isEmpty = false := by cases rc <;> simp_all
    simp only [lst, this]
theorem Vw.ms5 {m : MS} {id : Nat} {L : List RLn} {cd : Bool} (h : m[id]? = some (some (rlnsA L))) : Vw m (.ms id 0 L.length 5 cd) (rlnsA L) L.length := by
  refine ⟨rfl, fun G => ?_, rfl⟩
  simp only [view, get_grow h G, Nat.zero_add, List.drop_zero]
  rw [if_pos (by rw [rlns_len]; exact Nat.le_refl _), List.take_of_length_le (by rw [rlns_len]; exact Nat.le_refl _)]
theorem pths_isE (l : List Pth) : (l.map Pth.av).isEmpty = l.isEmpty := by cases l <;> rfl
theorem app_nil5 {base sz' : Nat} {M : MS} {D : List Nat} {L : List RLn} (hm : 0 < L.length) (h1 : L.length ≤ 1099511627776) (h2 : L.length * 72 ≤ 140737488355328) :
    appA base M D 5 72 (.list sz' [] true true) L.length (rlnsA L) = some (.x (.ms M.length 0 L.length 5 false) (M ++ [some (rlnsA L)]) D) := app_nil hm (rlns_len L).symm h1 h2
attribute [go_sem] app_nil5
theorem t22 (n : Int) (l : List Rks) (nl cd : Bool) (L : List RLn) (ln lc : Bool) (C : List Pth) (cn cc : Bool) (i : Nat) (M : MS) (hF : Fit (plX l) (L.map RLn.pair)) (hS : SmallX l) (hX : MayX n l) (hi : i < L.length) (hsm : RSm L C) (hC : C.length = l.length) :
    ∃ out, ev pr 22 [rmA n l nl cd L ln lc C cn cc, .flat (.int .i64 i)] M = some out ∧ Rdl n l nl cd L C i out := by
  have hLl := hsm.len
  have hiZ : (i : Int) < L.length := by omega
  obtain ⟨r1, r2, r3, r4⟩ := hsm.row _ (List.getElem_mem hi)
  have hgd : dlv (plX l) (L.map RLn.pair) (rpm L C) i = (match L[i].pln.row with
      | [] => (rpm L C, false, 0)
      | p :: r =>
        if choQ (L.map RLn.pair) ((L.map RLn.pln).set i ⟨r, p, true⟩) ((plX l).getD L[i].v.toNat []) = (pl C).getD L[i].v.toNat [] then (⟨(L.map RLn.pln).set i ⟨r, p, true⟩, pl C⟩, true, 0)
        else if fullQ (L.map RLn.pair) ((L.map RLn.pln).set i ⟨r, p, true⟩) L[i].v then (rpm L C, false, 11)
        else (⟨tellQ (L.map RLn.pair) L[i].v (choQ (L.map RLn.pair) ((L.map RLn.pln).set i ⟨r, p, true⟩) ((plX l).getD L[i].v.toNat [])) ((L.map RLn.pln).set i ⟨r, p, true⟩), (pl C).set L[i].v.toNat (choQ (L.map RLn.pair) ((L.map RLn.pln).set i ⟨r, p, true⟩) ((plX l).getD L[i].v.toNat []))⟩, true, 0)) := by
    have h1 : (L.map RLn.pair).getD i (0, 0) = L[i].pair := by rw [get2_of (by simpa using hi)]; simp
    rw [dlv, if_pos (by simpa [rpm] using hi)]
    simp only [Int.toNat_natCast, h1]
    have h2 : (rpm L C).Z[i]? = some L[i].pln := by simp [rpm, hi]
    rw [h2]
    rfl
  simp only [rmA]
  rcases Nat.eq_zero_or_pos L[i].R.l.length with h0 | h0
  · have hd : dlv (plX l) (L.map RLn.pair) (rpm L C) i = (rpm L C, false, 0) := by
      rw [hgd]; simp only [RLn.pln, List.eq_nil_of_length_eq_zero h0, List.map_nil]
    have h0' : (L[i].R.l.length : Int) = 0 := by omega
    have hHh : Hid (dlv (plX l) (L.map RLn.pair) (rpm L C) i = (rpm L C, false, 0)) := hd
    have hHs := id hsm
    clear hd hgd h0
    refine ev_fnE A22 ?_
    repeat' (first | ((with_reducible first | apply S_0 | apply S_q1 | apply S_g | apply S_c); exact sgc) | refine Stp.h ?_ | (with_reducible apply B_ne; focus decide) | ((with_reducible first | apply SC_d | apply SG_d | apply SG_n | apply SC_b | apply SG_b) <;> intro hc <;> try simp only [dq1, dq2, dq3, dq4, dq5] at hc))
    (refine ⟨by first | exact .inr rfl | exact .inl rfl, ?_⟩; simp (disch := first | assumption | decide | omega | exact Pth.le _ | exact Rks.le _ | exact List.getElem_mem _ | exact allI_ints _ | exact allI_rks _ | exact allI_pths _ | exact Pth.nil _ | exact Rks.nil _ | (intro hh; simp only [Pth.nil _ hh, List.take_nil, List.drop_nil]; done) | (intro hh; simp only [Rks.nil _ hh, List.take_nil, List.drop_nil]; done) | (simp only [List.length_take, List.length_drop, List.length_append, List.length_cons, List.length_nil, List.length_replicate, List.length_map, ints_len]; omega)) only [resA, rvA, tupA, fin, frzV, frzTup, frzA, frz, isI, isI.all, Option.bind_some, go_sem, if_pos, if_neg, Nat.reduceBEq, Nat.reduceEqDiff, ↓reduceIte, Nat.reduceSub, Nat.reduceAdd, Int.reduceToNat, reduceCtorEq, Nat.reduceLeDiff, Nat.reduceLT, Nat.reduceMul, Nat.reduceDiv, Int.reduceLT, Int.reduceLE, Int.reduceEq, Int.reduceNe, Int.reduceAdd, Int.reduceSub, Int.reduceNeg, Int.reduceGT, Int.reduceGE, Int.reduceBEq, Int.reduceBNe, Int.reduceMul, *])
    have hd : dlv (plX l) (L.map RLn.pair) (rpm L C) i = (rpm L C, false, 0) := hHh
    exact ⟨_, rfl, L, ln, lc, C, cn, cc, by rw [hd]; rfl, rfl, by rw [hd], hHs⟩
  have hnR : L[i].R.nl = false := by
    cases hb : L[i].R.nl with
    | false => rfl
    | true => rw [r4 hb] at h0; simp at h0
  have h0' : ¬ (L[i].R.l.length : Int) = 0 := by omega
  have hlim := hF.lim _ (List.mem_map.2 ⟨_, List.getElem_mem hi, rfl⟩ : L[i].pair ∈ L.map RLn.pair)
  rw [plX_len] at hlim
  obtain ⟨v, hv⟩ : ∃ v : Nat, L[i].v = v := ⟨L[i].v.toNat, by have := hlim.2.2.1; simp only [RLn.pair] at this; omega⟩
  have hvl : v < l.length := by have := hlim.2.2.2; simp only [RLn.pair, hv] at this; omega
  have hvC : v < C.length := by omega
  have hl12 := hS.1
  have hlv := hS.2 _ (List.getElem_mem hvl)
  have hLb : L.length * 72 ≤ 140737488355328 := by omega
  have hCb : C.length * 24 ≤ 140737488355328 := by omega
  have hi0 : 0 < L.length := by omega
  have hC0 : 0 < C.length := by omega
  have hLm : L.length ≤ 1099511627776 := by omega
  have hCm : C.length ≤ 1099511627776 := by omega
  have hHF : Hid (Fit (plX l) (L.map RLn.pair)) := hF
  have hHS : Hid (RSm L C) := hsm
  have hHX : Hid (MayX n l) := hX
  have hHl : Hid (C.length = l.length) := hC
  have hHg : Hid _ := hgd
  clear hF hsm hX hC hgd hlim hS
  refine ev_fnE A22 ?_
  repeat' (first | ((with_reducible first | apply S_0 | apply S_q1 | apply S_g | apply S_c); exact sgc) | refine Stp.h ?_ | (with_reducible apply B_ne; focus decide) | ((with_reducible first | apply SC_d | apply SG_d | apply SG_n | apply SC_b | apply SG_b) <;> intro hc <;> try simp only [dq1, dq2, dq3, dq4, dq5] at hc))
  have hO0 : Own (M ++ [some [.flat (.int .i64 n), .list 1 (l.map Rks.av) nl cd, .list 5 (rlnsA L) ln lc, .list 1 (C.map Pth.av) cn cc], some [.flat (.int .i64 0), .list 1 [] true true, .list 1 [] true true, .list 1 [] true true], some [.flat (.int .i64 n), .list 1 (l.map Rks.av) nl cd, .ms (M.length + 3) 0 L.length 5 false, .ms (M.length + 4) 0 C.length 1 false], some (rlnsA L), some (C.map Pth.av)]).length ((M ++ [some [.flat (.int .i64 n), .list 1 (l.map Rks.av) nl cd, .list 5 (rlnsA L) ln lc, .list 1 (C.map Pth.av) cn cc], some [.flat (.int .i64 0), .list 1 [] true true, .list 1 [] true true, .list 1 [] true true], some [.flat (.int .i64 n), .list 1 (l.map Rks.av) nl cd, .ms (M.length + 3) 0 L.length 5 false, .ms (M.length + 4) 0 C.length 1 false], some (rlnsA L), some (C.map Pth.av)]) ++ []) (.list 1 [] true true) 1 [] := Own.nil _ _ (by decide)
  (refine S_ownG (cs := []) (M ++ [some [.flat (.int .i64 n), .list 1 (l.map Rks.av) nl cd, .list 5 (rlnsA L) ln lc, .list 1 (C.map Pth.av) cn cc], some [.flat (.int .i64 0), .list 1 [] true true, .list 1 [] true true, .list 1 [] true true], some [.flat (.int .i64 n), .list 1 (l.map Rks.av) nl cd, .ms (M.length + 3) 0 L.length 5 false, .ms (M.length + 4) 0 C.length 1 false], some (rlnsA L), some (C.map Pth.av)]) [] (by assumption) (by first | rfl | simp only [List.append_assoc, List.cons_append, List.nil_append]) (by exact sgc) (by exact sgc) (by exact sgc) (by exact sgc) (by exact sgc) (by (first | assumption | omega | (simp only [ints_len, Nat.div_one, Nat.one_mul, Nat.mul_one, List.length_map, rks_len, half, List.length_cons, List.length_nil, List.length_append, List.length_replicate]; omega))) (by (first | assumption | omega | (simp only [ints_len, Nat.div_one, Nat.one_mul, Nat.mul_one, List.length_map, rks_len, half, List.length_cons, List.length_nil, List.length_append, List.length_replicate]; omega))) (by first | omega | (simp; done) | (simp; omega)) ?_)
  intro v' G' hO
  obtain ⟨m0, hm0⟩ : ∃ m0 : MS, m0 = (M ++ [some [AV.flat (.int .i64 n), .list 1 (l.map Rks.av) nl cd, .list 5 (rlnsA L) ln lc, .list 1 (C.map Pth.av) cn cc], some [.flat (.int .i64 0), .list 1 [] true true, .list 1 [] true true, .list 1 [] true true], some [.flat (.int .i64 n), .list 1 (l.map Rks.av) nl cd, .ms (M.length + 3) 0 L.length 5 false, .ms (M.length + 4) 0 C.length 1 false], some (rlnsA L), some (C.map Pth.av)] ++ G') := ⟨_, rfl⟩
  rw [← hm0] at hO ⊢
  rw [List.nil_append, show (M ++ _).length = M.length + 5 from by simp] at hO
  have b0 : m0[M.length]? = some (some [.flat (.int .i64 n), .list 1 (l.map Rks.av) nl cd, .list 5 (rlnsA L) ln lc, .list 1 (C.map Pth.av) cn cc]) := by rw [hm0]; simp
  have b1 : m0[M.length + 1]? = some (some [.flat (.int .i64 0), .list 1 [] true true, .list 1 [] true true, .list 1 [] true true]) := by rw [hm0]; simp
  have b2 : m0[M.length + 2]? = some (some [.flat (.int .i64 n), .list 1 (l.map Rks.av) nl cd, .ms (M.length + 3) 0 L.length 5 false, .ms (M.length + 4) 0 C.length 1 false]) := by rw [hm0]; simp
  have b3 : m0[M.length + 3]? = some (some (rlnsA L)) := by rw [hm0]; simp
  have b4 : m0[M.length + 4]? = some (some (C.map Pth.av)) := by rw [hm0]; simp
  have bl : M.length + 5 ≤ m0.length := by rw [hm0]; simp
  clear hm0 hO0
  obtain ⟨La, hLa⟩ : ∃ La, La = L.set i ⟨L[i].u, L[i].v, L[i].R, L[i].R.l[0], L[i].any⟩ := ⟨_, rfl⟩
  obtain ⟨Lb, hLb⟩ : ∃ Lb, Lb = L.set i ⟨L[i].u, L[i].v, L[i].R, L[i].R.l[0], true⟩ := ⟨_, rfl⟩
  obtain ⟨L1, hL1⟩ : ∃ L1, L1 = L.set i ⟨L[i].u, L[i].v, ⟨L[i].R.l.drop 1, (L[i].R.l.drop 1).isEmpty, (L[i].R.l.drop 1).isEmpty⟩, L[i].R.l[0], true⟩ := ⟨_, rfl⟩
  have hst3 : List.take (i * 5 + 3) (rlnsA L) ++ AV.list 1 (intsA L[i].R.l[0].l) L[i].R.l[0].nl L[i].R.l[0].cd :: List.drop (i * 5 + 4) (rlnsA L) = rlnsA La := by
    have := splice_rln hi (B := [.flat (.int .i64 L[i].u), .flat (.int .i64 L[i].v), L[i].R.av]) (C := [.flat (.bool L[i].any)]) (x := L[i].H.av) rfl (z := ⟨L[i].u, L[i].v, L[i].R, L[i].R.l[0], L[i].any⟩) (y := L[i].R.l[0].av) rfl rfl
    rw [hLa, ← this]; simp [splice, Pth.av_eq]
  have hst4 : List.take (i * 5 + 4) (rlnsA La) ++ AV.flat (.bool true) :: List.drop (i * 5 + 5) (rlnsA La) = rlnsA Lb := by
    have := splice_rln (L := La) (k := i) (by rw [hLa]; simpa using hi) (B := [.flat (.int .i64 L[i].u), .flat (.int .i64 L[i].v), L[i].R.av, L[i].R.l[0].av]) (C := []) (x := .flat (.bool L[i].any)) (by simp only [hLa, List.getElem_set_self]; rfl) (z := ⟨L[i].u, L[i].v, L[i].R, L[i].R.l[0], true⟩) (y := .flat (.bool true)) rfl rfl
    have e : La.set i ⟨L[i].u, L[i].v, L[i].R, L[i].R.l[0], true⟩ = L.set i ⟨L[i].u, L[i].v, L[i].R, L[i].R.l[0], true⟩ := by rw [hLa, List.set_set]
    rw [hLb, ← e, ← this]; simp [splice]
  have hst2 : splice (rlnsA Lb) (i * 5 + 2) [lst 1 ((L[i].R.l.drop 1).map Pth.av)] = rlnsA L1 := by
    have := splice_rln (L := Lb) (k := i) (by rw [hLb]; simpa using hi) (B := [.flat (.int .i64 L[i].u), .flat (.int .i64 L[i].v)]) (C := [L[i].R.l[0].av, .flat (.bool true)]) (x := L[i].R.av) (by simp only [hLb, List.getElem_set_self]; rfl) (z := ⟨L[i].u, L[i].v, ⟨L[i].R.l.drop 1, (L[i].R.l.drop 1).isEmpty, (L[i].R.l.drop 1).isEmpty⟩, L[i].R.l[0], true⟩) (y := lst 1 ((L[i].R.l.drop 1).map Pth.av)) (by simp only [lst, pths_isE]; rfl) rfl
    have e : Lb.set i ⟨L[i].u, L[i].v, ⟨L[i].R.l.drop 1, (L[i].R.l.drop 1).isEmpty, (L[i].R.l.drop 1).isEmpty⟩, L[i].R.l[0], true⟩ = L.set i ⟨L[i].u, L[i].v, ⟨L[i].R.l.drop 1, (L[i].R.l.drop 1).isEmpty, (L[i].R.l.drop 1).isEmpty⟩, L[i].R.l[0], true⟩ := by rw [hLb, List.set_set]
    rw [hL1, ← e, ← this]; rfl
  have hal : La.length = L.length := by rw [hLa]; simp
  have hbl : Lb.length = L.length := by rw [hLb]; simp
  have h1l : L1.length = L.length := by rw [hL1]; simp
  have hH1 : Hid (L1 = L.set i ⟨L[i].u, L[i].v, ⟨L[i].R.l.drop 1, (L[i].R.l.drop 1).isEmpty, (L[i].R.l.drop 1).isEmpty⟩, L[i].R.l[0], true⟩) := hL1
  clear hLa hLb hL1
  repeat' (first | ((with_reducible first | apply S_0 | apply S_q1 | apply S_g | apply S_c); exact sgc) | refine Stp.h ?_ | (with_reducible apply B_ne; focus decide) | ((with_reducible first | apply SC_d | apply SG_d | apply SG_n | apply SC_b | apply SG_b) <;> intro hc <;> try simp only [dq1, dq2, dq3, dq4, dq5] at hc))
  obtain ⟨m1, hm1⟩ : ∃ m1, m1 = List.set m0 (M.length + 3) (some (rlnsA La)) := ⟨_, rfl⟩
  rw [← hm1]
  replace b0 := (show m1[M.length]? = m0[M.length]? by rw [hm1, List.getElem?_set_ne (by omega)]).trans b0
  replace b1 := (show m1[M.length + 1]? = m0[M.length + 1]? by rw [hm1, List.getElem?_set_ne (by omega)]).trans b1
  replace b2 := (show m1[M.length + 2]? = m0[M.length + 2]? by rw [hm1, List.getElem?_set_ne (by omega)]).trans b2
  replace b4 := (show m1[M.length + 4]? = m0[M.length + 4]? by rw [hm1, List.getElem?_set_ne (by omega)]).trans b4
  replace b3 : m1[M.length + 3]? = some (some (rlnsA La)) := by rw [hm1, List.getElem?_set_self (by omega)]
  replace hO := hO.agree (m' := m1) (by rw [hm1, List.length_set]) fun j hj => by rw [hm1, List.getElem?_set_ne (by omega)]
  rw [show m0.length = m1.length by rw [hm1, List.length_set]] at bl
  clear hm1 hst3
  repeat' (first | ((with_reducible first | apply S_0 | apply S_q1 | apply S_g | apply S_c); exact sgc) | refine Stp.h ?_ | (with_reducible apply B_ne; focus decide) | ((with_reducible first | apply SC_d | apply SG_d | apply SG_n | apply SC_b | apply SG_b) <;> intro hc <;> try simp only [dq1, dq2, dq3, dq4, dq5] at hc))
  obtain ⟨m2, hm2⟩ : ∃ m2, m2 = List.set m1 (M.length + 3) (some (rlnsA Lb)) := ⟨_, rfl⟩
  rw [← hm2]
  replace b0 := (show m2[M.length]? = m1[M.length]? by rw [hm2, List.getElem?_set_ne (by omega)]).trans b0
  replace b1 := (show m2[M.length + 1]? = m1[M.length + 1]? by rw [hm2, List.getElem?_set_ne (by omega)]).trans b1
  replace b2 := (show m2[M.length + 2]? = m1[M.length + 2]? by rw [hm2, List.getElem?_set_ne (by omega)]).trans b2
  replace b4 := (show m2[M.length + 4]? = m1[M.length + 4]? by rw [hm2, List.getElem?_set_ne (by omega)]).trans b4
  replace b3 : m2[M.length + 3]? = some (some (rlnsA Lb)) := by rw [hm2, List.getElem?_set_self (by omega)]
  replace hO := hO.agree (m' := m2) (by rw [hm2, List.length_set]) fun j hj => by rw [hm2, List.getElem?_set_ne (by omega)]
  rw [show m1.length = m2.length by rw [hm2, List.length_set]] at bl
  clear hm2 hst4
  repeat' (first | ((with_reducible first | apply S_0 | apply S_q1 | apply S_g | apply S_c); exact sgc) | refine Stp.h ?_ | (with_reducible apply B_ne; focus decide) | ((with_reducible first | apply SC_d | apply SG_d | apply SG_n | apply SC_b | apply SG_b) <;> intro hc <;> try simp only [dq1, dq2, dq3, dq4, dq5] at hc))
  refine S_SO (id := M.length + 3) (off := 0) (len := L.length) (sz := 5) (k := i * 5 + 2) (cd := false) (lo := M.length + 5) (y := v') (rc := (L[i].R.l.drop 1).map Pth.av) (old := rlnsA Lb) (by exact svc) (by exact svc) hO (by omega) b3 (by omega) (by rw [rlns_len]; omega) (by omega) ?_
  intro m3 l3 g3 f3
  rw [Nat.zero_add, hst2] at g3
  replace b0 := (f3 _ (by omega) (by omega)).trans b0
  replace b1 := (f3 _ (by omega) (by omega)).trans b1
  replace b2 := (f3 _ (by omega) (by omega)).trans b2
  replace b4 := (f3 _ (by omega) (by omega)).trans b4
  rw [← l3] at bl
  clear f3 l3 b3 hO hst2 hal hbl
  clear La Lb
  have hF : Fit (plX l) (L.map RLn.pair) := hHF
  have hsm : RSm L C := hHS
  have hL1 : L1 = L.set i ⟨L[i].u, L[i].v, ⟨L[i].R.l.drop 1, (L[i].R.l.drop 1).isEmpty, (L[i].R.l.drop 1).isEmpty⟩, L[i].R.l[0], true⟩ := hH1
  have hpr : L1.map RLn.pair = L.map RLn.pair := by
    rw [hL1, List.map_set]
    refine List.ext_getElem? fun j => ?_
    by_cases hj : i = j
    · subst hj; rw [List.getElem?_set_self (by simpa using hi)]; simp [hi, RLn.pair]
    · rw [List.getElem?_set_ne hj]
  have hpn : L1.map RLn.pln = (L.map RLn.pln).set i ⟨(L[i].R.l.map Pth.l).drop 1, L[i].R.l[0].l, true⟩ := by
    rw [hL1, List.map_set]; simp [RLn.pln]
  have hsm1 : RSm L1 C := by
    refine ⟨by omega, fun r hr => ?_, hsm.cho⟩
    rw [hL1] at hr
    rcases List.mem_or_eq_of_mem_set hr with h1 | h1
    · exact hsm.row r h1
    · rw [h1]
      refine ⟨by simp; omega, r3 _ (List.getElem_mem h0), fun p hp => r3 p (List.mem_of_mem_drop hp), fun h2 => ?_⟩
      simpa using h2
  obtain ⟨c, hc⟩ : ∃ c, c = choR L1 v l[v].l := ⟨_, rfl⟩
  have hcq : c.l = choQ (L.map RLn.pair) (L1.map RLn.pln) (paths l[v].l) := by
    rw [hc, ← hpr]
    exact choR_eq (by rw [hpr]; exact hF) hvl
  have hpth : ∀ (j : Nat) (hj : j < l[v].l.length), 2 ≤ l[v].l[j].p.l.length ∧ l[v].l[j].p.l.length ≤ 1000 := by
    intro j hj
    have h1 := hlv.2 _ (List.getElem_mem hj)
    refine ⟨?_, by omega⟩
    have hv' : v < (plX l).length := by rw [plX_len]; exact hvl
    have hg : (plX l)[v] = paths l[v].l := by simp [plX]
    exact (hF.pth v hv' _ (by rw [hg]; exact List.mem_map.2 ⟨_, List.getElem_mem hj, rfl⟩)).1
  have hcl : c.l.length ≤ 1000 := by
    rw [hc, choR]
    split
    · rename_i q hq
      obtain ⟨j, hj, rfl⟩ := List.getElem_of_mem (List.mem_of_find?_eq_some hq)
      exact (hpth j hj).2
    · simp [nilPth]
  have hd : dlv (plX l) (L.map RLn.pair) (rpm L C) i = if c.l = C[v].l then (⟨L1.map RLn.pln, pl C⟩, true, 0) else if fullQ (L.map RLn.pair) (L1.map RLn.pln) v = true then (rpm L C, false, 11) else (⟨tellQ (L.map RLn.pair) v c.l (L1.map RLn.pln), (pl C).set v c.l⟩, true, 0) := by
    have hg : dlv (plX l) (L.map RLn.pair) (rpm L C) i = _ := hHg
    have hrow : L[i].pln.row = L[i].R.l[0].l :: (L[i].R.l.map Pth.l).drop 1 := by
      show L[i].R.l.map Pth.l = _
      have := List.drop_eq_getElem_cons (l := L[i].R.l.map Pth.l) (i := 0) (by simpa using h0)
      rw [List.drop_zero] at this
      rw [this]; simp
    have e3 : (pl C).getD v [] = C[v].l := pl_getD hvC
    rw [hg]
    simp only [hrow, hv, Int.toNat_natCast, ← hpn, plX_get hvl, ← hcq, e3]
  have h53 := t53 n l nl cd L1 (.ms (M.length + 3) 0 L.length 5 false) (.ms (M.length + 4) 0 C.length 1 false) v m3 (by rw [← h1l]; exact Vw.ms5 g3) rfl (by omega) hvl (by omega) (by omega) (fun r hr => (hsm1.row r hr).2.1) hpth
  rw [← hc, Pth.av_eq] at h53
  have hHd : Hid _ := hd
  have hHpr : Hid _ := hpr
  have hHpn : Hid _ := hpn
  have hHs1 : Hid _ := hsm1
  have hCs : C[v].l.length ≤ 1000 := hsm.cho _ (List.getElem_mem hvC)
  clear hF hsm hL1 hpr hpn hsm1 hc hcq hpth hd hHg
  have hlen3 : M.length + 1 < m3.length := by omega
  have hstC : List.map Pth.av (List.take v C) ++ AV.list 1 (intsA c.l) c.nl c.cd :: List.map Pth.av (List.drop (v + 1) C) = (C.set v c).map Pth.av := by
    rw [List.set_eq_take_append_cons_drop, if_pos hvC]; simp [Pth.av_eq]
  repeat' (first | ((with_reducible first | apply S_0 | apply S_q1 | apply S_g | apply S_c); exact sgc) | refine Stp.h ?_ | (with_reducible apply B_ne; focus decide) | ((with_reducible first | apply SC_d | apply SG_d | apply SG_n | apply SC_b | apply SG_b) <;> intro hc <;> try simp only [dq1, dq2, dq3, dq4, dq5] at hc))
  · obtain ⟨m4, hm4⟩ : ∃ m4, m4 = List.set m3 (M.length + 1) (some [AV.flat (.int .i64 n), .list 1 (l.map Rks.av) nl cd, .ms (M.length + 3) 0 L.length 5 false, .ms (M.length + 4) 0 C.length 1 false]) := ⟨_, rfl⟩
    rw [← hm4]
    replace b1 : m4[M.length + 1]? = some (some [AV.flat (.int .i64 n), .list 1 (l.map Rks.av) nl cd, .ms (M.length + 3) 0 L.length 5 false, .ms (M.length + 4) 0 C.length 1 false]) := by rw [hm4, List.getElem?_set_self (by omega)]
    replace b4 := (show m4[M.length + 4]? = m3[M.length + 4]? by rw [hm4, List.getElem?_set_ne (by omega)]).trans b4
    replace g3 := (show m4[M.length + 3]? = m3[M.length + 3]? by rw [hm4, List.getElem?_set_ne (by omega)]).trans g3
    clear hm4 h53 hstC
    (refine ⟨by first | exact .inr rfl | exact .inl rfl, ?_⟩; simp (disch := first | assumption | decide | omega | exact Pth.le _ | exact Rks.le _ | exact List.getElem_mem _ | exact allI_ints _ | exact allI_rks _ | exact allI_pths _ | exact Pth.nil _ | exact Rks.nil _ | (intro hh; simp only [Pth.nil _ hh, List.take_nil, List.drop_nil]; done) | (intro hh; simp only [Rks.nil _ hh, List.take_nil, List.drop_nil]; done) | (simp only [List.length_take, List.length_drop, List.length_append, List.length_cons, List.length_nil, List.length_replicate, List.length_map, ints_len]; omega)) only [resA, rvA, tupA, Option.bind_some, go_sem, if_pos, if_neg, Nat.reduceBEq, Nat.reduceEqDiff, ↓reduceIte, Nat.reduceSub, Nat.reduceAdd, Int.reduceToNat, reduceCtorEq, Nat.reduceLeDiff, Nat.reduceLT, Nat.reduceMul, Nat.reduceDiv, Int.reduceLT, Int.reduceLE, Int.reduceEq, Int.reduceNe, Int.reduceAdd, Int.reduceSub, Int.reduceNeg, Int.reduceGT, Int.reduceGE, Int.reduceBEq, Int.reduceBNe, Int.reduceMul, *])
    have hd : dlv (plX l) (L.map RLn.pair) (rpm L C) i = _ := hHd
    rw [if_pos hc] at hd
    refine ⟨_, fin_rm (a := L.length) (c := C.length) (L := L1) (C := C) rfl (fun _ => rfl) g3 b4 (by omega) (by omega) (by omega) h1l.symm rfl, L1, _, _, C, _, _, by rw [hd]; rfl, hHpr, by rw [hd]; rfl, hHs1⟩
  · have hcn : ¬ c.l = C[v].l := hc
    obtain ⟨m4, hm4⟩ : ∃ m4, m4 = List.set m3 (M.length + 4) (some ((C.set v c).map Pth.av)) := ⟨_, rfl⟩
    rw [← hm4]
    replace b0 := (show m4[M.length]? = m3[M.length]? by rw [hm4, List.getElem?_set_ne (by omega)]).trans b0
    replace b1 := (show m4[M.length + 1]? = m3[M.length + 1]? by rw [hm4, List.getElem?_set_ne (by omega)]).trans b1
    replace b2 := (show m4[M.length + 2]? = m3[M.length + 2]? by rw [hm4, List.getElem?_set_ne (by omega)]).trans b2
    replace b4 : m4[M.length + 4]? = some (some ((C.set v c).map Pth.av)) := by rw [hm4, List.getElem?_set_self (by omega)]
    replace g3 := (show m4[M.length + 3]? = m3[M.length + 3]? by rw [hm4, List.getElem?_set_ne (by omega)]).trans g3
    rw [show m3.length = m4.length by rw [hm4, List.length_set]] at bl
    clear hm4 h53 hstC hlen3 hc
    obtain ⟨LL, hLL⟩ : ∃ LL, LL = L.map RLn.pair := ⟨_, rfl⟩
    have hLLl : LL.length = L.length := by rw [hLL]; simp
    have hHLL : Hid _ := hLL
    clear hLL
    refine W_rngM 10 0 L.length (fun k e mm => ∃ Lk : List RLn, mm[M.length]? = some (some [.flat (.int .i64 n), .list 1 (l.map Rks.av) nl cd, .list 5 (rlnsA L) ln lc, .list 1 (C.map Pth.av) cn cc]) ∧
      mm[M.length + 1]? = some (some [.flat (.int .i64 0), .list 1 [] true true, .list 1 [] true true, .list 1 [] true true]) ∧
      mm[M.length + 2]? = some (some [.flat (.int .i64 n), .list 1 (l.map Rks.av) nl cd, .ms (M.length + 3) 0 L.length 5 false, .ms (M.length + 4) 0 C.length 1 false]) ∧
      mm[M.length + 3]? = some (some (rlnsA Lk)) ∧ mm[M.length + 4]? = some (some ((C.set v c).map Pth.av)) ∧ M.length + 5 ≤ mm.length ∧
      Lk.map RLn.pair = LL ∧ RSm Lk C ∧ (∀ j (h : j < LL.length), j < k → LL[j].1 = v → rowN (L1.map RLn.pln) j < 64) ∧
      ∀ j : Nat, (Lk.map RLn.pln)[j]? = ((L1.map RLn.pln)[j]?).map fun z => if j < k ∧ (LL.getD j (0, 0)).1 = v then ⟨z.row ++ [c.l], z.heard, z.any⟩ else z) (by simp only [asg, asgO, List.append_nil, List.nil_append, List.cons_append]; rfl) (by exact svc) (by omega)
      ⟨L1, b0, b1, b2, g3, b4, bl, by rw [show LL = _ from hHLL]; exact hHpr, hHs1, fun j h hj => by omega, fun j => by simp; rfl⟩ ?_
    clear b0 b1 b2 b4 g3 bl
    rintro k e mm _ hk hkk e10 ⟨Lk, b0, b1, b2, b3, b4, bl, hLp, hLs, hnf, hLz⟩
    have k2 : e 2 = .mptr M.length 0 := by rw [hkk 2 rfl]; exact svc
    have k4 : e 4 = .mptr (M.length + 1) 0 := by rw [hkk 4 rfl]; exact svc
    have k6 : e 6 = .mptr (M.length + 2) 0 := by rw [hkk 6 rfl]; exact svc
    have k8 : e 8 = .flat (.int .i64 v) := by rw [hkk 8 rfl]; exact svc
    have k9 : e 9 = .list 1 (intsA c.l) c.nl c.cd := by rw [hkk 9 rfl]; exact svc
    clear hkk
    have hLkl : Lk.length = L.length := by rw [← hLLl, ← hLp]; simp
    have htz : List.take L.length Lk = Lk := List.take_of_length_le (by omega)
    rcases Nat.lt_or_ge k L.length with hlt | hlt
    · have hlt' : (k : Int) < L.length := by omega
      have hkL : k < Lk.length := by omega
      have hkLL : k < LL.length := by omega
      have hk1 : k < L1.length := by omega
      have hpk : LL[k].1 = Lk[k].u := by simp only [← hLp, List.getElem_map, RLn.pair]
      have hgk : (LL.getD k (0, 0)).1 = Lk[k].u := by rw [get2_of hkLL]; exact hpk
      obtain ⟨w1, w2, w3, w4⟩ := hLs.row _ (List.getElem_mem hkL)
      have hzk : Lk[k].pln = L1[k].pln := by
        have := hLz k
        rw [List.getElem?_map, List.getElem?_map, List.getElem?_eq_getElem hkL, List.getElem?_eq_getElem hk1] at this
        simpa using this
      have hrn : rowN (L1.map RLn.pln) k = Lk[k].R.l.length := by
        rw [rowN, List.getElem?_map, List.getElem?_eq_getElem hk1]
        have : (L1[k].R.l.map Pth.l).length = (Lk[k].R.l.map Pth.l).length := congrArg (fun z : PL => z.row.length) hzk.symm
        simpa [RLn.pln] using this
      have hHnf : Hid _ := hnf
      have hHLz : Hid _ := hLz
      have hHLs : Hid (RSm Lk C) := hLs
      have hHLp : Hid (Lk.map RLn.pair = LL) := hLp
      have hHgk : Hid _ := hgk
      have hHpk : Hid _ := hpk
      have hHrn : Hid _ := hrn
      have hHzk : Hid (Lk[k].pln = L1[k].pln) := hzk
      clear hnf hLz hLs hLp hgk hpk hrn hzk
      by_cases hu : Lk[k].u = v
      · rcases Nat.lt_or_ge Lk[k].R.l.length 64 with h64 | h64
        · have h64' : ¬ (64 : Int) ≤ Lk[k].R.l.length := by omega
          obtain ⟨z', hz'⟩ : ∃ z' : RLn, z' = ⟨Lk[k].u, Lk[k].v, ⟨Lk[k].R.l ++ [c], false, false⟩, Lk[k].H, Lk[k].any⟩ := ⟨_, rfl⟩
          have hspl : ∀ x, x = z'.R.av → splice (rlnsA Lk) (k * 5 + 2) [x] = rlnsA (Lk.set k z') := by
            rintro x rfl
            refine splice_rln hkL (B := [.flat (.int .i64 Lk[k].u), .flat (.int .i64 Lk[k].v)]) (C := [Lk[k].H.av, .flat (.bool Lk[k].any)]) (x := Lk[k].R.av) rfl (by rw [hz']; rfl) rfl
          have hzR : z'.R.av = .list 1 (Lk[k].R.l.map Pth.av ++ [c.av]) false false := by rw [hz', Pths.av_eq]; simp
          have hnext : ∀ mm' : MS, mm'[M.length]? = mm[M.length]? → mm'[M.length + 1]? = mm[M.length + 1]? → mm'[M.length + 2]? = mm[M.length + 2]? → mm'[M.length + 4]? = mm[M.length + 4]? → mm'[M.length + 3]? = some (some (rlnsA (Lk.set k z'))) → M.length + 5 ≤ mm'.length →
              ∃ Lk : List RLn, mm'[M.length]? = some (some [.flat (.int .i64 n), .list 1 (l.map Rks.av) nl cd, .list 5 (rlnsA L) ln lc, .list 1 (C.map Pth.av) cn cc]) ∧
                mm'[M.length + 1]? = some (some [.flat (.int .i64 0), .list 1 [] true true, .list 1 [] true true, .list 1 [] true true]) ∧
                mm'[M.length + 2]? = some (some [.flat (.int .i64 n), .list 1 (l.map Rks.av) nl cd, .ms (M.length + 3) 0 L.length 5 false, .ms (M.length + 4) 0 C.length 1 false]) ∧
                mm'[M.length + 3]? = some (some (rlnsA Lk)) ∧ mm'[M.length + 4]? = some (some ((C.set v c).map Pth.av)) ∧ M.length + 5 ≤ mm'.length ∧
                Lk.map RLn.pair = LL ∧ RSm Lk C ∧ (∀ j (h : j < LL.length), j < k + 1 → LL[j].1 = v → rowN (L1.map RLn.pln) j < 64) ∧
                ∀ j : Nat, (Lk.map RLn.pln)[j]? = ((L1.map RLn.pln)[j]?).map fun z => if j < k + 1 ∧ (LL.getD j (0, 0)).1 = v then ⟨z.row ++ [c.l], z.heard, z.any⟩ else z := by
            intro mm' c0 c1 c2 c4 c3 cl
            have hLp : Lk.map RLn.pair = LL := hHLp
            have hLs : RSm Lk C := hHLs
            have hzk : Lk[k].pln = L1[k].pln := hHzk
            refine ⟨_, c0.trans b0, c1.trans b1, c2.trans b2, c3, c4.trans b4, cl, ?_, ?_, ?_, ?_⟩
            · rw [List.map_set, ← hLp]
              refine List.ext_getElem? fun j => ?_
              by_cases hj : k = j
              · subst hj; rw [List.getElem?_set_self (by simpa using hkL)]; simp [hkL, hz', RLn.pair]
              · rw [List.getElem?_set_ne hj]
            · refine ⟨by rw [List.length_set]; omega, fun r hr => ?_, hLs.cho⟩
              rcases List.mem_or_eq_of_mem_set hr with h1 | h1
              · exact hLs.row r h1
              · rw [h1, hz']
                refine ⟨by simp; omega, w2, fun p hp => ?_, fun h2 => by cases h2⟩
                rcases List.mem_append.1 hp with h3 | h3
                · exact w3 p h3
                · rw [List.mem_singleton.1 h3]; exact hcl
            · intro j hj hjk hjv
              rcases Nat.lt_succ_iff_lt_or_eq.1 hjk with h1 | rfl
              · exact hHnf j hj h1 hjv
              · rw [show rowN (L1.map RLn.pln) j = _ from hHrn]; exact h64
            · intro j
              rw [List.map_set]
              by_cases hj : k = j
              · subst hj
                rw [List.getElem?_set_self (by simpa using hkL), List.getElem?_map, List.getElem?_eq_getElem hk1, Option.map_some, Option.map_some, if_pos ⟨by omega, by rw [show (LL.getD k (0, 0)).1 = _ from hHgk]; exact hu⟩, ← hzk, hz']
                simp [RLn.pln]
              · rw [List.getElem?_set_ne hj, (show ∀ j : Nat, (Lk.map RLn.pln)[j]? = ((L1.map RLn.pln)[j]?).map fun z => if j < k ∧ (LL.getD j (0, 0)).1 = v then ⟨z.row ++ [c.l], z.heard, z.any⟩ else z from hHLz) j]
                have : (j < k ∧ (LL.getD j (0, 0)).1 = v) ↔ (j < k + 1 ∧ (LL.getD j (0, 0)).1 = v) := by
                  constructor
                  · rintro ⟨h1, h2⟩; exact ⟨by omega, h2⟩
                  · rintro ⟨h1, h2⟩; exact ⟨by omega, h2⟩
                simp only [this]
          have hHn : Hid _ := hnext
          have hHs : Hid _ := hspl
          have hHz : Hid _ := hzR
          have hu' : decide (Lk[k].u = (v : Int)) = true := decide_eq_true hu
          clear hnext hspl hz' hzR hu
          rcases Nat.eq_zero_or_pos Lk[k].R.l.length with hr0 | hr0
          · have hrn0 : Lk[k].R.l = [] := List.eq_nil_of_length_eq_zero hr0
            have hHrn0 : Hid _ := hrn0
            clear hrn0
            repeat' (first | ((with_reducible first | apply S_0 | apply S_q1 | apply S_g | apply S_c); exact sgc) | refine Stp.h ?_ | (with_reducible apply B_ne; focus decide) | ((with_reducible first | apply SC_d | apply SG_d | apply SG_n | apply SC_b | apply SG_b) <;> intro hc <;> try simp only [dq1, dq2, dq3, dq4, dq5] at hc))
            refine W_regionF2 ?_
            (try simp only [List.take_succ_cons, List.take_zero, List.drop_succ_cons, List.drop_zero]; repeat (first | (with_reducible apply WH_nil) | ((with_reducible apply WH_q); (focus rfl); (focus rfl); focus (exact whc)) | ((with_reducible apply WH_cq); (focus rfl); focus (exact whc)) | ((with_reducible apply WH_cx); (focus rfl); focus (exact whc)) | ((with_reducible apply WH_f); (focus rfl); focus (exact whc)) | ((with_reducible apply WH_k); (focus rfl); focus (exact whc))))
            refine ⟨rfl, rfl, ?_⟩
            rw [List.nil_append]
            have B2 := get_grow b2 [some [.list 1 (intsA c.l) c.nl c.cd]]
            have B3 := get_grow b3 [some [.list 1 (intsA c.l) c.nl c.cd]]
            repeat' (first | ((with_reducible first | apply S_0 | apply S_q1 | apply S_g | apply S_c); exact sgc) | refine Stp.h ?_ | (with_reducible apply B_ne; focus decide) | ((with_reducible first | apply SC_d | apply SG_d | apply SG_n | apply SC_b | apply SG_b) <;> intro hc <;> try simp only [dq1, dq2, dq3, dq4, dq5] at hc))
            refine S_SR (id := M.length + 3) (off := 0) (len := L.length) (sz := 5) (k := k * 5 + 2) (j := mm.length) (c := 1) (cd := false) (cd2 := false) (rc := [c.av]) (old := rlnsA Lk) (by exact svc) (by exact svc) (by simp [Pth.av_eq]) (by omega) (by simp) rfl (by omega) B3 (by omega) (by rw [rlns_len]; omega) (by omega) ?_
            intro m6 l6 g6 f6
            have hez : AV.list 1 (List.take 1 [c.av]) false false = z'.R.av := by
              rw [show z'.R.av = _ from hHz, show Lk[k].R.l = [] from hHrn0]; rfl
            rw [Nat.zero_add, (show ∀ x, x = z'.R.av → splice (rlnsA Lk) (k * 5 + 2) [x] = rlnsA (Lk.set k z') from hHs) _ hez] at g6
            have hlow : ∀ i, i < mm.length → i ≠ M.length + 3 → m6[i]? = mm[i]? := fun i h1 h2 => by rw [f6 i h2 (by omega), List.getElem?_append_left h1]
            have hln6 : M.length + 5 ≤ m6.length := by rw [l6]; simp; omega
            clear B2 B3 hez f6 l6
            repeat' (first | ((with_reducible first | apply S_0 | apply S_q1 | apply S_g | apply S_c); exact sgc) | refine Stp.h ?_ | (with_reducible apply B_ne; focus decide) | ((with_reducible first | apply SC_d | apply SG_d | apply SG_n | apply SC_b | apply SG_b) <;> intro hc <;> try simp only [dq1, dq2, dq3, dq4, dq5] at hc))
            exact G_n (by exact svc) hlt (hHn m6 (hlow _ (by omega) (by omega)) (hlow _ (by omega) (by omega)) (hlow _ (by omega) (by omega)) (hlow _ (by omega) (by omega)) g6 hln6)
          · have hrn : Lk[k].R.nl = false := by
              cases hb : Lk[k].R.nl with
              | false => rfl
              | true => rw [w4 hb] at hr0; simp at hr0
            have hrm : Lk[k].R.l.length ≤ 1099511627776 := by omega
            have hrb : Lk[k].R.l.length * 24 ≤ 140737488355328 := by omega
            clear w4
            repeat' (first | ((with_reducible first | apply S_0 | apply S_q1 | apply S_g | apply S_c); exact sgc) | refine Stp.h ?_ | (with_reducible apply B_ne; focus decide) | ((with_reducible first | apply SC_d | apply SG_d | apply SG_n | apply SC_b | apply SG_b) <;> intro hc <;> try simp only [dq1, dq2, dq3, dq4, dq5] at hc))
            obtain ⟨m5, hm5⟩ : ∃ m5, m5 = mm ++ [some (Lk[k].R.l.map Pth.av)] := ⟨_, rfl⟩
            rw [← hm5]
            have n0 := get_grow b0 [some (Lk[k].R.l.map Pth.av)]
            have n1 := get_grow b1 [some (Lk[k].R.l.map Pth.av)]
            have n2 := get_grow b2 [some (Lk[k].R.l.map Pth.av)]
            have n3 := get_grow b3 [some (Lk[k].R.l.map Pth.av)]
            have n4 := get_grow b4 [some (Lk[k].R.l.map Pth.av)]
            have n5 : (mm ++ [some (Lk[k].R.l.map Pth.av)])[mm.length]? = some (some (Lk[k].R.l.map Pth.av)) := by simp
            have nl5 : m5.length = mm.length + 1 := by rw [hm5]; simp
            rw [← hm5] at n0 n1 n2 n3 n4 n5
            have hko : ∀ i, i ≠ mm.length → (killA m5 [mm.length])[i]? = m5[i]? := fun i hi => by simp only [killA, List.foldl_cons, List.foldl_nil]; rw [List.getElem?_set_ne (Ne.symm hi)]
            have o0 := (hko M.length (by omega)).trans n0
            have o1 := (hko (M.length + 1) (by omega)).trans n1
            have o2 := (hko (M.length + 2) (by omega)).trans n2
            have o3 := (hko (M.length + 3) (by omega)).trans n3
            have o4 := (hko (M.length + 4) (by omega)).trans n4
            have hkl : (killA m5 [mm.length]).length = mm.length + 1 := by simp [killA, nl5]
            have hrm' : Lk[k].R.l.length + 1 ≤ LIM := by unfold LIM; omega
            clear hm5 hrm hrb
            refine W_regionF1 [mm.length] (by simp) rfl ?_ ?_
            · (try simp only [List.take_succ_cons, List.take_zero, List.drop_succ_cons, List.drop_zero]; repeat (first | (with_reducible apply WH_nil) | ((with_reducible apply WH_q); (focus rfl); (focus rfl); focus (exact whc)) | ((with_reducible apply WH_cq); (focus rfl); focus (exact whc)) | ((with_reducible apply WH_cx); (focus rfl); focus (exact whc)) | ((with_reducible apply WH_f); (focus rfl); focus (exact whc)) | ((with_reducible apply WH_k); (focus rfl); focus (exact whc))))
              exact ⟨rfl, rfl⟩
            generalize hMo : killA m5 [mm.length] = Mo at *
            (try simp only [List.take_succ_cons, List.take_zero, List.drop_succ_cons, List.drop_zero]; repeat (first | (with_reducible apply WH_nil) | ((with_reducible apply WH_q); (focus rfl); (focus rfl); focus (exact whc)) | ((with_reducible apply WH_cq); (focus rfl); focus (exact whc)) | ((with_reducible apply WH_cx); (focus rfl); focus (exact whc)) | ((with_reducible apply WH_f); (focus rfl); focus (exact whc)) | ((with_reducible apply WH_k); (focus rfl); focus (exact whc))))
            refine ⟨rfl, rfl, ?_⟩
            rw [List.nil_append, show dirtK M.length [mm.length] [] = [] from by simp only [dirtK, List.foldr_cons, List.foldr_nil, dirt]; rw [if_neg (by omega)]]
            have P2 := get_grow o2 [some (Lk[k].R.l.map Pth.av ++ [.list 1 (intsA c.l) c.nl c.cd])]
            have P3 := get_grow o3 [some (Lk[k].R.l.map Pth.av ++ [.list 1 (intsA c.l) c.nl c.cd])]
            clear n0 n1 n2 n3 n4 n5
            repeat' (first | ((with_reducible first | apply S_0 | apply S_q1 | apply S_g | apply S_c); exact sgc) | refine Stp.h ?_ | (with_reducible apply B_ne; focus decide) | ((with_reducible first | apply SC_d | apply SG_d | apply SG_n | apply SC_b | apply SG_b) <;> intro hc <;> try simp only [dq1, dq2, dq3, dq4, dq5] at hc))
            refine S_SR (id := M.length + 3) (off := 0) (len := L.length) (sz := 5) (k := k * 5 + 2) (j := mm.length + 1) (c := Lk[k].R.l.length + 1) (cd := false) (cd2 := false) (rc := Lk[k].R.l.map Pth.av ++ [c.av]) (old := rlnsA Lk) (by exact svc) (by exact svc) (by rw [← hkl]; simp [Pth.av_eq]) (by omega) (by simp) (allI_app (allI_pths _) rfl) (by omega) P3 (by omega) (by rw [rlns_len]; omega) (by omega) ?_
            intro m6 l6 g6 f6
            have hez : AV.list 1 (List.take (Lk[k].R.l.length + 1) (Lk[k].R.l.map Pth.av ++ [c.av])) false false = z'.R.av := by
              rw [show z'.R.av = _ from hHz, List.take_of_length_le (by simp)]
            rw [Nat.zero_add, (show ∀ x, x = z'.R.av → splice (rlnsA Lk) (k * 5 + 2) [x] = rlnsA (Lk.set k z') from hHs) _ hez] at g6
            have hlow : ∀ i, i < Mo.length → i ≠ M.length + 3 → m6[i]? = Mo[i]? := fun i h1 h2 => by rw [f6 i h2 (by omega), List.getElem?_append_left h1]
            have hln6 : M.length + 5 ≤ m6.length := by rw [l6]; simp; omega
            clear P2 P3 hez f6 l6
            repeat' (first | ((with_reducible first | apply S_0 | apply S_q1 | apply S_g | apply S_c); exact sgc) | refine Stp.h ?_ | (with_reducible apply B_ne; focus decide) | ((with_reducible first | apply SC_d | apply SG_d | apply SG_n | apply SC_b | apply SG_b) <;> intro hc <;> try simp only [dq1, dq2, dq3, dq4, dq5] at hc))
            exact G_n (by exact svc) hlt (hHn m6 ((hlow _ (by omega) (by omega)).trans (o0.trans b0.symm)) ((hlow _ (by omega) (by omega)).trans (o1.trans b1.symm)) ((hlow _ (by omega) (by omega)).trans (o2.trans b2.symm)) ((hlow _ (by omega) (by omega)).trans (o4.trans b4.symm)) g6 hln6)
        · have h64' : (64 : Int) ≤ Lk[k].R.l.length := by omega
          have hfull : fullQ LL (L1.map RLn.pln) v = true := by
            rw [fullQ, List.any_eq_true]
            refine ⟨k, List.mem_range.2 hkLL, ?_⟩
            rw [show (LL.getD k (0, 0)).1 = _ from hHgk, show rowN (L1.map RLn.pln) k = _ from hHrn]
            simp [hu, h64]
          have hHf : Hid _ := hfull
          have hu' : decide (Lk[k].u = (v : Int)) = true := decide_eq_true hu
          clear hfull hu
          repeat' (first | ((with_reducible first | apply S_0 | apply S_q1 | apply S_g | apply S_c); exact sgc) | refine Stp.h ?_ | (with_reducible apply B_ne; focus decide) | ((with_reducible first | apply SC_d | apply SG_d | apply SG_n | apply SC_b | apply SG_b) <;> intro hc <;> try simp only [dq1, dq2, dq3, dq4, dq5] at hc))
          obtain ⟨m7, hm7⟩ : ∃ m7, m7 = List.set mm (M.length + 1) (some [.flat (.int .i64 n), .list 1 (l.map Rks.av) nl cd, .list 5 (rlnsA L) ln lc, .list 1 (C.map Pth.av) cn cc]) := ⟨_, rfl⟩
          rw [← hm7]
          replace b1 : m7[M.length + 1]? = some (some [.flat (.int .i64 n), .list 1 (l.map Rks.av) nl cd, .list 5 (rlnsA L) ln lc, .list 1 (C.map Pth.av) cn cc]) := by rw [hm7, List.getElem?_set_self (by omega)]
          clear hm7 b0 b2 b3 b4
          (refine ⟨by first | exact .inr rfl | exact .inl rfl, ?_⟩; simp (disch := first | assumption | decide | omega | exact Pth.le _ | exact Rks.le _ | exact List.getElem_mem _ | exact allI_ints _ | exact allI_rks _ | exact allI_pths _ | exact Pth.nil _ | exact Rks.nil _ | (intro hh; simp only [Pth.nil _ hh, List.take_nil, List.drop_nil]; done) | (intro hh; simp only [Rks.nil _ hh, List.take_nil, List.drop_nil]; done) | (simp only [List.length_take, List.length_drop, List.length_append, List.length_cons, List.length_nil, List.length_replicate, List.length_map, ints_len]; omega)) only [resA, rvA, tupA, fin, frzV, frzTup, frzA, frz, isI, isI.all, Option.bind_some, go_sem, if_pos, if_neg, Nat.reduceBEq, Nat.reduceEqDiff, ↓reduceIte, Nat.reduceSub, Nat.reduceAdd, Int.reduceToNat, reduceCtorEq, Nat.reduceLeDiff, Nat.reduceLT, Nat.reduceMul, Nat.reduceDiv, Int.reduceLT, Int.reduceLE, Int.reduceEq, Int.reduceNe, Int.reduceAdd, Int.reduceSub, Int.reduceNeg, Int.reduceGT, Int.reduceGE, Int.reduceBEq, Int.reduceBNe, Int.reduceMul, *])
          have hd : dlv (plX l) (L.map RLn.pair) (rpm L C) i = _ := hHd
          rw [if_neg hcn, if_pos (by rw [← show LL = _ from hHLL]; exact hHf)] at hd
          exact ⟨_, rfl, L, ln, lc, C, cn, cc, by rw [hd]; rfl, rfl, by rw [hd], hHS⟩
      · have hu' : decide (Lk[k].u = (v : Int)) = false := decide_eq_false hu
        have hHu : Hid (¬ Lk[k].u = v) := hu
        clear hu
        repeat' (first | ((with_reducible first | apply S_0 | apply S_q1 | apply S_g | apply S_c); exact sgc) | refine Stp.h ?_ | (with_reducible apply B_ne; focus decide) | ((with_reducible first | apply SC_d | apply SG_d | apply SG_n | apply SC_b | apply SG_b) <;> intro hc <;> try simp only [dq1, dq2, dq3, dq4, dq5] at hc))
        have hu : ¬ Lk[k].u = v := hHu
        refine G_n (by exact svc) hlt ⟨Lk, b0, b1, b2, b3, b4, bl, hHLp, hHLs, fun j hj hjk hjv => ?_, fun j => ?_⟩
        · rcases Nat.lt_succ_iff_lt_or_eq.1 hjk with h1 | rfl
          · exact hHnf j hj h1 hjv
          · exact absurd ((show LL[j].1 = _ from hHpk).symm.trans hjv) hu
        · rw [(show ∀ j : Nat, (Lk.map RLn.pln)[j]? = ((L1.map RLn.pln)[j]?).map fun z => if j < k ∧ (LL.getD j (0, 0)).1 = v then ⟨z.row ++ [c.l], z.heard, z.any⟩ else z from hHLz) j]
          by_cases hj : k = j
          · subst hj
            have h1 : ¬ (LL.getD k (0, 0)).1 = v := by rw [show (LL.getD k (0, 0)).1 = _ from hHgk]; exact hu
            simp only [h1, and_false]
          · have : (j < k ∧ (LL.getD j (0, 0)).1 = v) ↔ (j < k + 1 ∧ (LL.getD j (0, 0)).1 = v) := by
              constructor
              · rintro ⟨h1, h2⟩; exact ⟨by omega, h2⟩
              · rintro ⟨h1, h2⟩; exact ⟨by omega, h2⟩
            simp only [this]
    · have hlt' : ¬ (k : Int) < L.length := by omega
      have hke : k = L.length := by omega
      have hHnf : Hid _ := hnf
      have hHLz : Hid _ := hLz
      have hHLs : Hid (RSm Lk C) := hLs
      have hHLp : Hid (Lk.map RLn.pair = LL) := hLp
      have hHke : Hid (k = L.length) := hke
      clear hnf hLz hLs hLp hke
      repeat' (first | ((with_reducible first | apply S_0 | apply S_q1 | apply S_g | apply S_c); exact sgc) | refine Stp.h ?_ | (with_reducible apply B_ne; focus decide) | ((with_reducible first | apply SC_d | apply SG_d | apply SG_n | apply SC_b | apply SG_b) <;> intro hc <;> try simp only [dq1, dq2, dq3, dq4, dq5] at hc))
      obtain ⟨m7, hm7⟩ : ∃ m7, m7 = List.set mm (M.length + 1) (some [AV.flat (.int .i64 n), .list 1 (l.map Rks.av) nl cd, .ms (M.length + 3) 0 L.length 5 false, .ms (M.length + 4) 0 C.length 1 false]) := ⟨_, rfl⟩
      rw [← hm7]
      replace b1 : m7[M.length + 1]? = some (some [AV.flat (.int .i64 n), .list 1 (l.map Rks.av) nl cd, .ms (M.length + 3) 0 L.length 5 false, .ms (M.length + 4) 0 C.length 1 false]) := by rw [hm7, List.getElem?_set_self (by omega)]
      replace b4 := (show m7[M.length + 4]? = mm[M.length + 4]? by rw [hm7, List.getElem?_set_ne (by omega)]).trans b4
      replace b3 := (show m7[M.length + 3]? = mm[M.length + 3]? by rw [hm7, List.getElem?_set_ne (by omega)]).trans b3
      clear hm7
      (refine ⟨by first | exact .inr rfl | exact .inl rfl, ?_⟩; simp (disch := first | assumption | decide | omega | exact Pth.le _ | exact Rks.le _ | exact List.getElem_mem _ | exact allI_ints _ | exact allI_rks _ | exact allI_pths _ | exact Pth.nil _ | exact Rks.nil _ | (intro hh; simp only [Pth.nil _ hh, List.take_nil, List.drop_nil]; done) | (intro hh; simp only [Rks.nil _ hh, List.take_nil, List.drop_nil]; done) | (simp only [List.length_take, List.length_drop, List.length_append, List.length_cons, List.length_nil, List.length_replicate, List.length_map, ints_len]; omega)) only [resA, rvA, tupA, Option.bind_some, go_sem, if_pos, if_neg, Nat.reduceBEq, Nat.reduceEqDiff, ↓reduceIte, Nat.reduceSub, Nat.reduceAdd, Int.reduceToNat, reduceCtorEq, Nat.reduceLeDiff, Nat.reduceLT, Nat.reduceMul, Nat.reduceDiv, Int.reduceLT, Int.reduceLE, Int.reduceEq, Int.reduceNe, Int.reduceAdd, Int.reduceSub, Int.reduceNeg, Int.reduceGT, Int.reduceGE, Int.reduceBEq, Int.reduceBNe, Int.reduceMul, *])
      have hLL : LL = L.map RLn.pair := hHLL
      have hLs : RSm Lk C := hHLs
      have hnfl : ¬ fullQ (L.map RLn.pair) (L1.map RLn.pln) v = true := by
        rw [← hLL, fullQ, List.any_eq_true]
        rintro ⟨j, hj, hh⟩
        have hjl : j < LL.length := List.mem_range.1 hj
        simp only [Bool.and_eq_true, decide_eq_true_eq] at hh
        rw [get2_of hjl] at hh
        have := hHnf j hjl (by rw [show k = L.length from hHke, ← hLLl]; exact hjl) hh.1
        omega
      have hd : dlv (plX l) (L.map RLn.pair) (rpm L C) i = _ := hHd
      rw [if_neg hcn, if_neg hnfl] at hd
      refine ⟨_, fin_rm (a := L.length) (c := C.length) (L := Lk) (C := C.set v c) rfl (fun _ => rfl) b3 b4 (by omega) (by omega) (by omega) hLkl.symm (by simp), Lk, _, _, C.set v c, _, _, by rw [hd]; rfl, by rw [← hLL]; exact hHLp, ?_, hLs.len, hLs.row, fun p hp => ?_⟩
      · rw [hd]
        have e1 : Lk.map RLn.pln = tellQ (L.map RLn.pair) v c.l (L1.map RLn.pln) := by
          refine List.ext_getElem? fun j => ?_
          rw [(show ∀ j : Nat, (Lk.map RLn.pln)[j]? = ((L1.map RLn.pln)[j]?).map fun z => if j < k ∧ (LL.getD j (0, 0)).1 = v then ⟨z.row ++ [c.l], z.heard, z.any⟩ else z from hHLz) j, tellQ, List.getElem?_mapIdx, ← hLL]
          cases hz : (L1.map RLn.pln)[j]? with
          | none => rfl
          | some z =>
            have hjk : j < k := by
              have := get_lt' hz
              rw [List.length_map, h1l] at this
              rw [show k = L.length from hHke]; exact this
            simp only [Option.map_some, hjk, true_and]
        rw [rpm, e1, pl, List.map_set]; rfl
      · rcases List.mem_or_eq_of_mem_set hp with h1 | h1
        · exact hLs.cho p h1
        · rw [h1]; exact hcl
end Go.Proofs.Ytlcdafidoddefaa.Av
namespace Go.Proofs.Ytlcdafidoddefaa.Av
open Go.RowKit
set_option linter.unusedSimpArgs false
set_option linter.unusedVariables false
set_option maxHeartbeats 10000000
/-- A row to which is appended: a value without spare room, or the call's own. -/
def Src (base : Nat) (m : MS) (y : AV) (sz : Nat) (cs : List AV) : Prop :=
  (∃ nl sz', y = .list sz' cs nl true ∧ (nl = true ∨ sz' = sz) ∧ (nl = true → cs = [])) ∨ (∃ id, base ≤ id ∧ y = .ms id 0 (cs.length / sz) sz false ∧ m[id]? = some (some cs))
theorem Src.agree {base : Nat} {m m' : MS} {y : AV} {sz : Nat} {cs : List AV} (h : Src base m y sz cs) (hf : ∀ i, rid y = some i → m'[i]? = m[i]?) : Src base m' y sz cs := by
  rcases h with h | ⟨id, h1, h2, h3⟩
  · exact .inl h
  · exact .inr ⟨id, h1, h2, by rw [hf id (by rw [h2]; rfl)]; exact h3⟩
theorem Src.lt {base : Nat} {m : MS} {y : AV} {sz : Nat} {cs : List AV} (h : Src base m y sz cs) {i : Nat} (hi : rid y = some i) : i < m.length ∧ base ≤ i := by
  rcases h with ⟨nl, sz', h, _⟩ | ⟨id, h1, h2, h3⟩
  · rw [h] at hi; cases hi
  · rw [h2] at hi
    have : id = i := Option.some.inj hi
    subst this; exact ⟨get_lt h3, h1⟩
theorem Src.cell {base : Nat} {m : MS} {y : AV} {sz : Nat} {cs : List AV} (h : Src base m y sz cs) : cellsOf y = some [y] := by
  rcases h with ⟨nl, sz', h, _⟩ | ⟨id, h1, h2, h3⟩
  · rw [h]; rfl
  · rw [h2]; rfl
section
variable {p : Pr} {base : Nat} {r : List AOp} {d : Option Nat} {env : Env} {m : MS} {D : List Nat} {R : Env → MS → List Nat → Prop}
theorem S_apF {sz bytes k lo : Nat} {s x : O} {y : AV} {cs news : List AV} (hsz : 0 < sz) (hs : s.ev env = y) (hy : Src lo m y sz cs) (hcs : ∃ q, cs.length = q * sz) (hv : view m (x.ev env) = some news) (hl : lenOf (x.ev env) = some k) (hk : k * sz = news.length) (hk0 : 0 < k)
    (h1 : cs.length / sz + k ≤ 1099511627776) (h2 : (cs.length / sz + k) * bytes ≤ 140737488355328)
    (h : ∀ m', m'.length = m.length + 1 → Src lo m' (.ms m.length 0 (cs.length / sz + k) sz false) sz (cs ++ news) → (∀ i, i < m.length → rid y ≠ some i → m'[i]? = m[i]?) → WS p base 0 r (updO env d (.ms m.length 0 (cs.length / sz + k) sz false)) m' D R) (hlo : base ≤ lo) (hbl : lo ≤ m.length) :
    WS p base 0 (⟨d, .app sz bytes s x, none⟩ :: r) env m D R := by
  obtain ⟨q, hq⟩ := hcs
  have hdiv : cs.length / sz = q := by rw [hq, Nat.mul_div_cancel _ hsz]
  have hlen : (cs ++ news).length / sz = cs.length / sz + k := by
    rw [List.length_append, ← hk, hq, ← Nat.add_mul, Nat.mul_div_cancel _ hsz, Nat.mul_div_cancel _ hsz]
  rcases hy with ⟨nl, sz', rfl, hn, hnil⟩ | ⟨id, hb, rfl, hm⟩
  · have e0 : cs.length / sz' = cs.length / sz := by
      rcases hn with hn | hn
      · rw [hnil hn]; simp
      · rw [hn]
    have hv2 : evI (ev p) base env m D (.app sz bytes s x) = some (.x (.ms m.length 0 (cs.length / sz + k) sz false) (m ++ [some (cs ++ news)]) D) := by
      simp only [evI, hv, hl, hs, appA]
      rw [if_neg (by omega)]
      rw [if_pos ⟨hn, trivial, hk, by simpa [LIM] using h1, h2⟩]
    refine S_0 hv2 (SO_x (h _ (by simp) (.inr ⟨m.length, hbl, by rw [hlen], by simp⟩) fun i hi _ => by rw [List.getElem?_append_left hi]))
  · have hv2 : evI (ev p) base env m D (.app sz bytes s x) = some (.x (.ms m.length 0 (cs.length / sz + k) sz false) (m.set id none ++ [some (cs ++ news)]) D) := by
      simp only [evI, hv, hl, hs, appA]
      rw [if_neg (by omega)]
      simp only [hm]
      rw [if_pos ⟨trivial, hk, by simpa [LIM] using h1, h2, by rw [hdiv]; omega⟩]
      simp only [Bool.false_eq_true, if_false, if_true, dirt, if_neg (Nat.not_lt.2 (Nat.le_trans hlo hb))]
      rw [List.take_of_length_le (by rw [hdiv]; omega)]
    refine S_0 hv2 (SO_x (h _ (by simp) (.inr ⟨m.length, hbl, by rw [hlen], by simp⟩) fun i hi hne => ?_))
    rw [List.getElem?_append_left (by simpa using hi), List.getElem?_set_ne fun e => hne (by rw [← e]; rfl)]
end
/-- What such a row is when it is handed on. -/
theorem Src.frz {base : Nat} {m : MS} {y : AV} {sz : Nat} {cs : List AV} (h : Src base m y sz cs) (hI : allI cs = true) (hcs : ∃ q, cs.length = q * sz) (hsz : 0 < sz) : ∃ sz' nl cd m', Av.frz base m y = some (.list sz' cs nl cd, m') ∧ (sz' = sz ∨ cs = []) ∧ (nl = true → cs = []) ∧ ∀ i, rid y ≠ some i → m'[i]? = m[i]? := by
  rcases h with ⟨nl, sz', rfl, h1, h2⟩ | ⟨id, h1, rfl, h3⟩
  · refine ⟨sz', nl, true, m, rfl, ?_, h2, fun _ _ => rfl⟩
    rcases h1 with h1 | h1
    · exact .inr (h2 h1)
    · exact .inl h1
  · obtain ⟨q, hq⟩ := hcs
    have hdiv : cs.length / sz * sz = cs.length := by rw [hq, Nat.mul_div_cancel _ hsz]
    refine ⟨sz, false, false, m.set id none, ?_, .inl rfl, (fun h => by cases h), fun i hi => ?_⟩
    · simp only [Av.frz, h3, Nat.zero_add, List.drop_zero]
      rw [if_pos ⟨h1, by rw [hdiv]; exact Nat.le_refl _, hI⟩, hdiv, List.take_length]
    · rw [List.getElem?_set_ne fun e => hi (by rw [← e]; rfl)]
theorem fin_src {base sz1 sz2 : Nat} {n : Int} {x w c : AV} {N : MS} {cw cc : List AV} (hx : isI x = true) (hx2 : ∀ M, frz base M x = some (x, M)) (hw : Src base N w sz1 cw) (hc : Src base N c sz2 cc) (hIw : allI cw = true) (hIc : allI cc = true) (q1 : ∃ q, cw.length = q * sz1) (q2 : ∃ q, cc.length = q * sz2) (z1 : 0 < sz1) (z2 : 0 < sz2) (hne : ∀ i, rid w = some i → rid c ≠ some i) :
    ∃ s1 n1 c1 s2 n2 c2, fin base false (.agg [.flat (.int .i64 n), x, w, c]) N [] = some (.q (.agg [.flat (.int .i64 n), x, .list s1 cw n1 c1, .list s2 cc n2 c2])) ∧ (s1 = sz1 ∨ cw = []) ∧ (n1 = true → cw = []) ∧ (s2 = sz2 ∨ cc = []) ∧ (n2 = true → cc = []) := by
  obtain ⟨s1, n1, c1, m1, f1, e1, e2, e3⟩ := hw.frz hIw q1 z1
  obtain ⟨s2, n2, c2, m2, f2, g1, g2, g3⟩ := (hc.agree (m' := m1) fun i hi => e3 i fun h => hne i h hi).frz hIc q2 z2
  refine ⟨s1, n1, c1, s2, n2, c2, ?_, e1, e2, g1, g2⟩
  have f0 : ∀ M k, frz base M (.flat (.int .i64 k)) = some (.flat (.int .i64 k), M) := fun _ _ => rfl
  have hall : frzV base N (.agg [.flat (.int .i64 n), x, w, c]) = some (.agg [.flat (.int .i64 n), x, .list s1 cw n1 c1, .list s2 cc n2 c2], m2) := by
    simp only [frzV, frzA, frzAll, f0, hx2, f1, f2, Option.map_some]
  simp only [fin, Bool.false_eq_true, if_false, hall, isI, isI.all, hx, Bool.and_self, if_true]
/-- Is there a path of v by way of u? -/
def isQ (l : List Rks) (v : Nat) (u : Int) : Bool := match l[v]? with
  | some r => r.l.any fun q => decide (q.p.l.getD 1 0 = u)
  | none => false
def lnV (l : List Rks) (u : Int) : Nat → List I2
  | 0 => []
  | v + 1 => lnV l u v ++ (if 1 ≤ v ∧ isQ l v u = true then [(u, (v : Int))] else [])
def lnU (l : List Rks) : Nat → List I2
  | 0 => []
  | u + 1 => lnU l u ++ lnV l u l.length
theorem lnV_mem {l : List Rks} {u : Int} {p : I2} : ∀ {k}, p ∈ lnV l u k ↔ p.1 = u ∧ ∃ v : Nat, v < k ∧ 1 ≤ v ∧ p.2 = v ∧ isQ l v u = true
  | 0 => by simp [lnV]
  | k + 1 => by
    rw [lnV, List.mem_append, lnV_mem]
    constructor
    · rintro (⟨h1, v, h2, h3, h4, h5⟩ | h)
      · exact ⟨h1, v, by omega, h3, h4, h5⟩
      · split at h
        · rename_i hc
          rw [List.mem_singleton] at h
          subst h
          exact ⟨rfl, k, by omega, hc.1, rfl, hc.2⟩
        · simp at h
    · rintro ⟨h1, v, h2, h3, h4, h5⟩
      rcases Nat.lt_succ_iff_lt_or_eq.1 h2 with h6 | rfl
      · exact .inl ⟨h1, v, h6, h3, h4, h5⟩
      · refine .inr ?_
        rw [if_pos ⟨h3, h5⟩, List.mem_singleton]
        exact Prod.ext h1 h4
theorem lnU_mem {l : List Rks} {p : I2} : ∀ {k}, p ∈ lnU l k ↔ ∃ u : Nat, u < k ∧ p.1 = u ∧ ∃ v : Nat, v < l.length ∧ 1 ≤ v ∧ p.2 = v ∧ isQ l v u = true
  | 0 => by simp [lnU]
  | k + 1 => by
    rw [lnU, List.mem_append, lnU_mem, lnV_mem]
    constructor
    · rintro (⟨u, h1, h2⟩ | ⟨h1, h2⟩)
      · exact ⟨u, by omega, h2⟩
      · exact ⟨k, by omega, h1, h2⟩
    · rintro ⟨u, h1, h2, h3⟩
      rcases Nat.lt_succ_iff_lt_or_eq.1 h1 with h4 | rfl
      · exact .inl ⟨u, h4, h2, h3⟩
      · exact .inr ⟨h2, h3⟩
theorem lnV_pw (l : List Rks) (u : Int) : ∀ k, (lnV l u k).Pairwise Lt2
  | 0 => by simp [lnV]
  | k + 1 => by
    rw [lnV, List.pairwise_append]
    refine ⟨lnV_pw l u k, by split <;> simp, fun a ha b hb => ?_⟩
    split at hb
    · rw [List.mem_singleton] at hb
      obtain ⟨h1, v, h2, h3, h4, h5⟩ := lnV_mem.1 ha
      subst hb
      rw [lt2_iff]; simp only; omega
    · simp at hb
theorem lnU_pw (l : List Rks) : ∀ k, (lnU l k).Pairwise Lt2
  | 0 => by simp [lnU]
  | k + 1 => by
    rw [lnU, List.pairwise_append]
    refine ⟨lnU_pw l k, lnV_pw l k _, fun a ha b hb => ?_⟩
    obtain ⟨u, h1, h2, _⟩ := lnU_mem.1 ha
    obtain ⟨h3, _⟩ := lnV_mem.1 hb
    rw [lt2_iff]; omega
theorem sorted_ext {a b : List I2} (ha : a.Pairwise Lt2) (hb : b.Pairwise Lt2) (h : ∀ p, p ∈ a ↔ p ∈ b) : a = b := by
  have nd : ∀ {x : List I2}, x.Pairwise Lt2 → x.Nodup := fun hx => hx.imp fun {p q} h1 h2 => by
    subst h2; rw [lt2_iff] at h1; omega
  have hp : a.Perm b := (List.perm_ext_iff_of_nodup (nd ha) (nd hb)).2 h
  refine List.Perm.eq_of_pairwise (le := Lt2) (fun p q _ _ h1 h2 => ?_) ha hb hp
  rw [lt2_iff] at h1 h2
  exact Prod.ext (by omega) (by omega)
theorem lnU_eq {l : List Rks} (hX : MayX l.length l) : lnU l l.length = prs (prL l) := by
  refine sorted_ext (lnU_pw l _) (prs_pw _) fun p => ?_
  rw [lnU_mem, prs_mem]
  constructor
  · rintro ⟨u, h1, h2, v, h3, h4, h5, h6⟩
    simp only [isQ, List.getElem?_eq_getElem h3, List.any_eq_true, decide_eq_true_eq] at h6
    obtain ⟨q, hq, h7⟩ := h6
    obtain ⟨j, hj, rfl⟩ := List.getElem_of_mem hq
    have h8 := prL_mem h3 hj
    have hpo := lok_path (hX.2.2.2.2 v h3 h4) _ hq
    have h9 : l[v].l[j].p.l.getD 0 0 = v := by simp [List.getD, hpo.2.1]
    rw [h7, h9] at h8
    have : p = ((u : Int), (v : Int)) := Prod.ext h2 h5
    rw [this]; exact h8
  · intro hp
    simp only [prL, List.mem_flatMap, prI, List.mem_map] at hp
    obtain ⟨r, hr, q, hq, rfl⟩ := hp
    obtain ⟨v, hv, rfl⟩ := List.getElem_of_mem hr
    have hv1 : 1 ≤ v := by
      rcases Nat.eq_zero_or_pos v with h0 | h0
      · subst h0; rw [hX.2.2.2.1 hv] at hq; simp at hq
      · exact h0
    have hpo := lok_path (hX.2.2.2.2 v hv hv1) q hq
    obtain ⟨h1, h2, h3⟩ := path1 hpo
    have g1 : q.p.l.getD 1 0 = q.p.l[1] := getD_of h1
    have g0 : q.p.l.getD 0 0 = v := by simp [List.getD, hpo.2.1]
    obtain ⟨u, hu⟩ : ∃ u : Nat, q.p.l[1] = u := ⟨q.p.l[1].toNat, by omega⟩
    refine ⟨u, by omega, by simp only [g1, hu], v, hv, hv1, g0, ?_⟩
    simp only [isQ, List.getElem?_eq_getElem hv, List.any_eq_true, decide_eq_true_eq]
    exact ⟨q, hq, by rw [g1, hu]⟩
end Go.Proofs.Ytlcdafidoddefaa.Av
namespace Go.Proofs.Ytlcdafidoddefaa.Av
open Go.RowKit
set_option linter.unusedSimpArgs false
set_option linter.unusedVariables false
set_option maxHeartbeats 10000000
def newR (p : I2) : RLn := if p.1 = 0 then ⟨p.1, p.2, ⟨[zeroPth], false, false⟩, nilPth, false⟩ else ⟨p.1, p.2, ⟨[], true, true⟩, nilPth, false⟩
def newC (u : Nat) : List Pth := zeroPth :: List.replicate (u - 1) nilPth
/-- Memory while the machine is laid. -/
structure N20 (B : Nat) (n : Int) (l : List Rks) (nl cd : Bool) (mm : MS) (L : List I2) (C : List Pth) (w c : AV) : Prop where
  b0 : mm[B]? = some (some [.flat (.int .i64 n), .list 1 (l.map Rks.av) nl cd])
  b1 : mm[B + 1]? = some (some [.flat (.int .i64 0), .list 1 [] true true, .list 1 [] true true, .list 1 [] true true])
  b2 : mm[B + 2]? = some (some [.flat (.int .i64 n), .list 1 (l.map Rks.av) nl cd, w, c])
  hw : Src (B + 3) mm w 5 (rlnsA (L.map newR))
  hc : Src (B + 3) mm c 1 (C.map Pth.av)
  ne : ∀ i, rid w = some i → rid c ≠ some i
  bl : B + 3 ≤ mm.length
theorem rlns_q (L : List RLn) : ∃ q, (rlnsA L).length = q * 5 := ⟨_, rlns_len L⟩
theorem pths_q (C : List Pth) : ∃ q, (C.map Pth.av).length = q * 1 := ⟨C.length, by simp⟩
theorem Src.grow {base : Nat} {m : MS} {y : AV} {sz : Nat} {cs : List AV} (h : Src base m y sz cs) (G : MS) : Src base (m ++ G) y sz cs := h.agree fun i hi => by rw [List.getElem?_append_left (h.lt hi).1]
theorem N20.grow {B : Nat} {n : Int} {l : List Rks} {nl cd : Bool} {mm : MS} {L : List I2} {C : List Pth} {w c : AV} (h : N20 B n l nl cd mm L C w c) (G : MS) : N20 B n l nl cd (mm ++ G) L C w c :=
  ⟨get_grow h.b0 G, get_grow h.b1 G, get_grow h.b2 G, h.hw.grow G, h.hc.grow G, h.ne, by have := h.bl; simp; omega⟩
/-- A line more. -/
theorem N20.line {B : Nat} {n : Int} {l : List Rks} {nl cd : Bool} {mm m' : MS} {L : List I2} {C : List Pth} {w c y : AV} (h : N20 B n l nl cd mm L C w c) (p : I2) (hy : y = .ms mm.length 0 ((rlnsA (L.map newR)).length / 5 + 1) 5 false) (hl : m'.length = mm.length + 1) (hs : Src (B + 3) m' y 5 (rlnsA (L.map newR) ++ (newR p).cs)) (hf : ∀ i, i < mm.length → rid w ≠ some i → m'[i]? = mm[i]?) :
    N20 B n l nl cd (List.set m' (B + 2) (some [.flat (.int .i64 n), .list 1 (l.map Rks.av) nl cd, y, c])) (L ++ [p]) C y c := by
  have hbl := h.bl
  have hge : ∀ i, rid w = some i → B + 3 ≤ i := fun i hi => (h.hw.lt hi).2
  have hgc : ∀ i, rid c = some i → B + 3 ≤ i ∧ i < mm.length := fun i hi => ⟨(h.hc.lt hi).2, (h.hc.lt hi).1⟩
  refine ⟨?_, ?_, ?_, ?_, ?_, ?_, by rw [List.length_set]; omega⟩
  · rw [List.getElem?_set_ne (by omega), hf _ (by omega) fun e => by have := hge _ e; omega]; exact h.b0
  · rw [List.getElem?_set_ne (by omega), hf _ (by omega) fun e => by have := hge _ e; omega]; exact h.b1
  · rw [List.getElem?_set_self (by omega)]
  · have e : rlnsA ((L ++ [p]).map newR) = rlnsA (L.map newR) ++ (newR p).cs := by rw [List.map_append, rlns_app]; simp [rlnsA]
    rw [e]
    refine hs.agree fun i hi => ?_
    have : mm.length = i := by rw [hy] at hi; exact Option.some.inj hi
    rw [List.getElem?_set_ne (by omega)]
  · refine h.hc.agree fun i hi => ?_
    have := hgc i hi
    rw [List.getElem?_set_ne (by omega), hf i this.2 fun e => h.ne i e hi]
  · intro i hi hc
    have : mm.length = i := by rw [hy] at hi; exact Option.some.inj hi
    have := hgc i hc
    omega
/-- A choice more. -/
theorem N20.more {B : Nat} {n : Int} {l : List Rks} {nl cd : Bool} {mm m' : MS} {L : List I2} {C : List Pth} {w c y : AV} (h : N20 B n l nl cd mm L C w c) {k : Nat} (hy : y = .ms mm.length 0 k 1 false) (hl : m'.length = mm.length + 1) (hs : Src (B + 3) m' y 1 (C.map Pth.av ++ [nilPth.av])) (hf : ∀ i, i < mm.length → rid c ≠ some i → m'[i]? = mm[i]?) :
    N20 B n l nl cd (List.set m' (B + 2) (some [.flat (.int .i64 n), .list 1 (l.map Rks.av) nl cd, w, y])) L (C ++ [nilPth]) w y := by
  have hbl := h.bl
  have hge : ∀ i, rid c = some i → B + 3 ≤ i := fun i hi => (h.hc.lt hi).2
  have hgw : ∀ i, rid w = some i → B + 3 ≤ i ∧ i < mm.length := fun i hi => ⟨(h.hw.lt hi).2, (h.hw.lt hi).1⟩
  refine ⟨?_, ?_, ?_, ?_, ?_, ?_, by rw [List.length_set]; omega⟩
  · rw [List.getElem?_set_ne (by omega), hf _ (by omega) fun e => by have := hge _ e; omega]; exact h.b0
  · rw [List.getElem?_set_ne (by omega), hf _ (by omega) fun e => by have := hge _ e; omega]; exact h.b1
  · rw [List.getElem?_set_self (by omega)]
  · refine h.hw.agree fun i hi => ?_
    have := hgw i hi
    rw [List.getElem?_set_ne (by omega), hf i this.2 fun e => h.ne i hi e]
  · rw [List.map_append, List.map_cons, List.map_nil]
    refine hs.agree fun i hi => ?_
    have : mm.length = i := by rw [hy] at hi; exact Option.some.inj hi
    rw [List.getElem?_set_ne (by omega)]
  · intro i hi hc
    have : mm.length = i := by rw [hy] at hc; exact Option.some.inj hc
    have := hgw i hi
    omega
/-- A round whose first part is told by itself. -/
theorem W_cut {p : Pr} {base : Nat} {A X Y Z : AC} {j : Nat} {env : Env} {M : MS} {D : List Nat} {Q : Post} (P : Env → MS → List Nat → Prop) (h1 : W p base A env M D fun ex e m d => ex = .nrm ∧ W p base X e m d fun ex e m d => ex = .nrm ∧ P e m d)
    (h2 : ∀ e m d, P e m d → W p base Y e m d (blkW j (thenW p base Z Q))) : W p base (.seq A (.seq (.block j (.seq X Y)) Z)) env M D Q := by
  refine W_seq (h1.mono ?_)
  rintro ex e m d ⟨rfl, h⟩
  refine W_seq (W_block (W_seq (h.mono ?_)))
  rintro ex e m d ⟨rfl, h⟩
  exact h2 e m d h
theorem any_take {α : Type} {x : List α} {f : α → Bool} {i : Nat} (h : i < x.length) : (x.take (i + 1)).any f = ((x.take i).any f || f x[i]) := by
  rw [List.take_succ_eq_append_getElem h, List.any_append]; simp
theorem lnV_len (l : List Rks) (u : Int) : ∀ k, (lnV l u k).length ≤ k
  | 0 => by simp [lnV]
  | k + 1 => by have := lnV_len l u k; simp only [lnV, List.length_append]; split <;> simp <;> omega
theorem lnU_len (l : List Rks) : ∀ k, (lnU l k).length ≤ k * l.length
  | 0 => by simp [lnU]
  | k + 1 => by have := lnU_len l k; have := lnV_len l k l.length; simp only [lnU, List.length_append, Nat.add_mul, Nat.one_mul]; omega
/-- A slice of one struct in which a row of the call's own stands: the row is given up. -/
theorem S_bsR {p : Pr} {base : Nat} {r : List AOp} {d : Option Nat} {env : Env} {m m' : MS} {D : List Nat} {R : Env → MS → List Nat → Prop} {sz : Nat} {zs : List AV} {x : O} {cs cs' : List AV} (hx : x.ev env = .agg cs) (hc : cs.length = sz) (hz : zs.length = sz) (hI : allI cs = false) (hf : frzAll 0 m cs = some (cs', m')) (hd : dirts base cs D = D)
    (h : WS p base 0 r (updO env d (.list sz cs' false true)) m' D R) : WS p base 0 (⟨d, .bslice sz 1 zs [(0, sz, x)], none⟩ :: r) env m D R := by
  have hv : evI (ev p) base env m D (.bslice sz 1 zs [(0, sz, x)]) = some (.x (.list sz cs' false true) m' D) := by
    simp only [evI, List.map_cons, List.map_nil, hx, fillA, cellsOf, List.replicate_one, List.flatten_cons, List.flatten_nil, List.append_nil]
    rw [if_pos ⟨hc, by omega⟩]
    simp only [List.take_zero, List.nil_append, Nat.zero_add, List.drop_eq_nil_of_le (show zs.length ≤ sz by omega), List.append_nil]
    rw [if_neg (by rw [hI]; simp), hf]
    simp only [hd]
  exact S_0 hv (SO_x h)
theorem t20 (l : List Rks) (nl cd : Bool) (M : MS) (hS : SmallX l) (hX : MayX l.length l) : ∃ out, ev pr 20 [.agg [.flat (.int .i64 l.length), .list 1 (l.map Rks.av) nl cd]] M = some out ∧ ∃ s1 n1 c1 s2 n2 c2, out = .q (.agg [.flat (.int .i64 l.length), .list 1 (l.map Rks.av) nl cd, .list s1 (rlnsA ((prs (prL l)).map newR)) n1 c1, .list s2 ((newC l.length).map Pth.av) n2 c2]) ∧ (s1 = 5 ∨ prs (prL l) = []) ∧ s2 = 1 ∧ (n1 = true → prs (prL l) = []) := by
  have hl12 := hS.1
  have hl1 : 1 ≤ l.length := by have := hX.1; omega
  have hLe := lnU_eq hX
  have hp2 : ∀ (v : Nat) (hv : v < l.length) (j : Nat) (hj : j < l[v].l.length), 2 ≤ l[v].l[j].p.l.length := by
    intro v hv j hj
    rcases Nat.eq_zero_or_pos v with h0 | h0
    · subst h0
      have := hX.2.2.2.1 hv
      rw [this] at hj; simp at hj
    · exact (lok_path (hX.2.2.2.2 v hv h0) _ (List.getElem_mem hj)).1
  have hr70 : ∀ (v : Nat) (hv : v < l.length), l[v].l.length ≤ 70 := fun v hv => (hS.2 _ (List.getElem_mem hv)).1
  have hHe : Hid _ := hLe
  have hHp : Hid _ := hp2
  have hHr : Hid _ := hr70
  clear hS hX hLe hp2 hr70
  refine ev_fnE A20 ?_
  repeat' (first | ((with_reducible first | apply S_0 | apply S_q1 | apply S_g | apply S_c); exact sgc) | refine Stp.h ?_ | (with_reducible apply B_ne; focus decide) | ((with_reducible first | apply SC_d | apply SG_d | apply SG_n | apply SC_b | apply SG_b) <;> intro hc <;> try simp only [dq1, dq2, dq3, dq4, dq5] at hc))
  refine W_rngM 4 0 l.length (fun u e mm => ∃ w c, N20 M.length l.length l nl cd mm (lnU l u) (newC u) w c) (by simp only [asg, asgO, List.append_nil, List.nil_append, List.cons_append]; rfl) (by exact svc) (by omega) ⟨.list 1 [] true true, .list 1 [zeroPth.av] false true, ?_, ?_, ?_, ?_, ?_, ?_, ?_⟩ ?_
  · simp
  · simp
  · simp; rfl
  · exact .inl ⟨true, 1, rfl, .inl rfl, fun _ => rfl⟩
  · exact .inl ⟨false, 1, rfl, .inr rfl, fun h => by cases h⟩
  · intro i hi; cases hi
  · simp
  rintro u e mm _ hu hk e4 ⟨w, c, hN⟩
  have k1 : e 1 = .mptr M.length 0 := by rw [hk 1 rfl]; exact svc
  have k2 : e 2 = .mptr (M.length + 1) 0 := by rw [hk 2 rfl]; exact svc
  have k3 : e 3 = .mptr (M.length + 2) 0 := by rw [hk 3 rfl]; exact svc
  clear hk
  have b0 := hN.b0
  have b1 := hN.b1
  have b2 := hN.b2
  have bl := hN.bl
  rcases Nat.lt_or_ge u l.length with hlt | hlt
  · have hlt' : (u : Int) < l.length := by omega
    refine W_cut (fun e' m' d' => d' = [] ∧ e' 1 = .mptr M.length 0 ∧ e' 2 = .mptr (M.length + 1) 0 ∧ e' 3 = .mptr (M.length + 2) 0 ∧ e' 4 = .flat (.int .i64 u) ∧ ∃ w c, N20 M.length l.length l nl cd m' (lnU l u ++ lnV l u 1) (newC (u + 1)) w c) ?_ ?_
    · repeat' (first | ((with_reducible first | apply S_0 | apply S_q1 | apply S_g | apply S_c); exact sgc) | refine Stp.h ?_ | (with_reducible apply B_ne; focus decide) | ((with_reducible first | apply SC_d | apply SG_d | apply SG_n | apply SC_b | apply SG_b) <;> intro hc <;> try simp only [dq1, dq2, dq3, dq4, dq5] at hc))
      refine ⟨rfl, ?_⟩
      rcases Nat.eq_zero_or_pos u with hu0 | hu0
      · have hu' : ¬ (0 : Int) < u := by omega
        have hN0 : N20 M.length l.length l nl cd mm (lnU l u ++ lnV l u 1) (newC (u + 1)) w c := by
          rw [hu0] at hN ⊢
          simpa [lnV, newC] using hN
        clear hu0
        repeat' (first | ((with_reducible first | apply S_0 | apply S_q1 | apply S_g | apply S_c); exact sgc) | refine Stp.h ?_ | (with_reducible apply B_ne; focus decide) | ((with_reducible first | apply SC_d | apply SG_d | apply SG_n | apply SC_b | apply SG_b) <;> intro hc <;> try simp only [dq1, dq2, dq3, dq4, dq5] at hc))
        exact ⟨rfl, rfl, by exact svc, by exact svc, by exact svc, by exact svc, w, c, hN0⟩
      · have hu' : (0 : Int) < u := by omega
        repeat' (first | ((with_reducible first | apply S_0 | apply S_q1 | apply S_g | apply S_c); exact sgc) | refine Stp.h ?_ | (with_reducible apply B_ne; focus decide) | ((with_reducible first | apply SC_d | apply SG_d | apply SG_n | apply SC_b | apply SG_b) <;> intro hc <;> try simp only [dq1, dq2, dq3, dq4, dq5] at hc))
        refine S_apF (by decide) (y := c) (cs := (newC u).map Pth.av) (news := [.list 1 [] true true]) (k := 1) (by exact svc) hN.hc (pths_q _) (by exact svc) (by exact svc) rfl (by decide) (by simp [newC]; omega) (by simp [newC]; omega) ?_ (by omega) (by omega)
        intro m1 l1 s1 f1
        have hbb : m1[M.length + 2]? = some (some [.flat (.int .i64 l.length), .list 1 (l.map Rks.av) nl cd, w, c]) := by
          rw [f1 _ (by omega) fun e => by have := (hN.hc.lt e).2; omega]; exact b2
        have hN1 := hN.more rfl l1 s1 f1
        have hdv : (List.map Pth.av (newC u)).length / 1 + 1 = (newC u).length + 1 := by simp
        have hcu : newC u ++ [nilPth] = newC (u + 1) := by
          simp only [newC, List.cons_append, ← List.replicate_succ', show u - 1 + 1 = u + 1 - 1 by omega]
        rw [hdv, hcu] at hN1
        have hHN : Hid _ := hN1
        clear hN1 hcu
        repeat' (first | ((with_reducible first | apply S_0 | apply S_q1 | apply S_g | apply S_c); exact sgc) | refine Stp.h ?_ | (with_reducible apply B_ne; focus decide) | ((with_reducible first | apply SC_d | apply SG_d | apply SG_n | apply SC_b | apply SG_b) <;> intro hc <;> try simp only [dq1, dq2, dq3, dq4, dq5] at hc))
        exact ⟨rfl, rfl, by exact svc, by exact svc, by exact svc, by exact svc, w, _, by simpa [lnV] using (show N20 _ _ _ _ _ _ _ _ _ _ from hHN)⟩
    clear b0 b1 b2 bl hN k1 k2 k3
    clear mm e w c e4
    rintro e mm _ ⟨rfl, k1, k2, k3, e4, w, c, hN⟩
    repeat' (first | ((with_reducible first | apply S_0 | apply S_q1 | apply S_g | apply S_c); exact sgc) | refine Stp.h ?_ | (with_reducible apply B_ne; focus decide) | ((with_reducible first | apply SC_d | apply SG_d | apply SG_n | apply SC_b | apply SG_b) <;> intro hc <;> try simp only [dq1, dq2, dq3, dq4, dq5] at hc))
    refine W_rngM 5 1 l.length (fun v e mm => ∃ w c, N20 M.length l.length l nl cd mm (lnU l u ++ lnV l u v) (newC (u + 1)) w c) (by simp only [asg, asgO, List.append_nil, List.nil_append, List.cons_append]; rfl) (by exact svc) (by omega) ⟨w, c, hN⟩ ?_
    clear hN
    clear w c mm
    rintro v e2 mm hv1 hv hk2 e5 ⟨w, c, hN⟩
    have i1 : e2 1 = .mptr M.length 0 := by rw [hk2 1 rfl]; exact svc
    have i2 : e2 2 = .mptr (M.length + 1) 0 := by rw [hk2 2 rfl]; exact svc
    have i3 : e2 3 = .mptr (M.length + 2) 0 := by rw [hk2 3 rfl]; exact svc
    have i4 : e2 4 = .flat (.int .i64 u) := by rw [hk2 4 rfl]; exact svc
    clear hk2 k1 k2 k3 e4
    clear e
    have b0 := hN.b0
    have b2 := hN.b2
    have bl := hN.bl
    rcases Nat.lt_or_ge v l.length with hvl | hvl
    · have hvl' : (v : Int) < l.length := by omega
      have hr70 : l[v].l.length ≤ 70 := (show ∀ (v : Nat) (hv : v < l.length), l[v].l.length ≤ 70 from hHr) v hvl
      have hnr := l[v].nil
      obtain ⟨A, hA⟩ : ∃ A : Nat → Bool, A = fun i => (l[v].l.take i).any fun q => decide (q.p.l.getD 1 0 = u) := ⟨_, rfl⟩
      have hA0 : A 0 = false := by rw [hA]; simp
      have hHA : Hid _ := hA
      clear hA
      repeat' (first | ((with_reducible first | apply S_0 | apply S_q1 | apply S_g | apply S_c); exact sgc) | refine Stp.h ?_ | (with_reducible apply B_ne; focus decide) | ((with_reducible first | apply SC_d | apply SG_d | apply SG_n | apply SC_b | apply SG_b) <;> intro hc <;> try simp only [dq1, dq2, dq3, dq4, dq5] at hc))
      refine W_rng 7 0 l[v].l.length (fun i e => e 6 = .flat (.bool (A i))) (by simp only [asg, asgO, List.append_nil, List.nil_append, List.cons_append]; rfl) (by exact svc) (by omega) (by exact svc) ?_
      rintro i e3 _ hi hk3 e7 e6
      have j1 : e3 1 = .mptr M.length 0 := by rw [hk3 1 rfl]; exact svc
      have j2 : e3 2 = .mptr (M.length + 1) 0 := by rw [hk3 2 rfl]; exact svc
      have j3 : e3 3 = .mptr (M.length + 2) 0 := by rw [hk3 3 rfl]; exact svc
      have j4 : e3 4 = .flat (.int .i64 u) := by rw [hk3 4 rfl]; exact svc
      have j5 : e3 5 = .flat (.int .i64 v) := by rw [hk3 5 rfl]; exact svc
      clear hk3 i1 i2 i3 i4 e5
      clear e2
      rcases Nat.lt_or_ge i l[v].l.length with hil | hil
      · have hil' : (i : Int) < l[v].l.length := by omega
        have hp2 : 2 ≤ l[v].l[i].p.l.length := (show ∀ (v : Nat) (hv : v < l.length) (j : Nat) (hj : j < l[v].l.length), 2 ≤ l[v].l[j].p.l.length from hHp) v hvl i hil
        have hnp := l[v].l[i].p.nil
        have hpl := l[v].l[i].p.le
        have hA1 : A (i + 1) = (A i || decide (l[v].l[i].p.l[1] = (u : Int))) := by
          rw [show A = _ from hHA]
          simp only
          rw [any_take hil, getD_of (by omega)]
        have hHA1 : Hid _ := hA1
        clear hA1
        cases hAi : A i with
        | true =>
          rw [hAi] at e6 
          repeat' (first | ((with_reducible first | apply S_0 | apply S_q1 | apply S_g | apply S_c); exact sgc) | refine Stp.h ?_ | (with_reducible apply B_ne; focus decide) | ((with_reducible first | apply SC_d | apply SG_d | apply SG_n | apply SC_b | apply SG_b) <;> intro hc <;> try simp only [dq1, dq2, dq3, dq4, dq5] at hc))
          refine H_n (by exact svc) hil ?_
          rw [show A (i + 1) = _ from hHA1, hAi, Bool.true_or]
          (simp (disch := first | assumption | decide | omega | exact Pth.le _ | exact Rks.le _ | exact List.getElem_mem _ | exact allI_ints _ | exact allI_rks _ | exact allI_pths _ | exact Pth.nil _ | exact Rks.nil _ | (intro hh; simp only [Pth.nil _ hh, List.take_nil, List.drop_nil]; done) | (intro hh; simp only [Rks.nil _ hh, List.take_nil, List.drop_nil]; done) | (simp only [List.length_take, List.length_drop, List.length_append, List.length_cons, List.length_nil, List.length_replicate, List.length_map, ints_len]; omega)) only [go_sem, if_pos, if_neg, Nat.reduceBEq, Nat.reduceEqDiff, ↓reduceIte, Nat.reduceSub, Nat.reduceAdd, Int.reduceToNat, reduceCtorEq, Nat.reduceLeDiff, Nat.reduceLT, Nat.reduceMul, Nat.reduceDiv, Int.reduceLT, Int.reduceLE, Int.reduceEq, Int.reduceNe, Int.reduceAdd, Int.reduceSub, Int.reduceNeg, Int.reduceGT, Int.reduceGE, Int.reduceBEq, Int.reduceBNe, Int.reduceMul, *])
        | false =>
          rw [hAi] at e6
          repeat' (first | ((with_reducible first | apply S_0 | apply S_q1 | apply S_g | apply S_c); exact sgc) | refine Stp.h ?_ | (with_reducible apply B_ne; focus decide) | ((with_reducible first | apply SC_d | apply SG_d | apply SG_n | apply SC_b | apply SG_b) <;> intro hc <;> try simp only [dq1, dq2, dq3, dq4, dq5] at hc))
          refine H_n (by exact svc) hil ?_
          rw [show A (i + 1) = _ from hHA1, hAi]
          (simp (disch := first | assumption | decide | omega | exact Pth.le _ | exact Rks.le _ | exact List.getElem_mem _ | exact allI_ints _ | exact allI_rks _ | exact allI_pths _ | exact Pth.nil _ | exact Rks.nil _ | (intro hh; simp only [Pth.nil _ hh, List.take_nil, List.drop_nil]; done) | (intro hh; simp only [Rks.nil _ hh, List.take_nil, List.drop_nil]; done) | (simp only [List.length_take, List.length_drop, List.length_append, List.length_cons, List.length_nil, List.length_replicate, List.length_map, ints_len]; omega)) only [go_sem, if_pos, if_neg, Nat.reduceBEq, Nat.reduceEqDiff, ↓reduceIte, Nat.reduceSub, Nat.reduceAdd, Int.reduceToNat, reduceCtorEq, Nat.reduceLeDiff, Nat.reduceLT, Nat.reduceMul, Nat.reduceDiv, Int.reduceLT, Int.reduceLE, Int.reduceEq, Int.reduceNe, Int.reduceAdd, Int.reduceSub, Int.reduceNeg, Int.reduceGT, Int.reduceGE, Int.reduceBEq, Int.reduceBNe, Int.reduceMul, *])
      · have hil' : ¬ (i : Int) < l[v].l.length := by omega
        obtain rfl : i = l[v].l.length := by omega
        have hQ : isQ l v u = A l[v].l.length := by
          rw [isQ, List.getElem?_eq_getElem hvl, show A = _ from hHA]
          simp only [List.take_length]
        have hHQ : Hid _ := hQ
        clear hQ
        cases hAi : A l[v].l.length with
        | false =>
          rw [hAi] at e6
          have hlv : lnV l u (v + 1) = lnV l u v := by
            rw [lnV, if_neg (fun h => by rw [show isQ l v u = _ from hHQ, hAi] at h; cases h.2), List.append_nil]
          repeat' (first | ((with_reducible first | apply S_0 | apply S_q1 | apply S_g | apply S_c); exact sgc) | refine Stp.h ?_ | (with_reducible apply B_ne; focus decide) | ((with_reducible first | apply SC_d | apply SG_d | apply SG_n | apply SC_b | apply SG_b) <;> intro hc <;> try simp only [dq1, dq2, dq3, dq4, dq5] at hc))
          exact G_n (by exact svc) hvl ⟨w, c, by rw [hlv]; exact hN⟩
        | true =>
          rw [hAi] at e6
          have hlv : lnU l u ++ lnV l u (v + 1) = (lnU l u ++ lnV l u v) ++ [((u : Int), (v : Int))] := by
            rw [lnV, if_pos ⟨hv1, by rw [show isQ l v u = _ from hHQ, hAi]⟩, List.append_assoc]
          have hHlv : Hid _ := hlv
          clear hlv
          have hnum : (rlnsA ((lnU l u ++ lnV l u v).map newR)).length / 5 ≤ 1000 := by
            rw [rlns_len, Nat.mul_div_cancel _ (by decide), List.length_map, List.length_append]
            have h1 := lnU_len l u
            have h2 := lnV_len l u v
            have h3 : u * l.length ≤ 12 * 12 := Nat.mul_le_mul (by omega) (by omega)
            omega
          have hHnum : Hid _ := hnum
          clear hnum
          rcases Nat.eq_zero_or_pos u with hu0 | hu0
          · have hue : (u : Int) = 0 := by omega
            clear hu0
            have B2 := get_grow b2 [some [.flat (.int .i64 0), .flat (.int .i64 v), .ms (mm.length + 1) 0 1 1 false, .list 1 [] true true, .flat (.bool false)], some [.list 1 [.flat (.int .i64 0)] false true]]
            repeat' (first | ((with_reducible first | apply S_0 | apply S_q1 | apply S_g | apply S_c); exact sgc) | refine Stp.h ?_ | (with_reducible apply B_ne; focus decide) | ((with_reducible first | apply SC_d | apply SG_d | apply SG_n | apply SC_b | apply SG_b) <;> intro hc <;> try simp only [dq1, dq2, dq3, dq4, dq5] at hc))
            have hjj : (mm ++ [some [.flat (.int .i64 0), .flat (.int .i64 v), .ms (mm.length + 1) 0 1 1 false, .list 1 [] true true, .flat (.bool false)], some [.list 1 [.flat (.int .i64 0)] false true]])[mm.length + 1]? = some (some [.list 1 [.flat (.int .i64 0)] false true]) := by simp
            refine S_bsR (cs := [.flat (.int .i64 0), .flat (.int .i64 v), .ms (mm.length + 1) 0 1 1 false, .list 1 [] true true, .flat (.bool false)]) (cs' := [.flat (.int .i64 0), .flat (.int .i64 v), .list 1 [.list 1 [.flat (.int .i64 0)] false true] false false, .list 1 [] true true, .flat (.bool false)]) (m' := mm ++ [some [.flat (.int .i64 0), .flat (.int .i64 v), .ms (mm.length + 1) 0 1 1 false, .list 1 [] true true, .flat (.bool false)], none]) (by exact svc) rfl rfl rfl ?_ (by simp only [dirts, dirt]; rw [if_neg (by omega)]) ?_
            · have e0 : frz 0 (mm ++ [some [.flat (.int .i64 0), .flat (.int .i64 v), .ms (mm.length + 1) 0 1 1 false, .list 1 [] true true, .flat (.bool false)], some [.list 1 [.flat (.int .i64 0)] false true]]) (.ms (mm.length + 1) 0 1 1 false) = some (.list 1 [.list 1 [.flat (.int .i64 0)] false true] false false, mm ++ [some [.flat (.int .i64 0), .flat (.int .i64 v), .ms (mm.length + 1) 0 1 1 false, .list 1 [] true true, .flat (.bool false)], none]) := by
                simp only [frz, hjj]
                rw [if_pos ⟨by omega, by simp, rfl⟩]
                simp
              have f0 : ∀ (M : MS) (k : Int), frz 0 M (.flat (.int .i64 k)) = some (.flat (.int .i64 k), M) := fun _ _ => rfl
              have f1 : ∀ M : MS, frz 0 M (.list 1 [] true true) = some (.list 1 [] true true, M) := fun _ => rfl
              have f2 : ∀ (M : MS) (b : Bool), frz 0 M (.flat (.bool b)) = some (.flat (.bool b), M) := fun _ _ => rfl
              simp only [frzAll, f0, f1, f2, e0]
            clear hjj B2
            have B3 := get_grow b2 [some [.flat (.int .i64 0), .flat (.int .i64 v), .ms (mm.length + 1) 0 1 1 false, .list 1 [] true true, .flat (.bool false)], none]
            repeat' (first | ((with_reducible first | apply S_0 | apply S_q1 | apply S_g | apply S_c); exact sgc) | refine Stp.h ?_ | (with_reducible apply B_ne; focus decide) | ((with_reducible first | apply SC_d | apply SG_d | apply SG_n | apply SC_b | apply SG_b) <;> intro hc <;> try simp only [dq1, dq2, dq3, dq4, dq5] at hc))
            refine S_apF (lo := M.length + 3) (by decide) (y := w) (cs := rlnsA ((lnU l u ++ lnV l u v).map newR)) (news := [.flat (.int .i64 0), .flat (.int .i64 v), .list 1 [.list 1 [.flat (.int .i64 0)] false true] false false, .list 1 [] true true, .flat (.bool false)]) (k := 1) (by exact svc) (hN.grow [some [.flat (.int .i64 0), .flat (.int .i64 v), .ms (mm.length + 1) 0 1 1 false, .list 1 [] true true, .flat (.bool false)], none]).hw (rlns_q _) (by exact svc) (by exact svc) rfl (by decide) (by have : _ ≤ 1000 := hHnum; omega) (by have : _ ≤ 1000 := hHnum; omega) ?_ (by omega) (by simp; omega)
            intro m1 l1 s1 f1
            obtain ⟨y, hy⟩ : ∃ y, y = AV.ms (mm ++ [some [AV.flat (.int .i64 0), .flat (.int .i64 v), .ms (mm.length + 1) 0 1 1 false, .list 1 [] true true, .flat (.bool false)], none]).length 0 ((rlnsA ((lnU l u ++ lnV l u v).map newR)).length / 5 + 1) 5 false := ⟨_, rfl⟩
            rw [← hy] at s1 ⊢
            have hyc : cellsOf y = some [y] := by rw [hy]; rfl
            have hN2 := hN.grow [some [.flat (.int .i64 0), .flat (.int .i64 v), .ms (mm.length + 1) 0 1 1 false, .list 1 [] true true, .flat (.bool false)], none]
            have hnr : (newR ((u : Int), (v : Int))).cs = [.flat (.int .i64 0), .flat (.int .i64 v), .list 1 [.list 1 [.flat (.int .i64 0)] false true] false false, .list 1 [] true true, .flat (.bool false)] := by
              rw [newR, if_pos hue]
              simp only [RLn.cs, hue]; rfl
            have hN3 := hN2.line ((u : Int), (v : Int)) hy l1 (by rw [hnr]; exact s1) f1
            have hbb : m1[M.length + 2]? = some (some [.flat (.int .i64 l.length), .list 1 (l.map Rks.av) nl cd, w, c]) := by
              rw [f1 _ (by simp; omega) fun e => by have := (hN2.hw.lt e).2; omega]; exact hN2.b2
            have hHN : Hid _ := hN3
            clear hN3 hN2 s1 f1 hN hnr hy
            repeat' (first | ((with_reducible first | apply S_0 | apply S_q1 | apply S_g | apply S_c); exact sgc) | refine Stp.h ?_ | (with_reducible apply B_ne; focus decide) | ((with_reducible first | apply SC_d | apply SG_d | apply SG_n | apply SC_b | apply SG_b) <;> intro hc <;> try simp only [dq1, dq2, dq3, dq4, dq5] at hc))
            refine G_n (by exact svc) hvl ⟨y, c, ?_⟩
            rw [show lnU l u ++ lnV l u (v + 1) = _ from hHlv]
            exact hHN
          · have hue : ¬ (u : Int) = 0 := by omega
            clear hu0
            have B2 := get_grow b2 [some [.flat (.int .i64 u), .flat (.int .i64 v), .list 1 [] true true, .list 1 [] true true, .flat (.bool false)]]
            repeat' (first | ((with_reducible first | apply S_0 | apply S_q1 | apply S_g | apply S_c); exact sgc) | refine Stp.h ?_ | (with_reducible apply B_ne; focus decide) | ((with_reducible first | apply SC_d | apply SG_d | apply SG_n | apply SC_b | apply SG_b) <;> intro hc <;> try simp only [dq1, dq2, dq3, dq4, dq5] at hc))
            refine S_apF (lo := M.length + 3) (by decide) (y := w) (cs := rlnsA ((lnU l u ++ lnV l u v).map newR)) (news := [.flat (.int .i64 u), .flat (.int .i64 v), .list 1 [] true true, .list 1 [] true true, .flat (.bool false)]) (k := 1) (by exact svc) (hN.grow [some [.flat (.int .i64 u), .flat (.int .i64 v), .list 1 [] true true, .list 1 [] true true, .flat (.bool false)]]).hw (rlns_q _) (by exact svc) (by exact svc) rfl (by decide) (by have : _ ≤ 1000 := hHnum; omega) (by have : _ ≤ 1000 := hHnum; omega) ?_ (by omega) (by simp; omega)
            intro m1 l1 s1 f1
            obtain ⟨y, hy⟩ : ∃ y, y = AV.ms (mm ++ [some [AV.flat (.int .i64 u), .flat (.int .i64 v), .list 1 [] true true, .list 1 [] true true, .flat (.bool false)]]).length 0 ((rlnsA ((lnU l u ++ lnV l u v).map newR)).length / 5 + 1) 5 false := ⟨_, rfl⟩
            rw [← hy] at s1 ⊢
            have hyc : cellsOf y = some [y] := by rw [hy]; rfl
            have hN2 := hN.grow [some [.flat (.int .i64 u), .flat (.int .i64 v), .list 1 [] true true, .list 1 [] true true, .flat (.bool false)]]
            have hnr : (newR ((u : Int), (v : Int))).cs = [.flat (.int .i64 u), .flat (.int .i64 v), .list 1 [] true true, .list 1 [] true true, .flat (.bool false)] := by
              rw [newR, if_neg hue]; rfl
            have hN3 := hN2.line ((u : Int), (v : Int)) hy l1 (by rw [hnr]; exact s1) f1
            have hbb : m1[M.length + 2]? = some (some [.flat (.int .i64 l.length), .list 1 (l.map Rks.av) nl cd, w, c]) := by
              rw [f1 _ (by simp; omega) fun e => by have := (hN2.hw.lt e).2; omega]; exact hN2.b2
            have hHN : Hid _ := hN3
            clear hN3 hN2 s1 f1 hN hnr hy
            repeat' (first | ((with_reducible first | apply S_0 | apply S_q1 | apply S_g | apply S_c); exact sgc) | refine Stp.h ?_ | (with_reducible apply B_ne; focus decide) | ((with_reducible first | apply SC_d | apply SG_d | apply SG_n | apply SC_b | apply SG_b) <;> intro hc <;> try simp only [dq1, dq2, dq3, dq4, dq5] at hc))
            refine G_n (by exact svc) hvl ⟨y, c, ?_⟩
            rw [show lnU l u ++ lnV l u (v + 1) = _ from hHlv]
            exact hHN
    · have hvl' : ¬ (v : Int) < l.length := by omega
      obtain rfl : v = l.length := by omega
      repeat' (first | ((with_reducible first | apply S_0 | apply S_q1 | apply S_g | apply S_c); exact sgc) | refine Stp.h ?_ | (with_reducible apply B_ne; focus decide) | ((with_reducible first | apply SC_d | apply SG_d | apply SG_n | apply SC_b | apply SG_b) <;> intro hc <;> try simp only [dq1, dq2, dq3, dq4, dq5] at hc))
      exact G_n (by exact svc) hlt ⟨w, c, hN⟩
  · have hlt' : ¬ (u : Int) < l.length := by omega
    obtain rfl : u = l.length := by omega
    have b0 := hN.b0
    repeat' (first | ((with_reducible first | apply S_0 | apply S_q1 | apply S_g | apply S_c); exact sgc) | refine Stp.h ?_ | (with_reducible apply B_ne; focus decide) | ((with_reducible first | apply SC_d | apply SG_d | apply SG_n | apply SC_b | apply SG_b) <;> intro hc <;> try simp only [dq1, dq2, dq3, dq4, dq5] at hc))
    obtain ⟨m7, hm7⟩ : ∃ m7, m7 = List.set mm (M.length + 1) (some [.flat (.int .i64 l.length), .list 1 (l.map Rks.av) nl cd, w, c]) := ⟨_, rfl⟩
    rw [← hm7]
    have c1 : m7[M.length + 1]? = some (some [.flat (.int .i64 l.length), .list 1 (l.map Rks.av) nl cd, w, c]) := by rw [hm7, List.getElem?_set_self (by omega)]
    have hw := hN.hw.agree (m' := m7) fun i hi => by rw [hm7, List.getElem?_set_ne (by have := (hN.hw.lt hi).2; omega)]
    have hc := hN.hc.agree (m' := m7) fun i hi => by rw [hm7, List.getElem?_set_ne (by have := (hN.hc.lt hi).2; omega)]
    have hne := hN.ne
    clear hm7 hN b0 b1 b2
    (refine ⟨by first | exact .inr rfl | exact .inl rfl, ?_⟩; simp (disch := first | assumption | decide | omega | exact Pth.le _ | exact Rks.le _ | exact List.getElem_mem _ | exact allI_ints _ | exact allI_rks _ | exact allI_pths _ | exact Pth.nil _ | exact Rks.nil _ | (intro hh; simp only [Pth.nil _ hh, List.take_nil, List.drop_nil]; done) | (intro hh; simp only [Rks.nil _ hh, List.take_nil, List.drop_nil]; done) | (simp only [List.length_take, List.length_drop, List.length_append, List.length_cons, List.length_nil, List.length_replicate, List.length_map, ints_len]; omega)) only [resA, rvA, tupA, Option.bind_some, go_sem, if_pos, if_neg, Nat.reduceBEq, Nat.reduceEqDiff, ↓reduceIte, Nat.reduceSub, Nat.reduceAdd, Int.reduceToNat, reduceCtorEq, Nat.reduceLeDiff, Nat.reduceLT, Nat.reduceMul, Nat.reduceDiv, Int.reduceLT, Int.reduceLE, Int.reduceEq, Int.reduceNe, Int.reduceAdd, Int.reduceSub, Int.reduceNeg, Int.reduceGT, Int.reduceGE, Int.reduceBEq, Int.reduceBNe, Int.reduceMul, *])
    have hw' : Src M.length m7 w 5 (rlnsA ((lnU l l.length).map newR)) := hw.imp_right fun ⟨id, h1, h2⟩ => ⟨id, by omega, h2⟩
    have hc' : Src M.length m7 c 1 ((newC l.length).map Pth.av) := hc.imp_right fun ⟨id, h1, h2⟩ => ⟨id, by omega, h2⟩
    obtain ⟨s1, n1, c1, s2, n2, c2, h1, h2, h3, h4, h5⟩ := fin_src (n := l.length) (x := .list 1 (l.map Rks.av) nl cd) rfl (fun _ => rfl) hw' hc' (allI_rlns _) (allI_pths _) (rlns_q _) (pths_q _) (by decide) (by decide) hne
    have hLe : lnU l l.length = prs (prL l) := hHe
    rw [hLe] at h1 h2 h3
    have hnil : rlnsA ((prs (prL l)).map newR) = [] → prs (prL l) = [] := fun h => by
      have := rlns_len ((prs (prL l)).map newR)
      rw [h, List.length_map, List.length_nil] at this
      exact List.eq_nil_of_length_eq_zero (by omega)
    refine ⟨_, h1, s1, n1, c1, s2, n2, c2, rfl, h2.imp_right hnil, ?_, fun h => hnil (h3 h)⟩
    rcases h4 with h4 | h4
    · exact h4
    · simp [newC] at h4
end Go.Proofs.Ytlcdafidoddefaa.Av
namespace Go.Proofs.Ytlcdafidoddefaa.Av
open Go.RowKit
set_option linter.unusedSimpArgs false
set_option linter.unusedVariables false
set_option maxHeartbeats 10000000
theorem wtL_pre (Z : List Lin) {i : Nat} : ∀ {k}, i ≤ k → ∃ r, wtL Z k = wtL Z i ++ r
  | 0, h => ⟨[], by rw [show i = 0 by omega]; simp⟩
  | k + 1, h => by
    rcases Nat.lt_or_ge i (k + 1) with h1 | h1
    · obtain ⟨r, hr⟩ := wtL_pre Z (i := i) (k := k) (by omega)
      exact ⟨_, by rw [wtL, hr, List.append_assoc]⟩
    · exact ⟨[], by rw [show i = k + 1 by omega]; simp⟩
theorem wtL_at {Z : List Lin} {i : Nat} (hi : i < Z.length) (hr : 0 < Z[i].row.length) : ∃ h : (wtL Z i).length < (wtL Z Z.length).length, (wtL Z Z.length)[(wtL Z i).length] = (i : Int) := by
  obtain ⟨r, h⟩ := wtL_pre Z (i := i + 1) (k := Z.length) (by omega)
  have h2 : wtL Z (i + 1) = wtL Z i ++ [(i : Int)] := by rw [wtL, List.getElem?_eq_getElem hi]; simp [hr]
  rw [h2] at h
  refine ⟨by rw [h]; simp, ?_⟩
  simp only [h, List.append_assoc]
  simp
theorem wtL_all {Z : List Lin} : wtL Z Z.length = [] ↔ ∀ z ∈ Z, z.row.length = 0 := by
  constructor
  · intro h z hz
    obtain ⟨i, hi, rfl⟩ := List.getElem_of_mem hz
    rcases Nat.eq_zero_or_pos Z[i].row.length with h0 | h0
    · exact h0
    · obtain ⟨h1, _⟩ := wtL_at hi h0
      rw [h] at h1; simp at h1
  · intro h
    have : ∀ k, k ≤ Z.length → wtL Z k = [] := by
      intro k
      induction k with
      | zero => intro _; rfl
      | succ k ih =>
        intro hk
        rw [wtL, ih (by omega), List.getElem?_eq_getElem (show k < Z.length by omega)]
        simp only [List.nil_append]
        rw [if_neg (by have := h _ (List.getElem_mem (show k < Z.length by omega)); omega)]
    exact this _ (Nat.le_refl _)
theorem Vw.rlns (M : MS) (L : List RLn) (s : Nat) (n c : Bool) (h : s = 5 ∨ L = []) : Vw M (.list s (rlnsA L) n c) (rlnsA L) L.length := by
  refine ⟨?_, fun _ => rfl, rfl⟩
  rcases h with rfl | rfl
  · simp only [lenOf, rlns_len, fifth]
  · simp [lenOf, rlnsA]
theorem t23 (m : Mc) (n : Int) (l : List Rks) (nl cd : Bool) (L : List RLn) (lv : AV) (C : List Pth) (cn cc : Bool) (M : MS) (h : Mach M m) (hvw : Vw M lv (rlnsA L) L.length) (hpr : L.map RLn.pair = m.L) (hpm : rpm L C = m.pm) :
    ev pr 23 [.mptr m.id 0, .agg [.flat (.int .i64 n), .list 1 (l.map Rks.av) nl cd, lv, .list 1 (C.map Pth.av) cn cc]] M = some (.q (.flat (.bool true))) := by
  obtain ⟨B, hB⟩ : ∃ B : MS, B = [some [.flat (.int .i64 n), .list 1 (l.map Rks.av) nl cd, lv, .list 1 (C.map Pth.av) cn cc]] := ⟨_, rfl⟩
  have hg := h.grow B
  have hlen : L.length = m.L.length := by rw [← hpr]; simp
  have hZl := h.len
  have hle := h.lle
  obtain ⟨nl2, cd2, h12⟩ := t12 m (M ++ B) hg
  have h13 := t13 m (M ++ B) hg
  have h24 := t24 m (M ++ B) hg
  have h35 := t35 m (M ++ B) hg
  have h34 := t34 m (M ++ B) hg
  have h54 := t54 n l nl cd L lv (.list 1 (C.map Pth.av) cn cc) (M ++ B) (hvw.ext B) rfl (by omega)
  have hZe : L.map RLn.pln = m.Z.map Lin.pln := congrArg PM.Z hpm
  have hCe : pl C = pl m.C := congrArg PM.C hpm
  have hqe : decide (wtL m.Z m.Z.length = []) = decide (∀ r ∈ L, r.R.l.length = 0) := by
    refine decide_eq_decide.2 (wtL_all.trans ?_)
    have key : ∀ (i : Nat) (h1 : i < L.length) (h2 : i < m.Z.length), L[i].R.l.length = m.Z[i].row.length := by
      intro i h1 h2
      have := congrArg (·[i]?) hZe
      simp only [List.getElem?_map, List.getElem?_eq_getElem h1, List.getElem?_eq_getElem h2, Option.map_some, Option.some.injEq] at this
      have := congrArg (fun z : PL => z.row.length) this
      simpa [RLn.pln, Lin.pln] using this
    constructor
    · intro h1 r hr
      obtain ⟨i, hi, rfl⟩ := List.getElem_of_mem hr
      rw [key i hi (by omega)]; exact h1 _ (List.getElem_mem _)
    · intro h1 z hz
      obtain ⟨i, hi, rfl⟩ := List.getElem_of_mem hz
      rw [← key i (by omega) hi]; exact h1 _ (List.getElem_mem _)
  obtain ⟨b, hb⟩ : ∃ b, b = decide (∀ r ∈ L, r.R.l.length = 0) := ⟨_, rfl⟩
  rw [hqe, ← hb] at h24
  rw [← hb] at h54
  obtain ⟨C', hC'⟩ : ∃ C', C' = m.C.map cln := ⟨_, rfl⟩
  rw [← hC'] at h13
  have h37 := fun M => t37 C' C (C'.map Pth.av).isEmpty (C'.map Pth.av).isEmpty cn cc M (by rw [hC', List.length_map, h.clen]; have := h.small.1; omega)
  have hCC : pl C' = pl C := by rw [hC', hCe]; simp [pl, cln, Function.comp_def]
  have hCC' : decide (pl C' = pl C) = true := decide_eq_true hCC
  simp only [hCC'] at h37
  have hCl : C'.length ≤ 12 := by rw [hC', List.length_map, h.clen]; exact h.small.1
  have e0 := hvw.vw
  have e1 := hvw.len
  have e2 := hvw.cell
  have hZ1000 : m.Z.length ≤ 1000 := by omega
  have hlenZ : (L.length : Int) = m.L.length := by omega
  have hbb := h.b
  have hid := get_lt h.blk
  have hHm : Hid _ := h
  have hHp : Hid (L.map RLn.pair = m.L) := hpr
  have hHz : Hid (L.map RLn.pln = m.Z.map Lin.pln) := hZe
  have hHl : Hid (L.length = m.L.length) := hlen
  have hHl2 : Hid (m.Z.length = m.L.length) := hZl
  simp only [lst] at h13 h35
  rw [hB] at h12 h13 h24 h35 h34 h54
  clear hqe hb hpm hCe hCC hZe hpr h hg hvw hC' hlen hZl hB B hbb
  refine ev_fn' A23 ?_
  cases b
  all_goals
    repeat' (first | ((with_reducible first | apply S_0 | apply S_q1 | apply S_g | apply S_c); exact sgc) | refine Stp.h ?_ | (with_reducible apply B_ne; focus decide) | ((with_reducible first | apply SC_d | apply SG_d | apply SG_n | apply SC_b | apply SG_b) <;> intro hc <;> try simp only [dq1, dq2, dq3, dq4, dq5] at hc))
    refine W_rng 9 0 m.L.length (fun i e => e 7 = .flat (.int .i64 (wtL m.Z i).length) ∧ e 8 = .flat (.int .i64 (lnL m.Z i))) (by simp only [asg, asgO, List.append_nil, List.nil_append, List.cons_append]; rfl) (by exact svc) (by omega) ⟨by simp only [wtL]; exact svc, by simp only [lnL]; exact svc⟩ ?_
    rintro i e _ hi hk e9 ⟨e7, e8⟩
    have k0 : e 0 = .mptr m.id 0 := by rw [hk 0 rfl]; exact svc
    have k3 : e 3 = .mptr M.length 0 := by rw [hk 3 rfl]; exact svc
    have k5 : e 5 = .list 2 (cells2 m.L) nl2 cd2 := by rw [hk 5 rfl]; exact svc
    have k6 : e 6 = .list 1 (intsA (wtL m.Z m.Z.length)) (intsA (wtL m.Z m.Z.length)).isEmpty (intsA (wtL m.Z m.Z.length)).isEmpty := by rw [hk 6 rfl]; exact svc
    clear hk h12 h13 h24 h35 h54 h37
    rcases Nat.lt_or_ge i m.L.length with hlt | hlt
    · have hlt' : (i : Int) < m.L.length := by omega
      have hm : Mach M m := hHm
      have hiZ : i < m.Z.length := by rw [hm.len]; exact hlt
      have hiL : i < L.length := by rw [show L.length = m.L.length from hHl]; exact hlt
      have hg := hm.grow [some [.flat (.int .i64 n), .list 1 (l.map Rks.av) nl cd, lv, .list 1 (C.map Pth.av) cn cc]]
      have h14 := t14 m i _ hg hiZ
      have h15 := t15 m i _ hg hiZ
      have hpp : L[i].pair = m.L[i] := by
        have := congrArg (·[i]?) (show L.map RLn.pair = m.L from hHp)
        simpa [hiL, hlt] using this
      have hpu : L[i].u = m.L[i].1 := congrArg Prod.fst hpp
      have hpv : L[i].v = m.L[i].2 := congrArg Prod.snd hpp
      have hzz : L[i].pln = m.Z[i].pln := by
        have := congrArg (·[i]?) (show L.map RLn.pln = m.Z.map Lin.pln from hHz)
        simpa [hiL, hiZ] using this
      have hrow : L[i].R.l.map Pth.l = m.Z[i].row.map Pth.l := congrArg PL.row hzz
      have hhd : L[i].H.l = m.Z[i].heard.l := congrArg PL.heard hzz
      have han : L[i].any = m.Z[i].any := congrArg PL.any hzz
      have hrl : L[i].R.l.length = m.Z[i].row.length := by have := congrArg List.length hrow; simpa using this
      have htk := take2_at hlt
      have hbn : bin .neq (.arr 2 .i64) (.agg [.flat (.int .i64 m.L[i].1), .flat (.int .i64 m.L[i].2)]) (.agg [.flat (.int .i64 m.L[i].1), .flat (.int .i64 m.L[i].2)]) = some (.flat (.bool false)) := by
        have := bin_pair_n m.L[i] m.L[i]
        simpa [pairA] using this
      have hsm := hm.rsm _ (List.getElem_mem hiZ)
      have hr64 := hm.rle _ (List.getElem_mem hiZ)
      obtain ⟨R', hR'⟩ : ∃ R', R' = m.Z[i].row.map cln := ⟨_, rfl⟩
      obtain ⟨H, hH⟩ : ∃ H, H = cln m.Z[i].heard := ⟨_, rfl⟩
      rw [← hR', lst] at h14
      rw [← hH, Pth.av_eq] at h15
      have hRl : R'.length = m.Z[i].row.length := by rw [hR']; simp
      have hRR : decide (pl R' = pl L[i].R.l) = true := decide_eq_true (by rw [hR', pl, pl, hrow]; simp [cln, Function.comp_def])
      have hHH : decide (H.l = L[i].H.l) = true := decide_eq_true (by rw [hH, hhd]; rfl)
      have h55 := fun M => t55 R' L[i].R.l (R'.map Pth.av).isEmpty (R'.map Pth.av).isEmpty L[i].R.nl L[i].R.cd M (by omega)
      have h16 := fun M => t16 H.l L[i].H.l H.nl H.cd L[i].H.nl L[i].H.cd M H.le
      simp only [hRR] at h55
      simp only [hHH] at h16
      have hmx : (if (lnL m.Z i : Int) < L[i].R.l.length then (L[i].R.l.length : Int) else lnL m.Z i) = (lnL m.Z (i + 1) : Int) := by
        rw [lnL, List.getElem?_eq_getElem hiZ]
        simp only
        rw [Nat.max_def, hrl]; split <;> split <;> omega
      have hHmx : Hid _ := hmx
      have hwl := wtL_len m.Z i
      have hwl2 := wtL_len m.Z m.Z.length
      clear hm hg hpp hzz hrow hhd hR' hH hRR hHH hmx
      have hb2 := han
      cases ha : m.Z[i].any
      all_goals
        rw [ha] at h15 han
        clear ha hb2
        rcases Nat.eq_zero_or_pos m.Z[i].row.length with h0 | h0
        · have h0' : ¬ (0 : Int) < L[i].R.l.length := by omega
          have hw1 : wtL m.Z (i + 1) = wtL m.Z i := by
            rw [wtL, List.getElem?_eq_getElem hiZ]
            simp only
            rw [if_neg (by omega), List.append_nil]
          have hHw : Hid _ := hw1
          have hHrl : Hid _ := hrl
          clear hw1 hrl h0
          repeat' (first | ((with_reducible first | apply S_0 | apply S_q1 | apply S_g | apply S_c); exact sgc) | refine Stp.h ?_ | (with_reducible apply B_ne; focus decide) | ((with_reducible first | apply SC_d | apply SG_d | apply SG_n | apply SC_b | apply SG_b) <;> intro hc <;> try simp only [dq1, dq2, dq3, dq4, dq5] at hc))
          refine H_n (by exact svc) hlt ⟨?_, ?_⟩
          · rw [show wtL m.Z (i + 1) = _ from hHw]; exact svc
          · rw [← show _ = (lnL m.Z (i + 1) : Int) from hHmx]; exact svc
        · have h0' : (0 : Int) < L[i].R.l.length := by omega
          obtain ⟨hw2, hw3⟩ := wtL_at hiZ h0
          have hw1 : (wtL m.Z (i + 1)).length = (wtL m.Z i).length + 1 := by
            rw [wtL, List.getElem?_eq_getElem hiZ]
            simp only
            rw [if_pos h0]; simp
          have hw2' : ¬ ((wtL m.Z m.Z.length).length : Int) ≤ (wtL m.Z i).length := by omega
          have hHw : Hid _ := hw1
          have hHrl : Hid _ := hrl
          clear hw1 hrl h0
          repeat' (first | ((with_reducible first | apply S_0 | apply S_q1 | apply S_g | apply S_c); exact sgc) | refine Stp.h ?_ | (with_reducible apply B_ne; focus decide) | ((with_reducible first | apply SC_d | apply SG_d | apply SG_n | apply SC_b | apply SG_b) <;> intro hc <;> try simp only [dq1, dq2, dq3, dq4, dq5] at hc))
          refine H_n (by exact svc) hlt ⟨?_, ?_⟩
          · rw [show (wtL m.Z (i + 1)).length = _ from hHw]; exact svc
          · rw [← show _ = (lnL m.Z (i + 1) : Int) from hHmx]; exact svc
    · have hlt' : ¬ (i : Int) < m.L.length := by omega
      obtain rfl : i = m.L.length := by omega
      rw [← show m.Z.length = m.L.length from hHl2] at e7 e8
      repeat' (first | ((with_reducible first | apply S_0 | apply S_q1 | apply S_g | apply S_c); exact sgc) | refine Stp.h ?_ | (with_reducible apply B_ne; focus decide) | ((with_reducible first | apply SC_d | apply SG_d | apply SG_n | apply SC_b | apply SG_b) <;> intro hc <;> try simp only [dq1, dq2, dq3, dq4, dq5] at hc))
      (first | exact fincR | exact fincN)
end Go.Proofs.Ytlcdafidoddefaa.Av
