/- The law AspathBack, on the evaluator. -/
import Derived.Test.YtfpaegklkdfmmaaX6
import Derived.Test.YtfpaegklkdfmmaaX4
namespace Go.Proofs.Ytfpaegklkdfmmaa.Av
open Go.RowKit
set_option linter.unusedSimpArgs false
set_option linter.unusedVariables false
set_option maxHeartbeats 10000000
theorem may_pp {x : List Int} {a : Int} {n : Nat} (h : ppE x a n = 0) : mayP x ∧ x.length + n ≤ 16 ∧ mayP (List.replicate n a ++ x) := by
  obtain ⟨⟨p1, p2, p3⟩, p4⟩ : ppOk x a n ∧ (x.length : Int) + n ≤ 16 := by
    by_cases hp : ppOk x a n
    · by_cases hq : (x.length : Int) + n ≤ 16
      · exact ⟨hp, hq⟩
      · rw [ppE_2 hp hq] at h; simp at h
    · rw [ppE_1 hp] at h; simp at h
  refine ⟨p1, by omega, by simp; omega, fun b hb => ?_⟩
  rcases List.mem_append.1 hb with h1 | h1
  · rw [(List.mem_replicate.1 h1).2]; exact p2
  · exact p1.2 b h1
theorem pp_pos {x : List Int} {a t : Int} (h : ppE x a t = 0) : 0 ≤ t := by
  by_cases hp : ppOk x a t
  · exact hp.2.2
  · rw [ppE_1 hp] at h; simp at h
theorem runs_mem {x : List Int} : ∀ i, i ≤ x.length → ∀ r ∈ runs (x.take i), r.1 ∈ x
  | 0, _, r, hr => by simp [runs] at hr
  | i + 1, h, r, hr => by
    rw [runs_s (by omega)] at hr
    have ih := runs_mem i (by omega : i ≤ x.length)
    have hx : x[i]'(by omega) ∈ x := List.getElem_mem _
    rcases Nat.eq_zero_or_pos (runs (x.take i)).length with h0 | h0
    · rw [List.eq_nil_of_length_eq_zero h0, rstep_0] at hr
      simp only [List.mem_singleton] at hr; subst hr; exact hx
    · by_cases hc : ((runs (x.take i))[(runs (x.take i)).length - 1]).1 = x[i]
      · rw [rstep_e h0 hc] at hr
        rcases List.mem_or_eq_of_mem_set hr with h1 | rfl
        · exact ih r h1
        · exact hx
      · rw [rstep_n h0 hc] at hr
        rcases List.mem_append.1 hr with h1 | h1
        · exact ih r h1
        · simp only [List.mem_singleton] at h1; subst h1; exact hx
theorem runs_i64 {x : List Int} (h : ∀ a ∈ x, I64 a) (hl : x.length ≤ 1000000) : ∀ r ∈ runs x, I64 r.1 ∧ I64 r.2 := by
  intro r hr
  have h1 := (runs_ok x x.length (Nat.le_refl _)).2 r (by rwa [List.take_length])
  have h2 := runs_mem x.length (Nat.le_refl _) r (by rwa [List.take_length])
  exact ⟨h _ h2, by have := h1.1; constructor <;> omega⟩
theorem law5 {x : List Int} {nx cx : Bool} {R : List (Int × Int)} {nl cl : Bool} {a t : Int} (hx : x.length ≤ 9223372036854775807) (hy : R.length ≤ 9223372036854775807) (hn : nx = true → x = []) (hx64 : ∀ a ∈ x, I64 a) (h64 : ∀ a ∈ R, I64 a.1 ∧ I64 a.2) (ht : I64 t) (M : MS) :
    ev pr 5 [.list 1 (intsA x) nx cx, .list 2 (rnsA R) nl cl, .agg [.flat (.int .i64 a), .flat (.int .i64 t)]] M = some (.q (.flat (.bool true))) := by
  have h8 := fun M => t8 (xv := .list 1 (intsA x) nx cx) (x := x) (M := M) (Vw.list M x nx cx).len hx
  have h9 := fun M => lives M
  by_cases h300 : x.length ≤ 300 ∧ R.length ≤ 300
  · obtain ⟨hx3, hy3⟩ := h300
    have lx : x.length ≤ 1000000 := by omega
    have ly : R.length ≤ 1000000 := by omega
    rw [show decide (x.length ≤ 300) = true from decide_eq_true hx3] at h8
    have h13 := fun M => t13 (x := x) (nx := nx) (cx := cx) (M := M) lx
    obtain ⟨lr, lr2⟩ := runs_ok x x.length (Nat.le_refl _)
    rw [List.take_length] at lr lr2
    have h64' : ∀ r ∈ runs x, I64 r.1 ∧ I64 r.2 := runs_i64 hx64 (by omega)
    have h14a := fun M q => t14 (R := runs x) (nl := q) (cd := q) (M := M) (by omega) h64'
    have h14 := fun M => t14 (R := R) (nl := nl) (cd := cl) (M := M) ly h64
    have h19 := fun M => t19 (Vw.list M x nx cx) lx
    have hA : mayP x → ofE (runs x) = 0 ∧ ofP (runs x) = x := of_runs
    have hB : ofE R = 0 → runs (ofP R) = R ∧ mayP (ofP R) := runs_of
    have hPx : (ofP (runs x)).length ≤ 16 := by
      unfold ofP; split
      · rename_i h; exact h.2
      · simp
    have hPR : (ofP R).length ≤ 16 := by
      unfold ofP; split
      · rename_i h; exact h.2
      · simp
    have h12 := fun M q => t12 (Vw.list M (ofP (runs x)) q q) (Vw.list M x nx cx) (by omega) lx
    have h13b := fun M q => t13 (x := ofP R) (nx := q) (cx := q) (M := M) (by omega)
    have h19b := fun M q => t19 (Vw.list M (ofP R) q q) (by omega)
    have lr3 := (runs_ok (ofP R) (ofP R).length (Nat.le_refl _)).1
    rw [List.take_length] at lr3
    have h16 := fun M q => t16 (x := runs (ofP R)) (y := R) (nx := q) (cx := q) (ny := nl) (cy := cl) (M := M) (by omega) ly
    have h10e := fun M => t10e (a := a) (t := t) (Vw.list M x nx cx) lx ht
    have h10 := fun M (n : Nat) => t10 (a := a) (n := n) (Vw.list M x nx cx) lx
    unfold lst at h13 h14 h14a h13b
    generalize (intsA (ofP R)).isEmpty = q3 at h14
    generalize (intsA (ofP (runs x))).isEmpty = q4 at h14a
    generalize (rnsA (runs (ofP R))).isEmpty = q5 at h13b
    generalize (rnsA (runs x)).isEmpty = q6 at h13
    generalize ofP (runs x) = Px at *
    generalize ofE (runs x) = Ex at *
    generalize ofP R = PR at *
    generalize ofE R = ER at *
    clear h64 h64' hx hy
    by_cases hE : ER = 0
    · obtain ⟨b1, b2⟩ := hB hE
      rw [b1] at h13b h16
      rw [decide_eq_true b2] at h19b
      simp only [decide_true] at h16
      subst hE
      clear hB b1 b2 lr3
      by_cases hp : ppE x a t = 0
      · obtain ⟨n, rfl⟩ : ∃ n : Nat, t = n := ⟨t.toNat, by have := pp_pos hp; omega⟩
        obtain ⟨m1, m2, m3⟩ := may_pp hp
        obtain ⟨a1, a2⟩ := hA m1
        subst a1; subst a2
        rw [decide_eq_true m1] at h19
        simp only [decide_true] at h12
        obtain ⟨id, G, cd, h10, g1, g2, g3⟩ := h10 (M ++ [some [.flat (.int .i64 a), .flat (.int .i64 n)]]) n hp
        have e1 : M ++ [some [AV.flat (.int .i64 a), .flat (.int .i64 n)]] ++ G = M ++ (some [AV.flat (.int .i64 a), .flat (.int .i64 n)] :: G) := by simp
        rw [e1] at h10 g2 g3
        obtain ⟨L, hL⟩ : ∃ L, L = n + Px.length := ⟨_, rfl⟩
        have hl : L = (List.replicate n a ++ Px).length := by rw [hL]; simp
        have hv := Vw.ms0 (cd := cd) (r0 := []) g2 (by rw [List.append_nil]; exact g3)
        rw [← hl] at hv
        rw [← hL] at h10
        have k20 := t20m (cd := cd) (Vw.list (M ++ (some [AV.flat (.int .i64 a), .flat (.int .i64 n)] :: G)) Px nx cx) g2 g3 hl (by rw [← hl]; omega) lx (by simp)
        have k21 := t21 hv (by rw [← hl]; omega)
        have k22 := t22 hv a (by rw [← hl]; omega)
        have k19 := t19 hv (by rw [← hl]; omega)
        rw [decide_eq_true m3] at k19
        rw [← hl, decide_eq_true (show List.drop (L - Px.length) (List.replicate n a ++ Px) = Px by rw [hL, Nat.add_sub_cancel]; exact List.drop_left' (by simp))] at k20
        have hL1 : L ≤ n + Px.length ∧ n + Px.length ≤ L := by omega
        rcases Nat.eq_zero_or_pos n with hn0 | hn0
        · have hn1 : ¬ 0 < n := by omega
          have k19z := k19
          rw [show (n : Int) = 0 by omega] at k19z
          clear hA hv hl g3 e1 h10e m3 k21 k22 hn0 hL hp m1
          refine ev_fn' A5 ?_
          repeat' (first | ((with_reducible first | apply S_0 | apply S_q1 | apply S_g | apply S_c); exact sgc) | (with_reducible first | apply SO_q | apply SG_t | apply SG_f0 | apply SG_f1 | apply S_nil | apply T_n | apply W_seq | apply W_region | apply SO_x | apply SC_t | apply SC_f | apply W_block | apply W_ret | apply W_skip | apply W_exit | apply T_r | apply T_e | apply B_n | apply B_e) | (with_reducible apply B_ne; focus decide) | (with_reducible first | apply B_r | apply R_e | apply R_r | apply H_e | apply H_r | apply G_e | apply G_r) | (with_reducible apply SC_n) | ((with_reducible first | apply SC_d | apply SG_d | apply SG_n | apply SC_b | apply SG_b) <;> intro hc <;> try simp only [decide_eq_true_eq, decide_eq_false_iff_not, Classical.not_not, Bool.not_eq_true', Bool.not_eq_false'] at hc))
          all_goals first | (exfalso; omega) | (first | exact fincR | exact fincN)
        · have hh : (List.replicate n a ++ Px).headD 0 = a ∧ a ∈ List.replicate n a ++ Px := by
            obtain ⟨k, rfl⟩ : ∃ k, n = k + 1 := ⟨n - 1, by omega⟩
            exact ⟨by simp [List.replicate_succ], by simp⟩
          rw [hh.1] at k21
          rw [decide_eq_true hh.2] at k22
          clear hA hv hl g3 e1 h10e m3 hL hp m1 hh
          refine ev_fn' A5 ?_
          repeat' (first | ((with_reducible first | apply S_0 | apply S_q1 | apply S_g | apply S_c); exact sgc) | (with_reducible first | apply SO_q | apply SG_t | apply SG_f0 | apply SG_f1 | apply S_nil | apply T_n | apply W_seq | apply W_region | apply SO_x | apply SC_t | apply SC_f | apply W_block | apply W_ret | apply W_skip | apply W_exit | apply T_r | apply T_e | apply B_n | apply B_e) | (with_reducible apply B_ne; focus decide) | (with_reducible first | apply B_r | apply R_e | apply R_r | apply H_e | apply H_r | apply G_e | apply G_r) | (with_reducible apply SC_n) | ((with_reducible first | apply SC_d | apply SG_d | apply SG_n | apply SC_b | apply SG_b) <;> intro hc <;> try simp only [decide_eq_true_eq, decide_eq_false_iff_not, Classical.not_not, Bool.not_eq_true', Bool.not_eq_false'] at hc))
          all_goals first | (exfalso; omega) | (first | exact fincR | exact fincN)
      · have h10e := fun M => h10e M hp
        clear h10
        generalize ppE x a t = pe at *
        by_cases hm : mayP x
        · obtain ⟨a1, a2⟩ := hA hm
          subst a1; subst a2
          rw [decide_eq_true hm] at h19
          simp only [decide_true] at h12
          clear hA hm
          refine ev_fn' A5 ?_
          repeat' (first | ((with_reducible first | apply S_0 | apply S_q1 | apply S_g | apply S_c); exact sgc) | (with_reducible first | apply SO_q | apply SG_t | apply SG_f0 | apply SG_f1 | apply S_nil | apply T_n | apply W_seq | apply W_region | apply SO_x | apply SC_t | apply SC_f | apply W_block | apply W_ret | apply W_skip | apply W_exit | apply T_r | apply T_e | apply B_n | apply B_e) | (with_reducible apply B_ne; focus decide) | (with_reducible first | apply B_r | apply R_e | apply R_r | apply H_e | apply H_r | apply G_e | apply G_r) | (with_reducible apply SC_n) | ((with_reducible first | apply SC_d | apply SG_d | apply SG_n | apply SC_b | apply SG_b) <;> intro hc <;> try simp only [decide_eq_true_eq, decide_eq_false_iff_not, Classical.not_not, Bool.not_eq_true', Bool.not_eq_false'] at hc))
          all_goals first | (exfalso; omega) | (first | exact fincR | exact fincN)
        · rw [decide_eq_false hm] at h19
          clear hA hm
          refine ev_fn' A5 ?_
          repeat' (first | ((with_reducible first | apply S_0 | apply S_q1 | apply S_g | apply S_c); exact sgc) | (with_reducible first | apply SO_q | apply SG_t | apply SG_f0 | apply SG_f1 | apply S_nil | apply T_n | apply W_seq | apply W_region | apply SO_x | apply SC_t | apply SC_f | apply W_block | apply W_ret | apply W_skip | apply W_exit | apply T_r | apply T_e | apply B_n | apply B_e) | (with_reducible apply B_ne; focus decide) | (with_reducible first | apply B_r | apply R_e | apply R_r | apply H_e | apply H_r | apply G_e | apply G_r) | (with_reducible apply SC_n) | ((with_reducible first | apply SC_d | apply SG_d | apply SG_n | apply SC_b | apply SG_b) <;> intro hc <;> try simp only [decide_eq_true_eq, decide_eq_false_iff_not, Classical.not_not, Bool.not_eq_true', Bool.not_eq_false'] at hc))
          all_goals first | (exfalso; omega) | (first | exact fincR | exact fincN)
    · clear hB h13b h16 h19b lr3
      by_cases hp : ppE x a t = 0
      · obtain ⟨n, rfl⟩ : ∃ n : Nat, t = n := ⟨t.toNat, by have := pp_pos hp; omega⟩
        obtain ⟨m1, m2, m3⟩ := may_pp hp
        obtain ⟨a1, a2⟩ := hA m1
        subst a1; subst a2
        rw [decide_eq_true m1] at h19
        simp only [decide_true] at h12
        obtain ⟨id, G, cd, h10, g1, g2, g3⟩ := h10 (M ++ [some [.flat (.int .i64 a), .flat (.int .i64 n)]]) n hp
        have e1 : M ++ [some [AV.flat (.int .i64 a), .flat (.int .i64 n)]] ++ G = M ++ (some [AV.flat (.int .i64 a), .flat (.int .i64 n)] :: G) := by simp
        rw [e1] at h10 g2 g3
        obtain ⟨L, hL⟩ : ∃ L, L = n + Px.length := ⟨_, rfl⟩
        have hl : L = (List.replicate n a ++ Px).length := by rw [hL]; simp
        have hv := Vw.ms0 (cd := cd) (r0 := []) g2 (by rw [List.append_nil]; exact g3)
        rw [← hl] at hv
        rw [← hL] at h10
        have k20 := t20m (cd := cd) (Vw.list (M ++ (some [AV.flat (.int .i64 a), .flat (.int .i64 n)] :: G)) Px nx cx) g2 g3 hl (by rw [← hl]; omega) lx (by simp)
        have k21 := t21 hv (by rw [← hl]; omega)
        have k22 := t22 hv a (by rw [← hl]; omega)
        have k19 := t19 hv (by rw [← hl]; omega)
        rw [decide_eq_true m3] at k19
        rw [← hl, decide_eq_true (show List.drop (L - Px.length) (List.replicate n a ++ Px) = Px by rw [hL, Nat.add_sub_cancel]; exact List.drop_left' (by simp))] at k20
        have hL1 : L ≤ n + Px.length ∧ n + Px.length ≤ L := by omega
        rcases Nat.eq_zero_or_pos n with hn0 | hn0
        · have hn1 : ¬ 0 < n := by omega
          have k19z := k19
          rw [show (n : Int) = 0 by omega] at k19z
          clear hA hv hl g3 e1 h10e m3 k21 k22 hn0 hL hp m1
          refine ev_fn' A5 ?_
          repeat' (first | ((with_reducible first | apply S_0 | apply S_q1 | apply S_g | apply S_c); exact sgc) | (with_reducible first | apply SO_q | apply SG_t | apply SG_f0 | apply SG_f1 | apply S_nil | apply T_n | apply W_seq | apply W_region | apply SO_x | apply SC_t | apply SC_f | apply W_block | apply W_ret | apply W_skip | apply W_exit | apply T_r | apply T_e | apply B_n | apply B_e) | (with_reducible apply B_ne; focus decide) | (with_reducible first | apply B_r | apply R_e | apply R_r | apply H_e | apply H_r | apply G_e | apply G_r) | (with_reducible apply SC_n) | ((with_reducible first | apply SC_d | apply SG_d | apply SG_n | apply SC_b | apply SG_b) <;> intro hc <;> try simp only [decide_eq_true_eq, decide_eq_false_iff_not, Classical.not_not, Bool.not_eq_true', Bool.not_eq_false'] at hc))
          all_goals first | (exfalso; omega) | (first | exact fincR | exact fincN)
        · have hh : (List.replicate n a ++ Px).headD 0 = a ∧ a ∈ List.replicate n a ++ Px := by
            obtain ⟨k, rfl⟩ : ∃ k, n = k + 1 := ⟨n - 1, by omega⟩
            exact ⟨by simp [List.replicate_succ], by simp⟩
          rw [hh.1] at k21
          rw [decide_eq_true hh.2] at k22
          clear hA hv hl g3 e1 h10e m3 hL hp m1 hh
          refine ev_fn' A5 ?_
          repeat' (first | ((with_reducible first | apply S_0 | apply S_q1 | apply S_g | apply S_c); exact sgc) | (with_reducible first | apply SO_q | apply SG_t | apply SG_f0 | apply SG_f1 | apply S_nil | apply T_n | apply W_seq | apply W_region | apply SO_x | apply SC_t | apply SC_f | apply W_block | apply W_ret | apply W_skip | apply W_exit | apply T_r | apply T_e | apply B_n | apply B_e) | (with_reducible apply B_ne; focus decide) | (with_reducible first | apply B_r | apply R_e | apply R_r | apply H_e | apply H_r | apply G_e | apply G_r) | (with_reducible apply SC_n) | ((with_reducible first | apply SC_d | apply SG_d | apply SG_n | apply SC_b | apply SG_b) <;> intro hc <;> try simp only [decide_eq_true_eq, decide_eq_false_iff_not, Classical.not_not, Bool.not_eq_true', Bool.not_eq_false'] at hc))
          all_goals first | (exfalso; omega) | (first | exact fincR | exact fincN)
      · have h10e := fun M => h10e M hp
        clear h10
        generalize ppE x a t = pe at *
        by_cases hm : mayP x
        · obtain ⟨a1, a2⟩ := hA hm
          subst a1; subst a2
          rw [decide_eq_true hm] at h19
          simp only [decide_true] at h12
          clear hA hm
          refine ev_fn' A5 ?_
          repeat' (first | ((with_reducible first | apply S_0 | apply S_q1 | apply S_g | apply S_c); exact sgc) | (with_reducible first | apply SO_q | apply SG_t | apply SG_f0 | apply SG_f1 | apply S_nil | apply T_n | apply W_seq | apply W_region | apply SO_x | apply SC_t | apply SC_f | apply W_block | apply W_ret | apply W_skip | apply W_exit | apply T_r | apply T_e | apply B_n | apply B_e) | (with_reducible apply B_ne; focus decide) | (with_reducible first | apply B_r | apply R_e | apply R_r | apply H_e | apply H_r | apply G_e | apply G_r) | (with_reducible apply SC_n) | ((with_reducible first | apply SC_d | apply SG_d | apply SG_n | apply SC_b | apply SG_b) <;> intro hc <;> try simp only [decide_eq_true_eq, decide_eq_false_iff_not, Classical.not_not, Bool.not_eq_true', Bool.not_eq_false'] at hc))
          all_goals first | (exfalso; omega) | (first | exact fincR | exact fincN)
        · rw [decide_eq_false hm] at h19
          clear hA hm
          refine ev_fn' A5 ?_
          repeat' (first | ((with_reducible first | apply S_0 | apply S_q1 | apply S_g | apply S_c); exact sgc) | (with_reducible first | apply SO_q | apply SG_t | apply SG_f0 | apply SG_f1 | apply S_nil | apply T_n | apply W_seq | apply W_region | apply SO_x | apply SC_t | apply SC_f | apply W_block | apply W_ret | apply W_skip | apply W_exit | apply T_r | apply T_e | apply B_n | apply B_e) | (with_reducible apply B_ne; focus decide) | (with_reducible first | apply B_r | apply R_e | apply R_r | apply H_e | apply H_r | apply G_e | apply G_r) | (with_reducible apply SC_n) | ((with_reducible first | apply SC_d | apply SG_d | apply SG_n | apply SC_b | apply SG_b) <;> intro hc <;> try simp only [decide_eq_true_eq, decide_eq_false_iff_not, Classical.not_not, Bool.not_eq_true', Bool.not_eq_false'] at hc))
          all_goals first | (exfalso; omega) | (first | exact fincR | exact fincN)
  · refine ev_fn' A5 ?_
    repeat' (first | ((with_reducible first | apply S_0 | apply S_q1 | apply S_g | apply S_c); exact sgc) | (with_reducible first | apply SO_q | apply SG_t | apply SG_f0 | apply SG_f1 | apply S_nil | apply T_n | apply W_seq | apply W_region | apply SO_x | apply SC_t | apply SC_f | apply W_block | apply W_ret | apply W_skip | apply W_exit | apply T_r | apply T_e | apply B_n | apply B_e) | (with_reducible apply B_ne; focus decide) | (with_reducible first | apply B_r | apply R_e | apply R_r | apply H_e | apply H_r | apply G_e | apply G_r) | (with_reducible apply SC_n) | ((with_reducible first | apply SC_d | apply SG_d | apply SG_n | apply SC_b | apply SG_b) <;> intro hc <;> try simp only [decide_eq_true_eq, decide_eq_false_iff_not, Classical.not_not, Bool.not_eq_true', Bool.not_eq_false'] at hc))
    all_goals first | (refine ⟨by first | exact .inr rfl | exact .inl rfl, ?_⟩; simp (disch := first | assumption | decide | omega | exact List.getElem_mem _ | exact allI_ints _ | exact allI_rns _ | (simp only [List.length_take, List.length_drop, List.length_append, List.length_cons, List.length_nil, List.length_replicate, List.length_map, ints_len, rns_len]; omega)) only [resA, rvA, tupA, fin, frzV, frzTup, frzA, frz, isI, isI.all, Option.bind_some, go_sem, if_pos, if_neg, Nat.reduceBEq, Nat.reduceEqDiff, ↓reduceIte, Nat.reduceSub, Nat.reduceAdd, Int.reduceToNat, reduceCtorEq, Nat.reduceLeDiff, Nat.reduceLT, Nat.reduceMul, Nat.reduceDiv, Int.reduceLT, Int.reduceLE, Int.reduceEq, Int.reduceNe, Int.reduceAdd, Int.reduceSub, Int.reduceNeg, Int.reduceGT, Int.reduceGE, Int.reduceBEq, Int.reduceBNe, Int.reduceMul, *]) | (exfalso; omega)
theorem law_aspathBack (x0 x1 x2 : AV) (h0 : (DT.sl 1 (.int .i64)).Arg x0) (h1 : (DT.sl 2 dtRun).Arg x1) (h2 : dtRun.Arg x2) : ev pr 5 [x0, x1, x2] [] = some (.q (.flat (.bool true))) := by
  obtain ⟨l, ⟨nl, cd, rfl, h3⟩, h4, h5⟩ := ints_arg h0
  rw [maxLen_eq] at h5
  obtain ⟨R, nr, cr, rfl, _, h6, h7⟩ := runs_arg h1
  obtain ⟨xs, rfl, h8⟩ : ∃ xs, x2 = .agg xs ∧ dtRun.Has xs := h2
  obtain ⟨r, rfl, _, h9⟩ := run_has h8
  exact law5 h5 h6 (fun h => (h3 h).1) h4 h7 h9 []
end Go.Proofs.Ytfpaegklkdfmmaa.Av
