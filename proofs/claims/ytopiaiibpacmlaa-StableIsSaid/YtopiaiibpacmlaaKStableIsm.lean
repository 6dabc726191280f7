/- The law StableIs on the evaluator. -/
import Derived.Test.YtopiaiibpacmlaaX14
namespace Go.Proofs.Ytopiaiibpacmlaa.Av
open Go.RowKit
set_option linter.unusedSimpArgs false
set_option linter.unusedVariables false
set_option maxHeartbeats 10000000
theorem resp_mem (s L : List (List Int)) : resp s L = [] ∨ resp s L ∈ L := by
  unfold resp
  cases h : L.find? (fun p => decide (opn s p)) with
  | none => exact .inl rfl
  | some p => exact .inr (List.mem_of_find?_eq_some h)
theorem mayS_set {l : List Rks} {s : List Pth} {v : Nat} {r : Pth} (hm : MayS l.length l s) (hv1 : 1 ≤ v) (hv2 : v < l.length) (hr : r.l = [] ∨ r.l ∈ paths l[v].l) : MayS l.length l (s.set v r) := by
  obtain ⟨h1, h2, h3, h4⟩ := hm
  refine ⟨h1, by rw [List.length_set]; exact h2, fun h => ?_, fun u hu hu' hu1 => ?_⟩
  · rw [List.getElem_set_ne (by omega)]; exact h3 (by simpa using h)
  · by_cases huv : v = u
    · subst huv; rw [List.getElem_set_self]; exact hr
    · rw [List.getElem_set_ne huv]; exact h4 u (by simpa using hu) hu' hu1
theorem mayS_pl {l : List Rks} {s t : List Pth} (hm : MayS l.length l s) (h : pl t = pl s) : MayS l.length l t := by
  have hl : t.length = s.length := by have := congrArg List.length h; rwa [pl_len, pl_len] at this
  have hg : ∀ v (hv : v < t.length) (hv' : v < s.length), t[v].l = s[v].l := fun v hv hv' => by
    rw [← pl_getD hv, ← pl_getD hv', h]
  obtain ⟨h1, h2, h3, h4⟩ := hm
  refine ⟨h1, by rw [hl]; exact h2, fun h => ?_, fun u hu hu' hu1 => ?_⟩
  · rw [hg 0 h (by omega)]; exact h3 (by omega)
  · rw [hg u hu (by omega)]; exact h4 u (by omega) hu' hu1
theorem mayS_sq {l : List Rks} {s : List Pth} (hm : MayS l.length l s) : ∀ k, (∀ j, j < k → mvs (plX l) (pl (sq l s j)) l.length ≠ []) → MayS l.length l (sq l s k)
  | 0, _ => mayS_pl hm (cln_l s)
  | k + 1, h => by
    have ih := mayS_sq hm k fun j hj => h j (by omega)
    obtain ⟨u, hu, hu1, hu2, _⟩ := hd_mem (h k (by omega))
    rw [sq, stp, hu, Int.toNat_natCast, lD hu2]
    exact mayS_set ih hu1 hu2 (resp_mem _ _)
theorem sq_evF {l : List Rks} {s : List Pth} (hX : MayX l.length l) (hm : MayS l.length l s) {j : Nat} (h1 : ∀ i, i < j → mvs (plX l) (pl (sq l s i)) l.length ≠ []) (h2 : mvs (plX l) (pl (sq l s j)) l.length = []) : pl (sq l s j) ∈ evF (plX l) := by
  obtain ⟨g1, g2, g3, g4⟩ := mayS_sq hm j h1
  have hl : 1 ≤ l.length := by have := hX.1; omega
  refine List.mem_filter.2 ⟨(sts_mem (fun e => by have h1 := plX_len l; rw [e] at h1; simp only [List.length_nil] at h1; omega)).2 ⟨by rw [pl_len, plX_len]; omega, ?_, fun v hv1 hv2 => ?_⟩, ?_⟩
  · rw [pl_getD (by omega)]; exact g3 (by omega)
  · rw [plX_len] at hv2
    rw [pl_getD (by omega), plX_get hv2]; exact g4 v (by omega) hv2 hv1
  · simp only [decide_eq_true_eq]
    intro v hv1 hv2
    rw [plX_len] at hv2
    exact mvs_nil.1 h2 v hv1 hv2
/-- What the first loop finds. -/
noncomputable def wnt (n : Int) (l : List Rks) (x : List Sta) (i : Nat) : Bool := @decide (MayX n l ∧ ∀ j, j < i → okI n l x j) (Classical.propDecidable _)
theorem wnt_0 (n : Int) (l : List Rks) (x : List Sta) : wnt n l x 0 = decide (MayX n l) := by
  by_cases h : MayX n l
  · rw [decide_eq_true h]; exact @decide_eq_true _ (Classical.propDecidable _) ⟨h, fun j hj => by omega⟩
  · rw [decide_eq_false h]; exact @decide_eq_false _ (Classical.propDecidable _) fun g => h g.1
theorem wnt_t {n : Int} {l : List Rks} {x : List Sta} {i : Nat} (h : wnt n l x i = true) : MayX n l ∧ ∀ j, j < i → okI n l x j := @of_decide_eq_true _ (Classical.propDecidable _) h
theorem wnt_s {n : Int} {l : List Rks} {x : List Sta} {i : Nat} (h : wnt n l x i = true) (ho : okI n l x i) : wnt n l x (i + 1) = true := @decide_eq_true _ (Classical.propDecidable _) ⟨(wnt_t h).1, ext1 (wnt_t h).2 ho⟩
theorem wnt_n {n : Int} {l : List Rks} {x : List Sta} {i : Nat} (ho : ¬ okI n l x i) : wnt n l x (i + 1) = false := @decide_eq_false _ (Classical.propDecidable _) fun g => ho (g.2 i (by omega))
theorem wnt_f {n : Int} {l : List Rks} {x : List Sta} {i : Nat} (h : wnt n l x i = false) : wnt n l x (i + 1) = false := @decide_eq_false _ (Classical.propDecidable _) fun g => @of_decide_eq_false _ (Classical.propDecidable _) h ⟨g.1, fun j hj => g.2 j (by omega)⟩
theorem wnt_L (n : Int) (l : List Rks) (x : List Sta) : decide (isL n l x) = wnt n l x x.length := by
  by_cases h : isL n l x
  · rw [decide_eq_true h]; exact (@decide_eq_true _ (Classical.propDecidable _) ⟨h.2, h.1⟩).symm
  · rw [decide_eq_false h]; exact (@decide_eq_false _ (Classical.propDecidable _) fun g => h ⟨g.2, g.1⟩).symm
/-- Is it among the first ones? -/
noncomputable def amg (fs : List Sta) (t : List Pa) (k : Nat) : Bool := @decide (∃ j, j < k ∧ ∃ h : j < fs.length, Sta.l fs[j] = t) (Classical.propDecidable _)
theorem amg_0 (fs : List Sta) (t : List Pa) : amg fs t 0 = false := @decide_eq_false _ (Classical.propDecidable _) fun ⟨j, hj, _⟩ => by omega
theorem amg_t {fs : List Sta} {t : List Pa} {k : Nat} (h : amg fs t k = true) : amg fs t (k + 1) = true := by
  obtain ⟨j, hj, h1⟩ := @of_decide_eq_true _ (Classical.propDecidable _) h
  exact @decide_eq_true _ (Classical.propDecidable _) ⟨j, by omega, h1⟩
theorem amg_s {fs : List Sta} {t : List Pa} {k : Nat} (h : amg fs t k = false) (hk : k < fs.length) : amg fs t (k + 1) = decide (Sta.l fs[k] = t) := by
  have hn := @of_decide_eq_false _ (Classical.propDecidable _) h
  by_cases he : Sta.l fs[k] = t
  · rw [decide_eq_true he]; exact @decide_eq_true _ (Classical.propDecidable _) ⟨k, by omega, hk, he⟩
  · rw [decide_eq_false he]
    refine @decide_eq_false _ (Classical.propDecidable _) fun ⟨j, hj, h1⟩ => ?_
    rcases Nat.lt_succ_iff_lt_or_eq.1 hj with h2 | rfl
    · exact hn ⟨j, h2, h1⟩
    · exact he h1.2
theorem amg_mem {fs : List Sta} {t : List Pa} (h : t ∈ fs.map Sta.l) : amg fs t fs.length = true := by
  obtain ⟨a, ha, rfl⟩ := List.mem_map.1 h
  obtain ⟨j, hj, rfl⟩ := List.mem_iff_getElem.1 ha
  exact @decide_eq_true _ (Classical.propDecidable _) ⟨j, hj, hj, rfl⟩
theorem law17 (n : Int) (l : List Rks) (nl cd : Bool) (x : List Sta) (nx cx : Bool) (hl : l.length ≤ 9223372036854775807) (hx : x.length ≤ 9223372036854775807) (hs : ∀ a ∈ x, a.s.length ≤ 9223372036854775807) (M : MS) :
    ev pr 17 [.agg [.flat (.int .i64 n), .list 1 (l.map Rks.av) nl cd], .list 1 (x.map Sta.av) nx cx] M = some (.q (.flat (.bool true))) := by
  have h48 := lives23
  obtain ⟨b, h47, hb⟩ := t47 n l nl cd (M ++ [some [.flat (.int .i64 n), .list 1 (l.map Rks.av) nl cd]]) hl
  cases b with
  | false =>
    clear hb hs
    refine ev_fn' A17 ?_
    repeat' (first | ((with_reducible first | apply S_0 | apply S_q1 | apply S_g | apply S_c); exact sgc) | (with_reducible first | apply SO_q | apply SG_t | apply SG_f0 | apply SG_f1 | apply S_nil | apply T_n | apply W_seq | apply W_region | apply SO_x | apply SC_t | apply SC_f | apply W_block | apply W_ret | apply W_skip | apply W_exit | apply T_r | apply T_e | apply B_n | apply B_e) | (with_reducible apply B_ne; focus decide) | (with_reducible first | apply B_r | apply R_e | apply R_r | apply H_e | apply H_r | apply G_e | apply G_r) | (with_reducible apply SC_n) | ((with_reducible first | apply SC_d | apply SG_d | apply SG_n | apply SC_b | apply SG_b) <;> intro hc <;> try simp only [decide_eq_true_eq, decide_eq_false_iff_not, Classical.not_not, Bool.not_eq_true', Bool.not_eq_false'] at hc))
    (first | exact fincR | exact fincN)
  | true =>
  obtain ⟨hS, hbd⟩ := hb rfl
  clear hb
  by_cases h20 : x.length ≤ 20
  · have h20Z : ¬ (20 : Int) < x.length := by omega
    have hbd2 : MayX n l → (fdsT (trX l)).length ≤ 3000 ∧ stpT (trX l) ≤ 36000 := fun h => by
      obtain rfl : n = l.length := h.2.2.1.symm
      exact stp_trX h hS (hbd h)
    obtain ⟨o1, h49, fs, n', c', rfl, hfs⟩ := t49 (n := n) (m := 5000) (st := 1048576) (nl := nl) (cd := cd) (M := M ++ [some [.flat (.int .i64 n), .list 1 (l.map Rks.av) nl cd]]) hS (by omega) fun h => (hbd2 h).1
    have h31 := fun M => t31 n l nl cd M hl
    have w0 := wnt_0 n l x
    obtain ⟨U, hU⟩ : ∃ U, Hid (U = wnt n l x) := ⟨_, show _ = _ from rfl⟩
    have u0 : decide (MayX n l) = U 0 := by rw [show U = wnt n l x from hU]; exact w0.symm
    rw [u0] at h31
    clear w0 u0
    -- what All says
    have hall : ∃ (K E : Int), ev pr 49 [.agg [.flat (.int .i64 n), .list 1 (l.map Rks.av) nl cd], .flat (.int .i64 5000), .flat (.int .i64 1048576)] (M ++ [some [.flat (.int .i64 n), .list 1 (l.map Rks.av) nl cd]]) = some (.q (.tup [.list 1 (fs.map Sta.av) n' c', .flat (.int .i64 K), .flat (.int .i64 E)])) ∧
        (E = 0 → n = l.length ∧ MayX l.length l ∧ fs.map Sta.l = evF (plX l) ∧ fs.length ≤ 3000) := by
      refine ⟨_, _, h49, fun hE => ?_⟩
      by_cases hX : MayX n l
      · obtain rfl : n = l.length := hX.2.2.1.symm
        obtain ⟨hf, hs⟩ := hbd2 hX
        have ha : ans49 l.length 5000 1048576 l = (fdsT (trX l), (stpT (trX l) : Int), 0) := by
          rw [ans49, if_neg, if_pos ⟨by omega, by omega⟩]
          rintro (h | h)
          · omega
          · exact h ⟨hX, by omega⟩
        rw [ha] at hfs
        have hfl : fs.length ≤ 3000 := by
          have := congrArg List.length hfs
          simp only [List.length_map] at this
          omega
        exact ⟨rfl, hX, hfs.trans (fds_trX hX), hfl⟩
      · rw [ans49, if_pos (.inr fun g => hX g.1)] at hE; simp at hE
    obtain ⟨K, E, h49', hE⟩ := hall
    clear h49 hfs hbd hbd2
    refine ev_fn' A17 ?_
    repeat' (first | ((with_reducible first | apply S_0 | apply S_q1 | apply S_g | apply S_c); exact sgc) | (with_reducible first | apply SO_q | apply SG_t | apply SG_f0 | apply SG_f1 | apply S_nil | apply T_n | apply W_seq | apply W_region | apply SO_x | apply SC_t | apply SC_f | apply W_block | apply W_ret | apply W_skip | apply W_exit | apply T_r | apply T_e | apply B_n | apply B_e) | (with_reducible apply B_ne; focus decide) | (with_reducible first | apply B_r | apply R_e | apply R_r | apply H_e | apply H_r | apply G_e | apply G_r) | (with_reducible apply SC_n) | ((with_reducible first | apply SC_d | apply SG_d | apply SG_n | apply SC_b | apply SG_b) <;> intro hc <;> try simp only [decide_eq_true_eq, decide_eq_false_iff_not, Classical.not_not, Bool.not_eq_true', Bool.not_eq_false'] at hc))
    refine W_rng 6 0 x.length (fun i e => (∀ j, j < i → ∀ h : j < x.length, SmallS x[j].s) ∧ e 5 = .flat (.bool (U i))) (by simp only [asg, asgO, List.append_nil, List.nil_append, List.cons_append]; rfl) (by exact svc) (by omega) ⟨fun j hj => by omega, by exact svc⟩ ?_
    rintro i e _ hi hk e6 ⟨hsm, e5⟩
    have k1 : e 1 = .list 1 (x.map Sta.av) nx cx := by rw [hk 1 rfl]; exact svc
    have k2 : e 2 = .mptr M.length 0 := by rw [hk 2 rfl]; exact svc
    clear hk
    rcases Nat.lt_or_ge i x.length with hlt | hlt
    · have hltZ : (i : Int) < x.length := by omega
      have hsi := hs _ (List.getElem_mem hlt)
      have h62 := fun M => t62 x[i].s x[i].ns x[i].cs M hsi
      by_cases hSi : SmallS x[i].s
      · have hstep := fun b (hb : U (i + 1) = b) => hb
        rw [decide_eq_true hSi] at h62
        have hs12 : x[i].s.length ≤ 1000 := by have := hSi.1; omega
        have hsm2 : ∀ j, j < i + 1 → ∀ h : j < x.length, SmallS x[j].s := ext1 hsm fun _ => hSi
        obtain ⟨b, hb⟩ : ∃ b, U i = b := ⟨_, rfl⟩
        cases b with
        | false =>
          have hb2 : U (i + 1) = false := by rw [show U = wnt n l x from hU] at hb ⊢; exact wnt_f hb
          clear hs hsm hSi hE hstep hS
          rw [hb] at e5
          repeat' (first | ((with_reducible first | apply S_0 | apply S_q1 | apply S_g | apply S_c); exact sgc) | (with_reducible first | apply SO_q | apply SG_t | apply SG_f0 | apply SG_f1 | apply S_nil | apply T_n | apply W_seq | apply W_region | apply SO_x | apply SC_t | apply SC_f | apply W_block | apply W_ret | apply W_skip | apply W_exit | apply T_r | apply T_e | apply B_n | apply B_e) | (with_reducible apply B_ne; focus decide) | (with_reducible first | apply B_r | apply R_e | apply R_r | apply H_e | apply H_r | apply G_e | apply G_r) | (with_reducible apply SC_n) | ((with_reducible first | apply SC_d | apply SG_d | apply SG_n | apply SC_b | apply SG_b) <;> intro hc <;> try simp only [decide_eq_true_eq, decide_eq_false_iff_not, Classical.not_not, Bool.not_eq_true', Bool.not_eq_false'] at hc))
          exact H_n (by exact svc) hlt ⟨hsm2, by exact svc⟩
        | true =>
          have hw : wnt n l x i = true := by rw [← show U = wnt n l x from hU]; exact hb
          obtain ⟨hX, hok⟩ := wnt_t hw
          obtain rfl : n = l.length := hX.2.2.1.symm
          have h21 := fun M => t21 l.length l nl cd x[i].s x[i].ns x[i].cs M hS hs12
          rw [hb] at e5
          by_cases hm : MayS l.length l x[i].s
          · rw [decide_eq_true hm] at h21
            obtain ⟨_, q1, q2, _⟩ := mayS_n hm
            have h45 := fun M => t45 (nl := nl) (cd := cd) (M := M) (Vw.list M Pth.av x[i].s x[i].ns x[i].cs) hX hS q1 hm.2.2.1
            by_cases hst : StabP (plX l) (pl x[i].s)
            · rw [decide_eq_true hst] at h45
              rcases Nat.eq_zero_or_pos i with rfl | h0
              · have hb2 : U (0 + 1) = true := by rw [show U = wnt l.length l x from hU]; exact wnt_s hw fun _ => ⟨⟨hm, hst⟩, fun h => absurd h (by omega)⟩
                have hltZ' : (0 : Int) < x.length := by omega
                clear hs hsm hSi hE hstep hS hX hok hm hst
                repeat' (first | ((with_reducible first | apply S_0 | apply S_q1 | apply S_g | apply S_c); exact sgc) | (with_reducible first | apply SO_q | apply SG_t | apply SG_f0 | apply SG_f1 | apply S_nil | apply T_n | apply W_seq | apply W_region | apply SO_x | apply SC_t | apply SC_f | apply W_block | apply W_ret | apply W_skip | apply W_exit | apply T_r | apply T_e | apply B_n | apply B_e) | (with_reducible apply B_ne; focus decide) | (with_reducible first | apply B_r | apply R_e | apply R_r | apply H_e | apply H_r | apply G_e | apply G_r) | (with_reducible apply SC_n) | ((with_reducible first | apply SC_d | apply SG_d | apply SG_n | apply SC_b | apply SG_b) <;> intro hc <;> try simp only [decide_eq_true_eq, decide_eq_false_iff_not, Classical.not_not, Bool.not_eq_true', Bool.not_eq_false'] at hc))
                all_goals exact H_n (by exact svc) hlt ⟨hsm2, by exact svc⟩
              · obtain ⟨k, rfl⟩ : ∃ k : Nat, i = k + 1 := ⟨i - 1, by omega⟩
                have hlk : k < x.length := by omega
                obtain ⟨⟨hmk, _⟩, _⟩ := hok k (by omega) hlk
                obtain ⟨_, q3, _, _⟩ := mayS_n hmk
                have h58 := fun M => t58 l nl cd x[k].s x[k + 1].s x[k].ns x[k].cs x[k + 1].ns x[k + 1].cs M hS q3 q1 q2
                obtain ⟨C, hC⟩ : ∃ C, C = cmpS (plX l) (pl x[k].s) (pl x[k + 1].s) := ⟨_, rfl⟩
                rw [← hC] at h58
                have hv : cmpV l.length l x[k].s x[k + 1].s = C := by rw [cmpV, if_pos ⟨hmk, hm⟩, hC]
                have hk1 : (k : Int) + 1 - 1 = k := by omega
                have hk3 : (k : Int) + 1 < x.length := by omega
                have hk4 : ¬ (k : Int) + 1 = 0 := by omega
                have hk5 : (k : Int) + 1 + 1 = k + 2 := by omega
                by_cases hcm : C < 0
                · have hb2 : U (k + 1 + 1) = true := by
                    rw [show U = wnt l.length l x from hU]
                    exact wnt_s hw fun _ => ⟨⟨hm, hst⟩, fun _ => by simp only [Nat.add_sub_cancel]; omega⟩
                  clear hs hsm hSi hE hstep hS hX hok hm hst hmk hC hv
                  repeat' (first | ((with_reducible first | apply S_0 | apply S_q1 | apply S_g | apply S_c); exact sgc) | (with_reducible first | apply SO_q | apply SG_t | apply SG_f0 | apply SG_f1 | apply S_nil | apply T_n | apply W_seq | apply W_region | apply SO_x | apply SC_t | apply SC_f | apply W_block | apply W_ret | apply W_skip | apply W_exit | apply T_r | apply T_e | apply B_n | apply B_e) | (with_reducible apply B_ne; focus decide) | (with_reducible first | apply B_r | apply R_e | apply R_r | apply H_e | apply H_r | apply G_e | apply G_r) | (with_reducible apply SC_n) | ((with_reducible first | apply SC_d | apply SG_d | apply SG_n | apply SC_b | apply SG_b) <;> intro hc <;> try simp only [decide_eq_true_eq, decide_eq_false_iff_not, Classical.not_not, Bool.not_eq_true', Bool.not_eq_false'] at hc))
                  all_goals exact H_n (by exact svc) hlt ⟨hsm2, by exact svc⟩
                · have hb2 : U (k + 1 + 1) = false := by
                    rw [show U = wnt l.length l x from hU]
                    refine wnt_n fun h => ?_
                    have := (h hlt).2 (by omega)
                    simp only [Nat.add_sub_cancel] at this; omega
                  clear hs hsm hSi hE hstep hS hX hok hm hst hmk hC hv
                  repeat' (first | ((with_reducible first | apply S_0 | apply S_q1 | apply S_g | apply S_c); exact sgc) | (with_reducible first | apply SO_q | apply SG_t | apply SG_f0 | apply SG_f1 | apply S_nil | apply T_n | apply W_seq | apply W_region | apply SO_x | apply SC_t | apply SC_f | apply W_block | apply W_ret | apply W_skip | apply W_exit | apply T_r | apply T_e | apply B_n | apply B_e) | (with_reducible apply B_ne; focus decide) | (with_reducible first | apply B_r | apply R_e | apply R_r | apply H_e | apply H_r | apply G_e | apply G_r) | (with_reducible apply SC_n) | ((with_reducible first | apply SC_d | apply SG_d | apply SG_n | apply SC_b | apply SG_b) <;> intro hc <;> try simp only [decide_eq_true_eq, decide_eq_false_iff_not, Classical.not_not, Bool.not_eq_true', Bool.not_eq_false'] at hc))
                  all_goals exact H_n (by exact svc) hlt ⟨hsm2, by exact svc⟩
            · rw [decide_eq_false hst] at h45
              have hb2 : U (i + 1) = false := by rw [show U = wnt l.length l x from hU]; exact wnt_n fun h => hst (h hlt).1.2
              clear hs hsm hSi hE hstep hS hX hok hm hst
              repeat' (first | ((with_reducible first | apply S_0 | apply S_q1 | apply S_g | apply S_c); exact sgc) | (with_reducible first | apply SO_q | apply SG_t | apply SG_f0 | apply SG_f1 | apply S_nil | apply T_n | apply W_seq | apply W_region | apply SO_x | apply SC_t | apply SC_f | apply W_block | apply W_ret | apply W_skip | apply W_exit | apply T_r | apply T_e | apply B_n | apply B_e) | (with_reducible apply B_ne; focus decide) | (with_reducible first | apply B_r | apply R_e | apply R_r | apply H_e | apply H_r | apply G_e | apply G_r) | (with_reducible apply SC_n) | ((with_reducible first | apply SC_d | apply SG_d | apply SG_n | apply SC_b | apply SG_b) <;> intro hc <;> try simp only [decide_eq_true_eq, decide_eq_false_iff_not, Classical.not_not, Bool.not_eq_true', Bool.not_eq_false'] at hc))
              all_goals exact H_n (by exact svc) hlt ⟨hsm2, by exact svc⟩
          · rw [decide_eq_false hm] at h21
            have hb2 : U (i + 1) = false := by rw [show U = wnt l.length l x from hU]; exact wnt_n fun h => hm (h hlt).1.1
            clear hs hsm hSi hE hstep hS hX hok hm
            repeat' (first | ((with_reducible first | apply S_0 | apply S_q1 | apply S_g | apply S_c); exact sgc) | (with_reducible first | apply SO_q | apply SG_t | apply SG_f0 | apply SG_f1 | apply S_nil | apply T_n | apply W_seq | apply W_region | apply SO_x | apply SC_t | apply SC_f | apply W_block | apply W_ret | apply W_skip | apply W_exit | apply T_r | apply T_e | apply B_n | apply B_e) | (with_reducible apply B_ne; focus decide) | (with_reducible first | apply B_r | apply R_e | apply R_r | apply H_e | apply H_r | apply G_e | apply G_r) | (with_reducible apply SC_n) | ((with_reducible first | apply SC_d | apply SG_d | apply SG_n | apply SC_b | apply SG_b) <;> intro hc <;> try simp only [decide_eq_true_eq, decide_eq_false_iff_not, Classical.not_not, Bool.not_eq_true', Bool.not_eq_false'] at hc))
            all_goals exact H_n (by exact svc) hlt ⟨hsm2, by exact svc⟩
      · rw [decide_eq_false hSi] at h62
        clear hs hsm hSi hE hS
        repeat' (first | ((with_reducible first | apply S_0 | apply S_q1 | apply S_g | apply S_c); exact sgc) | (with_reducible first | apply SO_q | apply SG_t | apply SG_f0 | apply SG_f1 | apply S_nil | apply T_n | apply W_seq | apply W_region | apply SO_x | apply SC_t | apply SC_f | apply W_block | apply W_ret | apply W_skip | apply W_exit | apply T_r | apply T_e | apply B_n | apply B_e) | (with_reducible apply B_ne; focus decide) | (with_reducible first | apply B_r | apply R_e | apply R_r | apply H_e | apply H_r | apply G_e | apply G_r) | (with_reducible apply SC_n) | ((with_reducible first | apply SC_d | apply SG_d | apply SG_n | apply SC_b | apply SG_b) <;> intro hc <;> try simp only [decide_eq_true_eq, decide_eq_false_iff_not, Classical.not_not, Bool.not_eq_true', Bool.not_eq_false'] at hc))
        (first | exact fincR | exact fincN)
    · have hltZ : ¬ (i : Int) < x.length := by omega
      obtain rfl : i = x.length := by omega
      have hsmall : ∀ a ∈ x, SmallS a.s := all_of (Q := fun a => SmallS a.s) hlt hsm
      have h68 := fun M => t68 n l nl cd x nx cx M hS (by omega) fun a ha => by have := (hsmall a ha).1; omega
      rw [wnt_L, ← show U = wnt n l x from hU] at h68
      obtain ⟨wb, hwb⟩ : ∃ wb, U x.length = wb := ⟨_, rfl⟩
      rw [hwb] at h68 e5
      have hne : ∀ b : Bool, (b != b) = false := fun b => by cases b <;> rfl
      clear hwb hs hsm
      by_cases hE0 : E = 0
      · obtain ⟨rfl, hX, hfs, hfl⟩ := hE hE0
        subst hE0
        have hsmf := evF_small hX hS hfs
        have h12 := hS.1
        clear hE
        cases wb
        all_goals
          repeat' (first | ((with_reducible first | apply S_0 | apply S_q1 | apply S_g | apply S_c); exact sgc) | (with_reducible first | apply SO_q | apply SG_t | apply SG_f0 | apply SG_f1 | apply S_nil | apply T_n | apply W_seq | apply W_region | apply SO_x | apply SC_t | apply SC_f | apply W_block | apply W_ret | apply W_skip | apply W_exit | apply T_r | apply T_e | apply B_n | apply B_e) | (with_reducible apply B_ne; focus decide) | (with_reducible first | apply B_r | apply R_e | apply R_r | apply H_e | apply H_r | apply G_e | apply G_r) | (with_reducible apply SC_n) | ((with_reducible first | apply SC_d | apply SG_d | apply SG_n | apply SC_b | apply SG_b) <;> intro hc <;> try simp only [decide_eq_true_eq, decide_eq_false_iff_not, Classical.not_not, Bool.not_eq_true', Bool.not_eq_false'] at hc))
          refine W_rng 10 0 x.length (fun i _ => True) (by simp only [asg, asgO, List.append_nil, List.nil_append, List.cons_append]; rfl) (by exact svc) (by omega) trivial ?_
          rintro i e2 _ hi2 hk2 e10 _
          have j1 : e2 1 = .list 1 (x.map Sta.av) nx cx := by rw [hk2 1 rfl]; exact svc
          have j2 : e2 2 = .mptr M.length 0 := by rw [hk2 2 rfl]; exact svc
          have j7 : e2 7 = .list 1 (fs.map Sta.av) n' c' := by rw [hk2 7 rfl]; exact svc
          have j9 : e2 9 = .flat (.int .i64 0) := by rw [hk2 9 rfl]; exact svc
          clear hk2
          rcases Nat.lt_or_ge i x.length with hlt2 | hlt2
          · have hltZ2 : (i : Int) < x.length := by omega
            have hex : ∃ (t : List Pth) (na ca : Bool) (k er : Int), ev pr 20 [.agg [.flat (.int .i64 l.length), .list 1 (l.map Rks.av) nl cd], .list 1 (x[i].s.map Pth.av) x[i].ns x[i].cs, .flat (.int .i64 200)] (M ++ [some [.flat (.int .i64 l.length), .list 1 (l.map Rks.av) nl cd]]) = some (.q (.tup [.list 1 (t.map Pth.av) na ca, .flat (.int .i64 k), .flat (.int .i64 er)])) ∧ (er = 0 → pl t ∈ fs.map Sta.l) := by
              obtain ⟨a, k, er, h20c, g1, g2⟩ := t20 l.length l nl cd x[i].s x[i].ns x[i].cs 200 (M ++ [some [.flat (.int .i64 l.length), .list 1 (l.map Rks.av) nl cd]]) hS (hsmall _ (List.getElem_mem hlt2)) (by omega)
              by_cases hm : MayS l.length l x[i].s
              · rcases g2 hm (by omega) with ⟨j, _, q1, q2, rfl, rfl, rfl⟩ | ⟨_, rfl, rfl, rfl⟩
                · exact ⟨_, _, _, _, _, h20c, fun _ => by rw [hfs]; exact sq_evF hX hm q1 q2⟩
                · exact ⟨[], true, true, _, _, h20c, fun h => absurd h (by decide)⟩
              · obtain ⟨rfl, rfl, rfl⟩ := g1 fun h => hm h.1
                exact ⟨[], true, true, _, _, h20c, fun h => absurd h (by decide)⟩
            obtain ⟨t, na, ca, k, er, h20c, her⟩ := hex
            obtain ⟨V, hV⟩ : ∃ V, Hid (V = amg fs (pl t)) := ⟨_, show _ = _ from rfl⟩
            have v0 : V 0 = false := by rw [show V = amg fs (pl t) from hV]; exact amg_0 _ _
            have hsmall' : Hid (∀ a ∈ x, SmallS a.s) := hsmall
            have hfsH : Hid (fs.map Sta.l = evF (plX l)) := hfs
            have herH : Hid (er = 0 → pl t ∈ fs.map Sta.l) := her
            clear hsmall hfs her hX hS
            repeat' (first | ((with_reducible first | apply S_0 | apply S_q1 | apply S_g | apply S_c); exact sgc) | (with_reducible first | apply SO_q | apply SG_t | apply SG_f0 | apply SG_f1 | apply S_nil | apply T_n | apply W_seq | apply W_region | apply SO_x | apply SC_t | apply SC_f | apply W_block | apply W_ret | apply W_skip | apply W_exit | apply T_r | apply T_e | apply B_n | apply B_e) | (with_reducible apply B_ne; focus decide) | (with_reducible first | apply B_r | apply R_e | apply R_r | apply H_e | apply H_r | apply G_e | apply G_r) | (with_reducible apply SC_n) | ((with_reducible first | apply SC_d | apply SG_d | apply SG_n | apply SC_b | apply SG_b) <;> intro hc <;> try simp only [decide_eq_true_eq, decide_eq_false_iff_not, Classical.not_not, Bool.not_eq_true', Bool.not_eq_false'] at hc))
            refine W_rng 15 0 fs.length (fun k e => e 14 = .flat (.bool (V k))) (by simp only [asg, asgO, List.append_nil, List.nil_append, List.cons_append]; rfl) (by exact svc) (by omega) (by exact svc) ?_
            rintro q e3 _ hq hk3 e15 e14
            have i1 : e3 1 = .list 1 (x.map Sta.av) nx cx := by rw [hk3 1 rfl]; exact svc
            have i2 : e3 2 = .mptr M.length 0 := by rw [hk3 2 rfl]; exact svc
            have i7 : e3 7 = .list 1 (fs.map Sta.av) n' c' := by rw [hk3 7 rfl]; exact svc
            have i9 : e3 9 = .flat (.int .i64 0) := by rw [hk3 9 rfl]; exact svc
            have i10 : e3 10 = .flat (.int .i64 i) := by rw [hk3 10 rfl]; exact svc
            have i11 : e3 11 = .list 1 (t.map Pth.av) na ca := by rw [hk3 11 rfl]; exact svc
            have i13 : e3 13 = .flat (.int .i64 er) := by rw [hk3 13 rfl]; exact svc
            clear hk3 j1 j2 j7 j9 e10
            rcases Nat.lt_or_ge q fs.length with hqlt | hqlt
            · have hqZ : (q : Int) < fs.length := by omega
              obtain ⟨b, hb⟩ : ∃ b, V q = b := ⟨_, rfl⟩
              rw [hb] at e14
              cases b with
              | true =>
                have hb2 : V (q + 1) = true := by rw [show V = amg fs (pl t) from hV] at hb ⊢; exact amg_t hb
                repeat' (first | ((with_reducible first | apply S_0 | apply S_q1 | apply S_g | apply S_c); exact sgc) | (with_reducible first | apply SO_q | apply SG_t | apply SG_f0 | apply SG_f1 | apply S_nil | apply T_n | apply W_seq | apply W_region | apply SO_x | apply SC_t | apply SC_f | apply W_block | apply W_ret | apply W_skip | apply W_exit | apply T_r | apply T_e | apply B_n | apply B_e) | (with_reducible apply B_ne; focus decide) | (with_reducible first | apply B_r | apply R_e | apply R_r | apply H_e | apply H_r | apply G_e | apply G_r) | (with_reducible apply SC_n) | ((with_reducible first | apply SC_d | apply SG_d | apply SG_n | apply SC_b | apply SG_b) <;> intro hc <;> try simp only [decide_eq_true_eq, decide_eq_false_iff_not, Classical.not_not, Bool.not_eq_true', Bool.not_eq_false'] at hc))
                exact H_n (by exact svc) hqlt (by exact svc)
              | false =>
                have hb2 : V (q + 1) = decide (pl fs[q].s = pl t) := by rw [show V = amg fs (pl t) from hV] at hb ⊢; exact amg_s hb hqlt
                have h24 := fun M => t24 fs[q].s t fs[q].ns fs[q].cs na ca M (by have := hsmf _ (List.getElem_mem hqlt); omega)
                rw [← hb2] at h24
                clear hb2
                repeat' (first | ((with_reducible first | apply S_0 | apply S_q1 | apply S_g | apply S_c); exact sgc) | (with_reducible first | apply SO_q | apply SG_t | apply SG_f0 | apply SG_f1 | apply S_nil | apply T_n | apply W_seq | apply W_region | apply SO_x | apply SC_t | apply SC_f | apply W_block | apply W_ret | apply W_skip | apply W_exit | apply T_r | apply T_e | apply B_n | apply B_e) | (with_reducible apply B_ne; focus decide) | (with_reducible first | apply B_r | apply R_e | apply R_r | apply H_e | apply H_r | apply G_e | apply G_r) | (with_reducible apply SC_n) | ((with_reducible first | apply SC_d | apply SG_d | apply SG_n | apply SC_b | apply SG_b) <;> intro hc <;> try simp only [decide_eq_true_eq, decide_eq_false_iff_not, Classical.not_not, Bool.not_eq_true', Bool.not_eq_false'] at hc))
                exact H_n (by exact svc) hqlt (by exact svc)
            · have hqZ : ¬ (q : Int) < fs.length := by omega
              obtain rfl : q = fs.length := by omega
              by_cases he0 : er = 0
              · have hv : V fs.length = true := by rw [show V = amg fs (pl t) from hV]; exact amg_mem ((show er = 0 → pl t ∈ fs.map Sta.l from herH) he0)
                rw [hv] at e14
                clear hsmf
                repeat' (first | ((with_reducible first | apply S_0 | apply S_q1 | apply S_g | apply S_c); exact sgc) | (with_reducible first | apply SO_q | apply SG_t | apply SG_f0 | apply SG_f1 | apply S_nil | apply T_n | apply W_seq | apply W_region | apply SO_x | apply SC_t | apply SC_f | apply W_block | apply W_ret | apply W_skip | apply W_exit | apply T_r | apply T_e | apply B_n | apply B_e) | (with_reducible apply B_ne; focus decide) | (with_reducible first | apply B_r | apply R_e | apply R_r | apply H_e | apply H_r | apply G_e | apply G_r) | (with_reducible apply SC_n) | ((with_reducible first | apply SC_d | apply SG_d | apply SG_n | apply SC_b | apply SG_b) <;> intro hc <;> try simp only [decide_eq_true_eq, decide_eq_false_iff_not, Classical.not_not, Bool.not_eq_true', Bool.not_eq_false'] at hc))
                exact H_n (by exact svc) hlt2 trivial
              · clear hsmf
                repeat' (first | ((with_reducible first | apply S_0 | apply S_q1 | apply S_g | apply S_c); exact sgc) | (with_reducible first | apply SO_q | apply SG_t | apply SG_f0 | apply SG_f1 | apply S_nil | apply T_n | apply W_seq | apply W_region | apply SO_x | apply SC_t | apply SC_f | apply W_block | apply W_ret | apply W_skip | apply W_exit | apply T_r | apply T_e | apply B_n | apply B_e) | (with_reducible apply B_ne; focus decide) | (with_reducible first | apply B_r | apply R_e | apply R_r | apply H_e | apply H_r | apply G_e | apply G_r) | (with_reducible apply SC_n) | ((with_reducible first | apply SC_d | apply SG_d | apply SG_n | apply SC_b | apply SG_b) <;> intro hc <;> try simp only [decide_eq_true_eq, decide_eq_false_iff_not, Classical.not_not, Bool.not_eq_true', Bool.not_eq_false'] at hc))
                exact H_n (by exact svc) hlt2 trivial
          · have hltZ2 : ¬ (i : Int) < x.length := by omega
            clear hX hS hfs hsmf hsmall
            repeat' (first | ((with_reducible first | apply S_0 | apply S_q1 | apply S_g | apply S_c); exact sgc) | (with_reducible first | apply SO_q | apply SG_t | apply SG_f0 | apply SG_f1 | apply S_nil | apply T_n | apply W_seq | apply W_region | apply SO_x | apply SC_t | apply SC_f | apply W_block | apply W_ret | apply W_skip | apply W_exit | apply T_r | apply T_e | apply B_n | apply B_e) | (with_reducible apply B_ne; focus decide) | (with_reducible first | apply B_r | apply R_e | apply R_r | apply H_e | apply H_r | apply G_e | apply G_r) | (with_reducible apply SC_n) | ((with_reducible first | apply SC_d | apply SG_d | apply SG_n | apply SC_b | apply SG_b) <;> intro hc <;> try simp only [decide_eq_true_eq, decide_eq_false_iff_not, Classical.not_not, Bool.not_eq_true', Bool.not_eq_false'] at hc))
            (first | exact fincR | exact fincN)
      · clear hE
        cases wb
        all_goals
          repeat' (first | ((with_reducible first | apply S_0 | apply S_q1 | apply S_g | apply S_c); exact sgc) | (with_reducible first | apply SO_q | apply SG_t | apply SG_f0 | apply SG_f1 | apply S_nil | apply T_n | apply W_seq | apply W_region | apply SO_x | apply SC_t | apply SC_f | apply W_block | apply W_ret | apply W_skip | apply W_exit | apply T_r | apply T_e | apply B_n | apply B_e) | (with_reducible apply B_ne; focus decide) | (with_reducible first | apply B_r | apply R_e | apply R_r | apply H_e | apply H_r | apply G_e | apply G_r) | (with_reducible apply SC_n) | ((with_reducible first | apply SC_d | apply SG_d | apply SG_n | apply SC_b | apply SG_b) <;> intro hc <;> try simp only [decide_eq_true_eq, decide_eq_false_iff_not, Classical.not_not, Bool.not_eq_true', Bool.not_eq_false'] at hc))
          refine W_rng 10 0 x.length (fun i _ => True) (by simp only [asg, asgO, List.append_nil, List.nil_append, List.cons_append]; rfl) (by exact svc) (by omega) trivial ?_
          rintro i e2 _ hi2 hk2 e10 _
          have j1 : e2 1 = .list 1 (x.map Sta.av) nx cx := by rw [hk2 1 rfl]; exact svc
          have j9 : e2 9 = .flat (.int .i64 E) := by rw [hk2 9 rfl]; exact svc
          clear hk2 hsmall hS
          repeat' (first | ((with_reducible first | apply S_0 | apply S_q1 | apply S_g | apply S_c); exact sgc) | (with_reducible first | apply SO_q | apply SG_t | apply SG_f0 | apply SG_f1 | apply S_nil | apply T_n | apply W_seq | apply W_region | apply SO_x | apply SC_t | apply SC_f | apply W_block | apply W_ret | apply W_skip | apply W_exit | apply T_r | apply T_e | apply B_n | apply B_e) | (with_reducible apply B_ne; focus decide) | (with_reducible first | apply B_r | apply R_e | apply R_r | apply H_e | apply H_r | apply G_e | apply G_r) | (with_reducible apply SC_n) | ((with_reducible first | apply SC_d | apply SG_d | apply SG_n | apply SC_b | apply SG_b) <;> intro hc <;> try simp only [decide_eq_true_eq, decide_eq_false_iff_not, Classical.not_not, Bool.not_eq_true', Bool.not_eq_false'] at hc))
          all_goals (first | exact fincR | exact fincN)
  · have h20Z : (20 : Int) < x.length := by omega
    clear hs
    refine ev_fn' A17 ?_
    repeat' (first | ((with_reducible first | apply S_0 | apply S_q1 | apply S_g | apply S_c); exact sgc) | (with_reducible first | apply SO_q | apply SG_t | apply SG_f0 | apply SG_f1 | apply S_nil | apply T_n | apply W_seq | apply W_region | apply SO_x | apply SC_t | apply SC_f | apply W_block | apply W_ret | apply W_skip | apply W_exit | apply T_r | apply T_e | apply B_n | apply B_e) | (with_reducible apply B_ne; focus decide) | (with_reducible first | apply B_r | apply R_e | apply R_r | apply H_e | apply H_r | apply G_e | apply G_r) | (with_reducible apply SC_n) | ((with_reducible first | apply SC_d | apply SG_d | apply SG_n | apply SC_b | apply SG_b) <;> intro hc <;> try simp only [decide_eq_true_eq, decide_eq_false_iff_not, Classical.not_not, Bool.not_eq_true', Bool.not_eq_false'] at hc))
    (first | exact fincR | exact fincN)
theorem stas_has : ∀ {rows : List (List AV)}, (∀ r ∈ rows, dtState.Has r ∧ r.length = 1) → ∃ x : List Sta, rows.flatten = x.map Sta.av ∧ x.length = rows.length ∧ ∀ a ∈ x, a.s.length ≤ 9223372036854775807
  | [], _ => ⟨[], rfl, rfl, fun a h => by simp at h⟩
  | r :: rows, h => by
    obtain ⟨h1, h2⟩ := h r (by simp)
    obtain ⟨x, h3, h4, h5⟩ := stas_has (rows := rows) fun r hr => h r (by simp [hr])
    obtain ⟨rs, nl, cd, h6, h7, h8, h9, h10⟩ := h1
    obtain ⟨s, ns, cs, h11, h12⟩ := state_arg (x := .list 1 rs.flatten nl cd) ⟨rs, nl, cd, rfl, h7, h8, h9, h10⟩
    refine ⟨⟨s, ns, cs⟩ :: x, by rw [List.flatten_cons, h3, h6, h11]; rfl, by simp [h4], fun a ha => ?_⟩
    rcases List.mem_cons.1 ha with rfl | ha
    · exact h12
    · exact h5 a ha
theorem stas_arg {x : AV} (h : (DT.sl 1 dtState).Arg x) : ∃ (l : List Sta) (ns cs : Bool), x = .list 1 (l.map Sta.av) ns cs ∧ l.length ≤ 9223372036854775807 ∧ ∀ a ∈ l, a.s.length ≤ 9223372036854775807 := by
  obtain ⟨rows, nl, cd, h1, h2, h3, h4, h5⟩ := h
  simp only [List.cons.injEq, and_true] at h1
  obtain ⟨s, h6, h7, h8⟩ := stas_has h5
  rw [maxLen_eq] at h3
  exact ⟨s, nl, cd, by rw [h1, h6], by omega, h8⟩
theorem law_stableIs (x0 x1 : AV) (h0 : dtInst.Arg x0) (h1 : (DT.sl 1 dtState).Arg x1) : ev pr 17 [x0, x1] [] = some (.q (.flat (.bool true))) := by
  obtain ⟨n, l, nl, cd, rfl, hl⟩ := inst_arg h0
  obtain ⟨s, ns, cs, rfl, hx, hs⟩ := stas_arg h1
  exact law17 n l nl cd s ns cs hl hx hs []
end Go.Proofs.Ytopiaiibpacmlaa.Av
