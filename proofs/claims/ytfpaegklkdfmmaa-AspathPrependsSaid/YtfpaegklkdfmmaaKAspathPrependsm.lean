/- The law AspathPrepends, on the evaluator. -/
import Derived.Test.YtfpaegklkdfmmaaX6
import Derived.Test.YtfpaegklkdfmmaaX4
namespace Go.Proofs.Ytfpaegklkdfmmaa.Av
open Go.RowKit
set_option linter.unusedSimpArgs false
set_option linter.unusedVariables false
set_option maxHeartbeats 10000000
theorem splice_ints (l : List Int) (k : Nat) (v : Int) (h : k < l.length) : intsA (l.take k) ++ AV.flat (.int .i64 v) :: intsA (l.drop (k + 1)) = intsA (l.set k v) := by
  rw [List.set_eq_take_append_cons_drop, if_pos h]
  simp [intsA, List.map_take, List.map_drop]
theorem may_pp {x : List Int} {a : Int} {n : Nat} (h : ppE x a n = 0) : mayP x ∧ x.length + n ≤ 16 ∧ mayP (List.replicate n a ++ x) := by
  obtain ⟨⟨p1, p2, p3⟩, p4⟩ : ppOk x a n ∧ (x.length : Int) + n ≤ 16 := by
    by_cases hp : ppOk x a n
    · by_cases hq : (x.length : Int) + n ≤ 16
      · exact ⟨hp, hq⟩
      · rw [ppE_2 hp hq] at h; simp at h
    · rw [ppE_1 hp] at h; simp at h
  refine ⟨p1, by omega, by simp; omega, fun b hb => ?_⟩
  rcases List.mem_append.1 hb with h1 | h1
  · rw [(List.mem_replicate.1 h1).2]; exact p2
  · exact p1.2 b h1
theorem pp_pos {x : List Int} {a t : Int} (h : ppE x a t = 0) : 0 ≤ t := by
  by_cases hp : ppOk x a t
  · exact hp.2.2
  · rw [ppE_1 hp] at h; simp at h
theorem t10' {x : List Int} {a : Int} {n : Nat} {M : MS} (hx : x.length ≤ 1000000) (h : ppE x a n = 0) : ∃ id G cd, (∀ xv, Vw M xv x → ev pr 10 [xv, .flat (.int .i64 a), .flat (.int .i64 n)] M = some (.x (.tup [.ms id 0 (n + x.length) 1 cd, .flat (.int .i64 0)]) (M ++ G) [])) ∧ M.length ≤ id ∧ id < (M ++ G).length ∧ (M ++ G)[id]? = some (some (intsA (List.replicate n a ++ x))) := by
  obtain ⟨⟨p1, p2, p3⟩, p4⟩ : ppOk x a n ∧ (x.length : Int) + n ≤ 16 := by
    by_cases hp : ppOk x a n
    · by_cases hq : (x.length : Int) + n ≤ 16
      · exact ⟨hp, hq⟩
      · rw [ppE_2 hp hq] at h; simp at h
    · rw [ppE_1 hp] at h; simp at h
  clear h
  obtain ⟨c1, h31⟩ := t31 (a := a) (n := n) (M := M) (by omega)
  have hal := allI_rep a n
  rcases Nat.eq_zero_or_pos x.length with h0 | h0
  · refine ⟨M.length, [some (List.replicate n (.flat (.int .i64 a)))], true, ?_, by omega, by simp, ?_⟩
    · intro xv vx
      have h19 := t19 vx hx
      have x0 := vx.v0; have x1 := vx.len; have x2 := vx.cell
      have x3 := fun G => (vx.ext G).v0
      clear vx
      refine ev_fn' A10 ?_
      repeat' (first | ((with_reducible first | apply S_0 | apply S_q1 | apply S_g | apply S_c); exact sgc) | (with_reducible first | apply SO_q | apply SG_t | apply SG_f0 | apply SG_f1 | apply S_nil | apply T_n | apply W_seq | apply W_region | apply SO_x | apply SC_t | apply SC_f | apply W_block | apply W_ret | apply W_skip | apply W_exit | apply T_r | apply T_e | apply B_n | apply B_e) | (with_reducible apply B_ne; focus decide) | (with_reducible first | apply B_r | apply R_e | apply R_r | apply H_e | apply H_r | apply G_e | apply G_r) | (with_reducible apply SC_n) | ((with_reducible first | apply SC_d | apply SG_d | apply SG_n | apply SC_b | apply SG_b) <;> intro hc <;> try simp only [decide_eq_true_eq, decide_eq_false_iff_not, Classical.not_not, Bool.not_eq_true', Bool.not_eq_false'] at hc))
      · exfalso; omega
      · exfalso; omega
      have x4 := x3 [some (List.replicate n (.flat (.int .i64 a)))]
      refine S_app0 (id := M.length) (len := n) (cd := true) (cs := List.replicate n (.flat (.int .i64 a))) (news := intsA x) (by exact svc) (by simp) (by exact svc) (by exact svc) ?_
      repeat' (first | ((with_reducible first | apply S_0 | apply S_q1 | apply S_g | apply S_c); exact sgc) | (with_reducible first | apply SO_q | apply SG_t | apply SG_f0 | apply SG_f1 | apply S_nil | apply T_n | apply W_seq | apply W_region | apply SO_x | apply SC_t | apply SC_f | apply W_block | apply W_ret | apply W_skip | apply W_exit | apply T_r | apply T_e | apply B_n | apply B_e) | (with_reducible apply B_ne; focus decide) | (with_reducible first | apply B_r | apply R_e | apply R_r | apply H_e | apply H_r | apply G_e | apply G_r) | (with_reducible apply SC_n) | ((with_reducible first | apply SC_d | apply SG_d | apply SG_n | apply SC_b | apply SG_b) <;> intro hc <;> try simp only [decide_eq_true_eq, decide_eq_false_iff_not, Classical.not_not, Bool.not_eq_true', Bool.not_eq_false'] at hc))
      (first | exact fincR | exact fincN)
    · have := List.eq_nil_of_length_eq_zero h0; subst this
      rw [List.append_nil, ints_rep, List.getElem?_append_right (Nat.le_refl _), Nat.sub_self]; rfl
  · refine ⟨M.length + 1, [some (List.replicate n (.flat (.int .i64 a))), some (List.replicate n (.flat (.int .i64 a)) ++ intsA x)], false, ?_, by omega, by simp, ?_⟩
    · intro xv vx
      have h19 := t19 vx hx
      have x0 := vx.v0; have x1 := vx.len; have x2 := vx.cell
      have x3 := fun G => (vx.ext G).v0
      clear vx
      refine ev_fn' A10 ?_
      repeat' (first | ((with_reducible first | apply S_0 | apply S_q1 | apply S_g | apply S_c); exact sgc) | (with_reducible first | apply SO_q | apply SG_t | apply SG_f0 | apply SG_f1 | apply S_nil | apply T_n | apply W_seq | apply W_region | apply SO_x | apply SC_t | apply SC_f | apply W_block | apply W_ret | apply W_skip | apply W_exit | apply T_r | apply T_e | apply B_n | apply B_e) | (with_reducible apply B_ne; focus decide) | (with_reducible first | apply B_r | apply R_e | apply R_r | apply H_e | apply H_r | apply G_e | apply G_r) | (with_reducible apply SC_n) | ((with_reducible first | apply SC_d | apply SG_d | apply SG_n | apply SC_b | apply SG_b) <;> intro hc <;> try simp only [decide_eq_true_eq, decide_eq_false_iff_not, Classical.not_not, Bool.not_eq_true', Bool.not_eq_false'] at hc))
      · exfalso; omega
      · exfalso; omega
      have x4 := x3 [some (List.replicate n (.flat (.int .i64 a)))]
      refine S_appC (id := M.length) (len := n) (cs := List.replicate n (.flat (.int .i64 a))) (news := intsA x) (k := x.length) (by exact svc) (by simp) (by simp) (by exact svc) (by exact svc) (by rw [ints_len]) h0 (allI_ints _) (by omega) ?_
      repeat' (first | ((with_reducible first | apply S_0 | apply S_q1 | apply S_g | apply S_c); exact sgc) | (with_reducible first | apply SO_q | apply SG_t | apply SG_f0 | apply SG_f1 | apply S_nil | apply T_n | apply W_seq | apply W_region | apply SO_x | apply SC_t | apply SC_f | apply W_block | apply W_ret | apply W_skip | apply W_exit | apply T_r | apply T_e | apply B_n | apply B_e) | (with_reducible apply B_ne; focus decide) | (with_reducible first | apply B_r | apply R_e | apply R_r | apply H_e | apply H_r | apply G_e | apply G_r) | (with_reducible apply SC_n) | ((with_reducible first | apply SC_d | apply SG_d | apply SG_n | apply SC_b | apply SG_b) <;> intro hc <;> try simp only [decide_eq_true_eq, decide_eq_false_iff_not, Classical.not_not, Bool.not_eq_true', Bool.not_eq_false'] at hc))
      (first | exact fincR | exact fincN)
    · rw [List.getElem?_append_right (by omega), show M.length + 1 - M.length = 1 by omega, show intsA (List.replicate n a ++ x) = List.replicate n (.flat (.int .i64 a)) ++ intsA x by simp [intsA]]; rfl
def up (c : Int) (Y : List Int) (i : Nat) : List Int := (Y.take i).map (· + c) ++ Y.drop i
theorem up_0 (c : Int) (Y : List Int) : up c Y 0 = Y := by simp [up]
theorem up_n (c : Int) (Y : List Int) : up c Y Y.length = Y.map (· + c) := by simp [up]
theorem up_len {c : Int} {Y : List Int} {i : Nat} : (up c Y i).length = Y.length := by simp [up]; omega
theorem up_get {c : Int} {Y : List Int} {i : Nat} (h : i < Y.length) (h' : i < (up c Y i).length) : (up c Y i)[i] = Y[i] := by
  have h1 : (up c Y i)[i]? = some Y[i] := by
    unfold up
    have hl : ((Y.take i).map (· + c)).length = i := by simp; omega
    rw [List.getElem?_append_right (by omega), hl, Nat.sub_self, List.getElem?_drop, Nat.add_zero, List.getElem?_eq_getElem h]
  rw [List.getElem?_eq_getElem h'] at h1
  exact Option.some.inj h1
theorem up_s {c : Int} {Y : List Int} {i : Nat} (h : i < Y.length) : (up c Y i).set i (Y[i] + c) = up c Y (i + 1) := by
  unfold up
  have hl : ((Y.take i).map (· + c)).length = i := by simp; omega
  rw [List.set_append_right _ _ (by omega), hl, Nat.sub_self, List.drop_eq_getElem_cons h, List.set_cons_zero, List.take_succ_eq_append_getElem h, List.map_append, List.append_assoc]
  rfl
theorem up_back (Y : List Int) : (Y.map (· + 1)).map (· + (-1)) = Y := by
  rw [List.map_map]
  conv => rhs; rw [← List.map_id Y]
  apply List.map_congr_left
  intro a _
  simp only [Function.comp, id]; omega
theorem set_self {B : MS} {id : Nat} {c : Option (List AV)} (h : id < B.length) (h1 : B[id]? = some c) : B = B.set id c := by
  apply List.ext_getElem?
  intro i
  by_cases hi : id = i
  · subst hi; rw [List.getElem?_set_self h, h1]
  · rw [List.getElem?_set_ne hi]
theorem law3 {x : List Int} {nx cx : Bool} {a t : Int} (hx : x.length ≤ 9223372036854775807) (hn : nx = true → x = []) (ht : I64 t) (M : MS) :
    ev pr 3 [.list 1 (intsA x) nx cx, .flat (.int .i64 a), .flat (.int .i64 t)] M = some (.q (.flat (.bool true))) := by
  have h8 := fun M => t8 (xv := .list 1 (intsA x) nx cx) (x := x) (M := M) (Vw.list M x nx cx).len hx
  have h9 := fun M => lives M
  by_cases h300 : x.length ≤ 300
  · have lx : x.length ≤ 1000000 := by omega
    rw [decide_eq_true h300] at h8
    have u4 : (x.length : Int) + 20 ≤ LIM := by unfold LIM; omega
    have u5 : ∀ (n : Nat) (z : AV), (List.replicate n [z]).flatten = List.replicate n z := fun n z => by simp
    have u6 : ((x.length : Int) + 20).toNat = x.length + 20 := by omega
    have hsp : splice (List.replicate (x.length + 20) (AV.flat (.int .i64 0))) 0 ((intsA x).take (Nat.min x.length (x.length + 20) * 1)) = intsA x ++ List.replicate 20 (.flat (.int .i64 0)) := by
      rw [show Nat.min x.length (x.length + 20) = x.length from Nat.min_eq_left (by omega), Nat.mul_one, ← ints_len x, List.take_length]
      simp [splice, List.drop_replicate]
    have hZ : intsA x ++ List.replicate 20 (.flat (.int .i64 0)) = intsA (x ++ List.replicate 20 0) := by simp [intsA]
    obtain ⟨Z, hZd⟩ : ∃ Z, Z = x ++ List.replicate 20 (0 : Int) := ⟨_, rfl⟩
    have hzl : Z.length = x.length + 20 := by rw [hZd]; simp
    have hz1 : ∀ i (h : i < x.length) (h' : i < Z.length), Z[i] = x[i] := fun i h h' => by simp only [hZd]; rw [List.getElem_append_left h]
    have hz2 : ∀ i (h : ¬ i < x.length) (h' : i < Z.length), Z[i] = 0 := fun i h h' => by simp only [hZd]; rw [List.getElem_append_right (by omega), List.getElem_replicate]
    have hv : ∀ cd, Vw (M ++ [some (intsA x ++ List.replicate 20 (.flat (.int .i64 0)))]) (.ms M.length 0 x.length 1 cd) x := fun cd => Vw.ms0 (r0 := List.replicate 20 (.flat (.int .i64 0))) (by simp) (by rw [List.getElem?_append_right (Nat.le_refl _), Nat.sub_self]; rfl)
    rw [hZ, ← hZd] at hsp
    simp only [hZ, ← hZd] at hv
    clear hZ hZd
    by_cases hp : ppE x a t = 0
    · obtain ⟨n, rfl⟩ : ∃ n : Nat, t = n := ⟨t.toNat, by have := pp_pos hp; omega⟩
      obtain ⟨m1, m2, m3⟩ := may_pp hp
      have h11 := fun M => t11 (x := x) (nx := nx) (cx := cx) (M := M) hx hp
      have h10 : ∃ id B cdr, (∀ cd, ev pr 10 [.ms M.length 0 x.length 1 cd, .flat (.int .i64 a), .flat (.int .i64 n)] (M ++ [some (intsA Z)]) = some (.x (.tup [.ms id 0 (n + x.length) 1 cdr, .flat (.int .i64 0)]) B [])) ∧ M.length < id ∧ id < B.length ∧ B[id]? = some (some (intsA (List.replicate n a ++ x))) ∧ B[M.length]? = some (some (intsA Z)) := by
        obtain ⟨id, G, cdr, k1, k2, k3, k4⟩ := t10' (a := a) (n := n) (M := M ++ [some (intsA Z)]) lx hp
        refine ⟨id, M ++ [some (intsA Z)] ++ G, cdr, fun cd => k1 _ (hv cd), by simp at k2; omega, k3, k4, ?_⟩
        rw [List.append_assoc, List.getElem?_append_right (Nat.le_refl _), Nat.sub_self]; rfl
      obtain ⟨id, B, cdr, h10, g1, g2, g3, g4⟩ := h10
      generalize hY : List.replicate n a ++ x = Y at *
      have hYl : n + x.length = Y.length := by rw [← hY]; simp
      rw [hYl] at h10
      have hYb : ∀ b ∈ Y, 1 ≤ b ∧ b ≤ 65535 := m3.2
      have hY16 := m3.1
      unfold lst at h11
      generalize (intsA Y).isEmpty = q at h11
      clear hx hv m1 m2 m3 hp hY hYl
      refine ev_fn' A3 ?_
      repeat' (first | ((with_reducible first | apply S_0 | apply S_q1 | apply S_g | apply S_c); exact sgc) | (with_reducible first | apply SO_q | apply SG_t | apply SG_f0 | apply SG_f1 | apply S_nil | apply T_n | apply W_seq | apply W_region | apply SO_x | apply SC_t | apply SC_f | apply W_block | apply W_ret | apply W_skip | apply W_exit | apply T_r | apply T_e | apply B_n | apply B_e) | (with_reducible apply B_ne; focus decide) | (with_reducible first | apply B_r | apply R_e | apply R_r | apply H_e | apply H_r | apply G_e | apply G_r) | (with_reducible apply SC_n) | ((with_reducible first | apply SC_d | apply SG_d | apply SG_n | apply SC_b | apply SG_b) <;> intro hc <;> try simp only [decide_eq_true_eq, decide_eq_false_iff_not, Classical.not_not, Bool.not_eq_true', Bool.not_eq_false'] at hc))
      refine S_copy (id := M.length) (off := 0) (len := x.length + 20) (cd := true) (old := List.replicate (x.length + 20) (.flat (.int .i64 0))) (cs := intsA x) (n := x.length) (by exact svc) (by exact svc) (by exact svc) (by rw [List.getElem?_append_right (Nat.le_refl _), Nat.sub_self]; rfl) (allI_ints _) (by simp) ?_ (by simp) ?_
      · rw [ints_len, Nat.mul_one]; exact Nat.min_le_left _ _
      rw [hsp, set_app0]
      repeat' (first | ((with_reducible first | apply S_0 | apply S_q1 | apply S_g | apply S_c); exact sgc) | (with_reducible first | apply SO_q | apply SG_t | apply SG_f0 | apply SG_f1 | apply S_nil | apply T_n | apply W_seq | apply W_region | apply SO_x | apply SC_t | apply SC_f | apply W_block | apply W_ret | apply W_skip | apply W_exit | apply T_r | apply T_e | apply B_n | apply B_e) | (with_reducible apply B_ne; focus decide) | (with_reducible first | apply B_r | apply R_e | apply R_r | apply H_e | apply H_r | apply G_e | apply G_r) | (with_reducible apply SC_n) | ((with_reducible first | apply SC_d | apply SG_d | apply SG_n | apply SC_b | apply SG_b) <;> intro hc <;> try simp only [decide_eq_true_eq, decide_eq_false_iff_not, Classical.not_not, Bool.not_eq_true', Bool.not_eq_false'] at hc))
      have q1 : ∀ c, (B.set id c)[id]? = some c := fun c => List.getElem?_set_self g2
      have q4 : ∀ c, (B.set id c)[M.length]? = some (some (intsA Z)) := fun c => by rw [List.getElem?_set_ne (by omega), g4]
      have vwB : ∀ W : List Int, W.length = Y.length → view (B.set id (some (intsA W))) (.ms id 0 Y.length 1 cdr) = some (intsA W) := fun W hW => by
        rw [view_ms, List.getElem?_set_self g2, viewD_s, if_pos (by rw [ints_len]; omega), List.drop_zero, Nat.mul_one, ← hW, ← ints_len W, List.take_length]
      have vwR : ∀ W : List Int, view (B.set id (some (intsA W))) (.ms M.length 0 (x.length + 20) 1 true) = some (intsA Z) := fun W => by
        rw [view_ms, List.getElem?_set_ne (by omega), g4, viewD_s, if_pos (by rw [ints_len]; omega), List.drop_zero, Nat.mul_one, ← hzl, ← ints_len Z, List.take_length]
      refine W_rngM 12 0 Y.length (fun i e m => m = B.set id (some (intsA (up 1 Y i)))) (by simp only [asg, asgO, List.append_nil, List.nil_append, List.cons_append]; rfl) (by exact svc) (by omega) (by rw [up_0]; exact set_self g2 g3) ?_
      rintro i e _ _ hi hk e12 rfl
      have k0 : e 0 = .list 1 (intsA x) nx cx := by rw [hk 0 rfl]; exact svc
      have k7 : e 7 = .ms M.length 0 (x.length + 20) 1 true := by rw [hk 7 rfl]; exact svc
      have k8 : e 8 = .ms id 0 Y.length 1 cdr := by rw [hk 8 rfl]; exact svc
      have k9 : e 9 = .flat (.int .i64 0) := by rw [hk 9 rfl]; exact svc
      have k10 : e 10 = .list 1 (intsA Y) q q := by rw [hk 10 rfl]; exact svc
      have k11 : e 11 = .flat (.int .i64 0) := by rw [hk 11 rfl]; exact svc
      clear hk h10 h11 hsp g3
      rcases Nat.lt_or_ge i Y.length with hlt | hlt
      · have hlt' : (i : Int) < Y.length := by omega
        have hb := hYb _ (List.getElem_mem hlt)
        have hs := up_s (c := 1) hlt
        obtain ⟨W, hW, hWl, hWi⟩ : ∃ W : List Int, up 1 Y i = W ∧ W.length = Y.length ∧ ∀ h : i < W.length, W[i] = Y[i] := ⟨_, rfl, up_len, fun h => up_get hlt h⟩
        rw [hW] at hs ⊢
        have v1 := vwB W hWl
        have hWl' : W.length ≤ Y.length ∧ Y.length ≤ W.length := by omega
        have hiW : i < W.length := by omega
        have hWi' := hWi hiW
        have hq : ∀ c, ((B.set id (some (intsA W))).set id c) = B.set id c := fun c => List.set_set ..
        have hp1 := splice_ints W i (Y[i] + 1) (by omega)
        rw [hs] at hp1
        clear hWl hs vwB vwR hW hWi
        repeat' (first | ((with_reducible first | apply S_0 | apply S_q1 | apply S_g | apply S_c); exact sgc) | (with_reducible first | apply SO_q | apply SG_t | apply SG_f0 | apply SG_f1 | apply S_nil | apply T_n | apply W_seq | apply W_region | apply SO_x | apply SC_t | apply SC_f | apply W_block | apply W_ret | apply W_skip | apply W_exit | apply T_r | apply T_e | apply B_n | apply B_e) | (with_reducible apply B_ne; focus decide) | (with_reducible first | apply B_r | apply R_e | apply R_r | apply H_e | apply H_r | apply G_e | apply G_r) | (with_reducible apply SC_n) | ((with_reducible first | apply SC_d | apply SG_d | apply SG_n | apply SC_b | apply SG_b) <;> intro hc <;> try simp only [decide_eq_true_eq, decide_eq_false_iff_not, Classical.not_not, Bool.not_eq_true', Bool.not_eq_false'] at hc))
        exact G_n (by exact svc) hlt rfl
      · have hlt' : ¬ (i : Int) < Y.length := by omega
        obtain rfl : i = Y.length := by omega
        clear hlt hlt'
        rw [up_n]
        have hY1 : (Y.map (· + 1)).length = Y.length := by simp
        have hYb1 : ∀ b ∈ Y.map (· + 1), 1 ≤ b ∧ b ≤ 65536 := fun b hb => by
          obtain ⟨c, hc, rfl⟩ := List.mem_map.1 hb
          have := hYb c hc; omega
        have hback := up_back Y
        generalize Y.map (· + 1) = Y1 at hY1 hYb1 hback ⊢
        have h1 : ¬ (Y.length : Int) < Y.length := by omega
        repeat' (first | ((with_reducible first | apply S_0 | apply S_q1 | apply S_g | apply S_c); exact sgc) | (with_reducible first | apply SO_q | apply SG_t | apply SG_f0 | apply SG_f1 | apply S_nil | apply T_n | apply W_seq | apply W_region | apply SO_x | apply SC_t | apply SC_f | apply W_block | apply W_ret | apply W_skip | apply W_exit | apply T_r | apply T_e | apply B_n | apply B_e) | (with_reducible apply B_ne; focus decide) | (with_reducible first | apply B_r | apply R_e | apply R_r | apply H_e | apply H_r | apply G_e | apply G_r) | (with_reducible apply SC_n) | ((with_reducible first | apply SC_d | apply SG_d | apply SG_n | apply SC_b | apply SG_b) <;> intro hc <;> try simp only [decide_eq_true_eq, decide_eq_false_iff_not, Classical.not_not, Bool.not_eq_true', Bool.not_eq_false'] at hc))
        clear h1
        refine W_rng 13 0 (x.length + 20) (fun i _ => True) (by simp only [asg, asgO, List.append_nil, List.nil_append, List.cons_append]; rfl) (by exact svc) (by omega) trivial ?_
        rintro i e' _ hi' hk e13 _
        have k0' : e' 0 = .list 1 (intsA x) nx cx := by rw [hk 0 rfl]; exact svc
        have k7' : e' 7 = .ms M.length 0 (x.length + 20) 1 true := by rw [hk 7 rfl]; exact svc
        have k8' : e' 8 = .ms id 0 Y.length 1 cdr := by rw [hk 8 rfl]; exact svc
        have k9' : e' 9 = .flat (.int .i64 0) := by rw [hk 9 rfl]; exact svc
        have k10' : e' 10 = .list 1 (intsA Y) q q := by rw [hk 10 rfl]; exact svc
        have k11' : e' 11 = .flat (.int .i64 0) := by rw [hk 11 rfl]; exact svc
        clear hk k0 k7 k8 k9 k10 k11 e12
        have v7 := vwR Y1
        have hzl' : Z.length ≤ x.length + 20 ∧ x.length + 20 ≤ Z.length := by omega
        rcases Nat.lt_or_ge i (x.length + 20) with hlt | hlt
        · have hlt' : (i : Int) < x.length + 20 := by omega
          rcases Nat.lt_or_ge i x.length with hxl | hxl
          · have hxl' : (i : Int) < x.length := by omega
            have hiZ : i < Z.length := by omega
            have hz := hz1 i hxl hiZ
            clear vwB vwR hz1 hz2 hzl hback
            repeat' (first | ((with_reducible first | apply S_0 | apply S_q1 | apply S_g | apply S_c); exact sgc) | (with_reducible first | apply SO_q | apply SG_t | apply SG_f0 | apply SG_f1 | apply S_nil | apply T_n | apply W_seq | apply W_region | apply SO_x | apply SC_t | apply SC_f | apply W_block | apply W_ret | apply W_skip | apply W_exit | apply T_r | apply T_e | apply B_n | apply B_e) | (with_reducible apply B_ne; focus decide) | (with_reducible first | apply B_r | apply R_e | apply R_r | apply H_e | apply H_r | apply G_e | apply G_r) | (with_reducible apply SC_n) | ((with_reducible first | apply SC_d | apply SG_d | apply SG_n | apply SC_b | apply SG_b) <;> intro hc <;> try simp only [decide_eq_true_eq, decide_eq_false_iff_not, Classical.not_not, Bool.not_eq_true', Bool.not_eq_false'] at hc))
            all_goals first | exact H_n (by exact svc) hlt trivial | (exfalso; omega)
          · have hxl' : ¬ (i : Int) < x.length := by omega
            have hiZ : i < Z.length := by omega
            have hz := hz2 i (by omega) hiZ
            clear vwB vwR hz1 hz2 hzl hback
            repeat' (first | ((with_reducible first | apply S_0 | apply S_q1 | apply S_g | apply S_c); exact sgc) | (with_reducible first | apply SO_q | apply SG_t | apply SG_f0 | apply SG_f1 | apply S_nil | apply T_n | apply W_seq | apply W_region | apply SO_x | apply SC_t | apply SC_f | apply W_block | apply W_ret | apply W_skip | apply W_exit | apply T_r | apply T_e | apply B_n | apply B_e) | (with_reducible apply B_ne; focus decide) | (with_reducible first | apply B_r | apply R_e | apply R_r | apply H_e | apply H_r | apply G_e | apply G_r) | (with_reducible apply SC_n) | ((with_reducible first | apply SC_d | apply SG_d | apply SG_n | apply SC_b | apply SG_b) <;> intro hc <;> try simp only [decide_eq_true_eq, decide_eq_false_iff_not, Classical.not_not, Bool.not_eq_true', Bool.not_eq_false'] at hc))
            all_goals first | exact H_n (by exact svc) hlt trivial | (exfalso; omega)
        · have hlt' : ¬ (i : Int) < x.length + 20 := by omega
          clear v7 vwR
          repeat' (first | ((with_reducible first | apply S_0 | apply S_q1 | apply S_g | apply S_c); exact sgc) | (with_reducible first | apply SO_q | apply SG_t | apply SG_f0 | apply SG_f1 | apply S_nil | apply T_n | apply W_seq | apply W_region | apply SO_x | apply SC_t | apply SC_f | apply W_block | apply W_ret | apply W_skip | apply W_exit | apply T_r | apply T_e | apply B_n | apply B_e) | (with_reducible apply B_ne; focus decide) | (with_reducible first | apply B_r | apply R_e | apply R_r | apply H_e | apply H_r | apply G_e | apply G_r) | (with_reducible apply SC_n) | ((with_reducible first | apply SC_d | apply SG_d | apply SG_n | apply SC_b | apply SG_b) <;> intro hc <;> try simp only [decide_eq_true_eq, decide_eq_false_iff_not, Classical.not_not, Bool.not_eq_true', Bool.not_eq_false'] at hc))
          refine W_rngM 14 0 Y.length (fun i e m => m = B.set id (some (intsA (up (-1) Y1 i)))) (by simp only [asg, asgO, List.append_nil, List.nil_append, List.cons_append]; rfl) (by exact svc) (by omega) (by rw [up_0]) ?_
          rintro i e'' _ _ hi2 hk e14 rfl
          have k0 : e'' 0 = .list 1 (intsA x) nx cx := by rw [hk 0 rfl]; exact svc
          have k8 : e'' 8 = .ms id 0 Y.length 1 cdr := by rw [hk 8 rfl]; exact svc
          have k9 : e'' 9 = .flat (.int .i64 0) := by rw [hk 9 rfl]; exact svc
          have k10 : e'' 10 = .list 1 (intsA Y) q q := by rw [hk 10 rfl]; exact svc
          have k11 : e'' 11 = .flat (.int .i64 0) := by rw [hk 11 rfl]; exact svc
          clear hk k0' k7' k8' k9' k10' k11' e13 hz1 hz2 hzl hlt'
          rcases Nat.lt_or_ge i Y.length with hlt | hlt
          · have hlt' : (i : Int) < Y.length := by omega
            have hlt1 : i < Y1.length := by omega
            have hb := hYb1 _ (List.getElem_mem hlt1)
            have hs := up_s (c := -1) hlt1
            obtain ⟨W, hW, hWl, hWi⟩ : ∃ W : List Int, up (-1) Y1 i = W ∧ W.length = Y.length ∧ ∀ h : i < W.length, W[i] = Y1[i] := ⟨_, rfl, by rw [up_len, hY1], fun h => up_get hlt1 h⟩
            rw [hW] at hs ⊢
            have v1 := vwB W hWl
            have hWl' : W.length ≤ Y.length ∧ Y.length ≤ W.length := by omega
            have hiW : i < W.length := by omega
            have hWi' := hWi hiW
            have hq : ∀ c, ((B.set id (some (intsA W))).set id c) = B.set id c := fun c => List.set_set ..
            have hp1 := splice_ints W i (Y1[i] + -1) (by omega)
            rw [hs, show Y1[i] + -1 = Y1[i] - 1 by omega] at hp1
            clear hWl hs vwB hW hWi hY1 hback
            repeat' (first | ((with_reducible first | apply S_0 | apply S_q1 | apply S_g | apply S_c); exact sgc) | (with_reducible first | apply SO_q | apply SG_t | apply SG_f0 | apply SG_f1 | apply S_nil | apply T_n | apply W_seq | apply W_region | apply SO_x | apply SC_t | apply SC_f | apply W_block | apply W_ret | apply W_skip | apply W_exit | apply T_r | apply T_e | apply B_n | apply B_e) | (with_reducible apply B_ne; focus decide) | (with_reducible first | apply B_r | apply R_e | apply R_r | apply H_e | apply H_r | apply G_e | apply G_r) | (with_reducible apply SC_n) | ((with_reducible first | apply SC_d | apply SG_d | apply SG_n | apply SC_b | apply SG_b) <;> intro hc <;> try simp only [decide_eq_true_eq, decide_eq_false_iff_not, Classical.not_not, Bool.not_eq_true', Bool.not_eq_false'] at hc))
            exact G_n (by exact svc) hlt rfl
          · have hlt' : ¬ (i : Int) < Y.length := by omega
            obtain rfl : i = Y1.length := by omega
            rw [up_n, hback]
            have h12 := t12 (Vw.ms0 (M := B.set id (some (intsA Y))) (id := id) (cd := cdr) (x := Y) (r0 := []) (by simpa using g2) (by rw [List.append_nil]; exact List.getElem?_set_self g2)) (Vw.list _ Y q q) (by omega) (by omega)
            rw [decide_eq_true rfl] at h12
            have hlt2 : ¬ (Y1.length : Int) < Y.length := by omega
            clear hY1 hback hlt' vwB
            repeat' (first | ((with_reducible first | apply S_0 | apply S_q1 | apply S_g | apply S_c); exact sgc) | (with_reducible first | apply SO_q | apply SG_t | apply SG_f0 | apply SG_f1 | apply S_nil | apply T_n | apply W_seq | apply W_region | apply SO_x | apply SC_t | apply SC_f | apply W_block | apply W_ret | apply W_skip | apply W_exit | apply T_r | apply T_e | apply B_n | apply B_e) | (with_reducible apply B_ne; focus decide) | (with_reducible first | apply B_r | apply R_e | apply R_r | apply H_e | apply H_r | apply G_e | apply G_r) | (with_reducible apply SC_n) | ((with_reducible first | apply SC_d | apply SG_d | apply SG_n | apply SC_b | apply SG_b) <;> intro hc <;> try simp only [decide_eq_true_eq, decide_eq_false_iff_not, Classical.not_not, Bool.not_eq_true', Bool.not_eq_false'] at hc))
            all_goals first | (refine ⟨by first | exact .inr rfl | exact .inl rfl, ?_⟩; simp (disch := first | assumption | decide | omega | exact List.getElem_mem _ | exact allI_ints _ | exact allI_rns _ | (simp only [List.length_take, List.length_drop, List.length_append, List.length_cons, List.length_nil, List.length_replicate, List.length_map, ints_len, rns_len]; omega)) only [resA, rvA, tupA, fin, frzV, frzTup, frzA, frz, isI, isI.all, Option.bind_some, go_sem, if_pos, if_neg, Nat.reduceBEq, Nat.reduceEqDiff, ↓reduceIte, Nat.reduceSub, Nat.reduceAdd, Int.reduceToNat, reduceCtorEq, Nat.reduceLeDiff, Nat.reduceLT, Nat.reduceMul, Nat.reduceDiv, Int.reduceLT, Int.reduceLE, Int.reduceEq, Int.reduceNe, Int.reduceAdd, Int.reduceSub, Int.reduceNeg, Int.reduceGT, Int.reduceGE, Int.reduceBEq, Int.reduceBNe, Int.reduceMul, *]) | (exfalso; omega)
    · have h11 := fun M => t11e (x := x) (nx := nx) (cx := cx) (a := a) (M := M) hx ht hp
      have h10 := fun cd => t10e (a := a) (hv cd) lx ht hp
      have h12 : ∀ M, ev pr 12 [.list 1 [] true true, .list 1 [] true true] M = some (.q (.flat (.bool true))) := fun M => t12 (Vw.list M [] true true) (Vw.list M [] true true) (by simp) (by simp)
      generalize ppE x a t = pe at *
      have v7 : view (M ++ [some (intsA Z)]) (.ms M.length 0 (x.length + 20) 1 true) = some (intsA Z) := by
        rw [view_ms, List.getElem?_append_right (Nat.le_refl _), Nat.sub_self, List.getElem?_cons_zero, viewD_s, if_pos (by rw [ints_len]; omega), List.drop_zero, Nat.mul_one, ← hzl, ← ints_len Z, List.take_length]
      clear hx hv hp
      refine ev_fn' A3 ?_
      repeat' (first | ((with_reducible first | apply S_0 | apply S_q1 | apply S_g | apply S_c); exact sgc) | (with_reducible first | apply SO_q | apply SG_t | apply SG_f0 | apply SG_f1 | apply S_nil | apply T_n | apply W_seq | apply W_region | apply SO_x | apply SC_t | apply SC_f | apply W_block | apply W_ret | apply W_skip | apply W_exit | apply T_r | apply T_e | apply B_n | apply B_e) | (with_reducible apply B_ne; focus decide) | (with_reducible first | apply B_r | apply R_e | apply R_r | apply H_e | apply H_r | apply G_e | apply G_r) | (with_reducible apply SC_n) | ((with_reducible first | apply SC_d | apply SG_d | apply SG_n | apply SC_b | apply SG_b) <;> intro hc <;> try simp only [decide_eq_true_eq, decide_eq_false_iff_not, Classical.not_not, Bool.not_eq_true', Bool.not_eq_false'] at hc))
      refine S_copy (id := M.length) (off := 0) (len := x.length + 20) (cd := true) (old := List.replicate (x.length + 20) (.flat (.int .i64 0))) (cs := intsA x) (n := x.length) (by exact svc) (by exact svc) (by exact svc) (by rw [List.getElem?_append_right (Nat.le_refl _), Nat.sub_self]; rfl) (allI_ints _) (by simp) ?_ (by simp) ?_
      · rw [ints_len, Nat.mul_one]; exact Nat.min_le_left _ _
      rw [hsp, set_app0]
      repeat' (first | ((with_reducible first | apply S_0 | apply S_q1 | apply S_g | apply S_c); exact sgc) | (with_reducible first | apply SO_q | apply SG_t | apply SG_f0 | apply SG_f1 | apply S_nil | apply T_n | apply W_seq | apply W_region | apply SO_x | apply SC_t | apply SC_f | apply W_block | apply W_ret | apply W_skip | apply W_exit | apply T_r | apply T_e | apply B_n | apply B_e) | (with_reducible apply B_ne; focus decide) | (with_reducible first | apply B_r | apply R_e | apply R_r | apply H_e | apply H_r | apply G_e | apply G_r) | (with_reducible apply SC_n) | ((with_reducible first | apply SC_d | apply SG_d | apply SG_n | apply SC_b | apply SG_b) <;> intro hc <;> try simp only [decide_eq_true_eq, decide_eq_false_iff_not, Classical.not_not, Bool.not_eq_true', Bool.not_eq_false'] at hc))
      refine W_loop1 ?_
      repeat' (first | ((with_reducible first | apply S_0 | apply S_q1 | apply S_g | apply S_c); exact sgc) | (with_reducible first | apply SO_q | apply SG_t | apply SG_f0 | apply SG_f1 | apply S_nil | apply T_n | apply W_seq | apply W_region | apply SO_x | apply SC_t | apply SC_f | apply W_block | apply W_ret | apply W_skip | apply W_exit | apply T_r | apply T_e | apply B_n | apply B_e) | (with_reducible apply B_ne; focus decide) | (with_reducible first | apply B_r | apply R_e | apply R_r | apply H_e | apply H_r | apply G_e | apply G_r) | (with_reducible apply SC_n) | ((with_reducible first | apply SC_d | apply SG_d | apply SG_n | apply SC_b | apply SG_b) <;> intro hc <;> try simp only [decide_eq_true_eq, decide_eq_false_iff_not, Classical.not_not, Bool.not_eq_true', Bool.not_eq_false'] at hc))
      refine W_rng 13 0 (x.length + 20) (fun i _ => True) (by simp only [asg, asgO, List.append_nil, List.nil_append, List.cons_append]; rfl) (by exact svc) (by omega) trivial ?_
      rintro i e' _ hi' hk e13 _
      have k0' : e' 0 = .list 1 (intsA x) nx cx := by rw [hk 0 rfl]; exact svc
      have k7' : e' 7 = .ms M.length 0 (x.length + 20) 1 true := by rw [hk 7 rfl]; exact svc
      have k8' : e' 8 = .list 1 [] true true := by rw [hk 8 rfl]; exact svc
      have k9' : e' 9 = .flat (.int .i64 pe) := by rw [hk 9 rfl]; exact svc
      have k10' : e' 10 = .list 1 [] true true := by rw [hk 10 rfl]; exact svc
      have k11' : e' 11 = .flat (.int .i64 pe) := by rw [hk 11 rfl]; exact svc
      clear hk h10 h11 hsp
      have hzl' : Z.length ≤ x.length + 20 ∧ x.length + 20 ≤ Z.length := by omega
      rcases Nat.lt_or_ge i (x.length + 20) with hlt | hlt
      · have hlt' : (i : Int) < x.length + 20 := by omega
        rcases Nat.lt_or_ge i x.length with hxl | hxl
        · have hxl' : (i : Int) < x.length := by omega
          have hiZ : i < Z.length := by omega
          have hz := hz1 i hxl hiZ
          clear hz1 hz2 hzl
          repeat' (first | ((with_reducible first | apply S_0 | apply S_q1 | apply S_g | apply S_c); exact sgc) | (with_reducible first | apply SO_q | apply SG_t | apply SG_f0 | apply SG_f1 | apply S_nil | apply T_n | apply W_seq | apply W_region | apply SO_x | apply SC_t | apply SC_f | apply W_block | apply W_ret | apply W_skip | apply W_exit | apply T_r | apply T_e | apply B_n | apply B_e) | (with_reducible apply B_ne; focus decide) | (with_reducible first | apply B_r | apply R_e | apply R_r | apply H_e | apply H_r | apply G_e | apply G_r) | (with_reducible apply SC_n) | ((with_reducible first | apply SC_d | apply SG_d | apply SG_n | apply SC_b | apply SG_b) <;> intro hc <;> try simp only [decide_eq_true_eq, decide_eq_false_iff_not, Classical.not_not, Bool.not_eq_true', Bool.not_eq_false'] at hc))
          all_goals first | exact H_n (by exact svc) hlt trivial | (exfalso; omega)
        · have hxl' : ¬ (i : Int) < x.length := by omega
          have hiZ : i < Z.length := by omega
          have hz := hz2 i (by omega) hiZ
          clear hz1 hz2 hzl
          repeat' (first | ((with_reducible first | apply S_0 | apply S_q1 | apply S_g | apply S_c); exact sgc) | (with_reducible first | apply SO_q | apply SG_t | apply SG_f0 | apply SG_f1 | apply S_nil | apply T_n | apply W_seq | apply W_region | apply SO_x | apply SC_t | apply SC_f | apply W_block | apply W_ret | apply W_skip | apply W_exit | apply T_r | apply T_e | apply B_n | apply B_e) | (with_reducible apply B_ne; focus decide) | (with_reducible first | apply B_r | apply R_e | apply R_r | apply H_e | apply H_r | apply G_e | apply G_r) | (with_reducible apply SC_n) | ((with_reducible first | apply SC_d | apply SG_d | apply SG_n | apply SC_b | apply SG_b) <;> intro hc <;> try simp only [decide_eq_true_eq, decide_eq_false_iff_not, Classical.not_not, Bool.not_eq_true', Bool.not_eq_false'] at hc))
          all_goals first | exact H_n (by exact svc) hlt trivial | (exfalso; omega)
      · have hlt' : ¬ (i : Int) < x.length + 20 := by omega
        clear v7
        repeat' (first | ((with_reducible first | apply S_0 | apply S_q1 | apply S_g | apply S_c); exact sgc) | (with_reducible first | apply SO_q | apply SG_t | apply SG_f0 | apply SG_f1 | apply S_nil | apply T_n | apply W_seq | apply W_region | apply SO_x | apply SC_t | apply SC_f | apply W_block | apply W_ret | apply W_skip | apply W_exit | apply T_r | apply T_e | apply B_n | apply B_e) | (with_reducible apply B_ne; focus decide) | (with_reducible first | apply B_r | apply R_e | apply R_r | apply H_e | apply H_r | apply G_e | apply G_r) | (with_reducible apply SC_n) | ((with_reducible first | apply SC_d | apply SG_d | apply SG_n | apply SC_b | apply SG_b) <;> intro hc <;> try simp only [decide_eq_true_eq, decide_eq_false_iff_not, Classical.not_not, Bool.not_eq_true', Bool.not_eq_false'] at hc))
        refine W_loop1 ?_
        repeat' (first | ((with_reducible first | apply S_0 | apply S_q1 | apply S_g | apply S_c); exact sgc) | (with_reducible first | apply SO_q | apply SG_t | apply SG_f0 | apply SG_f1 | apply S_nil | apply T_n | apply W_seq | apply W_region | apply SO_x | apply SC_t | apply SC_f | apply W_block | apply W_ret | apply W_skip | apply W_exit | apply T_r | apply T_e | apply B_n | apply B_e) | (with_reducible apply B_ne; focus decide) | (with_reducible first | apply B_r | apply R_e | apply R_r | apply H_e | apply H_r | apply G_e | apply G_r) | (with_reducible apply SC_n) | ((with_reducible first | apply SC_d | apply SG_d | apply SG_n | apply SC_b | apply SG_b) <;> intro hc <;> try simp only [decide_eq_true_eq, decide_eq_false_iff_not, Classical.not_not, Bool.not_eq_true', Bool.not_eq_false'] at hc))
        all_goals first | (refine ⟨by first | exact .inr rfl | exact .inl rfl, ?_⟩; simp (disch := first | assumption | decide | omega | exact List.getElem_mem _ | exact allI_ints _ | exact allI_rns _ | (simp only [List.length_take, List.length_drop, List.length_append, List.length_cons, List.length_nil, List.length_replicate, List.length_map, ints_len, rns_len]; omega)) only [resA, rvA, tupA, fin, frzV, frzTup, frzA, frz, isI, isI.all, Option.bind_some, go_sem, if_pos, if_neg, Nat.reduceBEq, Nat.reduceEqDiff, ↓reduceIte, Nat.reduceSub, Nat.reduceAdd, Int.reduceToNat, reduceCtorEq, Nat.reduceLeDiff, Nat.reduceLT, Nat.reduceMul, Nat.reduceDiv, Int.reduceLT, Int.reduceLE, Int.reduceEq, Int.reduceNe, Int.reduceAdd, Int.reduceSub, Int.reduceNeg, Int.reduceGT, Int.reduceGE, Int.reduceBEq, Int.reduceBNe, Int.reduceMul, *]) | (exfalso; omega)
  · refine ev_fn' A3 ?_
    repeat' (first | ((with_reducible first | apply S_0 | apply S_q1 | apply S_g | apply S_c); exact sgc) | (with_reducible first | apply SO_q | apply SG_t | apply SG_f0 | apply SG_f1 | apply S_nil | apply T_n | apply W_seq | apply W_region | apply SO_x | apply SC_t | apply SC_f | apply W_block | apply W_ret | apply W_skip | apply W_exit | apply T_r | apply T_e | apply B_n | apply B_e) | (with_reducible apply B_ne; focus decide) | (with_reducible first | apply B_r | apply R_e | apply R_r | apply H_e | apply H_r | apply G_e | apply G_r) | (with_reducible apply SC_n) | ((with_reducible first | apply SC_d | apply SG_d | apply SG_n | apply SC_b | apply SG_b) <;> intro hc <;> try simp only [decide_eq_true_eq, decide_eq_false_iff_not, Classical.not_not, Bool.not_eq_true', Bool.not_eq_false'] at hc))
    all_goals first | (refine ⟨by first | exact .inr rfl | exact .inl rfl, ?_⟩; simp (disch := first | assumption | decide | omega | exact List.getElem_mem _ | exact allI_ints _ | exact allI_rns _ | (simp only [List.length_take, List.length_drop, List.length_append, List.length_cons, List.length_nil, List.length_replicate, List.length_map, ints_len, rns_len]; omega)) only [resA, rvA, tupA, fin, frzV, frzTup, frzA, frz, isI, isI.all, Option.bind_some, go_sem, if_pos, if_neg, Nat.reduceBEq, Nat.reduceEqDiff, ↓reduceIte, Nat.reduceSub, Nat.reduceAdd, Int.reduceToNat, reduceCtorEq, Nat.reduceLeDiff, Nat.reduceLT, Nat.reduceMul, Nat.reduceDiv, Int.reduceLT, Int.reduceLE, Int.reduceEq, Int.reduceNe, Int.reduceAdd, Int.reduceSub, Int.reduceNeg, Int.reduceGT, Int.reduceGE, Int.reduceBEq, Int.reduceBNe, Int.reduceMul, *]) | (exfalso; omega)
theorem law_aspathPrepends (x0 x1 x2 : AV) (h0 : (DT.sl 1 (.int .i64)).Arg x0) (h1 : (DT.int .i64).Arg x1) (h2 : (DT.int .i64).Arg x2) : ev pr 3 [x0, x1, x2] [] = some (.q (.flat (.bool true))) := by
  obtain ⟨l, nl, cd, rfl, h3, h4⟩ := pth_arg h0
  obtain ⟨n, e, _⟩ : ∃ n, [x1] = [.flat (.int .i64 n)] ∧ (Lit.int .i64 n).wf = true := h1
  cases e
  obtain ⟨t, e, ht⟩ : ∃ n, [x2] = [.flat (.int .i64 n)] ∧ (Lit.int .i64 n).wf = true := h2
  cases e
  exact law3 h4 h3 (i64_wf ht) []
end Go.Proofs.Ytfpaegklkdfmmaa.Av
