/- The search: a row of choices that grows and shrinks; a copy of it. -/
import Derived.Test.YtopiaiibpacmlaaX8
import Derived.Test.YtopiaiibpacmlaaX10
namespace Go.Proofs.Ytopiaiibpacmlaa.Av
open Go.RowKit
set_option linter.unusedSimpArgs false
set_option linter.unusedVariables false
set_option maxHeartbeats 10000000
/-- A row of choices: the first cells of a block of the call's own, or a row that is full. -/
def PSV (M : MS) (x : AV) (s : List Pth) : Prop := x = .list 1 (s.map Pth.av) false true ∨ ∃ id cs, id < M.length ∧ x = .ms id 0 s.length 1 false ∧ M[id]? = some (some cs) ∧ cs.take s.length = s.map Pth.av ∧ s.length ≤ cs.length
theorem PSV.keep {M M' : MS} {x : AV} {s : List Pth} (h : PSV M x s) (hl : M.length ≤ M'.length) (hk : ∀ id, idOf x = some id → M'[id]? = M[id]?) : PSV M' x s := by
  rcases h with h | ⟨id, cs, h1, rfl, h⟩
  · exact .inl h
  · exact .inr ⟨id, cs, by omega, rfl, by rw [hk id rfl]; exact h.1, h.2⟩
theorem PSV.lt {M : MS} {x : AV} {s : List Pth} (h : PSV M x s) {id : Nat} (hi : idOf x = some id) : id < M.length := by
  rcases h with rfl | ⟨i, cs, h1, rfl, _⟩
  · cases hi
  · cases hi; exact h1
theorem PSV.vw {M : MS} {x : AV} {s : List Pth} (h : PSV M x s) : Vw M x (s.map Pth.av) s.length := by
  rcases h with rfl | ⟨id, cs, h1, rfl, h2, h3, h4⟩
  · exact Vw.list M Pth.av s false true
  · refine ⟨rfl, fun G => ?_, rfl⟩
    simp only [view, List.getElem?_append_left h1, h2]
    rw [if_pos (by omega), List.drop_zero, Nat.mul_one, h3]
theorem PSV.cell {M : MS} {x : AV} {s : List Pth} (h : PSV M x s) : cellsOf x = some [x] := h.vw.cell
section
variable {p : Pr} {base : Nat} {env : Env} {m : MS} {D : List Nat} {d : Option Nat} {r : List AOp} {R : Env → MS → List Nat → Prop}
theorem S_appP {a x : O} {sv y : AV} {s : List Pth} (hf : PSV m sv s) (hs : a.ev env = sv) (hx : x.ev env = .list 1 [y] false true) (hy : isI y = true) (hl : s.length ≤ 3000)
    (h : ∀ m' D', m'.length = m.length + 1 → m'[m.length]? = some (some (s.map Pth.av ++ [y])) → (∀ i, i < m.length → some i ≠ idOf sv → m'[i]? = m[i]?) → (∀ i ∈ D', i ∈ D ∨ some i = idOf sv) → WS p base 0 r (updO env d (.ms m.length 0 (s.length + 1) 1 false)) m' D' R) :
    WS p base 0 (⟨d, .app 1 24 a x, none⟩ :: r) env m D R := by
  have hyA : allI [y] = true := by simp only [allI, hy, Bool.and_self]
  rcases hf with rfl | ⟨id, cs, h1, rfl, h2, h3, h4⟩
  · have hv : evI (ev p) base env m D (.app 1 24 a x) = some (.x (.ms m.length 0 (s.length + 1) 1 false) (m ++ [some (s.map Pth.av ++ [y])]) D) := by
      simp only [evI, hx, view_list, lenOf_list, hs, List.length_singleton, Nat.div_one, appA, List.length_map]
      rw [if_neg (by decide), if_pos ⟨.inr trivial, trivial, hyA, trivial, by unfold LIM; omega, by omega⟩]
    exact S_0 hv (SO_x (h _ _ (by simp) (by simp) (fun i hi _ => by rw [List.getElem?_append_left hi]) fun i hi => .inl hi))
  · have hv : evI (ev p) base env m D (.app 1 24 a x) = some (.x (.ms m.length 0 (s.length + 1) 1 false) (m.set id none ++ [some (s.map Pth.av ++ [y])]) (dirt base id D)) := by
      simp only [evI, hx, view_list, lenOf_list, hs, List.length_singleton, Nat.div_one, appA, h2]
      rw [if_neg (by decide), if_pos ⟨trivial, hyA, trivial, by unfold LIM; omega, by omega, by omega⟩]
      simp only [Bool.false_eq_true, if_false, if_true, Nat.mul_one, h3]
    refine S_0 hv (SO_x (h _ _ (by simp) (by simp) (fun i hi hne => ?_) fun i hi => ?_))
    · rw [List.getElem?_append_left (by simpa using hi), List.getElem?_set_ne]
      intro e; exact hne (by rw [e]; rfl)
    · unfold dirt at hi
      split at hi
      · rcases List.mem_cons.1 hi with rfl | hi
        · exact .inr rfl
        · exact .inl hi
      · exact .inl hi
/-- A store into a block. -/
theorem S_putK {a x : O} {id off : Nat} {y : AV} {old : List AV} (ha : a.ev env = .mptr id off) (hx : x.ev env = y) (hc : cellsOf y = some [y]) (hm : m[id]? = some (some old)) (ho : off < old.length)
    (h : WS p base 0 r (updO env d (.flat undef)) (m.set id (some (old.set off y))) (dirt base id D) R) : WS p base 0 (⟨d, .storeK 1 a x, none⟩ :: r) env m D R := by
  have hsp : splice old off [y] = old.set off y := by
    unfold splice
    rw [List.set_eq_take_append_cons_drop, if_pos ho]
    simp
  have hv : evI (ev p) base env m D (.storeK 1 a x) = some (.x (.flat undef) (m.set id (some (old.set off y))) (dirt base id D)) := by
    simp only [evI, hx, hc, ha, List.length_singleton, if_true, storeKA, hm]
    rw [if_pos (by omega), hsp]
  exact S_0 hv (SO_x h)
end
theorem t71v (s : List Pth) (sv : AV) (M : MS) (hv : Vw M sv (s.map Pth.av) s.length) (hs : s.length ≤ 1000) (hp : ∀ p ∈ s, p.l.length ≤ 1000) : ∃ out, ev pr 71 [sv] M = some out ∧ ∃ v G, out = .x v (M ++ G) [] ∧ Own M.length (M ++ G) v 1 ((s.map cln).map Pth.av) := by
  have e0 := hv.v0
  have e1 := hv.len
  have e2 := hv.vw
  clear hv
  refine ev_fnE A71 ?_
  repeat' (first | ((with_reducible first | apply S_0 | apply S_q1 | apply S_g | apply S_c); exact sgc) | (with_reducible first | apply SO_q | apply SG_t | apply SG_f0 | apply SG_f1 | apply S_nil | apply T_n | apply W_seq | apply W_region | apply SO_x | apply SC_t | apply SC_f | apply W_block | apply W_ret | apply W_skip | apply W_exit | apply T_r | apply T_e | apply B_n | apply B_e) | (with_reducible apply B_ne; focus decide) | (with_reducible first | apply B_r | apply R_e | apply R_r | apply H_e | apply H_r | apply G_e | apply G_r) | (with_reducible apply SC_n) | ((with_reducible first | apply SC_d | apply SG_d | apply SG_n | apply SC_b | apply SG_b) <;> intro hc <;> try simp only [decide_eq_true_eq, decide_eq_false_iff_not, Classical.not_not, Bool.not_eq_true', Bool.not_eq_false'] at hc))
  refine W_rngM 8 0 s.length (fun i e m => ∃ v G, e 3 = v ∧ m = M ++ G ∧ Own M.length (M ++ G) v 1 (((s.take i).map cln).map Pth.av)) (by simp only [asg, asgO, List.append_nil, List.nil_append, List.cons_append]; rfl) (by exact svc) (by omega)
    ⟨.list 1 [] true true, [], by exact svc, by simp, by simpa using Own.nil _ _ (by decide)⟩ ?_
  rintro i e _ _ hi hk e8 ⟨w, G, e3, rfl, hO⟩
  have k6 : e 6 = sv := by rw [hk 6 rfl]; exact svc
  have k7 : e 7 = .flat (.int .i64 s.length) := by rw [hk 7 rfl]; exact svc
  clear hk
  have htl : (((s.take i).map cln).map Pth.av).length = i := by simp; omega
  rcases Nat.lt_or_ge i s.length with hlt | hlt
  · have hlt' : (i : Int) < s.length := by omega
    have htk : ((s.take (i + 1)).map cln).map Pth.av = ((s.take i).map cln).map Pth.av ++ [(cln s[i]).av] := by
      rw [List.take_succ_eq_append_getElem hlt, List.map_append, List.map_append]; rfl
    have hsp := hp _ (List.getElem_mem hlt)
    rcases Nat.eq_zero_or_pos s[i].l.length with h0 | h0
    · have hnil := List.eq_nil_of_length_eq_zero h0
      have h75 : ∀ M, ev pr 75 [.list 1 (intsA []) s[i].nl s[i].cd] M = some (.x (.list 1 [] s[i].nl true) M []) := fun M => t75e s[i].nl s[i].cd M
      rw [cln_e hnil] at htk
      repeat' (first | ((with_reducible first | apply S_0 | apply S_q1 | apply S_g | apply S_c); exact sgc) | (with_reducible first | apply SO_q | apply SG_t | apply SG_f0 | apply SG_f1 | apply S_nil | apply T_n | apply W_seq | apply W_region | apply SO_x | apply SC_t | apply SC_f | apply W_block | apply W_ret | apply W_skip | apply W_exit | apply T_r | apply T_e | apply B_n | apply B_e) | (with_reducible apply B_ne; focus decide) | (with_reducible first | apply B_r | apply R_e | apply R_r | apply H_e | apply H_r | apply G_e | apply G_r) | (with_reducible apply SC_n) | ((with_reducible first | apply SC_d | apply SG_d | apply SG_n | apply SC_b | apply SG_b) <;> intro hc <;> try simp only [decide_eq_true_eq, decide_eq_false_iff_not, Classical.not_not, Bool.not_eq_true', Bool.not_eq_false'] at hc))
      (refine S_ownG (cs := ((s.take i).map cln).map Pth.av) M G (by assumption) (by first | rfl | simp only [List.append_assoc, List.cons_append, List.nil_append]) (by exact sgc) (by exact sgc) (by exact sgc) (by exact sgc) (by exact sgc) (by (first | assumption | omega | (simp only [ints_len, Nat.div_one, Nat.one_mul, Nat.mul_one, List.length_map, rks_len, half, List.length_cons, List.length_nil, List.length_append, List.length_replicate]; omega))) (by (first | assumption | omega | (simp only [ints_len, Nat.div_one, Nat.one_mul, Nat.mul_one, List.length_map, rks_len, half, List.length_cons, List.length_nil, List.length_append, List.length_replicate]; omega))) (by first | omega | (simp; done) | (simp; omega)) ?_)
      intro v' G' hO2
      rw [← htk] at hO2
      repeat' (first | ((with_reducible first | apply S_0 | apply S_q1 | apply S_g | apply S_c); exact sgc) | (with_reducible first | apply SO_q | apply SG_t | apply SG_f0 | apply SG_f1 | apply S_nil | apply T_n | apply W_seq | apply W_region | apply SO_x | apply SC_t | apply SC_f | apply W_block | apply W_ret | apply W_skip | apply W_exit | apply T_r | apply T_e | apply B_n | apply B_e) | (with_reducible apply B_ne; focus decide) | (with_reducible first | apply B_r | apply R_e | apply R_r | apply H_e | apply H_r | apply G_e | apply G_r) | (with_reducible apply SC_n) | ((with_reducible first | apply SC_d | apply SG_d | apply SG_n | apply SC_b | apply SG_b) <;> intro hc <;> try simp only [decide_eq_true_eq, decide_eq_false_iff_not, Classical.not_not, Bool.not_eq_true', Bool.not_eq_false'] at hc))
      exact G_n (by exact svc) hlt ⟨v', G', by exact svc, rfl, hO2⟩
    · have h75 := fun M => t75 s[i].l s[i].nl s[i].cd M h0 (by omega) s[i].nil
      have hO' := hO.growG [none]
      rw [cln_n h0] at htk
      repeat' (first | ((with_reducible first | apply S_0 | apply S_q1 | apply S_g | apply S_c); exact sgc) | (with_reducible first | apply SO_q | apply SG_t | apply SG_f0 | apply SG_f1 | apply S_nil | apply T_n | apply W_seq | apply W_region | apply SO_x | apply SC_t | apply SC_f | apply W_block | apply W_ret | apply W_skip | apply W_exit | apply T_r | apply T_e | apply B_n | apply B_e) | (with_reducible apply B_ne; focus decide) | (with_reducible first | apply B_r | apply R_e | apply R_r | apply H_e | apply H_r | apply G_e | apply G_r) | (with_reducible apply SC_n) | ((with_reducible first | apply SC_d | apply SG_d | apply SG_n | apply SC_b | apply SG_b) <;> intro hc <;> try simp only [decide_eq_true_eq, decide_eq_false_iff_not, Classical.not_not, Bool.not_eq_true', Bool.not_eq_false'] at hc))
      (refine S_ownG (cs := ((s.take i).map cln).map Pth.av) M (G ++ [none]) (by assumption) (by first | rfl | simp only [List.append_assoc, List.cons_append, List.nil_append]) (by exact sgc) (by exact sgc) (by exact sgc) (by exact sgc) (by exact sgc) (by (first | assumption | omega | (simp only [ints_len, Nat.div_one, Nat.one_mul, Nat.mul_one, List.length_map, rks_len, half, List.length_cons, List.length_nil, List.length_append, List.length_replicate]; omega))) (by (first | assumption | omega | (simp only [ints_len, Nat.div_one, Nat.one_mul, Nat.mul_one, List.length_map, rks_len, half, List.length_cons, List.length_nil, List.length_append, List.length_replicate]; omega))) (by first | omega | (simp; done) | (simp; omega)) ?_)
      intro v' G' hO2
      rw [← htk] at hO2
      repeat' (first | ((with_reducible first | apply S_0 | apply S_q1 | apply S_g | apply S_c); exact sgc) | (with_reducible first | apply SO_q | apply SG_t | apply SG_f0 | apply SG_f1 | apply S_nil | apply T_n | apply W_seq | apply W_region | apply SO_x | apply SC_t | apply SC_f | apply W_block | apply W_ret | apply W_skip | apply W_exit | apply T_r | apply T_e | apply B_n | apply B_e) | (with_reducible apply B_ne; focus decide) | (with_reducible first | apply B_r | apply R_e | apply R_r | apply H_e | apply H_r | apply G_e | apply G_r) | (with_reducible apply SC_n) | ((with_reducible first | apply SC_d | apply SG_d | apply SG_n | apply SC_b | apply SG_b) <;> intro hc <;> try simp only [decide_eq_true_eq, decide_eq_false_iff_not, Classical.not_not, Bool.not_eq_true', Bool.not_eq_false'] at hc))
      exact G_n (by exact svc) hlt ⟨v', G', by exact svc, rfl, hO2⟩
  · have hlt' : ¬ (i : Int) < s.length := by omega
    obtain rfl : i = s.length := by omega
    rw [List.take_length] at hO
    clear hp
    repeat' (first | ((with_reducible first | apply S_0 | apply S_q1 | apply S_g | apply S_c); exact sgc) | (with_reducible first | apply SO_q | apply SG_t | apply SG_f0 | apply SG_f1 | apply S_nil | apply T_n | apply W_seq | apply W_region | apply SO_x | apply SC_t | apply SC_f | apply W_block | apply W_ret | apply W_skip | apply W_exit | apply T_r | apply T_e | apply B_n | apply B_e) | (with_reducible apply B_ne; focus decide) | (with_reducible first | apply B_r | apply R_e | apply R_r | apply H_e | apply H_r | apply G_e | apply G_r) | (with_reducible apply SC_n) | ((with_reducible first | apply SC_d | apply SG_d | apply SG_n | apply SC_b | apply SG_b) <;> intro hc <;> try simp only [decide_eq_true_eq, decide_eq_false_iff_not, Classical.not_not, Bool.not_eq_true', Bool.not_eq_false'] at hc))
    refine ⟨.inr rfl, _, rfl, w, G, ?_, hO⟩
    simp only [fin, if_true, resA, rvA, tupA]
    (simp (disch := first | assumption | decide | omega | exact Pth.le _ | exact Rks.le _ | exact List.getElem_mem _ | exact allI_ints _ | exact allI_rks _ | exact allI_pths _ | exact Pth.nil _ | exact Rks.nil _ | (intro hh; simp only [Pth.nil _ hh, List.take_nil, List.drop_nil]; done) | (intro hh; simp only [Rks.nil _ hh, List.take_nil, List.drop_nil]; done) | (simp only [List.length_take, List.length_drop, List.length_append, List.length_cons, List.length_nil, List.length_replicate, List.length_map, ints_len]; omega)) only [go_sem, if_pos, if_neg, Nat.reduceBEq, Nat.reduceEqDiff, ↓reduceIte, Nat.reduceSub, Nat.reduceAdd, Int.reduceToNat, reduceCtorEq, Nat.reduceLeDiff, Nat.reduceLT, Nat.reduceMul, Nat.reduceDiv, Int.reduceLT, Int.reduceLE, Int.reduceEq, Int.reduceNe, Int.reduceAdd, Int.reduceSub, Int.reduceNeg, Int.reduceGT, Int.reduceGE, Int.reduceBEq, Int.reduceBNe, Int.reduceMul, *])
end Go.Proofs.Ytopiaiibpacmlaa.Av
namespace Go.Proofs.Ytopiaiibpacmlaa.Av
open Go.RowKit
set_option linter.unusedSimpArgs false
set_option linter.unusedVariables false
set_option maxHeartbeats 10000000
theorem run_k (most : Int) (y : List (List Pa) → List Pa → Bool × List (List Pa)) : ∀ (E : List Tr) (z : Zs), (z.k : Int) ≤ most → ((runT most y E z).2.k : Int) ≤ most
  | [], z, h => h
  | .st :: E, z, h => by
    simp only [runT]
    split
    · exact h
    · exact run_k most y E _ (by simp only; omega)
  | .fd s :: E, z, h => by
    simp only [runT]
    split
    · exact run_k most y E _ h
    · exact h
theorem run_a {most : Int} {y : List (List Pa) → List Pa → Bool × List (List Pa)} (hy : ∀ a s, (y a s).2.length ≤ a.length + 1) : ∀ (E : List Tr) (z : Zs), (runT most y E z).2.a.length ≤ z.a.length + (fdsT E).length
  | [], z => by simp [runT]
  | .st :: E, z => by
    rw [fds_st]
    simp only [runT]
    split
    · simp only; omega
    · exact run_a hy E _
  | .fd s :: E, z => by
    have h1 := hy z.a s
    rw [fds_fd, List.length_cons]
    simp only [runT]
    split
    · have := run_a (most := most) hy E ⟨z.k, (y z.a s).2⟩
      simp only at this; omega
    · simp only; omega
/-- The cells of a search. -/
def zc (l : List Rks) (nl cd : Bool) (sv : AV) (k : Nat) (most : Int) (f : Bool) : List AV :=
  [.flat (.int .i64 l.length), .list 1 (l.map Rks.av) nl cd, sv, .flat (.int .i64 k), .flat (.int .i64 most), .flat (.bool f)]
/-- What yield does: what it knows is told by YI: whether it has said no, what it was handed, which blocks it uses. -/
structure Yld (P : Nat) (l : List Rks) (nl cd : Bool) (most : Int) (yn Lid : Nat) (caps : List AV) (y : List (List Pa) → List Pa → Bool × List (List Pa)) (YI : MS → Bool → List (List Pa) → List Nat → Prop) : Prop where
  one : ∀ a s, (y a s).2.length ≤ a.length + 1
  lt : ∀ {M e a F}, YI M e a F → ∀ i ∈ F, i < M.length
  stab : ∀ {M M' e a F}, YI M e a F → M.length ≤ M'.length → (∀ i ∈ F, M'[i]? = M[i]?) → YI M' e a F
  call : ∀ {M a F id} {s : List Pth}, YI M false a F → (∃ sv k, M[P]? = some (some (zc l nl cd sv k most false))) → P ∉ F → P ≠ id → a.length < 3000 → id < M.length → id ∉ F → 1 ≤ s.length → s.length ≤ 1000 → M[id]? = some (some (s.map Pth.av)) →
    ∃ M' D' F', ev pr yn [.yld Lid yn caps, .ms id 0 s.length 1 false] M = some (.x (.flat (.bool (y a (pl s)).1)) M' D') ∧ YI M' (!(y a (pl s)).1) (y a (pl s)).2 F' ∧ M.length ≤ M'.length ∧
      (∀ i, i < M.length → i ∉ F → i ≠ id → M'[i]? = M[i]?) ∧ (∀ i ∈ F', i ∈ F ∨ M.length ≤ i) ∧ (∀ i ∈ D', i < M.length → i ∈ F ∨ i = id)
section
variable (YI : MS → Bool → List (List Pa) → List Nat → Prop) (P : Nat) (l : List Rks) (nl cd : Bool) (most : Int)
/-- Ahead of a part of the search. -/
structure Bef (M : MS) (sv : AV) (s : List Pth) (k : Nat) (a : List (List Pa)) (F : List Nat) : Prop where
  at_ : M[P]? = some (some (zc l nl cd sv k most false))
  row : PSV M sv s
  yi : YI M false a F
  pf : P ∉ F
  sd : ∀ i, idOf sv = some i → i ∉ F ∧ i ≠ P
/-- Behind it. -/
structure Pst (M M' : MS) (sv : AV) (s : List Pth) (F D' : List Nat) (r : How × Zs) (sv' : AV) (F' : List Nat) : Prop where
  at_ : M'[P]? = some (some (zc l nl cd sv' r.2.k most (decide (r.1 = .full))))
  row : PSV M' sv' s
  yi : YI M' (decide (r.1 = .no)) r.2.a F'
  len : M.length ≤ M'.length
  fr : ∀ i, i < M.length → i ≠ P → some i ≠ idOf sv → i ∉ F → M'[i]? = M[i]?
  ff : ∀ i ∈ F', i ∈ F ∨ M.length ≤ i
  fs : ∀ i, idOf sv' = some i → (idOf sv = some i ∨ M.length ≤ i) ∧ i ∉ F' ∧ i ≠ P
  dd : ∀ i ∈ D', i < M.length → i = P ∨ some i = idOf sv ∨ i ∈ F
  mks : (idOf sv).isSome → (idOf sv').isSome
end
section
variable {YI : MS → Bool → List (List Pa) → List Nat → Prop} {P : Nat} {l : List Rks} {nl cd : Bool} {most : Int} {M M' : MS} {sv sv' : AV} {s : List Pth} {F F' D D' : List Nat} {yn Lid : Nat} {caps : List AV} {y : List (List Pa) → List Pa → Bool × List (List Pa)}
theorem Bef.lt {k : Nat} {a : List (List Pa)} (h : Bef YI P l nl cd most M sv s k a F) : P < M.length := (List.getElem?_eq_some_iff.1 h.at_).1
theorem Bef.pst {k : Nat} {a : List (List Pa)} (h : Bef YI P l nl cd most M sv s k a F) : Pst YI P l nl cd most M M sv s F [] (.ok, ⟨k, a⟩) sv F :=
  ⟨h.at_, h.row, h.yi, Nat.le_refl _, fun _ _ _ _ _ => rfl, fun i hi => .inl hi, fun i hi => ⟨.inl hi, (h.sd i hi).1, (h.sd i hi).2⟩, fun i hi => by simp at hi, fun h => h⟩
theorem Pst.grow (hY : Yld P l nl cd most yn Lid caps y YI) {r : How × Zs} (h : Pst YI P l nl cd most M M' sv s F D r sv' F') (G : MS) : Pst YI P l nl cd most M (M' ++ G) sv s F D r sv' F' := by
  have hlt := (List.getElem?_eq_some_iff.1 h.at_).1
  refine ⟨by rw [List.getElem?_append_left hlt]; exact h.at_, h.row.keep (by simp) fun id hid => List.getElem?_append_left (h.row.lt hid), hY.stab h.yi (by simp) fun i hi => List.getElem?_append_left (hY.lt h.yi i hi),
    by have := h.len; simp; omega, fun i hi h1 h2 h3 => ?_, h.ff, h.fs, h.dd, h.mks⟩
  rw [List.getElem?_append_left (by have := h.len; omega)]
  exact h.fr i hi h1 h2 h3
theorem Pst.bef {k : Nat} {a : List (List Pa)} (hb : Bef YI P l nl cd most M sv s k a F) {z : Zs} (h : Pst YI P l nl cd most M M' sv s F D (.ok, z) sv' F') : Bef YI P l nl cd most M' sv' s z.k z.a F' :=
  ⟨h.at_, h.row, h.yi, fun hp => by
    rcases h.ff P hp with h1 | h1
    · exact hb.pf h1
    · have := hb.lt; omega, fun i hi => (h.fs i hi).2⟩
theorem Pst.trans {k : Nat} {a : List (List Pa)} (hb : Bef YI P l nl cd most M sv s k a F) {M2 : MS} {D2 : List Nat} {r r' : How × Zs} {sv2 : AV} {F2 : List Nat} (h : Pst YI P l nl cd most M M' sv s F D r sv' F') (h2 : Pst YI P l nl cd most M' M2 sv' s F' D2 r' sv2 F2)
    {D3 : List Nat} (hD : ∀ i ∈ D3, i ∈ D ∨ i ∈ D2) : Pst YI P l nl cd most M M2 sv s F D3 r' sv2 F2 := by
  refine ⟨h2.at_, h2.row, h2.yi, Nat.le_trans h.len h2.len, fun i hi h1 h3 h4 => ?_, fun i hi => ?_, fun i hi => ?_, fun i hi hlt => ?_, fun hs => h2.mks (h.mks hs)⟩
  · rw [h2.fr i (by have := h.len; omega) h1 (fun e => ?_) (fun e => ?_)]
    · exact h.fr i hi h1 h3 h4
    · rcases (h.fs i e.symm).1 with h5 | h5
      · exact h3 h5.symm
      · omega
    · rcases h.ff i e with h5 | h5
      · exact h4 h5
      · omega
  · rcases h2.ff i hi with h5 | h5
    · exact h.ff i h5
    · exact .inr (Nat.le_trans h.len h5)
  · obtain ⟨h3, h4⟩ := h2.fs i hi
    refine ⟨?_, h4⟩
    rcases h3 with h5 | h5
    · exact (h.fs i h5).1
    · exact .inr (Nat.le_trans h.len h5)
  · rcases hD i hi with h5 | h5
    · exact h.dd i h5 hlt
    · rcases h2.dd i h5 (by have := h.len; omega) with h6 | h6 | h6
      · exact .inl h6
      · rcases (h.fs i h6.symm).1 with h7 | h7
        · exact .inr (.inl h7.symm)
        · omega
      · rcases h.ff i h6 with h7 | h7
        · exact .inr (.inr h7)
        · omega
end
section
variable {p : Pr} {base : Nat} {env : Env} {m : MS} {D : List Nat} {d : Option Nat} {r : List AOp} {R : Env → MS → List Nat → Prop}
/-- A store into a block; what memory it makes isn't told but by what lies there. -/
theorem S_putX {a x : O} {id off : Nat} {y : AV} {old : List AV} (ha : a.ev env = .mptr id off) (hx : x.ev env = y) (hc : cellsOf y = some [y]) (hm : m[id]? = some (some old)) (ho : off < old.length)
    (h : ∀ m', m'.length = m.length → m'[id]? = some (some (old.set off y)) → (∀ i, i ≠ id → m'[i]? = m[i]?) → WS p base 0 r (updO env d (.flat undef)) m' (dirt base id D) R) : WS p base 0 (⟨d, .storeK 1 a x, none⟩ :: r) env m D R :=
  S_putK ha hx hc hm ho (h _ (by simp) (by rw [List.getElem?_set_self (List.getElem?_eq_some_iff.1 hm).1]) fun i hi => by rw [List.getElem?_set_ne (Ne.symm hi)])
end
end Go.Proofs.Ytopiaiibpacmlaa.Av
namespace Go.Proofs.Ytopiaiibpacmlaa.Av
open Go.RowKit
set_option linter.unusedSimpArgs false
set_option linter.unusedVariables false
set_option maxHeartbeats 10000000
theorem pl_sn (s : List Pth) (p : Pth) : pl (s ++ [p]) = pl s ++ [p.l] := by simp [pl]
theorem mem_dirt {b id i : Nat} {D : List Nat} (h : i ∈ dirt b id D) : i ∈ D ∨ i = id := by
  unfold dirt at h
  split at h
  · rcases List.mem_cons.1 h with h | h
    · exact .inr h
    · exact .inl h
  · exact .inl h
section
variable (YI : MS → Bool → List (List Pa) → List Nat → Prop) (P : Nat) (l : List Rks) (nl cd : Bool) (most : Int) (yn Lid : Nat) (caps : List AV) (y : List (List Pa) → List Pa → Bool × List (List Pa))
def S119 (n : Nat) : Prop := ∀ (M : MS) (sv : AV) (s : List Pth) (k : Nat) (a : List (List Pa)) (F : List Nat), s.length + n = l.length → 1 ≤ s.length → (k : Int) ≤ most → (∀ p ∈ s, p.l.length ≤ 1000) → a.length + (fdsT (trc (plX l) n (pl s))).length ≤ 3000 → Bef YI P l nl cd most M sv s k a F →
  ∃ out, ev pr 119 [.mptr P 0, .yld Lid yn caps] M = some out ∧ ∃ M' D' sv' F', out = .x (.flat (.bool (decide ((runT most y (trc (plX l) n (pl s)) ⟨k, a⟩).1 = .ok)))) M' D' ∧ Pst YI P l nl cd most M M' sv s F D' (runT most y (trc (plX l) n (pl s)) ⟨k, a⟩) sv' F'
def evT (n : Nat) (s : List Pa) (p : Pa) : List Tr := .st :: (if fitsA (plX l) (s ++ [p]) then trc (plX l) n (s ++ [p]) else [])
def S134 (n : Nat) : Prop := ∀ (M : MS) (sv : AV) (s : List Pth) (k : Nat) (a : List (List Pa)) (F : List Nat) (p : Pth), s.length + n + 1 = l.length → 1 ≤ s.length → (k : Int) ≤ most → (∀ p ∈ s, p.l.length ≤ 1000) → p.l.length ≤ 1000 → a.length + (fdsT (evT l n (pl s) p.l)).length ≤ 3000 → Bef YI P l nl cd most M sv s k a F →
  ∃ out, ev pr 134 [.mptr P 0, p.av, .yld Lid yn caps] M = some out ∧ ∃ M' D' sv' F', out = .x (.flat (.bool (decide ((runT most y (evT l n (pl s) p.l) ⟨k, a⟩).1 = .ok)))) M' D' ∧ Pst YI P l nl cd most M M' sv s F D' (runT most y (evT l n (pl s) p.l) ⟨k, a⟩) sv' F'
end
section
variable {YI : MS → Bool → List (List Pa) → List Nat → Prop} {P : Nat} {l : List Rks} {nl cd : Bool} {most : Int} {yn Lid : Nat} {caps : List AV} {y : List (List Pa) → List Pa → Bool × List (List Pa)}
theorem t134 (hY : Yld P l nl cd most yn Lid caps y YI) (hX : MayX l.length l) (hS : SmallX l) (hm : most ≤ 9223372036854775807) {n : Nat} (IH : S119 YI P l nl cd most yn Lid caps y n) : S134 YI P l nl cd most yn Lid caps y n := by
  intro M sv s k a F p hl h1 hk hps hpp hbd hb
  have hP0 := hb.at_
  have hPl := hb.lt
  have h12 := hS.1
  unfold zc at hP0
  have hal : aliveA M P = true := by simp only [aliveA, hP0]
  by_cases hkm : (k : Int) = most
  · have hr : runT most y (evT l n (pl s) p.l) ⟨k, a⟩ = (.full, ⟨k, a⟩) := by simp only [evT, runT, hkm, if_true]
    rw [hr]
    clear IH hX hS
    refine ev_fnE A134 ?_
    repeat' (first | ((with_reducible first | apply S_0 | apply S_q1 | apply S_g | apply S_c); exact sgc) | (with_reducible first | apply SO_q | apply SG_t | apply SG_f0 | apply SG_f1 | apply S_nil | apply T_n | apply W_seq | apply W_region | apply SO_x | apply SC_t | apply SC_f | apply W_block | apply W_ret | apply W_skip | apply W_exit | apply T_r | apply T_e | apply B_n | apply B_e) | (with_reducible apply B_ne; focus decide) | (with_reducible first | apply B_r | apply R_e | apply R_r | apply H_e | apply H_r | apply G_e | apply G_r) | (with_reducible apply SC_n) | ((with_reducible first | apply SC_d | apply SG_d | apply SG_n | apply SC_b | apply SG_b) <;> intro hc <;> try simp only [decide_eq_true_eq, decide_eq_false_iff_not, Classical.not_not, Bool.not_eq_true', Bool.not_eq_false'] at hc))
    refine S_putX (off := 5) (y := .flat (.bool true)) (by exact svc) (by exact svc) rfl hP0 (by simp) ?_
    intro m1 g1 g2 g3
    repeat' (first | ((with_reducible first | apply S_0 | apply S_q1 | apply S_g | apply S_c); exact sgc) | (with_reducible first | apply SO_q | apply SG_t | apply SG_f0 | apply SG_f1 | apply S_nil | apply T_n | apply W_seq | apply W_region | apply SO_x | apply SC_t | apply SC_f | apply W_block | apply W_ret | apply W_skip | apply W_exit | apply T_r | apply T_e | apply B_n | apply B_e) | (with_reducible apply B_ne; focus decide) | (with_reducible first | apply B_r | apply R_e | apply R_r | apply H_e | apply H_r | apply G_e | apply G_r) | (with_reducible apply SC_n) | ((with_reducible first | apply SC_d | apply SG_d | apply SG_n | apply SC_b | apply SG_b) <;> intro hc <;> try simp only [decide_eq_true_eq, decide_eq_false_iff_not, Classical.not_not, Bool.not_eq_true', Bool.not_eq_false'] at hc))
    refine ⟨.inr rfl, .x (.flat (.bool false)) m1 (dirt M.length P []), ?_, m1, _, sv, F, rfl, ?_⟩
    · simp only [fin, if_true, resA, rvA, tupA]
      (simp (disch := first | assumption | decide | omega | exact Pth.le _ | exact Rks.le _ | exact List.getElem_mem _ | exact allI_ints _ | exact allI_rks _ | exact allI_pths _ | exact Pth.nil _ | exact Rks.nil _ | (intro hh; simp only [Pth.nil _ hh, List.take_nil, List.drop_nil]; done) | (intro hh; simp only [Rks.nil _ hh, List.take_nil, List.drop_nil]; done) | (simp only [List.length_take, List.length_drop, List.length_append, List.length_cons, List.length_nil, List.length_replicate, List.length_map, ints_len]; omega)) only [go_sem, if_pos, if_neg, Nat.reduceBEq, Nat.reduceEqDiff, ↓reduceIte, Nat.reduceSub, Nat.reduceAdd, Int.reduceToNat, reduceCtorEq, Nat.reduceLeDiff, Nat.reduceLT, Nat.reduceMul, Nat.reduceDiv, Int.reduceLT, Int.reduceLE, Int.reduceEq, Int.reduceNe, Int.reduceAdd, Int.reduceSub, Int.reduceNeg, Int.reduceGT, Int.reduceGE, Int.reduceBEq, Int.reduceBNe, Int.reduceMul, *])
    · exact ⟨by rw [g2]; simp [zc], hb.row.keep (by omega) fun id hid => g3 id (hb.sd id hid).2, hY.stab hb.yi (by omega) fun i hi => g3 i fun e => hb.pf (e ▸ hi), by omega, fun i _ h _ _ => g3 i h, fun i hi => .inl hi,
        fun i hi => ⟨.inl hi, hb.sd i hi⟩, fun i hi _ => by rcases mem_dirt hi with h | h; · simp at h
                                                            · exact .inl h, fun h => h⟩
  · have hkl : (k : Int) < most := by omega
    have hkH : Hid (¬ (k : Int) = most) := hkm
    have hne : some P ≠ idOf sv := fun e => (hb.sd P e.symm).2 rfl
    have hr : runT most y (evT l n (pl s) p.l) ⟨k, a⟩ = runT most y (if fitsA (plX l) (pl s ++ [p.l]) then trc (plX l) n (pl s ++ [p.l]) else []) ⟨k + 1, a⟩ := by
      simp only [evT, runT]; rw [if_neg hkm]
    rw [hr]
    have hk1 : ((k + 1 : Nat) : Int) ≤ most := by omega
    refine ev_fnE A134 ?_
    repeat' (first | ((with_reducible first | apply S_0 | apply S_q1 | apply S_g | apply S_c); exact sgc) | (with_reducible first | apply SO_q | apply SG_t | apply SG_f0 | apply SG_f1 | apply S_nil | apply T_n | apply W_seq | apply W_region | apply SO_x | apply SC_t | apply SC_f | apply W_block | apply W_ret | apply W_skip | apply W_exit | apply T_r | apply T_e | apply B_n | apply B_e) | (with_reducible apply B_ne; focus decide) | (with_reducible first | apply B_r | apply R_e | apply R_r | apply H_e | apply H_r | apply G_e | apply G_r) | (with_reducible apply SC_n) | ((with_reducible first | apply SC_d | apply SG_d | apply SG_n | apply SC_b | apply SG_b) <;> intro hc <;> try simp only [decide_eq_true_eq, decide_eq_false_iff_not, Classical.not_not, Bool.not_eq_true', Bool.not_eq_false'] at hc))
    refine S_putX (off := 3) (y := .flat (.int .i64 ((k : Int) + 1))) (by exact svc) (by exact svc) rfl hP0 (by simp) ?_
    intro m1 g1 g2 g3
    simp only [List.set_cons_succ, List.set_cons_zero] at g2
    have hal1 : aliveA m1 P = true := by simp only [aliveA, g2]
    have hsv1 : PSV m1 sv s := hb.row.keep (by omega) fun id hid => g3 id (hb.sd id hid).2
    repeat' (first | ((with_reducible first | apply S_0 | apply S_q1 | apply S_g | apply S_c); exact sgc) | (with_reducible first | apply SO_q | apply SG_t | apply SG_f0 | apply SG_f1 | apply S_nil | apply T_n | apply W_seq | apply W_region | apply SO_x | apply SC_t | apply SC_f | apply W_block | apply W_ret | apply W_skip | apply W_exit | apply T_r | apply T_e | apply B_n | apply B_e) | (with_reducible apply B_ne; focus decide) | (with_reducible first | apply B_r | apply R_e | apply R_r | apply H_e | apply H_r | apply G_e | apply G_r) | (with_reducible apply SC_n) | ((with_reducible first | apply SC_d | apply SG_d | apply SG_n | apply SC_b | apply SG_b) <;> intro hc <;> try simp only [decide_eq_true_eq, decide_eq_false_iff_not, Classical.not_not, Bool.not_eq_true', Bool.not_eq_false'] at hc))
    refine S_appP (y := p.av) hsv1 (by exact svc) (by exact svc) rfl (by omega) ?_
    intro m2 D2 q1 q2 q3 q4
    rw [g1]
    rw [g1] at q1 q2 q3
    have hP2 := (q3 P hPl hne).trans g2
    have hal2 : aliveA m2 P = true := by simp only [aliveA, hP2]
    repeat' (first | ((with_reducible first | apply S_0 | apply S_q1 | apply S_g | apply S_c); exact sgc) | (with_reducible first | apply SO_q | apply SG_t | apply SG_f0 | apply SG_f1 | apply S_nil | apply T_n | apply W_seq | apply W_region | apply SO_x | apply SC_t | apply SC_f | apply W_block | apply W_ret | apply W_skip | apply W_exit | apply T_r | apply T_e | apply B_n | apply B_e) | (with_reducible apply B_ne; focus decide) | (with_reducible first | apply B_r | apply R_e | apply R_r | apply H_e | apply H_r | apply G_e | apply G_r) | (with_reducible apply SC_n) | ((with_reducible first | apply SC_d | apply SG_d | apply SG_n | apply SC_b | apply SG_b) <;> intro hc <;> try simp only [decide_eq_true_eq, decide_eq_false_iff_not, Classical.not_not, Bool.not_eq_true', Bool.not_eq_false'] at hc))
    refine S_putX (off := 2) (y := .ms M.length 0 (s.length + 1) 1 false) (by exact svc) (by exact svc) rfl hP2 (by simp) ?_
    intro m3 u1 u2 u3
    simp only [List.set_cons_succ, List.set_cons_zero] at u2
    have hal3 : aliveA m3 P = true := by simp only [aliveA, u2]
    have hsv3 : PSV m3 (.ms M.length 0 (s.length + 1) 1 false) (s ++ [p]) := .inr ⟨M.length, _, by omega, by simp, (u3 _ (by omega)).trans q2, by rw [List.map_append]; exact List.take_of_length_le (by simp), by simp⟩
    have h141 := t141 (M := m3) (P := P) (n := (l.length : Int)) (l := l) ⟨u2, rfl, hsv3.vw⟩ hX hS (by simp) (by simp; omega)
    rw [pl_sn] at h141
    have hfr3 : ∀ i, i < M.length → i ≠ P → some i ≠ idOf sv → m3[i]? = M[i]? := fun i hi h2 h3 => by rw [u3 i h2, q3 i hi h3, g3 i h2]
    have hdd : ∀ i ∈ dirt M.length P D2, i = P ∨ some i = idOf sv := fun i hi => by
      rcases mem_dirt hi with h | h
      · rcases q4 i h with h | h
        · rcases mem_dirt h with h | h
          · simp at h
          · exact .inl h
        · exact .inr h
      · exact .inl h
    have hb3 : Bef YI P l nl cd most m3 (.ms M.length 0 (s.length + 1) 1 false) (s ++ [p]) (k + 1) a F :=
      ⟨by rw [u2]; simp [zc], hsv3, hY.stab hb.yi (by omega) fun i hi => hfr3 i (hY.lt hb.yi i hi) (fun e => hb.pf (e ▸ hi)) fun e => (hb.sd i e.symm).1 hi, hb.pf, fun i hi => by
        cases hi
        exact ⟨fun h => by have := hY.lt hb.yi _ h; omega, by omega⟩⟩
    -- what is left at the end
    have fin3 : ∀ {m4 m5 : MS} {D4 D5 : List Nat} {r : How × Zs} {F4 : List Nat} {id4 : Nat}, Pst YI P l nl cd most m3 m4 (.ms M.length 0 (s.length + 1) 1 false) (s ++ [p]) F D4 r (.ms id4 0 (s.length + 1) 1 false) F4 → m5.length = m4.length →
        m5[P]? = some (some (zc l nl cd (.ms id4 0 s.length 1 false) r.2.k most (decide (r.1 = .full)))) → (∀ i, i ≠ P → m5[i]? = m4[i]?) → (∀ i ∈ D5, i = P ∨ i ∈ D4 ∨ some i = idOf sv) → Pst YI P l nl cd most M m5 sv s F D5 r (.ms id4 0 s.length 1 false) F4 := by
      intro m4 m5 D4 D5 r F4 id4 h w1 w2 w3 w4
      have hlen := h.len
      have hi4 := h.row.lt (id := id4) rfl
      obtain ⟨f1, f2, f3⟩ := h.fs id4 rfl
      refine ⟨w2, ?_, hY.stab h.yi (by omega) fun i hi => w3 i fun e => ?_, by omega, fun i hi h2 h3 h4 => ?_, fun i hi => ?_, fun i hi => ?_, fun i hi hlt => ?_, fun _ => rfl⟩
      · rcases h.row with hh | ⟨id, cs, e1, e2, e3, e4, e5⟩
        · cases hh
        · simp only [AV.ms.injEq] at e2
          obtain ⟨rfl, _⟩ := e2
          have htk := congrArg (List.take s.length) e4
          rw [List.take_take, List.map_append, List.take_left' (by simp), Nat.min_eq_left (by simp)] at htk
          simp only [List.length_append, List.length_singleton] at e5
          exact .inr ⟨id4, cs, by omega, rfl, (w3 _ f3).trans e3, htk, by omega⟩
      · rcases h.ff i hi with h5 | h5
        · exact hb.pf (e ▸ h5)
        · omega
      · rw [w3 i h2, h.fr i (by omega) h2 (fun e => by cases e; omega) h4]
        exact hfr3 i hi h2 h3
      · rcases h.ff i hi with h5 | h5
        · exact .inl h5
        · exact .inr (by omega)
      · cases hi
        refine ⟨?_, f2, f3⟩
        rcases f1 with h5 | h5
        · cases h5; exact .inr (Nat.le_refl _)
        · exact .inr (by omega)
      · rcases w4 i hi with h5 | h5 | h5
        · exact .inl h5
        · rcases h.dd i h5 (by omega) with h6 | h6 | h6
          · exact .inl h6
          · cases h6; omega
          · exact .inr (.inr h6)
        · exact .inr (.inl h5)
    have hsl : ((s.length : Int) + 1 - 1).toNat = s.length := by omega
    have hba : ∀ b : Bool, (false && b) = false := fun b => rfl
    clear hsv1 hX hS
    cases hf : fitsA (plX l) (pl s ++ [p.l]) with
    | true =>
      rw [hf] at h141
      obtain ⟨out, h119, m4, D4, sv4, F4, rfl, hp4⟩ := IH m3 (.ms M.length 0 (s.length + 1) 1 false) (s ++ [p]) (k + 1) a F (by simp; omega) (by simp) hk1 (fun q hq => by
        rcases List.mem_append.1 hq with h | h
        · exact hps q h
        · rw [List.mem_singleton.1 h]; exact hpp) (by
          simp only [evT, hf, if_true, fds_st] at hbd
          rw [pl_sn]; exact hbd) hb3
      rw [pl_sn] at h119 hp4
      simp only [if_true]
      obtain ⟨r, hrr⟩ : ∃ r, r = runT most y (trc (plX l) n (pl s ++ [p.l])) ⟨k + 1, a⟩ := ⟨_, rfl⟩
      rw [← hrr] at h119 hp4 ⊢
      obtain ⟨id4, rfl⟩ : ∃ id4, sv4 = .ms id4 0 (s.length + 1) 1 false := by
        have := hp4.mks rfl
        rcases hp4.row with hh | ⟨id, cs, e1, e2, e3⟩
        · rw [hh] at this; cases this
        · exact ⟨id, by rw [e2]; simp⟩
      have hP4 := hp4.at_
      unfold zc at hP4
      have hal4 : aliveA m4 P = true := by simp only [aliveA, hP4]
      have hvw4 := hp4.row.vw.v0
      obtain ⟨b, hbe⟩ : ∃ b, decide (r.1 = .ok) = b := ⟨_, rfl⟩
      rw [hbe] at h119 ⊢
      clear IH hrr hf hr hb3 hfr3
      repeat' (first | ((with_reducible first | apply S_0 | apply S_q1 | apply S_g | apply S_c); exact sgc) | (with_reducible first | apply SO_q | apply SG_t | apply SG_f0 | apply SG_f1 | apply S_nil | apply T_n | apply W_seq | apply W_region | apply SO_x | apply SC_t | apply SC_f | apply W_block | apply W_ret | apply W_skip | apply W_exit | apply T_r | apply T_e | apply B_n | apply B_e) | (with_reducible apply B_ne; focus decide) | (with_reducible first | apply B_r | apply R_e | apply R_r | apply H_e | apply H_r | apply G_e | apply G_r) | (with_reducible apply SC_n) | ((with_reducible first | apply SC_d | apply SG_d | apply SG_n | apply SC_b | apply SG_b) <;> intro hc <;> try simp only [decide_eq_true_eq, decide_eq_false_iff_not, Classical.not_not, Bool.not_eq_true', Bool.not_eq_false'] at hc))
      refine S_putX (off := 2) (y := .ms id4 0 s.length 1 false) (by exact svc) (by exact svc) rfl hP4 (by simp) ?_
      intro m5 w1 w2 w3
      repeat' (first | ((with_reducible first | apply S_0 | apply S_q1 | apply S_g | apply S_c); exact sgc) | (with_reducible first | apply SO_q | apply SG_t | apply SG_f0 | apply SG_f1 | apply S_nil | apply T_n | apply W_seq | apply W_region | apply SO_x | apply SC_t | apply SC_f | apply W_block | apply W_ret | apply W_skip | apply W_exit | apply T_r | apply T_e | apply B_n | apply B_e) | (with_reducible apply B_ne; focus decide) | (with_reducible first | apply B_r | apply R_e | apply R_r | apply H_e | apply H_r | apply G_e | apply G_r) | (with_reducible apply SC_n) | ((with_reducible first | apply SC_d | apply SG_d | apply SG_n | apply SC_b | apply SG_b) <;> intro hc <;> try simp only [decide_eq_true_eq, decide_eq_false_iff_not, Classical.not_not, Bool.not_eq_true', Bool.not_eq_false'] at hc))
      refine ⟨.inr rfl, .x (.flat (.bool b)) m5 (dirt M.length P (List.filter (fun x => decide (x < M.length)) D4 ++ dirt M.length P D2)), ?_, m5, _, .ms id4 0 s.length 1 false, F4, rfl, fin3 hp4 w1 (by rw [w2]; simp [zc]) w3 ?_⟩
      · simp only [fin, if_true, resA, rvA, tupA]
        (simp (disch := first | assumption | decide | omega | exact Pth.le _ | exact Rks.le _ | exact List.getElem_mem _ | exact allI_ints _ | exact allI_rks _ | exact allI_pths _ | exact Pth.nil _ | exact Rks.nil _ | (intro hh; simp only [Pth.nil _ hh, List.take_nil, List.drop_nil]; done) | (intro hh; simp only [Rks.nil _ hh, List.take_nil, List.drop_nil]; done) | (simp only [List.length_take, List.length_drop, List.length_append, List.length_cons, List.length_nil, List.length_replicate, List.length_map, ints_len]; omega)) only [go_sem, if_pos, if_neg, Nat.reduceBEq, Nat.reduceEqDiff, ↓reduceIte, Nat.reduceSub, Nat.reduceAdd, Int.reduceToNat, reduceCtorEq, Nat.reduceLeDiff, Nat.reduceLT, Nat.reduceMul, Nat.reduceDiv, Int.reduceLT, Int.reduceLE, Int.reduceEq, Int.reduceNe, Int.reduceAdd, Int.reduceSub, Int.reduceNeg, Int.reduceGT, Int.reduceGE, Int.reduceBEq, Int.reduceBNe, Int.reduceMul, *])
      · intro i hi
        rcases mem_dirt hi with h | h
        · rcases List.mem_append.1 h with h | h
          · exact .inr (.inl (List.mem_filter.1 h).1)
          · exact (hdd i h).imp (fun h => h) (fun h => .inr h)
        · exact .inl h
    | false =>
      rw [hf] at h141
      simp only [Bool.false_eq_true, if_false]
      have hp4 : Pst YI P l nl cd most m3 m3 (.ms M.length 0 (s.length + 1) 1 false) (s ++ [p]) F [] (.ok, ⟨k + 1, a⟩) (.ms M.length 0 (s.length + 1) 1 false) F := hb3.pst
      have hvw4 := hsv3.vw.v0
      have hr2 : runT most y [] ⟨k + 1, a⟩ = (.ok, ⟨k + 1, a⟩) := rfl
      rw [hr2]
      clear IH hf hr hb3 hfr3 hr2
      repeat' (first | ((with_reducible first | apply S_0 | apply S_q1 | apply S_g | apply S_c); exact sgc) | (with_reducible first | apply SO_q | apply SG_t | apply SG_f0 | apply SG_f1 | apply S_nil | apply T_n | apply W_seq | apply W_region | apply SO_x | apply SC_t | apply SC_f | apply W_block | apply W_ret | apply W_skip | apply W_exit | apply T_r | apply T_e | apply B_n | apply B_e) | (with_reducible apply B_ne; focus decide) | (with_reducible first | apply B_r | apply R_e | apply R_r | apply H_e | apply H_r | apply G_e | apply G_r) | (with_reducible apply SC_n) | ((with_reducible first | apply SC_d | apply SG_d | apply SG_n | apply SC_b | apply SG_b) <;> intro hc <;> try simp only [decide_eq_true_eq, decide_eq_false_iff_not, Classical.not_not, Bool.not_eq_true', Bool.not_eq_false'] at hc))
      refine S_putX (off := 2) (y := .ms M.length 0 s.length 1 false) (by exact svc) (by exact svc) rfl u2 (by simp) ?_
      intro m5 w1 w2 w3
      repeat' (first | ((with_reducible first | apply S_0 | apply S_q1 | apply S_g | apply S_c); exact sgc) | (with_reducible first | apply SO_q | apply SG_t | apply SG_f0 | apply SG_f1 | apply S_nil | apply T_n | apply W_seq | apply W_region | apply SO_x | apply SC_t | apply SC_f | apply W_block | apply W_ret | apply W_skip | apply W_exit | apply T_r | apply T_e | apply B_n | apply B_e) | (with_reducible apply B_ne; focus decide) | (with_reducible first | apply B_r | apply R_e | apply R_r | apply H_e | apply H_r | apply G_e | apply G_r) | (with_reducible apply SC_n) | ((with_reducible first | apply SC_d | apply SG_d | apply SG_n | apply SC_b | apply SG_b) <;> intro hc <;> try simp only [decide_eq_true_eq, decide_eq_false_iff_not, Classical.not_not, Bool.not_eq_true', Bool.not_eq_false'] at hc))
      refine ⟨.inr rfl, .x (.flat (.bool true)) m5 (dirt M.length P (dirt M.length P D2)), ?_, m5, _, .ms M.length 0 s.length 1 false, F, rfl, fin3 hp4 w1 (by rw [w2]; simp [zc]) w3 ?_⟩
      · simp only [fin, if_true, resA, rvA, tupA]
        (simp (disch := first | assumption | decide | omega | exact Pth.le _ | exact Rks.le _ | exact List.getElem_mem _ | exact allI_ints _ | exact allI_rks _ | exact allI_pths _ | exact Pth.nil _ | exact Rks.nil _ | (intro hh; simp only [Pth.nil _ hh, List.take_nil, List.drop_nil]; done) | (intro hh; simp only [Rks.nil _ hh, List.take_nil, List.drop_nil]; done) | (simp only [List.length_take, List.length_drop, List.length_append, List.length_cons, List.length_nil, List.length_replicate, List.length_map, ints_len]; omega)) only [go_sem, if_pos, if_neg, Nat.reduceBEq, Nat.reduceEqDiff, ↓reduceIte, Nat.reduceSub, Nat.reduceAdd, Int.reduceToNat, reduceCtorEq, Nat.reduceLeDiff, Nat.reduceLT, Nat.reduceMul, Nat.reduceDiv, Int.reduceLT, Int.reduceLE, Int.reduceEq, Int.reduceNe, Int.reduceAdd, Int.reduceSub, Int.reduceNeg, Int.reduceGT, Int.reduceGE, Int.reduceBEq, Int.reduceBNe, Int.reduceMul, *])
      · intro i hi
        rcases mem_dirt hi with h | h
        · exact (hdd i h).imp (fun h => h) (fun h => .inr h)
        · exact .inl h
end
end Go.Proofs.Ytopiaiibpacmlaa.Av
namespace Go.Proofs.Ytopiaiibpacmlaa.Av
open Go.RowKit
set_option linter.unusedSimpArgs false
set_option linter.unusedVariables false
set_option maxHeartbeats 10000000
theorem own_ms {lo : Nat} {m : MS} {x : AV} {s : List Pth} (h : Own lo m x 1 (s.map Pth.av)) (hs : 1 ≤ s.length) : ∃ id, x = .ms id 0 s.length 1 false ∧ lo ≤ id ∧ id < m.length ∧ m[id]? = some (some (s.map Pth.av)) := by
  obtain ⟨_, _, _, ⟨h1, _⟩ | ⟨_, id, h2, h3, rfl, h5⟩⟩ := h
  · rw [List.map_eq_nil_iff] at h1; subst h1; simp at hs
  · exact ⟨id, by simp, h2, h3, h5⟩
def noP : Pth := ⟨[], true, true, fun _ => ⟨rfl, rfl⟩, by simp⟩
/-- The trace of the first of a node's paths. -/
def evL (l : List Rks) (n : Nat) (s : List Pa) (ps : List Pa) : List Tr := ps.flatMap (evT l n s)
theorem trc_evL (l : List Rks) (n : Nat) (s : List Pa) {v : Nat} (hv : s.length = v) (h : v < l.length) : trc (plX l) (n + 1) s = evL l n s (paths l[v].l ++ [[]]) := by
  simp only [trc, evL, hv, plX_get h]; rfl
theorem evL_app (l : List Rks) (n : Nat) (s : List Pa) (a b : List Pa) : evL l n s (a ++ b) = evL l n s a ++ evL l n s b := List.flatMap_append
theorem evL_one (l : List Rks) (n : Nat) (s : List Pa) (p : Pa) : evL l n s [p] = evT l n s p := by simp [evL]
section
variable {YI : MS → Bool → List (List Pa) → List Nat → Prop} {P : Nat} {l : List Rks} {nl cd : Bool} {most : Int} {yn Lid : Nat} {caps : List AV} {y : List (List Pa) → List Pa → Bool × List (List Pa)}
theorem t119 (hY : Yld P l nl cd most yn Lid caps y YI) (hX : MayX l.length l) (hS : SmallX l) (hm : most ≤ 9223372036854775807) : ∀ n : Nat, S119 YI P l nl cd most yn Lid caps y n
  | 0 => by
    intro M sv s k a F hl h1 hk hps hbd hb
    have hP0 := hb.at_
    have hPl := hb.lt
    have h12 := hS.1
    unfold zc at hP0
    have hal : aliveA M P = true := by simp only [aliveA, hP0]
    have e1 := hb.row.vw.len
    obtain ⟨out, h71, v, G, rfl, hO⟩ := t71v s sv M hb.row.vw (by omega) hps
    obtain ⟨id, rfl, i1, i2, i3⟩ := own_ms hO (by simpa using h1)
    rw [List.length_map] at h71
    obtain ⟨M2, D2, F2, hcall, j1, j2, j3, j4, j5⟩ := hY.call (M := M ++ G) (a := a) (F := F) (id := id) (s := s.map cln) (hY.stab hb.yi (by simp) fun i hi => List.getElem?_append_left (hY.lt hb.yi i hi)) ⟨sv, k, by rw [List.getElem?_append_left hPl]; exact hb.at_⟩ hb.pf (by omega) (by simp only [trc, fds_fd, List.length_cons] at hbd; omega) i2 (fun h => by have := hY.lt hb.yi _ h; omega) (by simpa using h1) (by simp; omega) i3
    rw [cln_l, List.length_map] at hcall
    rw [cln_l] at j1
    have hPG : ∀ i, i < M.length → (M ++ G)[i]? = M[i]? := fun i hi => List.getElem?_append_left hi
    have hPp : M2[P]? = M[P]? := (j3 P (by simp; omega) hb.pf (by omega)).trans (hPG P hPl)
    have hlZ : (s.length : Int) = l.length := by omega
    obtain ⟨b, hbe⟩ : ∃ b, (y a (pl s)).1 = b := ⟨_, rfl⟩
    have hrt : runT most y (trc (plX l) 0 (pl s)) ⟨k, a⟩ = (if b then .ok else .no, ⟨k, (y a (pl s)).2⟩) := by
      simp only [trc, runT, hbe]
      cases b <;> rfl
    rw [hrt]
    have hob : decide ((if b then How.ok else How.no) = .ok) = b := by cases b <;> rfl
    have hnb : decide ((if b then How.ok else How.no) = .no) = !b := by cases b <;> rfl
    have hfb : decide ((if b then How.ok else How.no) = .full) = false := by cases b <;> rfl
    rw [hob]
    rw [hbe] at hcall j1
    simp only [List.length_append] at j2 j3 j4 j5
    have hgoal : ∀ D', (∀ i ∈ D', i ∈ D2) → Pst YI P l nl cd most M M2 sv s F D' (if b then .ok else .no, ⟨k, (y a (pl s)).2⟩) sv F2 := fun D' hD' => by
      refine ⟨by rw [hPp, hb.at_, hfb], hb.row.keep (by omega) fun i hi => ?_, by rw [hnb]; exact j1, by omega, fun i hi h2 h3 h4 => (j3 i (by omega) h4 (by omega)).trans (hPG i hi), fun i hi => (j4 i hi).imp (fun h => h) (fun h => by omega), fun i hi => ?_, fun i hi hlt => ?_, fun h => h⟩
      · have hil := hb.row.lt hi
        exact (j3 i (by omega) (hb.sd i hi).1 (by omega)).trans (hPG i hil)
      · refine ⟨.inl hi, fun h => ?_, (hb.sd i hi).2⟩
        have hil := hb.row.lt hi
        rcases j4 i h with h | h
        · exact (hb.sd i hi).1 h
        · omega
      · rcases j5 i (hD' i hi) (by omega) with h | h
        · exact .inr (.inr h)
        · omega
    clear hX hS hbe hrt hob hnb hfb j1 j3 j4 j5 hPp hPG
    refine ev_fnE A119 ?_
    repeat' (first | ((with_reducible first | apply S_0 | apply S_q1 | apply S_g | apply S_c); exact sgc) | (with_reducible first | apply SO_q | apply SG_t | apply SG_f0 | apply SG_f1 | apply S_nil | apply T_n | apply W_seq | apply W_region | apply SO_x | apply SC_t | apply SC_f | apply W_block | apply W_ret | apply W_skip | apply W_exit | apply T_r | apply T_e | apply B_n | apply B_e) | (with_reducible apply B_ne; focus decide) | (with_reducible first | apply B_r | apply R_e | apply R_r | apply H_e | apply H_r | apply G_e | apply G_r) | (with_reducible apply SC_n) | ((with_reducible first | apply SC_d | apply SG_d | apply SG_n | apply SC_b | apply SG_b) <;> intro hc <;> try simp only [decide_eq_true_eq, decide_eq_false_iff_not, Classical.not_not, Bool.not_eq_true', Bool.not_eq_false'] at hc))
    refine ⟨.inr rfl, .x (.flat (.bool b)) M2 (List.filter (fun x => decide (x < M.length)) D2 ++ []), ?_, M2, _, sv, F2, rfl, hgoal _ ?_⟩
    · simp only [fin, if_true, resA, rvA, tupA]
      (simp (disch := first | assumption | decide | omega | exact Pth.le _ | exact Rks.le _ | exact List.getElem_mem _ | exact allI_ints _ | exact allI_rks _ | exact allI_pths _ | exact Pth.nil _ | exact Rks.nil _ | (intro hh; simp only [Pth.nil _ hh, List.take_nil, List.drop_nil]; done) | (intro hh; simp only [Rks.nil _ hh, List.take_nil, List.drop_nil]; done) | (simp only [List.length_take, List.length_drop, List.length_append, List.length_cons, List.length_nil, List.length_replicate, List.length_map, ints_len]; omega)) only [go_sem, if_pos, if_neg, Nat.reduceBEq, Nat.reduceEqDiff, ↓reduceIte, Nat.reduceSub, Nat.reduceAdd, Int.reduceToNat, reduceCtorEq, Nat.reduceLeDiff, Nat.reduceLT, Nat.reduceMul, Nat.reduceDiv, Int.reduceLT, Int.reduceLE, Int.reduceEq, Int.reduceNe, Int.reduceAdd, Int.reduceSub, Int.reduceNeg, Int.reduceGT, Int.reduceGE, Int.reduceBEq, Int.reduceBNe, Int.reduceMul, *])
    · intro i hi
      rcases List.mem_append.1 hi with h | h
      · exact (List.mem_filter.1 h).1
      · simp at h
  | n + 1 => by
    intro M sv s k a F hl h1 hk hps hbd hb
    have IH := t134 (nl := nl) (cd := cd) (P := P) hY hX hS hm (t119 hY hX hS hm n)
    have hvl : s.length < l.length := by omega
    have hP0 := hb.at_
    have hPl := hb.lt
    have h12 := hS.1
    obtain ⟨h70, h20⟩ := hS.2 _ (List.getElem_mem hvl)
    unfold zc at hP0
    have hal : aliveA M P = true := by simp only [aliveA, hP0]
    have e1 := hb.row.vw.len
    have hlZ : ¬ (s.length : Int) = l.length := by omega
    have hvZ : (s.length : Int) < l.length := by omega
    rw [trc_evL l n (pl s) (pl_len s) hvl] at hbd ⊢
    clear hX hS
    refine ev_fnE A119 ?_
    repeat' (first | ((with_reducible first | apply S_0 | apply S_q1 | apply S_g | apply S_c); exact sgc) | (with_reducible first | apply SO_q | apply SG_t | apply SG_f0 | apply SG_f1 | apply S_nil | apply T_n | apply W_seq | apply W_region | apply SO_x | apply SC_t | apply SC_f | apply W_block | apply W_ret | apply W_skip | apply W_exit | apply T_r | apply T_e | apply B_n | apply B_e) | (with_reducible apply B_ne; focus decide) | (with_reducible first | apply B_r | apply R_e | apply R_r | apply H_e | apply H_r | apply G_e | apply G_r) | (with_reducible apply SC_n) | ((with_reducible first | apply SC_d | apply SG_d | apply SG_n | apply SC_b | apply SG_b) <;> intro hc <;> try simp only [decide_eq_true_eq, decide_eq_false_iff_not, Classical.not_not, Bool.not_eq_true', Bool.not_eq_false'] at hc))
    refine W_whl (fun q e m d => ∃ (i : Nat) (z : Zs) (sv1 : AV) (F1 : List Nat), q = l[s.length].l.length - i ∧ i ≤ l[s.length].l.length ∧ e 36 = .flat (.int .i64 i) ∧ runT most y (evL l n (pl s) ((paths l[s.length].l).take i)) ⟨k, a⟩ = (.ok, z) ∧ Pst YI P l nl cd most M m sv s F d (.ok, z) sv1 F1) l[s.length].l.length (by simp only [asg, asgO, List.append_nil, List.nil_append, List.cons_append]; rfl)
      ⟨0, ⟨k, a⟩, sv, F, rfl, by omega, by exact svc, rfl, hb.pst⟩ ?_
    rintro q e m d hkk ⟨i, z, sv1, F1, rfl, hi, e36, hr, hp⟩
    have k0 : e 0 = .mptr P 0 := by rw [hkk 0 rfl]; exact svc
    have k1 : e 1 = .yld Lid yn caps := by rw [hkk 1 rfl]; exact svc
    have k34 : e 34 = .list 2 (rksA l[s.length].l) l[s.length].nl l[s.length].cd := by rw [hkk 34 rfl]; exact svc
    have k35 : e 35 = .flat (.int .i64 l[s.length].l.length) := by rw [hkk 35 rfl]; exact svc
    have hzk : (z.k : Int) ≤ most := by have := run_k most y (evL l n (pl s) ((paths l[s.length].l).take i)) ⟨k, a⟩ hk; rw [hr] at this; exact this
    have hml := hp.len
    have hza := run_a (most := most) hY.one (evL l n (pl s) ((paths l[s.length].l).take i)) ⟨k, a⟩
    rw [hr] at hza
    simp only at hza
    have hd0 : ∀ {k : Nat} {D : List Nat}, M.length ≤ k → dirt M.length k D = D := fun h => dirt_o h
    clear hkk
    rcases Nat.lt_or_ge i l[s.length].l.length with hlt | hlt
    · have hlt' : (i : Int) < l[s.length].l.length := by omega
      have hp' := hp.grow hY [some [.list 1 (intsA l[s.length].l[i].p.l) l[s.length].l[i].p.nl l[s.length].l[i].p.cd, .flat (.int .i64 l[s.length].l[i].r)]]
      obtain ⟨out, h134, M', D', sv2, F2, rfl, hp2⟩ := IH _ sv1 s z.k z.a F1 l[s.length].l[i].p (by omega) h1 hzk hps (by have := h20 _ (List.getElem_mem hlt); omega) (by
        have e : paths l[s.length].l ++ [[]] = (paths l[s.length].l).take i ++ ([l[s.length].l[i].p.l] ++ ((paths l[s.length].l).drop (i + 1) ++ [[]])) := by
          conv => lhs; rw [← List.take_append_drop (i + 1) (paths l[s.length].l), List.take_succ_eq_append_getElem (by rw [paths_len]; exact hlt), paths_get]
          simp only [List.append_assoc]
        rw [e, evL_app, evL_app, evL_one, fds_app, fds_app, List.length_append, List.length_append] at hbd
        omega) (hp'.bef hb)
      have hps2 : (paths l[s.length].l).take (i + 1) = (paths l[s.length].l).take i ++ [l[s.length].l[i].p.l] := by
        rw [List.take_succ_eq_append_getElem (by rw [paths_len]; exact hlt), paths_get]
      obtain ⟨r2, hr2⟩ : ∃ r2, r2 = runT most y (evT l n (pl s) l[s.length].l[i].p.l) ⟨z.k, z.a⟩ := ⟨_, rfl⟩
      rw [← hr2] at h134 hp2
      have hrn : runT most y (evL l n (pl s) ((paths l[s.length].l).take (i + 1))) ⟨k, a⟩ = r2 := by
        rw [hps2, evL_app, run_app, hr, evL_one]
        simp only [if_true]
        exact hr2.symm
      simp only [Pth.av_eq] at h134
      by_cases hok : r2.1 = .ok
      · have hok' : decide (r2.1 = .ok) = true := decide_eq_true hok
        rw [hok'] at h134
        have hp3 := fun {D3 : List Nat} (hD : ∀ j ∈ D3, j ∈ d ∨ j ∈ D') => hp'.trans hb hp2 hD
        have he2 : r2 = (.ok, r2.2) := by rw [← hok]
        rw [he2] at hp3 hrn
        clear IH hp hr hr2 hok hok' hps2 hp' hp2 he2
        repeat' (first | ((with_reducible first | apply S_0 | apply S_q1 | apply S_g | apply S_c); exact sgc) | (with_reducible first | apply SO_q | apply SG_t | apply SG_f0 | apply SG_f1 | apply S_nil | apply T_n | apply W_seq | apply W_region | apply SO_x | apply SC_t | apply SC_f | apply W_block | apply W_ret | apply W_skip | apply W_exit | apply T_r | apply T_e | apply B_n | apply B_e) | (with_reducible apply B_ne; focus decide) | (with_reducible first | apply B_r | apply R_e | apply R_r | apply H_e | apply H_r | apply G_e | apply G_r) | (with_reducible apply SC_n) | ((with_reducible first | apply SC_d | apply SG_d | apply SG_n | apply SC_b | apply SG_b) <;> intro hc <;> try simp only [decide_eq_true_eq, decide_eq_false_iff_not, Classical.not_not, Bool.not_eq_true', Bool.not_eq_false'] at hc))
        refine R_n (l[s.length].l.length - (i + 1)) (by omega) ⟨i + 1, r2.2, sv2, F2, rfl, by omega, by exact svc, hrn, hp3 ?_⟩
        intro j hj
        rcases List.mem_append.1 hj with h | h
        · exact .inr (List.mem_filter.1 h).1
        · exact .inl h
      · have hok' : decide (r2.1 = .ok) = false := decide_eq_false hok
        rw [hok'] at h134
        have hall : runT most y (evL l n (pl s) (paths l[s.length].l ++ [[]])) ⟨k, a⟩ = r2 := by
          have e : paths l[s.length].l ++ [[]] = (paths l[s.length].l).take (i + 1) ++ ((paths l[s.length].l).drop (i + 1) ++ [[]]) := by
            rw [← List.append_assoc, List.take_append_drop]
          rw [e, evL_app, run_app, hrn, if_neg hok]
        rw [hall, hok']
        have hp3 := fun {D3 : List Nat} (hD : ∀ j ∈ D3, j ∈ d ∨ j ∈ D') => hp'.trans hb hp2 hD
        clear IH hp hr hr2 hok hok' hps2 hp' hp2 hall hrn
        repeat' (first | ((with_reducible first | apply S_0 | apply S_q1 | apply S_g | apply S_c); exact sgc) | (with_reducible first | apply SO_q | apply SG_t | apply SG_f0 | apply SG_f1 | apply S_nil | apply T_n | apply W_seq | apply W_region | apply SO_x | apply SC_t | apply SC_f | apply W_block | apply W_ret | apply W_skip | apply W_exit | apply T_r | apply T_e | apply B_n | apply B_e) | (with_reducible apply B_ne; focus decide) | (with_reducible first | apply B_r | apply R_e | apply R_r | apply H_e | apply H_r | apply G_e | apply G_r) | (with_reducible apply SC_n) | ((with_reducible first | apply SC_d | apply SG_d | apply SG_n | apply SC_b | apply SG_b) <;> intro hc <;> try simp only [decide_eq_true_eq, decide_eq_false_iff_not, Classical.not_not, Bool.not_eq_true', Bool.not_eq_false'] at hc))
        refine ⟨.inr rfl, .x (.flat (.bool false)) M' (List.filter (fun x => decide (x < M.length)) D' ++ d), ?_, M', _, sv2, F2, rfl, hp3 ?_⟩
        · simp only [fin, if_true, resA, rvA, tupA]
          (simp (disch := first | assumption | decide | omega | exact Pth.le _ | exact Rks.le _ | exact List.getElem_mem _ | exact allI_ints _ | exact allI_rks _ | exact allI_pths _ | exact Pth.nil _ | exact Rks.nil _ | (intro hh; simp only [Pth.nil _ hh, List.take_nil, List.drop_nil]; done) | (intro hh; simp only [Rks.nil _ hh, List.take_nil, List.drop_nil]; done) | (simp only [List.length_take, List.length_drop, List.length_append, List.length_cons, List.length_nil, List.length_replicate, List.length_map, ints_len]; omega)) only [go_sem, if_pos, if_neg, Nat.reduceBEq, Nat.reduceEqDiff, ↓reduceIte, Nat.reduceSub, Nat.reduceAdd, Int.reduceToNat, reduceCtorEq, Nat.reduceLeDiff, Nat.reduceLT, Nat.reduceMul, Nat.reduceDiv, Int.reduceLT, Int.reduceLE, Int.reduceEq, Int.reduceNe, Int.reduceAdd, Int.reduceSub, Int.reduceNeg, Int.reduceGT, Int.reduceGE, Int.reduceBEq, Int.reduceBNe, Int.reduceMul, *])
        · intro j hj
          rcases List.mem_append.1 hj with h | h
          · exact .inr (List.mem_filter.1 h).1
          · exact .inl h
    · have hlt' : ¬ (i : Int) < l[s.length].l.length := by omega
      have htk : (paths l[s.length].l).take i = paths l[s.length].l := List.take_of_length_le (by rw [paths_len]; omega)
      obtain ⟨out, h134, M', D', sv2, F2, rfl, hp2⟩ := IH m sv1 s z.k z.a F1 noP (by omega) h1 hzk hps (by simp [noP]) (by
        rw [evL_app, evL_one, fds_app, List.length_append] at hbd
        rw [htk] at hza
        have e : noP.l = [] := rfl
        rw [e]; omega) (hp.bef hb)
      obtain ⟨r2, hr2⟩ : ∃ r2, r2 = runT most y (evT l n (pl s) noP.l) ⟨z.k, z.a⟩ := ⟨_, rfl⟩
      rw [← hr2] at h134 hp2
      have h134' : ev pr 134 [.mptr P 0, .list 1 [] true true, .yld Lid yn caps] m = some (.x (.flat (.bool (decide (r2.1 = .ok)))) M' D') := h134
      rw [htk] at hr
      have hall : runT most y (evL l n (pl s) (paths l[s.length].l ++ [[]])) ⟨k, a⟩ = r2 := by
        rw [evL_app, run_app, hr, evL_one]
        simp only [if_true]
        exact hr2.symm
      rw [hall]
      have hp3 := fun {D3 : List Nat} (hD : ∀ j ∈ D3, j ∈ d ∨ j ∈ D') => hp.trans hb hp2 hD
      obtain ⟨b, hbe⟩ : ∃ b, decide (r2.1 = .ok) = b := ⟨_, rfl⟩
      rw [hbe] at h134' ⊢
      clear IH hp hr hr2 htk hp2 hall h134 hbe
      repeat' (first | ((with_reducible first | apply S_0 | apply S_q1 | apply S_g | apply S_c); exact sgc) | (with_reducible first | apply SO_q | apply SG_t | apply SG_f0 | apply SG_f1 | apply S_nil | apply T_n | apply W_seq | apply W_region | apply SO_x | apply SC_t | apply SC_f | apply W_block | apply W_ret | apply W_skip | apply W_exit | apply T_r | apply T_e | apply B_n | apply B_e) | (with_reducible apply B_ne; focus decide) | (with_reducible first | apply B_r | apply R_e | apply R_r | apply H_e | apply H_r | apply G_e | apply G_r) | (with_reducible apply SC_n) | ((with_reducible first | apply SC_d | apply SG_d | apply SG_n | apply SC_b | apply SG_b) <;> intro hc <;> try simp only [decide_eq_true_eq, decide_eq_false_iff_not, Classical.not_not, Bool.not_eq_true', Bool.not_eq_false'] at hc))
      refine ⟨.inr rfl, .x (.flat (.bool b)) M' (List.filter (fun x => decide (x < M.length)) D' ++ d), ?_, M', _, sv2, F2, rfl, hp3 ?_⟩
      · simp only [fin, if_true, resA, rvA, tupA]
        (simp (disch := first | assumption | decide | omega | exact Pth.le _ | exact Rks.le _ | exact List.getElem_mem _ | exact allI_ints _ | exact allI_rks _ | exact allI_pths _ | exact Pth.nil _ | exact Rks.nil _ | (intro hh; simp only [Pth.nil _ hh, List.take_nil, List.drop_nil]; done) | (intro hh; simp only [Rks.nil _ hh, List.take_nil, List.drop_nil]; done) | (simp only [List.length_take, List.length_drop, List.length_append, List.length_cons, List.length_nil, List.length_replicate, List.length_map, ints_len]; omega)) only [go_sem, if_pos, if_neg, Nat.reduceBEq, Nat.reduceEqDiff, ↓reduceIte, Nat.reduceSub, Nat.reduceAdd, Int.reduceToNat, reduceCtorEq, Nat.reduceLeDiff, Nat.reduceLT, Nat.reduceMul, Nat.reduceDiv, Int.reduceLT, Int.reduceLE, Int.reduceEq, Int.reduceNe, Int.reduceAdd, Int.reduceSub, Int.reduceNeg, Int.reduceGT, Int.reduceGE, Int.reduceBEq, Int.reduceBNe, Int.reduceMul, *])
      · intro j hj
        rcases List.mem_append.1 hj with h | h
        · exact .inr (List.mem_filter.1 h).1
        · exact .inl h
end
end Go.Proofs.Ytopiaiibpacmlaa.Av
