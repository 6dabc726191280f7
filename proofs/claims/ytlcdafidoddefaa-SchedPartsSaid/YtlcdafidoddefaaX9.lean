/- The contracts of the library at this program: what the shelf's laying tools wrote. -/
import Derived.Shelf.Sort.Plain
import Derived.Shelf.Slices.In.SortNone
import Derived.Ground.SlgnProg
import Derived.Ground.SlsfProg
import Derived.Shelf.SlSortCmp.NoneTotal
import Derived.Test.YtlcdafidoddefaaProg
import Derived.WalkKit
import Derived.LoopTactic
import Derived.KernelRfl
import Derived.Sort.Grow
import Derived.Deep.Draws
import Derived.Test.YtlcdafidoddefaaX4
import Derived.Test.YtlcdafidoddefaaX6
namespace Go.Proofs
open Go.Shelf
def Try.lays189_ren : Go.Shelf.Ren := ⟨fun | 189 => 109 | 125 => 90 | 257 => 116 | 128 => 106 | 129 => 107 | 294 => 118 | 295 => 119 | 296 => 120 | 297 => 121 | 298 => 122 | 299 => 123 | 216 => 124 | 300 => 125 | 301 => 126 | 328 => 127 | 329 => 112 | 330 => 113 | 331 => 128 | 332 => 129 | 215 => 108 | 343 => 130 | n => n, fun | 28 => 25 | 3 => 3 | 46 => 124 | 0 => 0 | 51 => 136 | 53 => 138 | 4 => 4 | 183 => 130 | 182 => 129 | 131 => 115 | 5 => 5 | 9 => 9 | 218 => 140 | 222 => 144 | 228 => 147 | 229 => 148 | n => n, fun | n => n⟩
theorem Try.lays189 : Go.Proofs.Lays.n189 Try.prog Try.lays189_ren := {
  mixed := by kernel_rfl
  f125 := Try.func90.trans (congrArg some (by kernel_rfl))
  f128 := Try.func106.trans (congrArg some (by kernel_rfl))
  f129 := Try.func107.trans (congrArg some (by kernel_rfl))
  f189 := Try.func109.trans (congrArg some (by kernel_rfl))
  f215 := Try.func108.trans (congrArg some (by kernel_rfl))
  f216 := Try.func124.trans (congrArg some (by kernel_rfl))
  f257 := Try.func116.trans (congrArg some (by kernel_rfl))
  f294 := Try.func118.trans (congrArg some (by kernel_rfl))
  f295 := Try.func119.trans (congrArg some (by kernel_rfl))
  f296 := Try.func120.trans (congrArg some (by kernel_rfl))
  f297 := Try.func121.trans (congrArg some (by kernel_rfl))
  f298 := Try.func122.trans (congrArg some (by kernel_rfl))
  f299 := Try.func123.trans (congrArg some (by kernel_rfl))
  f300 := Try.func125.trans (congrArg some (by kernel_rfl))
  f301 := Try.func126.trans (congrArg some (by kernel_rfl))
  f328 := Try.func127.trans (congrArg some (by kernel_rfl))
  f329 := Try.func112.trans (congrArg some (by kernel_rfl))
  f330 := Try.func113.trans (congrArg some (by kernel_rfl))
  f331 := Try.func128.trans (congrArg some (by kernel_rfl))
  f332 := Try.func129.trans (congrArg some (by kernel_rfl))
  f343 := Try.func130.trans (congrArg some (by kernel_rfl))
  t0 := Try.underlying0
  a0 := Try.isAgg0
  z0 := Try.sizeOf0
  v0 := Try.zeroValue0
  t3 := Try.underlying3
  a3 := Try.isAgg3
  z3 := Try.sizeOf3
  v3 := Try.zeroValue3
  t4 := Try.underlying4
  a4 := Try.isAgg4
  z4 := Try.sizeOf4
  v4 := Try.zeroValue4
  t5 := Try.underlying5
  a5 := Try.isAgg5
  z5 := Try.sizeOf5
  v5 := Try.zeroValue5
  t9 := Try.underlying9
  a9 := Try.isAgg9
  z9 := Try.sizeOf9
  v9 := Try.zeroValue9
  t28 := Try.underlying25
  a28 := Try.isAgg25
  z28 := Try.sizeOf25
  v28 := Try.zeroValue25
  t46 := Try.underlying124
  a46 := Try.isAgg124
  z46 := Try.sizeOf124
  v46 := Try.zeroValue124
  t51 := Try.underlying136
  a51 := Try.isAgg136
  z51 := Try.sizeOf136
  v51 := Try.zeroValue136
  t53 := Try.underlying138
  a53 := Try.isAgg138
  z53 := Try.sizeOf138
  v53 := Try.zeroValue138
  t131 := Try.underlying115
  a131 := Try.isAgg115
  z131 := Try.sizeOf115
  v131 := Try.zeroValue115
  t182 := Try.underlying129
  a182 := Try.isAgg129
  z182 := Try.sizeOf129
  v182 := Try.zeroValue129
  t183 := Try.underlying130
  a183 := Try.isAgg130
  z183 := Try.sizeOf130
  v183 := Try.zeroValue130
  t218 := Try.underlying140
  a218 := Try.isAgg140
  z218 := Try.sizeOf140
  v218 := Try.zeroValue140
  t222 := Try.underlying144
  a222 := Try.isAgg144
  z222 := Try.sizeOf144
  v222 := Try.zeroValue144
  t228 := Try.underlying147
  a228 := Try.isAgg147
  z228 := Try.sizeOf147
  v228 := Try.zeroValue147
  t229 := Try.underlying148
  a229 := Try.isAgg148
  z229 := Try.sizeOf148
  v229 := Try.zeroValue148 }
open Go.Sort Go.RowKit in
theorem Try.slices_Sort_int (blk off cap : Nat) (zs : List Int) (w : World) (hH : Holds (Value.int .i64) w blk off zs.toArray) (hblk : blk < w.heap.size) (hsz : zs.length < 4611686018427387904) :
    Calls Try.prog 109 #[.slice (some ⟨blk, off, none⟩) zs.length cap] w fun e w' =>
      e = .returned (.tuple #[]) ∧ ∃ n os, w' = grow (putRow (Value.int .i64) (Sort.ahead w n) blk off (zs.mergeSort fun x y => decide (x ≤ y)).toArray) os := Any.slices_Sort_int Try.lays189 blk off cap zs w hH hblk hsz
open Go.RowKit Go.Sort in
theorem Try.slices_Sort_int_none (p : Option Addr) (cap : Nat) (w : World) :
    Calls Try.prog 109 #[.slice p 0 cap] w fun e w' => e = .returned (.tuple #[]) ∧ w' = w := Any.slices_Sort_int_none Try.lays189 p cap w
def Try.laysSlF06_f71_ren : Go.Shelf.Ren := ⟨fun | 6 => 71 | 15 => 90 | 14 => 89 | 28 => 106 | 29 => 107 | 20 => 98 | 21 => 99 | 22 => 100 | 23 => 101 | 24 => 102 | 25 => 103 | 26 => 104 | 27 => 105 | 46 => 111 | 47 => 112 | 48 => 113 | 49 => 114 | 50 => 115 | 57 => 117 | n => n, fun | 22 => 29 | 24 => 38 | 25 => 111 | 3 => 3 | 39 => 124 | 0 => 0 | 53 => 136 | 55 => 138 | 4 => 4 | 46 => 130 | 45 => 129 | 50 => 115 | 5 => 5 | 9 => 9 | 66 => 140 | 70 => 144 | 76 => 147 | 77 => 148 | n => n, fun | n => n⟩
theorem Try.laysSlF06_f71 : Go.Proofs.SlLaysF0.n6 Try.prog Try.laysSlF06_f71_ren := {
  mixed := by kernel_rfl
  f6 := ⟨Try.f71.name, by decide, Try.func71.trans (congrArg some (by kernel_rfl))⟩
  f14 := ⟨Try.f89.name, by decide, Try.func89.trans (congrArg some (by kernel_rfl))⟩
  f15 := Try.func90.trans (congrArg some (by kernel_rfl))
  f20 := ⟨Try.f98.name, by decide, Try.func98.trans (congrArg some (by kernel_rfl))⟩
  f21 := ⟨Try.f99.name, by decide, Try.func99.trans (congrArg some (by kernel_rfl))⟩
  f22 := ⟨Try.f100.name, by decide, Try.func100.trans (congrArg some (by kernel_rfl))⟩
  f23 := ⟨Try.f101.name, by decide, Try.func101.trans (congrArg some (by kernel_rfl))⟩
  f24 := ⟨Try.f102.name, by decide, Try.func102.trans (congrArg some (by kernel_rfl))⟩
  f25 := ⟨Try.f103.name, by decide, Try.func103.trans (congrArg some (by kernel_rfl))⟩
  f26 := ⟨Try.f104.name, by decide, Try.func104.trans (congrArg some (by kernel_rfl))⟩
  f27 := ⟨Try.f105.name, by decide, Try.func105.trans (congrArg some (by kernel_rfl))⟩
  f28 := Try.func106.trans (congrArg some (by kernel_rfl))
  f29 := Try.func107.trans (congrArg some (by kernel_rfl))
  f46 := ⟨Try.f111.name, by decide, Try.func111.trans (congrArg some (by kernel_rfl))⟩
  f47 := Try.func112.trans (congrArg some (by kernel_rfl))
  f48 := Try.func113.trans (congrArg some (by kernel_rfl))
  f49 := ⟨Try.f114.name, by decide, Try.func114.trans (congrArg some (by kernel_rfl))⟩
  f50 := ⟨Try.f115.name, by decide, Try.func115.trans (congrArg some (by kernel_rfl))⟩
  f57 := ⟨Try.f117.name, by decide, Try.func117.trans (congrArg some (by kernel_rfl))⟩
  t0 := Try.underlying0
  a0 := Try.isAgg0
  z0 := Try.sizeOf0
  v0 := Try.zeroValue0
  t3 := Try.underlying3
  a3 := Try.isAgg3
  z3 := Try.sizeOf3
  v3 := Try.zeroValue3
  t4 := Try.underlying4
  a4 := Try.isAgg4
  z4 := Try.sizeOf4
  v4 := Try.zeroValue4
  t5 := Try.underlying5
  a5 := Try.isAgg5
  z5 := Try.sizeOf5
  v5 := Try.zeroValue5
  t9 := Try.underlying9
  a9 := Try.isAgg9
  z9 := Try.sizeOf9
  v9 := Try.zeroValue9
  t22 := Try.underlying29
  a22 := Try.isAgg29
  z22 := Try.sizeOf29
  v22 := Try.zeroValue29
  t25 := Try.underlying111
  a25 := Try.isAgg111
  z25 := Try.sizeOf111
  v25 := Try.zeroValue111
  t39 := Try.underlying124
  a39 := Try.isAgg124
  z39 := Try.sizeOf124
  v39 := Try.zeroValue124
  t45 := Try.underlying129
  a45 := Try.isAgg129
  z45 := Try.sizeOf129
  v45 := Try.zeroValue129
  t46 := Try.underlying130
  a46 := Try.isAgg130
  z46 := Try.sizeOf130
  v46 := Try.zeroValue130
  t50 := Try.underlying115
  a50 := Try.isAgg115
  z50 := Try.sizeOf115
  v50 := Try.zeroValue115
  t53 := Try.underlying136
  a53 := Try.isAgg136
  z53 := Try.sizeOf136
  v53 := Try.zeroValue136
  t55 := Try.underlying138
  a55 := Try.isAgg138
  z55 := Try.sizeOf138
  v55 := Try.zeroValue138
  t66 := Try.underlying140
  a66 := Try.isAgg140
  z66 := Try.sizeOf140
  v66 := Try.zeroValue140
  t70 := Try.underlying144
  a70 := Try.isAgg144
  z70 := Try.sizeOf144
  v70 := Try.zeroValue144
  t76 := Try.underlying147
  a76 := Try.isAgg147
  z76 := Try.sizeOf147
  v76 := Try.zeroValue147
  t77 := Try.underlying148
  a77 := Try.isAgg148
  z77 := Try.sizeOf148
  v77 := Try.zeroValue148 }
open Go.RowKit Go.Lib Go.Sort in
theorem Try.slices_SortFunc_none {α : Type} [Inhabited α] (p : Option Addr) (cap : Nat) (fv : Value) (w : World) :
    Calls Try.prog 71 #[.slice p 0 cap, fv] w fun e w' => e = .returned (.tuple #[]) ∧ w' = w := AnyF.slices_SortFunc_none Try.laysSlF06_f71 p cap fv w
open Go.RowKit Go.Lib Go.Sort in
theorem Try.slices_SortFunc_total {α : Type} [Inhabited α] (k : Nat) (aE : ∀ w, (isAgg 38).run Try.prog w = .ok true w) (zE : ∀ w, (Go.sizeOf 38).run Try.prog w = .ok k w) (enc : α → List Value) (hk : ∀ x, (enc x).length = k) (h1 : ∀ x, ∀ v ∈ enc x, v.oneCell' = true) (cf : α → α → Int) (hO : SWO (ltOf cf)) (g : Nat) (cb : Array Value) (blk off cap : Nat) (d : Array α) (w : World) (eg : ∀ args w, (callFunc g args).run Try.prog w = .ok (.enter g args) w) (hcmp : CmpLays Try.prog g cb enc k cf blk off d.size w) (hH : HoldsK enc k w blk off d) (hblk : blk < w.heap.size) (hsz : d.size < 4611686018427387904) (hT : ∀ x y, (ltOf cf) x y = false → (ltOf cf) y x = false → x = y) :
    Calls Try.prog 71 #[.slice (some ⟨blk, off, none⟩) d.size cap, .func (.func g) #[] cb] w fun e w' =>
      e = .returned (.tuple #[]) ∧ ∃ n os, w' = sortWorldK enc k w blk off n (d.toList.mergeSort fun x y => !(ltOf cf) y x).toArray os := AnyQ.slices_SortFunc_total Try.laysSlF06_f71 k aE zE enc hk h1 cf hO g cb blk off cap d w eg hcmp hH hblk hsz hT
end Go.Proofs
namespace Go.Proofs.Ytlcdafidoddefaa.Av
open Go.RowKit Go.Proofs Go.Sort Go.Shelf
set_option maxHeartbeats 4000000
theorem isNaN108 (x : Int) (W : World) : Calls Try.prog 108 #[.int .i64 x] W fun e w' => e = .returned (.bool false) ∧ w' = W := by
  go_enter Try.func108, Try.ntmps108
  go_wp2
  go_ret
  exact ⟨by simp, rfl⟩
def cmp1 (x y : Int) : Int := if x < y then -1 else if y < x then 1 else 0
theorem cmp91 (x y : Int) (W : World) : Calls Try.prog 91 #[.int .i64 x, .int .i64 y] W fun e w' => e = .returned (.int .i64 (cmp1 x y)) ∧ w' = W := by
  go_enter Try.func91, Try.ntmps91
  go_wp2_with (go_at_call 108; refine (isNaN108 _ _).mono ?_; rintro e w' ⟨rfl, rfl⟩)
  · have h : x < y := by assumption
    go_ret
    exact ⟨by rw [cmp1, if_pos h]; rfl, rfl⟩
  · have h : y < x := by assumption
    go_ret
    exact ⟨by rw [cmp1, if_neg (by omega), if_pos h]; rfl, rfl⟩
  · have h1 : ¬ x < y := by omega
    have h2 : ¬ y < x := by omega
    go_ret
    exact ⟨by rw [cmp1, if_neg h1, if_neg h2]; rfl, rfl⟩
def cmp2 (x y : Int × Int) : Int := if cmp1 x.1 y.1 ≠ 0 then cmp1 x.1 y.1 else cmp1 x.2 y.2
theorem cmp73 (b1 b2 : Nat) (x y : Int × Int) (W : World) (h10 : W.cell? ⟨b1, 0, none⟩ = some (.int .i64 x.1)) (h11 : W.cell? ⟨b1, 1, none⟩ = some (.int .i64 x.2)) (h20 : W.cell? ⟨b2, 0, none⟩ = some (.int .i64 y.1)) (h21 : W.cell? ⟨b2, 1, none⟩ = some (.int .i64 y.2)) :
    Calls Try.prog 73 #[.slice (some ⟨b1, 0, none⟩) 2 2, .slice (some ⟨b2, 0, none⟩) 2 2] W fun e w' => e = .returned (.int .i64 (cmp2 x y)) ∧ w' = W := by
  go_enter Try.func73, Try.ntmps73
  go_wp2
  go_loop [11] (fun i => ∃ k : Nat, k ≤ 2 ∧ i = .int .i64 k ∧ (k = 1 → cmp1 x.1 y.1 = 0) ∧ (k = 2 → cmp2 x y = 0)) (fun i => 2 - (intOf i).toNat)
  case atStart => exact ⟨0, by omega, rfl, fun h => by omega, fun h => by omega⟩
  case round =>
    obtain ⟨k, hk, rfl, h1, h2⟩ := hrel
    have hk' : k = 0 ∨ k = 1 ∨ k = 2 := by omega
    rcases hk' with rfl | rfl | rfl
    · go_wp2_with (go_at_call 91; refine (cmp91 _ _ _).mono ?_; rintro e w' ⟨rfl, rfl⟩)
      · have h : ¬ cmp1 x.1 y.1 = 0 := by have h0 : (cmp1 x.1 y.1 != 0) = true := by assumption
                                          simpa using h0
        go_ret
        exact ⟨by rw [cmp2, if_pos h]; rfl, rfl⟩
      · have h : cmp1 x.1 y.1 = 0 := by have h0 : (cmp1 x.1 y.1 != 0) = false := by assumption
                                        simpa using h0
        go_round
        case rel => exact ⟨1, by omega, by go_num, fun _ => h, fun h => by omega⟩
        case measure => simp [intOf]
    · have hz1 := h1 (by decide)
      clear h1 h2
      go_wp2_with (go_at_call 91; refine (cmp91 _ _ _).mono ?_; rintro e w' ⟨rfl, rfl⟩)
      · have h : ¬ cmp1 x.2 y.2 = 0 := by have h0 : (cmp1 x.2 y.2 != 0) = true := by assumption
                                          simpa using h0
        go_ret
        exact ⟨by rw [cmp2, if_neg (fun h => h hz1)]; rfl, rfl⟩
      · have h : cmp1 x.2 y.2 = 0 := by have h0 : (cmp1 x.2 y.2 != 0) = false := by assumption
                                        simpa using h0
        go_round
        case rel => exact ⟨2, by omega, by go_num, fun h => by omega, fun _ => by rw [cmp2, if_neg (fun h => h hz1)]; exact h⟩
        case measure => simp [intOf]
    · have hz2 := h2 (by decide)
      clear h1 h2
      go_wp2_with (go_at_call 91; refine (cmp91 _ _ _).mono ?_; rintro e w' ⟨rfl, rfl⟩)
      go_ret
      exact ⟨rfl, rfl⟩
theorem cmp72 (x y : Int × Int) (W : World) : Calls Try.prog 72 #[.agg #[.int .i64 x.1, .int .i64 x.2], .agg #[.int .i64 y.1, .int .i64 y.2]] W fun e w' => e = .returned (.int .i64 (cmp2 x y)) ∧ ∃ q os', w' = Go.Sort.grow (W.drewN q) os' := by
  go_enter Try.func72, Try.ntmps72
  go_wp2
  go_region_with (go_at_call 73; refine (cmp73 _ _ x y _ (by simp [go_sem]) (by simp [go_sem]) (by simp [go_sem]) (by simp [go_sem])).mono ?_; rintro e w' ⟨rfl, rfl⟩)
  all_goals
    go_wp2
    go_ret
    refine ⟨rfl, 1, #[.cells #[.int .i64 x.1, .int .i64 x.2] 38, .cells #[.int .i64 y.1, .int .i64 y.2] 38], ?_⟩
    rw [alloc_eq_grow, alloc_eq_grow, grow_grow]
    rfl
theorem cmp2_lt (x y : I2) : ltOf cmp2 x y = lt2 x y := by
  obtain ⟨a, b⟩ := x; obtain ⟨c, d⟩ := y
  simp only [ltOf, cmp2, cmp1, lt2]
  by_cases h1 : a < c
  · simp [h1]
  · by_cases h2 : c < a
    · simp [h1, h2, show ¬ a = c by omega]
    · have h3 : a = c := by omega
      subst h3
      by_cases h4 : b < d
      · simp [h4]
      · by_cases h5 : d < b <;> simp [h4, h5]
theorem vals2_cons (p : I2) (l : List I2) : vals2 (p :: l) = .int .i64 p.1 :: .int .i64 p.2 :: vals2 l := rfl
theorem vals2_at (l : List I2) (t : Nat) : (vals2 l)[t]? = (l[t / 2]?).bind fun p => [Value.int .i64 p.1, .int .i64 p.2][t % 2]? := by
  induction l generalizing t with
  | nil => simp [vals2]
  | cons p l ih =>
    rw [vals2_cons]
    match t with
    | 0 => rfl
    | 1 => rfl
    | t + 2 =>
      simp only [List.getElem?_cons_succ]
      rw [ih t, show (t + 2) / 2 = t / 2 + 1 by omega, show (t + 2) % 2 = t % 2 by omega, List.getElem?_cons_succ]
theorem flat2 (l : List I2) : flatK (fun x : I2 => [Value.int .i64 x.1, .int .i64 x.2]) 2 l.toArray = (vals2 l).toArray := by
  refine Array.ext (by simp [vals2_len]; omega) fun t h1 h2 => ?_
  have ht : t < l.length * 2 := by simpa using h1
  have h3 := get_flatK (fun x : I2 => [Value.int .i64 x.1, .int .i64 x.2]) 2 l.toArray t (by simpa using ht)
  rw [getElem!_pos _ t h1] at h3
  rw [h3]
  have h4 := vals2_at l t
  have h5 : t / 2 < l.length := by omega
  have h6 : (vals2 l)[t]? = some ((vals2 l).toArray[t]) := by simp
  rw [h6, List.getElem?_eq_getElem h5] at h4
  have h7 : l.toArray[t / 2]! = l[t / 2] := by simp [h5]
  rw [h7]
  have h8 : t % 2 = 0 ∨ t % 2 = 1 := by omega
  rcases h8 with h8 | h8 <;> rw [h8] at h4 ⊢ <;> simp at h4 ⊢ <;> exact h4.symm
theorem sort71 (blk off cap : Nat) (zs : List I2) (w : World) (hH : Holds id w blk off (vals2 zs).toArray) (hb : blk < w.heap.size) (hz : zs.length < 4611686018427387904) :
    Calls Try.prog 71 #[.slice (some ⟨blk, off, none⟩) zs.length cap, .func (.func 72) #[] #[]] w fun e w' => e = .returned (.tuple #[]) ∧ ∃ n os, w' = grow (putRow id (Sort.ahead w n) blk off (vals2 (sorted2 zs)).toArray) os := by
  have eg : ∀ args w, (callFunc 72 args).run Try.prog w = .ok (.enter 72 args) w := enters_of Try.func72 (by kernel_rfl) rfl
  have hlt : ltOf cmp2 = lt2 := funext fun x => funext fun y => cmp2_lt x y
  have h := Try.slices_SortFunc_total (α := I2) 2 Try.isAgg38 Try.sizeOf38 (fun x => [.int .i64 x.1, .int .i64 x.2]) (fun _ => rfl) (fun x v hv => by simp at hv; rcases hv with rfl | rfl <;> rfl) cmp2
    (by rw [hlt]; exact ⟨fun x => by simp [lt2], fun x y z h1 h2 => by simp only [lt2, Bool.or_eq_true, Bool.and_eq_true, decide_eq_true_eq] at *; omega, fun x y z h1 h2 => by simp only [lt2, Bool.or_eq_false_iff, Bool.and_eq_false_iff, decide_eq_false_iff_not] at *; omega⟩)
    72 #[] blk off cap zs.toArray w eg (fun _ _ _ _ x y => cmp72 x y _) (by rw [HoldsK, flat2]; exact hH) hb (by simpa using hz)
    (by rw [hlt]; exact fun x y h1 h2 => by simp only [lt2, Bool.or_eq_false_iff, Bool.and_eq_false_iff, decide_eq_false_iff_not] at *; exact Prod.ext (by omega) (by omega))
  rw [hlt] at h
  refine h.mono ?_
  rintro e w' ⟨he, n, os, hw⟩
  refine ⟨he, n, os, ?_⟩
  rw [hw, sortWorldK, putRowK, flat2, sorted2_eq]
end Go.Proofs.Ytlcdafidoddefaa.Av
namespace Go.Proofs.Ytlcdafidoddefaa.Av
open Go.RowKit
theorem pr_ok : PrOk Try.prog pr :=
  prOk_of (by kernel_rfl) (fun f af h => prA_ok h)
    (orC_ok (extS_ok (by kernel_rfl) fun blk off cap zs w h1 h2 h3 => Try.slices_Sort_int blk off cap zs w h1 h2 h3)
      (orC_ok (extS0_ok (by kernel_rfl) fun p cap w => Try.slices_Sort_int_none p cap w) (extS2_ok (by kernel_rfl) sort71 fun p cap fv w => Try.slices_SortFunc_none (α := I2) p cap fv w)))
    rfl (by intro x hx; cases hx) fun f af h => by
      intro y pl hy
      have h1 : (afs.all fun x => x.2.rf.isNone) = true := by kernel_rfl
      have h2 : (afs.find? fun x => x.1 == f).map (·.2) = some af := h
      rw [Option.map_eq_some_iff] at h2
      obtain ⟨x, hx, rfl⟩ := h2
      have h3 := List.all_eq_true.1 h1 x (List.mem_of_find?_eq_some hx)
      rw [hy] at h3; cases h3
end Go.Proofs.Ytlcdafidoddefaa.Av
