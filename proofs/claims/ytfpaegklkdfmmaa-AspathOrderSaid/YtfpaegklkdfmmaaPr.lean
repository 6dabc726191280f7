/- The program of this seat, as the evaluator has it. -/
import Derived.Test.YtfpaegklkdfmmaaAv23
import Derived.Test.YtfpaegklkdfmmaaAf
import Derived.Test.YtfpaegklkdfmmaaSh
namespace Go.Proofs.Ytfpaegklkdfmmaa.Av
open Go.RowKit
def pr : Pr := ⟨prA, orC (extS 43) (orC (extJ 45) (extM 46))⟩
theorem pr_ok : PrOk Try.prog pr where
  hm := by kernel_rfl
  A := fun f af h => prA_ok h
  ext := orC_ok (extS_ok (by kernel_rfl) fun blk off cap zs w h1 h2 h3 => Try.slices_Sort_int blk off cap zs w h1 h2 h3)
    (orC_ok (extJ_ok (by kernel_rfl) Try.strings_Join_none Try.strings_Join) (extM_ok (by kernel_rfl) Try.bits_Mul))
theorem pr_shut (f : Nat) (af : AF) (h : pr.A f = some af) : af.body.shut = true := by
  have h1 : (afs.all fun x => x.2.body.shut) = true := by kernel_rfl
  have h2 : (afs.find? fun x => x.1 == f).map (·.2) = some af := h
  rw [Option.map_eq_some_iff] at h2
  obtain ⟨x, hx, rfl⟩ := h2
  exact List.all_eq_true.1 h1 x (List.mem_of_find?_eq_some hx)
theorem pr_sh : CSh pr.ext := by
  refine orC_sh (extS_sh 43) (orC_sh (extJ_sh 45) (extM_sh 46) ?_) ?_
  · intro f args M out Pre s hs h1 h2
    unfold extM at h2
    split at h2
    · rename_i hf; subst hf; rfl
    · cases h2
  · intro f args M out Pre s hs h1 h2
    unfold orC extJ extM at h2
    by_cases hf : f = 43
    · subst hf; simp at h2
    · simp [extS, hf]
/-- What comes of values that name no places comes of them in any memory. -/
theorem any {f : Nat} {args : List AV} {v : AV} (ha : shut.all args = true) (hv : shut v = true) (h : ev pr f args [] = some (.q v)) (M : MS) : ev pr f args M = some (.q v) := ev_any pr_shut pr_sh ha hv h M
end Go.Proofs.Ytfpaegklkdfmmaa.Av
