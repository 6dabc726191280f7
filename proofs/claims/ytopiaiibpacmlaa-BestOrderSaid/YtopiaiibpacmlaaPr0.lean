/- The program of this seat, as the evaluator has it. -/
import Derived.Test.YtopiaiibpacmlaaAv24
import Derived.Test.YtopiaiibpacmlaaAf
namespace Go.Proofs.Ytopiaiibpacmlaa.Av
open Go.RowKit
def pr : Pr := ⟨prA, orC (extS 145) (orC (extS0 145) (extJ 96))⟩
theorem pr_shut (f : Nat) (af : AF) (h : pr.A f = some af) : af.body.shut = true := by
  have h1 : (afs.all fun x => x.2.body.shut) = true := by kernel_rfl
  have h2 : (afs.find? fun x => x.1 == f).map (·.2) = some af := h
  rw [Option.map_eq_some_iff] at h2
  obtain ⟨x, hx, rfl⟩ := h2
  exact List.all_eq_true.1 h1 x (List.mem_of_find?_eq_some hx)
theorem pr_sh : CSh pr.ext := by
  refine orC_sh (extS_sh 145) (orC_sh (extS0_sh 145) (extJ_sh 96) ?_) ?_
  · intro f args M out Pre s hs h1 h2
    unfold extJ at h2
    by_cases hf : f = 145
    · subst hf; simp at h2
    · simp [extS0, hf]
  · intro f args M out Pre s hs h1 h2
    by_cases hf : f = 145
    · subst hf
      simp only [orC, extS0, extJ, if_true] at h2
      have : ∃ sz nl cd, args = [.list sz [] nl cd] := by
        split at h2
        · rename_i r hr
          split at hr
          · exact ⟨_, _, _, rfl⟩
          · cases hr
        · simp at h2
      obtain ⟨sz, nl, cd, rfl⟩ := this
      simp only [extS, if_true, List.map_cons, List.map_nil, sh_list, sortA]
    · simp [extS, hf]
/-- What comes of values that name no places comes of them in any memory. -/
theorem any {f : Nat} {args : List AV} {v : AV} (ha : shut.all args = true) (hv : shut v = true) (h : ev pr f args [] = some (.q v)) (M : MS) : ev pr f args M = some (.q v) := ev_any pr_shut pr_sh ha hv h M
end Go.Proofs.Ytopiaiibpacmlaa.Av
