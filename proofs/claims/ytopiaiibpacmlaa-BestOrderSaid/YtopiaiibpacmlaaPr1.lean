/- The evaluator is right about the program of this seat. -/
import Derived.Test.YtopiaiibpacmlaaPr0
import Derived.Test.YtopiaiibpacmlaaSh
namespace Go.Proofs.Ytopiaiibpacmlaa.Av
open Go.RowKit
theorem pr_ok : PrOk Try.prog pr where
  hm := by kernel_rfl
  A := fun f af h => prA_ok h
  ext := orC_ok (extS_ok (by kernel_rfl) fun blk off cap zs w h1 h2 h3 => Try.slices_Sort_int blk off cap zs w h1 h2 h3)
    (orC_ok (extS0_ok (by kernel_rfl) fun p cap w => Try.slices_Sort_int_none p cap w) (extJ_ok (by kernel_rfl) Try.strings_Join_none Try.strings_Join))
end Go.Proofs.Ytopiaiibpacmlaa.Av
