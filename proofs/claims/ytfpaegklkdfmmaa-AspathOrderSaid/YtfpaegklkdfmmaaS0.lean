/- The answer that the document gives for the chapter's example. -/
import Derived.Test.YtfpaegklkdfmmaaPr
namespace Go.Proofs.Ytfpaegklkdfmmaa.Av
open Go.RowKit
set_option maxRecDepth 100000
theorem lives0 : ev pr 9 [] [] = some (.q (.flat (.bool true))) := ev_some.2 ⟨30, by kernel_rfl⟩
theorem lives (M : MS) : ev pr 9 [] M = some (.q (.flat (.bool true))) := any rfl rfl lives0 M
end Go.Proofs.Ytfpaegklkdfmmaa.Av
