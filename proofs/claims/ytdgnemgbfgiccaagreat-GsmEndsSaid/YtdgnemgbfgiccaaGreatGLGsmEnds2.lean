/- 'GsmEnds': the evaluator says true: a run for each number. -/
import Derived.Test.YtdgnemgbfgiccaaGreatGEvT
namespace Go.Proofs.YtdgnemgbfgiccaaGreat.GEv
open Go
open Go.RowKit (Below)
set_option maxRecDepth 1000000 in
theorem ends_7 : kresult EK 1000000 7 [.int .i64 (.ofNat 7)] = true := by kernel_rfl
set_option maxRecDepth 1000000 in
theorem ends_8 : kresult EK 1000000 7 [.int .i64 (.ofNat 8)] = true := by kernel_rfl
set_option maxRecDepth 1000000 in
theorem ends_9 : kresult EK 1000000 7 [.int .i64 (.ofNat 9)] = true := by kernel_rfl
end Go.Proofs.YtdgnemgbfgiccaaGreat.GEv
