/- 'GsmEnds': the evaluator says true: a run for each number. -/
import Derived.Test.YtdgnemgbfgiccaaGreatGEvT
namespace Go.Proofs.YtdgnemgbfgiccaaGreat.GEv
open Go
open Go.RowKit (Below)
set_option maxRecDepth 1000000 in
theorem ends_4 : kresult EK 1000000 7 [.int .i64 (.ofNat 4)] = true := by kernel_rfl
set_option maxRecDepth 1000000 in
theorem ends_5 : kresult EK 1000000 7 [.int .i64 (.ofNat 5)] = true := by kernel_rfl
set_option maxRecDepth 1000000 in
theorem ends_6 : kresult EK 1000000 7 [.int .i64 (.ofNat 6)] = true := by kernel_rfl
end Go.Proofs.YtdgnemgbfgiccaaGreat.GEv
