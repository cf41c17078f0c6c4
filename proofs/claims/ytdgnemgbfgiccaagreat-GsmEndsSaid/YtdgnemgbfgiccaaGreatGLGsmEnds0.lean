/- 'GsmEnds': the evaluator says true: a run for each number. -/
import Derived.Test.YtdgnemgbfgiccaaGreatGEvT
namespace Go.Proofs.YtdgnemgbfgiccaaGreat.GEv
open Go
open Go.RowKit (Below)
set_option maxRecDepth 1000000 in
theorem ends_1 : kresult EK 1000000 7 [.int .i64 (.ofNat 1)] = true := by kernel_rfl
set_option maxRecDepth 1000000 in
theorem ends_2 : kresult EK 1000000 7 [.int .i64 (.ofNat 2)] = true := by kernel_rfl
set_option maxRecDepth 1000000 in
theorem ends_3 : kresult EK 1000000 7 [.int .i64 (.ofNat 3)] = true := by kernel_rfl
end Go.Proofs.YtdgnemgbfgiccaaGreat.GEv
