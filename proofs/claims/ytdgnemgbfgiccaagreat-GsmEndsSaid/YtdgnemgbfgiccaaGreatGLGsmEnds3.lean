/- 'GsmEnds': the evaluator says true: a run for each number. -/
import Derived.Test.YtdgnemgbfgiccaaGreatGEvT
namespace Go.Proofs.YtdgnemgbfgiccaaGreat.GEv
open Go
open Go.RowKit (Below)
set_option maxRecDepth 1000000 in
theorem ends_0 : kresult EK 1000000 7 [.int .i64 (.ofNat 0)] = true := by kernel_rfl
set_option maxRecDepth 1000000 in
theorem ends_m9 : kresult EK 1000000 7 [.int .i64 (.negSucc 8)] = true := by kernel_rfl
set_option maxRecDepth 1000000 in
theorem ends_m8 : kresult EK 1000000 7 [.int .i64 (.negSucc 7)] = true := by kernel_rfl
set_option maxRecDepth 1000000 in
theorem ends_m7 : kresult EK 1000000 7 [.int .i64 (.negSucc 6)] = true := by kernel_rfl
set_option maxRecDepth 1000000 in
theorem ends_m6 : kresult EK 1000000 7 [.int .i64 (.negSucc 5)] = true := by kernel_rfl
set_option maxRecDepth 1000000 in
theorem ends_m5 : kresult EK 1000000 7 [.int .i64 (.negSucc 4)] = true := by kernel_rfl
set_option maxRecDepth 1000000 in
theorem ends_m4 : kresult EK 1000000 7 [.int .i64 (.negSucc 3)] = true := by kernel_rfl
set_option maxRecDepth 1000000 in
theorem ends_m3 : kresult EK 1000000 7 [.int .i64 (.negSucc 2)] = true := by kernel_rfl
set_option maxRecDepth 1000000 in
theorem ends_m2 : kresult EK 1000000 7 [.int .i64 (.negSucc 1)] = true := by kernel_rfl
set_option maxRecDepth 1000000 in
theorem ends_m1 : kresult EK 1000000 7 [.int .i64 (.negSucc 0)] = true := by kernel_rfl
set_option maxRecDepth 1000000 in
theorem ends_neg (n : Nat) : kresult EK 1000000 7 [.int .i64 (.negSucc (n + 9))] = true := by kernel_rfl
set_option maxRecDepth 1000000 in
theorem ends_big (n : Nat) : kresult EK 1000000 7 [.int .i64 (.ofNat (n + 10))] = true := by kernel_rfl
end Go.Proofs.YtdgnemgbfgiccaaGreat.GEv
