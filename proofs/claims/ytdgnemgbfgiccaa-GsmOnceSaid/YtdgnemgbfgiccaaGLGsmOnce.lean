/- 'GsmOnce': whatever the flags, the evaluator says true: a run for each. -/
import Derived.Test.YtdgnemgbfgiccaaGEvT
namespace Go.Proofs.Ytdgnemgbfgiccaa.GEv
open Go
open Go.RowKit (Below)
set_option maxRecDepth 1000000 in
theorem gsmOnce_tt : isTrue (fresult EK 1000000 4 [.bool true, .bool true]) = true := by kernel_rfl
set_option maxRecDepth 1000000 in
theorem gsmOnce_tf : isTrue (fresult EK 1000000 4 [.bool true, .bool false]) = true := by kernel_rfl
set_option maxRecDepth 1000000 in
theorem gsmOnce_ft : isTrue (fresult EK 1000000 4 [.bool false, .bool true]) = true := by kernel_rfl
set_option maxRecDepth 1000000 in
theorem gsmOnce_ff : isTrue (fresult EK 1000000 4 [.bool false, .bool false]) = true := by kernel_rfl
theorem gsmOnce_all : ∀ a0 a1 : Bool, isTrue (fresult EK 1000000 4 [.bool a0, .bool a1]) = true
  | true, true => gsmOnce_tt
  | true, false => gsmOnce_tf
  | false, true => gsmOnce_ft
  | false, false => gsmOnce_ff
theorem gsmOnce_calls (a0 a1 : Bool) (W : World) : Calls Try.prog 4 #[.bool a0, .bool a1] W fun e W' => e = .returned (.bool true) ∧ Below W.heap.size W W' :=
  fcalls_true kok (gsmOnce_all a0 a1) rfl W
end Go.Proofs.Ytdgnemgbfgiccaa.GEv
