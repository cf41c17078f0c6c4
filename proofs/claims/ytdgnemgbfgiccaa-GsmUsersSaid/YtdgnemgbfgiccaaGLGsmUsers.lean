/- 'GsmUsers': whatever the flags, the evaluator says true: a run for each. -/
import Derived.Test.YtdgnemgbfgiccaaGEvT
namespace Go.Proofs.Ytdgnemgbfgiccaa.GEv
open Go
open Go.RowKit (Below)
set_option maxRecDepth 1000000 in
theorem gsmUsers_tt : isTrue (fresult EK 1000000 5 [.bool true, .bool true]) = true := by kernel_rfl
set_option maxRecDepth 1000000 in
theorem gsmUsers_tf : isTrue (fresult EK 1000000 5 [.bool true, .bool false]) = true := by kernel_rfl
set_option maxRecDepth 1000000 in
theorem gsmUsers_ft : isTrue (fresult EK 1000000 5 [.bool false, .bool true]) = true := by kernel_rfl
set_option maxRecDepth 1000000 in
theorem gsmUsers_ff : isTrue (fresult EK 1000000 5 [.bool false, .bool false]) = true := by kernel_rfl
theorem gsmUsers_all : ∀ a0 a1 : Bool, isTrue (fresult EK 1000000 5 [.bool a0, .bool a1]) = true
  | true, true => gsmUsers_tt
  | true, false => gsmUsers_tf
  | false, true => gsmUsers_ft
  | false, false => gsmUsers_ff
theorem gsmUsers_calls (a0 a1 : Bool) (W : World) : Calls Try.prog 5 #[.bool a0, .bool a1] W fun e W' => e = .returned (.bool true) ∧ Below W.heap.size W W' :=
  fcalls_true kok (gsmUsers_all a0 a1) rfl W
end Go.Proofs.Ytdgnemgbfgiccaa.GEv
