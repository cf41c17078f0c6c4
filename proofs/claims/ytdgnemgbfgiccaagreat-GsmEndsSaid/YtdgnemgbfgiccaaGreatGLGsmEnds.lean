/- 'GsmEnds': the evaluator says true: a run for each number. -/
import Derived.Test.YtdgnemgbfgiccaaGreatGLGsmEnds0
import Derived.Test.YtdgnemgbfgiccaaGreatGLGsmEnds1
import Derived.Test.YtdgnemgbfgiccaaGreatGLGsmEnds2
import Derived.Test.YtdgnemgbfgiccaaGreatGLGsmEnds3
namespace Go.Proofs.YtdgnemgbfgiccaaGreat.GEv
open Go
open Go.RowKit (Below)
theorem ends_nat : ∀ n : Nat, kresult EK 1000000 7 [.int .i64 (.ofNat n)] = true
  | 0 => ends_0
  | 1 => ends_1
  | 2 => ends_2
  | 3 => ends_3
  | 4 => ends_4
  | 5 => ends_5
  | 6 => ends_6
  | 7 => ends_7
  | 8 => ends_8
  | 9 => ends_9
  | n + 10 => ends_big n
theorem ends_low : ∀ n : Nat, kresult EK 1000000 7 [.int .i64 (.negSucc n)] = true
  | 0 => ends_m1
  | 1 => ends_m2
  | 2 => ends_m3
  | 3 => ends_m4
  | 4 => ends_m5
  | 5 => ends_m6
  | 6 => ends_m7
  | 7 => ends_m8
  | 8 => ends_m9
  | n + 9 => ends_neg n
theorem gsmEnds_calls (a : Int) (_ : (Lit.int .i64 a).wf = true) (W : World) : Calls Tryz.prog 7 #[.int .i64 a] W fun e W' => e = .returned (.bool true) ∧ Below W.heap.size W W' := by
  cases a with
  | ofNat n => exact kcalls_true kok (ends_nat n) rfl W
  | negSucc n => exact kcalls_true kok (ends_low n) rfl W
end Go.Proofs.YtdgnemgbfgiccaaGreat.GEv
