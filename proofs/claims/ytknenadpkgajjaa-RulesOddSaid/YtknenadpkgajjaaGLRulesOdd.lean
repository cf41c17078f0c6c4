/- 'RulesOdd': whatever the way, the evaluator says true: a run for each way that is one; one for all below, one for all above. -/
import Derived.Test.YtknenadpkgajjaaGEvT
namespace Go.Proofs.Ytknenadpkgajjaa.GEv
open Go
open Go.RowKit (Below)
set_option maxRecDepth 1000000 in
theorem odd_0 : isTrue (result EK 1000000 3 [.int .i64 (.ofNat 0)]) = true := by kernel_rfl
set_option maxRecDepth 1000000 in
theorem odd_1 : isTrue (result EK 1000000 3 [.int .i64 (.ofNat 1)]) = true := by kernel_rfl
set_option maxRecDepth 1000000 in
theorem odd_2 : isTrue (result EK 1000000 3 [.int .i64 (.ofNat 2)]) = true := by kernel_rfl
set_option maxRecDepth 1000000 in
theorem odd_3 : isTrue (result EK 1000000 3 [.int .i64 (.ofNat 3)]) = true := by kernel_rfl
set_option maxRecDepth 1000000 in
theorem odd_4 : isTrue (result EK 1000000 3 [.int .i64 (.ofNat 4)]) = true := by kernel_rfl
set_option maxRecDepth 1000000 in
theorem odd_5 : isTrue (result EK 1000000 3 [.int .i64 (.ofNat 5)]) = true := by kernel_rfl
set_option maxRecDepth 1000000 in
theorem odd_6 : isTrue (result EK 1000000 3 [.int .i64 (.ofNat 6)]) = true := by kernel_rfl
set_option maxRecDepth 1000000 in
theorem odd_7 : isTrue (result EK 1000000 3 [.int .i64 (.ofNat 7)]) = true := by kernel_rfl
set_option maxRecDepth 1000000 in
theorem odd_8 : isTrue (result EK 1000000 3 [.int .i64 (.ofNat 8)]) = true := by kernel_rfl
set_option maxRecDepth 1000000 in
theorem odd_9 : isTrue (result EK 1000000 3 [.int .i64 (.ofNat 9)]) = true := by kernel_rfl
set_option maxRecDepth 1000000 in
theorem odd_10 : isTrue (result EK 1000000 3 [.int .i64 (.ofNat 10)]) = true := by kernel_rfl
set_option maxRecDepth 1000000 in
theorem odd_11 : isTrue (result EK 1000000 3 [.int .i64 (.ofNat 11)]) = true := by kernel_rfl
set_option maxRecDepth 1000000 in
theorem odd_12 : isTrue (result EK 1000000 3 [.int .i64 (.ofNat 12)]) = true := by kernel_rfl
set_option maxRecDepth 1000000 in
theorem odd_13 : isTrue (result EK 1000000 3 [.int .i64 (.ofNat 13)]) = true := by kernel_rfl
set_option maxRecDepth 1000000 in
theorem odd_14 : isTrue (result EK 1000000 3 [.int .i64 (.ofNat 14)]) = true := by kernel_rfl
set_option maxRecDepth 1000000 in
theorem odd_15 : isTrue (result EK 1000000 3 [.int .i64 (.ofNat 15)]) = true := by kernel_rfl
set_option maxRecDepth 1000000 in
theorem odd_16 : isTrue (result EK 1000000 3 [.int .i64 (.ofNat 16)]) = true := by kernel_rfl
set_option maxRecDepth 1000000 in
theorem odd_17 : isTrue (result EK 1000000 3 [.int .i64 (.ofNat 17)]) = true := by kernel_rfl
set_option maxRecDepth 1000000 in
theorem odd_18 : isTrue (result EK 1000000 3 [.int .i64 (.ofNat 18)]) = true := by kernel_rfl
set_option maxRecDepth 1000000 in
theorem odd_neg (n : Nat) : isTrue (result EK 1000000 3 [.int .i64 (.negSucc n)]) = true := by kernel_rfl
set_option maxRecDepth 1000000 in
theorem odd_big (n : Nat) : isTrue (result EK 1000000 3 [.int .i64 (.ofNat (n + 19))]) = true := by kernel_rfl
theorem odd_nat : ∀ n : Nat, isTrue (result EK 1000000 3 [.int .i64 (.ofNat n)]) = true
  | 0 => odd_0
  | 1 => odd_1
  | 2 => odd_2
  | 3 => odd_3
  | 4 => odd_4
  | 5 => odd_5
  | 6 => odd_6
  | 7 => odd_7
  | 8 => odd_8
  | 9 => odd_9
  | 10 => odd_10
  | 11 => odd_11
  | 12 => odd_12
  | 13 => odd_13
  | 14 => odd_14
  | 15 => odd_15
  | 16 => odd_16
  | 17 => odd_17
  | 18 => odd_18
  | n + 19 => odd_big n
theorem rulesOdd_calls (a : Int) (_ : (Lit.int .i64 a).wf = true) (W : World) : Calls Try.prog 3 #[.int .i64 a] W fun e W' => e = .returned (.bool true) ∧ Below W.heap.size W W' := by
  cases a with
  | ofNat n => exact calls_true kok (odd_nat n) rfl W
  | negSucc n => exact calls_true kok (odd_neg n) rfl W
end Go.Proofs.Ytknenadpkgajjaa.GEv
