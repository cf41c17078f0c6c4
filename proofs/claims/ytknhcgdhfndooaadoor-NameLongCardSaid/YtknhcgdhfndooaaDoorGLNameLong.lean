/- 'NameLong': the evaluator says true: a run for each two numbers. -/
import Derived.Test.YtknhcgdhfndooaaDoorGLNameLong0
import Derived.Test.YtknhcgdhfndooaaDoorGLNameLong1
import Derived.Test.YtknhcgdhfndooaaDoorGLNameLong2
import Derived.Test.YtknhcgdhfndooaaDoorGLNameLong3
import Derived.Test.YtknhcgdhfndooaaDoorGLNameLong4
import Derived.Test.YtknhcgdhfndooaaDoorGLNameLong5
import Derived.Test.YtknhcgdhfndooaaDoorGLNameLong6
namespace Go.Proofs.YtknhcgdhfndooaaDoor.GEv
open Go
open Go.RowKit (Below)
set_option maxRecDepth 1000000 in
theorem nl_big (n : Nat) (b : Int) : kresult EK [] 1000000 7 [.int .i64 (.ofNat (n + 21)), .int .i64 (b)] = true := by kernel_rfl
set_option maxRecDepth 1000000 in
theorem nl_neg (n : Nat) (b : Int) : kresult EK [] 1000000 7 [.int .i64 (.negSucc n), .int .i64 (b)] = true := by kernel_rfl
theorem nl_nat : ∀ (n : Nat) (b : Int), kresult EK [] 1000000 7 [.int .i64 (.ofNat n), .int .i64 (b)] = true
  | 0, b => nl_all_0 b
  | 1, b => nl_all_1 b
  | 2, b => nl_all_2 b
  | 3, b => nl_all_3 b
  | 4, b => nl_all_4 b
  | 5, b => nl_all_5 b
  | 6, b => nl_all_6 b
  | 7, b => nl_all_7 b
  | 8, b => nl_all_8 b
  | 9, b => nl_all_9 b
  | 10, b => nl_all_10 b
  | 11, b => nl_all_11 b
  | 12, b => nl_all_12 b
  | 13, b => nl_all_13 b
  | 14, b => nl_all_14 b
  | 15, b => nl_all_15 b
  | 16, b => nl_all_16 b
  | 17, b => nl_all_17 b
  | 18, b => nl_all_18 b
  | 19, b => nl_all_19 b
  | 20, b => nl_all_20 b
  | n + 21, b => nl_big n b
theorem nameLong_calls (a : Int) (_ : (Lit.int .i64 a).wf = true) (b : Int) (_ : (Lit.int .i64 b).wf = true) (W : World) : Calls Tryd.prog 7 #[.int .i64 a, .int .i64 b] W fun e W' => e = .returned (.bool true) ∧ Below W.heap.size W W' := by
  cases a with
  | ofNat n => exact kcalls_true kok (nl_nat n b) rfl trivial (Nat.zero_le _)
  | negSucc n => exact kcalls_true kok (nl_neg n b) rfl trivial (Nat.zero_le _)
end Go.Proofs.YtknhcgdhfndooaaDoor.GEv
