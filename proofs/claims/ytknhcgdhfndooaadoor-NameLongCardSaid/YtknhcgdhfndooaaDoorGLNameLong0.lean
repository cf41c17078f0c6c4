/- 'NameLong': the evaluator says true: a run for each two numbers. -/
import Derived.Test.YtknhcgdhfndooaaDoorGEvT
namespace Go.Proofs.YtknhcgdhfndooaaDoor.GEv
open Go
open Go.RowKit (Below)
set_option maxRecDepth 1000000 in
theorem nl_0_0 : kresult EK [] 1000000 7 [.int .i64 (.ofNat 0), .int .i64 (.ofNat 0)] = true := by kernel_rfl
set_option maxRecDepth 1000000 in
theorem nl_0_1 : kresult EK [] 1000000 7 [.int .i64 (.ofNat 0), .int .i64 (.ofNat 1)] = true := by kernel_rfl
set_option maxRecDepth 1000000 in
theorem nl_0_2 : kresult EK [] 1000000 7 [.int .i64 (.ofNat 0), .int .i64 (.ofNat 2)] = true := by kernel_rfl
set_option maxRecDepth 1000000 in
theorem nl_0_3 : kresult EK [] 1000000 7 [.int .i64 (.ofNat 0), .int .i64 (.ofNat 3)] = true := by kernel_rfl
set_option maxRecDepth 1000000 in
theorem nl_0_4 : kresult EK [] 1000000 7 [.int .i64 (.ofNat 0), .int .i64 (.ofNat 4)] = true := by kernel_rfl
set_option maxRecDepth 1000000 in
theorem nl_0_5 : kresult EK [] 1000000 7 [.int .i64 (.ofNat 0), .int .i64 (.ofNat 5)] = true := by kernel_rfl
set_option maxRecDepth 1000000 in
theorem nl_0_6 : kresult EK [] 1000000 7 [.int .i64 (.ofNat 0), .int .i64 (.ofNat 6)] = true := by kernel_rfl
set_option maxRecDepth 1000000 in
theorem nl_0_7 : kresult EK [] 1000000 7 [.int .i64 (.ofNat 0), .int .i64 (.ofNat 7)] = true := by kernel_rfl
set_option maxRecDepth 1000000 in
theorem nl_0_8 : kresult EK [] 1000000 7 [.int .i64 (.ofNat 0), .int .i64 (.ofNat 8)] = true := by kernel_rfl
set_option maxRecDepth 1000000 in
theorem nl_0_9 : kresult EK [] 1000000 7 [.int .i64 (.ofNat 0), .int .i64 (.ofNat 9)] = true := by kernel_rfl
set_option maxRecDepth 1000000 in
theorem nl_0_10 : kresult EK [] 1000000 7 [.int .i64 (.ofNat 0), .int .i64 (.ofNat 10)] = true := by kernel_rfl
set_option maxRecDepth 1000000 in
theorem nl_0_11 : kresult EK [] 1000000 7 [.int .i64 (.ofNat 0), .int .i64 (.ofNat 11)] = true := by kernel_rfl
set_option maxRecDepth 1000000 in
theorem nl_0_12 : kresult EK [] 1000000 7 [.int .i64 (.ofNat 0), .int .i64 (.ofNat 12)] = true := by kernel_rfl
set_option maxRecDepth 1000000 in
theorem nl_0_13 : kresult EK [] 1000000 7 [.int .i64 (.ofNat 0), .int .i64 (.ofNat 13)] = true := by kernel_rfl
set_option maxRecDepth 1000000 in
theorem nl_0_14 : kresult EK [] 1000000 7 [.int .i64 (.ofNat 0), .int .i64 (.ofNat 14)] = true := by kernel_rfl
set_option maxRecDepth 1000000 in
theorem nl_0_15 : kresult EK [] 1000000 7 [.int .i64 (.ofNat 0), .int .i64 (.ofNat 15)] = true := by kernel_rfl
set_option maxRecDepth 1000000 in
theorem nl_0_16 : kresult EK [] 1000000 7 [.int .i64 (.ofNat 0), .int .i64 (.ofNat 16)] = true := by kernel_rfl
set_option maxRecDepth 1000000 in
theorem nl_0_17 : kresult EK [] 1000000 7 [.int .i64 (.ofNat 0), .int .i64 (.ofNat 17)] = true := by kernel_rfl
set_option maxRecDepth 1000000 in
theorem nl_0_18 : kresult EK [] 1000000 7 [.int .i64 (.ofNat 0), .int .i64 (.ofNat 18)] = true := by kernel_rfl
set_option maxRecDepth 1000000 in
theorem nl_0_19 : kresult EK [] 1000000 7 [.int .i64 (.ofNat 0), .int .i64 (.ofNat 19)] = true := by kernel_rfl
set_option maxRecDepth 1000000 in
theorem nl_0_20 : kresult EK [] 1000000 7 [.int .i64 (.ofNat 0), .int .i64 (.ofNat 20)] = true := by kernel_rfl
set_option maxRecDepth 1000000 in
theorem nl_0_big (m : Nat) : kresult EK [] 1000000 7 [.int .i64 (.ofNat 0), .int .i64 (.ofNat (m + 21))] = true := by kernel_rfl
set_option maxRecDepth 1000000 in
theorem nl_0_neg (m : Nat) : kresult EK [] 1000000 7 [.int .i64 (.ofNat 0), .int .i64 (.negSucc m)] = true := by kernel_rfl
theorem nl_0 : ∀ m : Nat, kresult EK [] 1000000 7 [.int .i64 (.ofNat 0), .int .i64 (.ofNat m)] = true
  | 0 => nl_0_0
  | 1 => nl_0_1
  | 2 => nl_0_2
  | 3 => nl_0_3
  | 4 => nl_0_4
  | 5 => nl_0_5
  | 6 => nl_0_6
  | 7 => nl_0_7
  | 8 => nl_0_8
  | 9 => nl_0_9
  | 10 => nl_0_10
  | 11 => nl_0_11
  | 12 => nl_0_12
  | 13 => nl_0_13
  | 14 => nl_0_14
  | 15 => nl_0_15
  | 16 => nl_0_16
  | 17 => nl_0_17
  | 18 => nl_0_18
  | 19 => nl_0_19
  | 20 => nl_0_20
  | m + 21 => nl_0_big m
theorem nl_all_0 (b : Int) : kresult EK [] 1000000 7 [.int .i64 (.ofNat 0), .int .i64 (b)] = true := by
  cases b with
  | ofNat m => exact nl_0 m
  | negSucc m => exact nl_0_neg m
set_option maxRecDepth 1000000 in
theorem nl_1_0 : kresult EK [] 1000000 7 [.int .i64 (.ofNat 1), .int .i64 (.ofNat 0)] = true := by kernel_rfl
set_option maxRecDepth 1000000 in
theorem nl_1_1 : kresult EK [] 1000000 7 [.int .i64 (.ofNat 1), .int .i64 (.ofNat 1)] = true := by kernel_rfl
set_option maxRecDepth 1000000 in
theorem nl_1_2 : kresult EK [] 1000000 7 [.int .i64 (.ofNat 1), .int .i64 (.ofNat 2)] = true := by kernel_rfl
set_option maxRecDepth 1000000 in
theorem nl_1_3 : kresult EK [] 1000000 7 [.int .i64 (.ofNat 1), .int .i64 (.ofNat 3)] = true := by kernel_rfl
set_option maxRecDepth 1000000 in
theorem nl_1_4 : kresult EK [] 1000000 7 [.int .i64 (.ofNat 1), .int .i64 (.ofNat 4)] = true := by kernel_rfl
set_option maxRecDepth 1000000 in
theorem nl_1_5 : kresult EK [] 1000000 7 [.int .i64 (.ofNat 1), .int .i64 (.ofNat 5)] = true := by kernel_rfl
set_option maxRecDepth 1000000 in
theorem nl_1_6 : kresult EK [] 1000000 7 [.int .i64 (.ofNat 1), .int .i64 (.ofNat 6)] = true := by kernel_rfl
set_option maxRecDepth 1000000 in
theorem nl_1_7 : kresult EK [] 1000000 7 [.int .i64 (.ofNat 1), .int .i64 (.ofNat 7)] = true := by kernel_rfl
set_option maxRecDepth 1000000 in
theorem nl_1_8 : kresult EK [] 1000000 7 [.int .i64 (.ofNat 1), .int .i64 (.ofNat 8)] = true := by kernel_rfl
set_option maxRecDepth 1000000 in
theorem nl_1_9 : kresult EK [] 1000000 7 [.int .i64 (.ofNat 1), .int .i64 (.ofNat 9)] = true := by kernel_rfl
set_option maxRecDepth 1000000 in
theorem nl_1_10 : kresult EK [] 1000000 7 [.int .i64 (.ofNat 1), .int .i64 (.ofNat 10)] = true := by kernel_rfl
set_option maxRecDepth 1000000 in
theorem nl_1_11 : kresult EK [] 1000000 7 [.int .i64 (.ofNat 1), .int .i64 (.ofNat 11)] = true := by kernel_rfl
set_option maxRecDepth 1000000 in
theorem nl_1_12 : kresult EK [] 1000000 7 [.int .i64 (.ofNat 1), .int .i64 (.ofNat 12)] = true := by kernel_rfl
set_option maxRecDepth 1000000 in
theorem nl_1_13 : kresult EK [] 1000000 7 [.int .i64 (.ofNat 1), .int .i64 (.ofNat 13)] = true := by kernel_rfl
set_option maxRecDepth 1000000 in
theorem nl_1_14 : kresult EK [] 1000000 7 [.int .i64 (.ofNat 1), .int .i64 (.ofNat 14)] = true := by kernel_rfl
set_option maxRecDepth 1000000 in
theorem nl_1_15 : kresult EK [] 1000000 7 [.int .i64 (.ofNat 1), .int .i64 (.ofNat 15)] = true := by kernel_rfl
set_option maxRecDepth 1000000 in
theorem nl_1_16 : kresult EK [] 1000000 7 [.int .i64 (.ofNat 1), .int .i64 (.ofNat 16)] = true := by kernel_rfl
set_option maxRecDepth 1000000 in
theorem nl_1_17 : kresult EK [] 1000000 7 [.int .i64 (.ofNat 1), .int .i64 (.ofNat 17)] = true := by kernel_rfl
set_option maxRecDepth 1000000 in
theorem nl_1_18 : kresult EK [] 1000000 7 [.int .i64 (.ofNat 1), .int .i64 (.ofNat 18)] = true := by kernel_rfl
set_option maxRecDepth 1000000 in
theorem nl_1_19 : kresult EK [] 1000000 7 [.int .i64 (.ofNat 1), .int .i64 (.ofNat 19)] = true := by kernel_rfl
set_option maxRecDepth 1000000 in
theorem nl_1_20 : kresult EK [] 1000000 7 [.int .i64 (.ofNat 1), .int .i64 (.ofNat 20)] = true := by kernel_rfl
set_option maxRecDepth 1000000 in
theorem nl_1_big (m : Nat) : kresult EK [] 1000000 7 [.int .i64 (.ofNat 1), .int .i64 (.ofNat (m + 21))] = true := by kernel_rfl
set_option maxRecDepth 1000000 in
theorem nl_1_neg (m : Nat) : kresult EK [] 1000000 7 [.int .i64 (.ofNat 1), .int .i64 (.negSucc m)] = true := by kernel_rfl
theorem nl_1 : ∀ m : Nat, kresult EK [] 1000000 7 [.int .i64 (.ofNat 1), .int .i64 (.ofNat m)] = true
  | 0 => nl_1_0
  | 1 => nl_1_1
  | 2 => nl_1_2
  | 3 => nl_1_3
  | 4 => nl_1_4
  | 5 => nl_1_5
  | 6 => nl_1_6
  | 7 => nl_1_7
  | 8 => nl_1_8
  | 9 => nl_1_9
  | 10 => nl_1_10
  | 11 => nl_1_11
  | 12 => nl_1_12
  | 13 => nl_1_13
  | 14 => nl_1_14
  | 15 => nl_1_15
  | 16 => nl_1_16
  | 17 => nl_1_17
  | 18 => nl_1_18
  | 19 => nl_1_19
  | 20 => nl_1_20
  | m + 21 => nl_1_big m
theorem nl_all_1 (b : Int) : kresult EK [] 1000000 7 [.int .i64 (.ofNat 1), .int .i64 (b)] = true := by
  cases b with
  | ofNat m => exact nl_1 m
  | negSucc m => exact nl_1_neg m
set_option maxRecDepth 1000000 in
theorem nl_2_0 : kresult EK [] 1000000 7 [.int .i64 (.ofNat 2), .int .i64 (.ofNat 0)] = true := by kernel_rfl
set_option maxRecDepth 1000000 in
theorem nl_2_1 : kresult EK [] 1000000 7 [.int .i64 (.ofNat 2), .int .i64 (.ofNat 1)] = true := by kernel_rfl
set_option maxRecDepth 1000000 in
theorem nl_2_2 : kresult EK [] 1000000 7 [.int .i64 (.ofNat 2), .int .i64 (.ofNat 2)] = true := by kernel_rfl
set_option maxRecDepth 1000000 in
theorem nl_2_3 : kresult EK [] 1000000 7 [.int .i64 (.ofNat 2), .int .i64 (.ofNat 3)] = true := by kernel_rfl
set_option maxRecDepth 1000000 in
theorem nl_2_4 : kresult EK [] 1000000 7 [.int .i64 (.ofNat 2), .int .i64 (.ofNat 4)] = true := by kernel_rfl
set_option maxRecDepth 1000000 in
theorem nl_2_5 : kresult EK [] 1000000 7 [.int .i64 (.ofNat 2), .int .i64 (.ofNat 5)] = true := by kernel_rfl
set_option maxRecDepth 1000000 in
theorem nl_2_6 : kresult EK [] 1000000 7 [.int .i64 (.ofNat 2), .int .i64 (.ofNat 6)] = true := by kernel_rfl
set_option maxRecDepth 1000000 in
theorem nl_2_7 : kresult EK [] 1000000 7 [.int .i64 (.ofNat 2), .int .i64 (.ofNat 7)] = true := by kernel_rfl
set_option maxRecDepth 1000000 in
theorem nl_2_8 : kresult EK [] 1000000 7 [.int .i64 (.ofNat 2), .int .i64 (.ofNat 8)] = true := by kernel_rfl
set_option maxRecDepth 1000000 in
theorem nl_2_9 : kresult EK [] 1000000 7 [.int .i64 (.ofNat 2), .int .i64 (.ofNat 9)] = true := by kernel_rfl
set_option maxRecDepth 1000000 in
theorem nl_2_10 : kresult EK [] 1000000 7 [.int .i64 (.ofNat 2), .int .i64 (.ofNat 10)] = true := by kernel_rfl
set_option maxRecDepth 1000000 in
theorem nl_2_11 : kresult EK [] 1000000 7 [.int .i64 (.ofNat 2), .int .i64 (.ofNat 11)] = true := by kernel_rfl
set_option maxRecDepth 1000000 in
theorem nl_2_12 : kresult EK [] 1000000 7 [.int .i64 (.ofNat 2), .int .i64 (.ofNat 12)] = true := by kernel_rfl
set_option maxRecDepth 1000000 in
theorem nl_2_13 : kresult EK [] 1000000 7 [.int .i64 (.ofNat 2), .int .i64 (.ofNat 13)] = true := by kernel_rfl
set_option maxRecDepth 1000000 in
theorem nl_2_14 : kresult EK [] 1000000 7 [.int .i64 (.ofNat 2), .int .i64 (.ofNat 14)] = true := by kernel_rfl
set_option maxRecDepth 1000000 in
theorem nl_2_15 : kresult EK [] 1000000 7 [.int .i64 (.ofNat 2), .int .i64 (.ofNat 15)] = true := by kernel_rfl
set_option maxRecDepth 1000000 in
theorem nl_2_16 : kresult EK [] 1000000 7 [.int .i64 (.ofNat 2), .int .i64 (.ofNat 16)] = true := by kernel_rfl
set_option maxRecDepth 1000000 in
theorem nl_2_17 : kresult EK [] 1000000 7 [.int .i64 (.ofNat 2), .int .i64 (.ofNat 17)] = true := by kernel_rfl
set_option maxRecDepth 1000000 in
theorem nl_2_18 : kresult EK [] 1000000 7 [.int .i64 (.ofNat 2), .int .i64 (.ofNat 18)] = true := by kernel_rfl
set_option maxRecDepth 1000000 in
theorem nl_2_19 : kresult EK [] 1000000 7 [.int .i64 (.ofNat 2), .int .i64 (.ofNat 19)] = true := by kernel_rfl
set_option maxRecDepth 1000000 in
theorem nl_2_20 : kresult EK [] 1000000 7 [.int .i64 (.ofNat 2), .int .i64 (.ofNat 20)] = true := by kernel_rfl
set_option maxRecDepth 1000000 in
theorem nl_2_big (m : Nat) : kresult EK [] 1000000 7 [.int .i64 (.ofNat 2), .int .i64 (.ofNat (m + 21))] = true := by kernel_rfl
set_option maxRecDepth 1000000 in
theorem nl_2_neg (m : Nat) : kresult EK [] 1000000 7 [.int .i64 (.ofNat 2), .int .i64 (.negSucc m)] = true := by kernel_rfl
theorem nl_2 : ∀ m : Nat, kresult EK [] 1000000 7 [.int .i64 (.ofNat 2), .int .i64 (.ofNat m)] = true
  | 0 => nl_2_0
  | 1 => nl_2_1
  | 2 => nl_2_2
  | 3 => nl_2_3
  | 4 => nl_2_4
  | 5 => nl_2_5
  | 6 => nl_2_6
  | 7 => nl_2_7
  | 8 => nl_2_8
  | 9 => nl_2_9
  | 10 => nl_2_10
  | 11 => nl_2_11
  | 12 => nl_2_12
  | 13 => nl_2_13
  | 14 => nl_2_14
  | 15 => nl_2_15
  | 16 => nl_2_16
  | 17 => nl_2_17
  | 18 => nl_2_18
  | 19 => nl_2_19
  | 20 => nl_2_20
  | m + 21 => nl_2_big m
theorem nl_all_2 (b : Int) : kresult EK [] 1000000 7 [.int .i64 (.ofNat 2), .int .i64 (b)] = true := by
  cases b with
  | ofNat m => exact nl_2 m
  | negSucc m => exact nl_2_neg m
end Go.Proofs.YtknhcgdhfndooaaDoor.GEv
