/- 'NameLong': the evaluator says true: a run for each two numbers. -/
import Derived.Test.YtknhcgdhfndooaaDoorGEvT
namespace Go.Proofs.YtknhcgdhfndooaaDoor.GEv
open Go
open Go.RowKit (Below)
set_option maxRecDepth 1000000 in
theorem nl_6_0 : kresult EK [] 1000000 7 [.int .i64 (.ofNat 6), .int .i64 (.ofNat 0)] = true := by kernel_rfl
set_option maxRecDepth 1000000 in
theorem nl_6_1 : kresult EK [] 1000000 7 [.int .i64 (.ofNat 6), .int .i64 (.ofNat 1)] = true := by kernel_rfl
set_option maxRecDepth 1000000 in
theorem nl_6_2 : kresult EK [] 1000000 7 [.int .i64 (.ofNat 6), .int .i64 (.ofNat 2)] = true := by kernel_rfl
set_option maxRecDepth 1000000 in
theorem nl_6_3 : kresult EK [] 1000000 7 [.int .i64 (.ofNat 6), .int .i64 (.ofNat 3)] = true := by kernel_rfl
set_option maxRecDepth 1000000 in
theorem nl_6_4 : kresult EK [] 1000000 7 [.int .i64 (.ofNat 6), .int .i64 (.ofNat 4)] = true := by kernel_rfl
set_option maxRecDepth 1000000 in
theorem nl_6_5 : kresult EK [] 1000000 7 [.int .i64 (.ofNat 6), .int .i64 (.ofNat 5)] = true := by kernel_rfl
set_option maxRecDepth 1000000 in
theorem nl_6_6 : kresult EK [] 1000000 7 [.int .i64 (.ofNat 6), .int .i64 (.ofNat 6)] = true := by kernel_rfl
set_option maxRecDepth 1000000 in
theorem nl_6_7 : kresult EK [] 1000000 7 [.int .i64 (.ofNat 6), .int .i64 (.ofNat 7)] = true := by kernel_rfl
set_option maxRecDepth 1000000 in
theorem nl_6_8 : kresult EK [] 1000000 7 [.int .i64 (.ofNat 6), .int .i64 (.ofNat 8)] = true := by kernel_rfl
set_option maxRecDepth 1000000 in
theorem nl_6_9 : kresult EK [] 1000000 7 [.int .i64 (.ofNat 6), .int .i64 (.ofNat 9)] = true := by kernel_rfl
set_option maxRecDepth 1000000 in
theorem nl_6_10 : kresult EK [] 1000000 7 [.int .i64 (.ofNat 6), .int .i64 (.ofNat 10)] = true := by kernel_rfl
set_option maxRecDepth 1000000 in
theorem nl_6_11 : kresult EK [] 1000000 7 [.int .i64 (.ofNat 6), .int .i64 (.ofNat 11)] = true := by kernel_rfl
set_option maxRecDepth 1000000 in
theorem nl_6_12 : kresult EK [] 1000000 7 [.int .i64 (.ofNat 6), .int .i64 (.ofNat 12)] = true := by kernel_rfl
set_option maxRecDepth 1000000 in
theorem nl_6_13 : kresult EK [] 1000000 7 [.int .i64 (.ofNat 6), .int .i64 (.ofNat 13)] = true := by kernel_rfl
set_option maxRecDepth 1000000 in
theorem nl_6_14 : kresult EK [] 1000000 7 [.int .i64 (.ofNat 6), .int .i64 (.ofNat 14)] = true := by kernel_rfl
set_option maxRecDepth 1000000 in
theorem nl_6_15 : kresult EK [] 1000000 7 [.int .i64 (.ofNat 6), .int .i64 (.ofNat 15)] = true := by kernel_rfl
set_option maxRecDepth 1000000 in
theorem nl_6_16 : kresult EK [] 1000000 7 [.int .i64 (.ofNat 6), .int .i64 (.ofNat 16)] = true := by kernel_rfl
set_option maxRecDepth 1000000 in
theorem nl_6_17 : kresult EK [] 1000000 7 [.int .i64 (.ofNat 6), .int .i64 (.ofNat 17)] = true := by kernel_rfl
set_option maxRecDepth 1000000 in
theorem nl_6_18 : kresult EK [] 1000000 7 [.int .i64 (.ofNat 6), .int .i64 (.ofNat 18)] = true := by kernel_rfl
set_option maxRecDepth 1000000 in
theorem nl_6_19 : kresult EK [] 1000000 7 [.int .i64 (.ofNat 6), .int .i64 (.ofNat 19)] = true := by kernel_rfl
set_option maxRecDepth 1000000 in
theorem nl_6_20 : kresult EK [] 1000000 7 [.int .i64 (.ofNat 6), .int .i64 (.ofNat 20)] = true := by kernel_rfl
set_option maxRecDepth 1000000 in
theorem nl_6_big (m : Nat) : kresult EK [] 1000000 7 [.int .i64 (.ofNat 6), .int .i64 (.ofNat (m + 21))] = true := by kernel_rfl
set_option maxRecDepth 1000000 in
theorem nl_6_neg (m : Nat) : kresult EK [] 1000000 7 [.int .i64 (.ofNat 6), .int .i64 (.negSucc m)] = true := by kernel_rfl
theorem nl_6 : ∀ m : Nat, kresult EK [] 1000000 7 [.int .i64 (.ofNat 6), .int .i64 (.ofNat m)] = true
  | 0 => nl_6_0
  | 1 => nl_6_1
  | 2 => nl_6_2
  | 3 => nl_6_3
  | 4 => nl_6_4
  | 5 => nl_6_5
  | 6 => nl_6_6
  | 7 => nl_6_7
  | 8 => nl_6_8
  | 9 => nl_6_9
  | 10 => nl_6_10
  | 11 => nl_6_11
  | 12 => nl_6_12
  | 13 => nl_6_13
  | 14 => nl_6_14
  | 15 => nl_6_15
  | 16 => nl_6_16
  | 17 => nl_6_17
  | 18 => nl_6_18
  | 19 => nl_6_19
  | 20 => nl_6_20
  | m + 21 => nl_6_big m
theorem nl_all_6 (b : Int) : kresult EK [] 1000000 7 [.int .i64 (.ofNat 6), .int .i64 (b)] = true := by
  cases b with
  | ofNat m => exact nl_6 m
  | negSucc m => exact nl_6_neg m
set_option maxRecDepth 1000000 in
theorem nl_7_0 : kresult EK [] 1000000 7 [.int .i64 (.ofNat 7), .int .i64 (.ofNat 0)] = true := by kernel_rfl
set_option maxRecDepth 1000000 in
theorem nl_7_1 : kresult EK [] 1000000 7 [.int .i64 (.ofNat 7), .int .i64 (.ofNat 1)] = true := by kernel_rfl
set_option maxRecDepth 1000000 in
theorem nl_7_2 : kresult EK [] 1000000 7 [.int .i64 (.ofNat 7), .int .i64 (.ofNat 2)] = true := by kernel_rfl
set_option maxRecDepth 1000000 in
theorem nl_7_3 : kresult EK [] 1000000 7 [.int .i64 (.ofNat 7), .int .i64 (.ofNat 3)] = true := by kernel_rfl
set_option maxRecDepth 1000000 in
theorem nl_7_4 : kresult EK [] 1000000 7 [.int .i64 (.ofNat 7), .int .i64 (.ofNat 4)] = true := by kernel_rfl
set_option maxRecDepth 1000000 in
theorem nl_7_5 : kresult EK [] 1000000 7 [.int .i64 (.ofNat 7), .int .i64 (.ofNat 5)] = true := by kernel_rfl
set_option maxRecDepth 1000000 in
theorem nl_7_6 : kresult EK [] 1000000 7 [.int .i64 (.ofNat 7), .int .i64 (.ofNat 6)] = true := by kernel_rfl
set_option maxRecDepth 1000000 in
theorem nl_7_7 : kresult EK [] 1000000 7 [.int .i64 (.ofNat 7), .int .i64 (.ofNat 7)] = true := by kernel_rfl
set_option maxRecDepth 1000000 in
theorem nl_7_8 : kresult EK [] 1000000 7 [.int .i64 (.ofNat 7), .int .i64 (.ofNat 8)] = true := by kernel_rfl
set_option maxRecDepth 1000000 in
theorem nl_7_9 : kresult EK [] 1000000 7 [.int .i64 (.ofNat 7), .int .i64 (.ofNat 9)] = true := by kernel_rfl
set_option maxRecDepth 1000000 in
theorem nl_7_10 : kresult EK [] 1000000 7 [.int .i64 (.ofNat 7), .int .i64 (.ofNat 10)] = true := by kernel_rfl
set_option maxRecDepth 1000000 in
theorem nl_7_11 : kresult EK [] 1000000 7 [.int .i64 (.ofNat 7), .int .i64 (.ofNat 11)] = true := by kernel_rfl
set_option maxRecDepth 1000000 in
theorem nl_7_12 : kresult EK [] 1000000 7 [.int .i64 (.ofNat 7), .int .i64 (.ofNat 12)] = true := by kernel_rfl
set_option maxRecDepth 1000000 in
theorem nl_7_13 : kresult EK [] 1000000 7 [.int .i64 (.ofNat 7), .int .i64 (.ofNat 13)] = true := by kernel_rfl
set_option maxRecDepth 1000000 in
theorem nl_7_14 : kresult EK [] 1000000 7 [.int .i64 (.ofNat 7), .int .i64 (.ofNat 14)] = true := by kernel_rfl
set_option maxRecDepth 1000000 in
theorem nl_7_15 : kresult EK [] 1000000 7 [.int .i64 (.ofNat 7), .int .i64 (.ofNat 15)] = true := by kernel_rfl
set_option maxRecDepth 1000000 in
theorem nl_7_16 : kresult EK [] 1000000 7 [.int .i64 (.ofNat 7), .int .i64 (.ofNat 16)] = true := by kernel_rfl
set_option maxRecDepth 1000000 in
theorem nl_7_17 : kresult EK [] 1000000 7 [.int .i64 (.ofNat 7), .int .i64 (.ofNat 17)] = true := by kernel_rfl
set_option maxRecDepth 1000000 in
theorem nl_7_18 : kresult EK [] 1000000 7 [.int .i64 (.ofNat 7), .int .i64 (.ofNat 18)] = true := by kernel_rfl
set_option maxRecDepth 1000000 in
theorem nl_7_19 : kresult EK [] 1000000 7 [.int .i64 (.ofNat 7), .int .i64 (.ofNat 19)] = true := by kernel_rfl
set_option maxRecDepth 1000000 in
theorem nl_7_20 : kresult EK [] 1000000 7 [.int .i64 (.ofNat 7), .int .i64 (.ofNat 20)] = true := by kernel_rfl
set_option maxRecDepth 1000000 in
theorem nl_7_big (m : Nat) : kresult EK [] 1000000 7 [.int .i64 (.ofNat 7), .int .i64 (.ofNat (m + 21))] = true := by kernel_rfl
set_option maxRecDepth 1000000 in
theorem nl_7_neg (m : Nat) : kresult EK [] 1000000 7 [.int .i64 (.ofNat 7), .int .i64 (.negSucc m)] = true := by kernel_rfl
theorem nl_7 : ∀ m : Nat, kresult EK [] 1000000 7 [.int .i64 (.ofNat 7), .int .i64 (.ofNat m)] = true
  | 0 => nl_7_0
  | 1 => nl_7_1
  | 2 => nl_7_2
  | 3 => nl_7_3
  | 4 => nl_7_4
  | 5 => nl_7_5
  | 6 => nl_7_6
  | 7 => nl_7_7
  | 8 => nl_7_8
  | 9 => nl_7_9
  | 10 => nl_7_10
  | 11 => nl_7_11
  | 12 => nl_7_12
  | 13 => nl_7_13
  | 14 => nl_7_14
  | 15 => nl_7_15
  | 16 => nl_7_16
  | 17 => nl_7_17
  | 18 => nl_7_18
  | 19 => nl_7_19
  | 20 => nl_7_20
  | m + 21 => nl_7_big m
theorem nl_all_7 (b : Int) : kresult EK [] 1000000 7 [.int .i64 (.ofNat 7), .int .i64 (b)] = true := by
  cases b with
  | ofNat m => exact nl_7 m
  | negSucc m => exact nl_7_neg m
set_option maxRecDepth 1000000 in
theorem nl_8_0 : kresult EK [] 1000000 7 [.int .i64 (.ofNat 8), .int .i64 (.ofNat 0)] = true := by kernel_rfl
set_option maxRecDepth 1000000 in
theorem nl_8_1 : kresult EK [] 1000000 7 [.int .i64 (.ofNat 8), .int .i64 (.ofNat 1)] = true := by kernel_rfl
set_option maxRecDepth 1000000 in
theorem nl_8_2 : kresult EK [] 1000000 7 [.int .i64 (.ofNat 8), .int .i64 (.ofNat 2)] = true := by kernel_rfl
set_option maxRecDepth 1000000 in
theorem nl_8_3 : kresult EK [] 1000000 7 [.int .i64 (.ofNat 8), .int .i64 (.ofNat 3)] = true := by kernel_rfl
set_option maxRecDepth 1000000 in
theorem nl_8_4 : kresult EK [] 1000000 7 [.int .i64 (.ofNat 8), .int .i64 (.ofNat 4)] = true := by kernel_rfl
set_option maxRecDepth 1000000 in
theorem nl_8_5 : kresult EK [] 1000000 7 [.int .i64 (.ofNat 8), .int .i64 (.ofNat 5)] = true := by kernel_rfl
set_option maxRecDepth 1000000 in
theorem nl_8_6 : kresult EK [] 1000000 7 [.int .i64 (.ofNat 8), .int .i64 (.ofNat 6)] = true := by kernel_rfl
set_option maxRecDepth 1000000 in
theorem nl_8_7 : kresult EK [] 1000000 7 [.int .i64 (.ofNat 8), .int .i64 (.ofNat 7)] = true := by kernel_rfl
set_option maxRecDepth 1000000 in
theorem nl_8_8 : kresult EK [] 1000000 7 [.int .i64 (.ofNat 8), .int .i64 (.ofNat 8)] = true := by kernel_rfl
set_option maxRecDepth 1000000 in
theorem nl_8_9 : kresult EK [] 1000000 7 [.int .i64 (.ofNat 8), .int .i64 (.ofNat 9)] = true := by kernel_rfl
set_option maxRecDepth 1000000 in
theorem nl_8_10 : kresult EK [] 1000000 7 [.int .i64 (.ofNat 8), .int .i64 (.ofNat 10)] = true := by kernel_rfl
set_option maxRecDepth 1000000 in
theorem nl_8_11 : kresult EK [] 1000000 7 [.int .i64 (.ofNat 8), .int .i64 (.ofNat 11)] = true := by kernel_rfl
set_option maxRecDepth 1000000 in
theorem nl_8_12 : kresult EK [] 1000000 7 [.int .i64 (.ofNat 8), .int .i64 (.ofNat 12)] = true := by kernel_rfl
set_option maxRecDepth 1000000 in
theorem nl_8_13 : kresult EK [] 1000000 7 [.int .i64 (.ofNat 8), .int .i64 (.ofNat 13)] = true := by kernel_rfl
set_option maxRecDepth 1000000 in
theorem nl_8_14 : kresult EK [] 1000000 7 [.int .i64 (.ofNat 8), .int .i64 (.ofNat 14)] = true := by kernel_rfl
set_option maxRecDepth 1000000 in
theorem nl_8_15 : kresult EK [] 1000000 7 [.int .i64 (.ofNat 8), .int .i64 (.ofNat 15)] = true := by kernel_rfl
set_option maxRecDepth 1000000 in
theorem nl_8_16 : kresult EK [] 1000000 7 [.int .i64 (.ofNat 8), .int .i64 (.ofNat 16)] = true := by kernel_rfl
set_option maxRecDepth 1000000 in
theorem nl_8_17 : kresult EK [] 1000000 7 [.int .i64 (.ofNat 8), .int .i64 (.ofNat 17)] = true := by kernel_rfl
set_option maxRecDepth 1000000 in
theorem nl_8_18 : kresult EK [] 1000000 7 [.int .i64 (.ofNat 8), .int .i64 (.ofNat 18)] = true := by kernel_rfl
set_option maxRecDepth 1000000 in
theorem nl_8_19 : kresult EK [] 1000000 7 [.int .i64 (.ofNat 8), .int .i64 (.ofNat 19)] = true := by kernel_rfl
set_option maxRecDepth 1000000 in
theorem nl_8_20 : kresult EK [] 1000000 7 [.int .i64 (.ofNat 8), .int .i64 (.ofNat 20)] = true := by kernel_rfl
set_option maxRecDepth 1000000 in
theorem nl_8_big (m : Nat) : kresult EK [] 1000000 7 [.int .i64 (.ofNat 8), .int .i64 (.ofNat (m + 21))] = true := by kernel_rfl
set_option maxRecDepth 1000000 in
theorem nl_8_neg (m : Nat) : kresult EK [] 1000000 7 [.int .i64 (.ofNat 8), .int .i64 (.negSucc m)] = true := by kernel_rfl
theorem nl_8 : ∀ m : Nat, kresult EK [] 1000000 7 [.int .i64 (.ofNat 8), .int .i64 (.ofNat m)] = true
  | 0 => nl_8_0
  | 1 => nl_8_1
  | 2 => nl_8_2
  | 3 => nl_8_3
  | 4 => nl_8_4
  | 5 => nl_8_5
  | 6 => nl_8_6
  | 7 => nl_8_7
  | 8 => nl_8_8
  | 9 => nl_8_9
  | 10 => nl_8_10
  | 11 => nl_8_11
  | 12 => nl_8_12
  | 13 => nl_8_13
  | 14 => nl_8_14
  | 15 => nl_8_15
  | 16 => nl_8_16
  | 17 => nl_8_17
  | 18 => nl_8_18
  | 19 => nl_8_19
  | 20 => nl_8_20
  | m + 21 => nl_8_big m
theorem nl_all_8 (b : Int) : kresult EK [] 1000000 7 [.int .i64 (.ofNat 8), .int .i64 (b)] = true := by
  cases b with
  | ofNat m => exact nl_8 m
  | negSucc m => exact nl_8_neg m
end Go.Proofs.YtknhcgdhfndooaaDoor.GEv
