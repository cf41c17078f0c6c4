/- 'NameLong': the evaluator says true: a run for each two numbers. -/
import Derived.Test.YtknhcgdhfndooaaDoorGEvT
namespace Go.Proofs.YtknhcgdhfndooaaDoor.GEv
open Go
open Go.RowKit (Below)
set_option maxRecDepth 1000000 in
theorem nl_15_0 : kresult EK [] 1000000 7 [.int .i64 (.ofNat 15), .int .i64 (.ofNat 0)] = true := by kernel_rfl
set_option maxRecDepth 1000000 in
theorem nl_15_1 : kresult EK [] 1000000 7 [.int .i64 (.ofNat 15), .int .i64 (.ofNat 1)] = true := by kernel_rfl
set_option maxRecDepth 1000000 in
theorem nl_15_2 : kresult EK [] 1000000 7 [.int .i64 (.ofNat 15), .int .i64 (.ofNat 2)] = true := by kernel_rfl
set_option maxRecDepth 1000000 in
theorem nl_15_3 : kresult EK [] 1000000 7 [.int .i64 (.ofNat 15), .int .i64 (.ofNat 3)] = true := by kernel_rfl
set_option maxRecDepth 1000000 in
theorem nl_15_4 : kresult EK [] 1000000 7 [.int .i64 (.ofNat 15), .int .i64 (.ofNat 4)] = true := by kernel_rfl
set_option maxRecDepth 1000000 in
theorem nl_15_5 : kresult EK [] 1000000 7 [.int .i64 (.ofNat 15), .int .i64 (.ofNat 5)] = true := by kernel_rfl
set_option maxRecDepth 1000000 in
theorem nl_15_6 : kresult EK [] 1000000 7 [.int .i64 (.ofNat 15), .int .i64 (.ofNat 6)] = true := by kernel_rfl
set_option maxRecDepth 1000000 in
theorem nl_15_7 : kresult EK [] 1000000 7 [.int .i64 (.ofNat 15), .int .i64 (.ofNat 7)] = true := by kernel_rfl
set_option maxRecDepth 1000000 in
theorem nl_15_8 : kresult EK [] 1000000 7 [.int .i64 (.ofNat 15), .int .i64 (.ofNat 8)] = true := by kernel_rfl
set_option maxRecDepth 1000000 in
theorem nl_15_9 : kresult EK [] 1000000 7 [.int .i64 (.ofNat 15), .int .i64 (.ofNat 9)] = true := by kernel_rfl
set_option maxRecDepth 1000000 in
theorem nl_15_10 : kresult EK [] 1000000 7 [.int .i64 (.ofNat 15), .int .i64 (.ofNat 10)] = true := by kernel_rfl
set_option maxRecDepth 1000000 in
theorem nl_15_11 : kresult EK [] 1000000 7 [.int .i64 (.ofNat 15), .int .i64 (.ofNat 11)] = true := by kernel_rfl
set_option maxRecDepth 1000000 in
theorem nl_15_12 : kresult EK [] 1000000 7 [.int .i64 (.ofNat 15), .int .i64 (.ofNat 12)] = true := by kernel_rfl
set_option maxRecDepth 1000000 in
theorem nl_15_13 : kresult EK [] 1000000 7 [.int .i64 (.ofNat 15), .int .i64 (.ofNat 13)] = true := by kernel_rfl
set_option maxRecDepth 1000000 in
theorem nl_15_14 : kresult EK [] 1000000 7 [.int .i64 (.ofNat 15), .int .i64 (.ofNat 14)] = true := by kernel_rfl
set_option maxRecDepth 1000000 in
theorem nl_15_15 : kresult EK [] 1000000 7 [.int .i64 (.ofNat 15), .int .i64 (.ofNat 15)] = true := by kernel_rfl
set_option maxRecDepth 1000000 in
theorem nl_15_16 : kresult EK [] 1000000 7 [.int .i64 (.ofNat 15), .int .i64 (.ofNat 16)] = true := by kernel_rfl
set_option maxRecDepth 1000000 in
theorem nl_15_17 : kresult EK [] 1000000 7 [.int .i64 (.ofNat 15), .int .i64 (.ofNat 17)] = true := by kernel_rfl
set_option maxRecDepth 1000000 in
theorem nl_15_18 : kresult EK [] 1000000 7 [.int .i64 (.ofNat 15), .int .i64 (.ofNat 18)] = true := by kernel_rfl
set_option maxRecDepth 1000000 in
theorem nl_15_19 : kresult EK [] 1000000 7 [.int .i64 (.ofNat 15), .int .i64 (.ofNat 19)] = true := by kernel_rfl
set_option maxRecDepth 1000000 in
theorem nl_15_20 : kresult EK [] 1000000 7 [.int .i64 (.ofNat 15), .int .i64 (.ofNat 20)] = true := by kernel_rfl
set_option maxRecDepth 1000000 in
theorem nl_15_big (m : Nat) : kresult EK [] 1000000 7 [.int .i64 (.ofNat 15), .int .i64 (.ofNat (m + 21))] = true := by kernel_rfl
set_option maxRecDepth 1000000 in
theorem nl_15_neg (m : Nat) : kresult EK [] 1000000 7 [.int .i64 (.ofNat 15), .int .i64 (.negSucc m)] = true := by kernel_rfl
theorem nl_15 : ∀ m : Nat, kresult EK [] 1000000 7 [.int .i64 (.ofNat 15), .int .i64 (.ofNat m)] = true
  | 0 => nl_15_0
  | 1 => nl_15_1
  | 2 => nl_15_2
  | 3 => nl_15_3
  | 4 => nl_15_4
  | 5 => nl_15_5
  | 6 => nl_15_6
  | 7 => nl_15_7
  | 8 => nl_15_8
  | 9 => nl_15_9
  | 10 => nl_15_10
  | 11 => nl_15_11
  | 12 => nl_15_12
  | 13 => nl_15_13
  | 14 => nl_15_14
  | 15 => nl_15_15
  | 16 => nl_15_16
  | 17 => nl_15_17
  | 18 => nl_15_18
  | 19 => nl_15_19
  | 20 => nl_15_20
  | m + 21 => nl_15_big m
theorem nl_all_15 (b : Int) : kresult EK [] 1000000 7 [.int .i64 (.ofNat 15), .int .i64 (b)] = true := by
  cases b with
  | ofNat m => exact nl_15 m
  | negSucc m => exact nl_15_neg m
set_option maxRecDepth 1000000 in
theorem nl_16_0 : kresult EK [] 1000000 7 [.int .i64 (.ofNat 16), .int .i64 (.ofNat 0)] = true := by kernel_rfl
set_option maxRecDepth 1000000 in
theorem nl_16_1 : kresult EK [] 1000000 7 [.int .i64 (.ofNat 16), .int .i64 (.ofNat 1)] = true := by kernel_rfl
set_option maxRecDepth 1000000 in
theorem nl_16_2 : kresult EK [] 1000000 7 [.int .i64 (.ofNat 16), .int .i64 (.ofNat 2)] = true := by kernel_rfl
set_option maxRecDepth 1000000 in
theorem nl_16_3 : kresult EK [] 1000000 7 [.int .i64 (.ofNat 16), .int .i64 (.ofNat 3)] = true := by kernel_rfl
set_option maxRecDepth 1000000 in
theorem nl_16_4 : kresult EK [] 1000000 7 [.int .i64 (.ofNat 16), .int .i64 (.ofNat 4)] = true := by kernel_rfl
set_option maxRecDepth 1000000 in
theorem nl_16_5 : kresult EK [] 1000000 7 [.int .i64 (.ofNat 16), .int .i64 (.ofNat 5)] = true := by kernel_rfl
set_option maxRecDepth 1000000 in
theorem nl_16_6 : kresult EK [] 1000000 7 [.int .i64 (.ofNat 16), .int .i64 (.ofNat 6)] = true := by kernel_rfl
set_option maxRecDepth 1000000 in
theorem nl_16_7 : kresult EK [] 1000000 7 [.int .i64 (.ofNat 16), .int .i64 (.ofNat 7)] = true := by kernel_rfl
set_option maxRecDepth 1000000 in
theorem nl_16_8 : kresult EK [] 1000000 7 [.int .i64 (.ofNat 16), .int .i64 (.ofNat 8)] = true := by kernel_rfl
set_option maxRecDepth 1000000 in
theorem nl_16_9 : kresult EK [] 1000000 7 [.int .i64 (.ofNat 16), .int .i64 (.ofNat 9)] = true := by kernel_rfl
set_option maxRecDepth 1000000 in
theorem nl_16_10 : kresult EK [] 1000000 7 [.int .i64 (.ofNat 16), .int .i64 (.ofNat 10)] = true := by kernel_rfl
set_option maxRecDepth 1000000 in
theorem nl_16_11 : kresult EK [] 1000000 7 [.int .i64 (.ofNat 16), .int .i64 (.ofNat 11)] = true := by kernel_rfl
set_option maxRecDepth 1000000 in
theorem nl_16_12 : kresult EK [] 1000000 7 [.int .i64 (.ofNat 16), .int .i64 (.ofNat 12)] = true := by kernel_rfl
set_option maxRecDepth 1000000 in
theorem nl_16_13 : kresult EK [] 1000000 7 [.int .i64 (.ofNat 16), .int .i64 (.ofNat 13)] = true := by kernel_rfl
set_option maxRecDepth 1000000 in
theorem nl_16_14 : kresult EK [] 1000000 7 [.int .i64 (.ofNat 16), .int .i64 (.ofNat 14)] = true := by kernel_rfl
set_option maxRecDepth 1000000 in
theorem nl_16_15 : kresult EK [] 1000000 7 [.int .i64 (.ofNat 16), .int .i64 (.ofNat 15)] = true := by kernel_rfl
set_option maxRecDepth 1000000 in
theorem nl_16_16 : kresult EK [] 1000000 7 [.int .i64 (.ofNat 16), .int .i64 (.ofNat 16)] = true := by kernel_rfl
set_option maxRecDepth 1000000 in
theorem nl_16_17 : kresult EK [] 1000000 7 [.int .i64 (.ofNat 16), .int .i64 (.ofNat 17)] = true := by kernel_rfl
set_option maxRecDepth 1000000 in
theorem nl_16_18 : kresult EK [] 1000000 7 [.int .i64 (.ofNat 16), .int .i64 (.ofNat 18)] = true := by kernel_rfl
set_option maxRecDepth 1000000 in
theorem nl_16_19 : kresult EK [] 1000000 7 [.int .i64 (.ofNat 16), .int .i64 (.ofNat 19)] = true := by kernel_rfl
set_option maxRecDepth 1000000 in
theorem nl_16_20 : kresult EK [] 1000000 7 [.int .i64 (.ofNat 16), .int .i64 (.ofNat 20)] = true := by kernel_rfl
set_option maxRecDepth 1000000 in
theorem nl_16_big (m : Nat) : kresult EK [] 1000000 7 [.int .i64 (.ofNat 16), .int .i64 (.ofNat (m + 21))] = true := by kernel_rfl
set_option maxRecDepth 1000000 in
theorem nl_16_neg (m : Nat) : kresult EK [] 1000000 7 [.int .i64 (.ofNat 16), .int .i64 (.negSucc m)] = true := by kernel_rfl
theorem nl_16 : ∀ m : Nat, kresult EK [] 1000000 7 [.int .i64 (.ofNat 16), .int .i64 (.ofNat m)] = true
  | 0 => nl_16_0
  | 1 => nl_16_1
  | 2 => nl_16_2
  | 3 => nl_16_3
  | 4 => nl_16_4
  | 5 => nl_16_5
  | 6 => nl_16_6
  | 7 => nl_16_7
  | 8 => nl_16_8
  | 9 => nl_16_9
  | 10 => nl_16_10
  | 11 => nl_16_11
  | 12 => nl_16_12
  | 13 => nl_16_13
  | 14 => nl_16_14
  | 15 => nl_16_15
  | 16 => nl_16_16
  | 17 => nl_16_17
  | 18 => nl_16_18
  | 19 => nl_16_19
  | 20 => nl_16_20
  | m + 21 => nl_16_big m
theorem nl_all_16 (b : Int) : kresult EK [] 1000000 7 [.int .i64 (.ofNat 16), .int .i64 (b)] = true := by
  cases b with
  | ofNat m => exact nl_16 m
  | negSucc m => exact nl_16_neg m
set_option maxRecDepth 1000000 in
theorem nl_17_0 : kresult EK [] 1000000 7 [.int .i64 (.ofNat 17), .int .i64 (.ofNat 0)] = true := by kernel_rfl
set_option maxRecDepth 1000000 in
theorem nl_17_1 : kresult EK [] 1000000 7 [.int .i64 (.ofNat 17), .int .i64 (.ofNat 1)] = true := by kernel_rfl
set_option maxRecDepth 1000000 in
theorem nl_17_2 : kresult EK [] 1000000 7 [.int .i64 (.ofNat 17), .int .i64 (.ofNat 2)] = true := by kernel_rfl
set_option maxRecDepth 1000000 in
theorem nl_17_3 : kresult EK [] 1000000 7 [.int .i64 (.ofNat 17), .int .i64 (.ofNat 3)] = true := by kernel_rfl
set_option maxRecDepth 1000000 in
theorem nl_17_4 : kresult EK [] 1000000 7 [.int .i64 (.ofNat 17), .int .i64 (.ofNat 4)] = true := by kernel_rfl
set_option maxRecDepth 1000000 in
theorem nl_17_5 : kresult EK [] 1000000 7 [.int .i64 (.ofNat 17), .int .i64 (.ofNat 5)] = true := by kernel_rfl
set_option maxRecDepth 1000000 in
theorem nl_17_6 : kresult EK [] 1000000 7 [.int .i64 (.ofNat 17), .int .i64 (.ofNat 6)] = true := by kernel_rfl
set_option maxRecDepth 1000000 in
theorem nl_17_7 : kresult EK [] 1000000 7 [.int .i64 (.ofNat 17), .int .i64 (.ofNat 7)] = true := by kernel_rfl
set_option maxRecDepth 1000000 in
theorem nl_17_8 : kresult EK [] 1000000 7 [.int .i64 (.ofNat 17), .int .i64 (.ofNat 8)] = true := by kernel_rfl
set_option maxRecDepth 1000000 in
theorem nl_17_9 : kresult EK [] 1000000 7 [.int .i64 (.ofNat 17), .int .i64 (.ofNat 9)] = true := by kernel_rfl
set_option maxRecDepth 1000000 in
theorem nl_17_10 : kresult EK [] 1000000 7 [.int .i64 (.ofNat 17), .int .i64 (.ofNat 10)] = true := by kernel_rfl
set_option maxRecDepth 1000000 in
theorem nl_17_11 : kresult EK [] 1000000 7 [.int .i64 (.ofNat 17), .int .i64 (.ofNat 11)] = true := by kernel_rfl
set_option maxRecDepth 1000000 in
theorem nl_17_12 : kresult EK [] 1000000 7 [.int .i64 (.ofNat 17), .int .i64 (.ofNat 12)] = true := by kernel_rfl
set_option maxRecDepth 1000000 in
theorem nl_17_13 : kresult EK [] 1000000 7 [.int .i64 (.ofNat 17), .int .i64 (.ofNat 13)] = true := by kernel_rfl
set_option maxRecDepth 1000000 in
theorem nl_17_14 : kresult EK [] 1000000 7 [.int .i64 (.ofNat 17), .int .i64 (.ofNat 14)] = true := by kernel_rfl
set_option maxRecDepth 1000000 in
theorem nl_17_15 : kresult EK [] 1000000 7 [.int .i64 (.ofNat 17), .int .i64 (.ofNat 15)] = true := by kernel_rfl
set_option maxRecDepth 1000000 in
theorem nl_17_16 : kresult EK [] 1000000 7 [.int .i64 (.ofNat 17), .int .i64 (.ofNat 16)] = true := by kernel_rfl
set_option maxRecDepth 1000000 in
theorem nl_17_17 : kresult EK [] 1000000 7 [.int .i64 (.ofNat 17), .int .i64 (.ofNat 17)] = true := by kernel_rfl
set_option maxRecDepth 1000000 in
theorem nl_17_18 : kresult EK [] 1000000 7 [.int .i64 (.ofNat 17), .int .i64 (.ofNat 18)] = true := by kernel_rfl
set_option maxRecDepth 1000000 in
theorem nl_17_19 : kresult EK [] 1000000 7 [.int .i64 (.ofNat 17), .int .i64 (.ofNat 19)] = true := by kernel_rfl
set_option maxRecDepth 1000000 in
theorem nl_17_20 : kresult EK [] 1000000 7 [.int .i64 (.ofNat 17), .int .i64 (.ofNat 20)] = true := by kernel_rfl
set_option maxRecDepth 1000000 in
theorem nl_17_big (m : Nat) : kresult EK [] 1000000 7 [.int .i64 (.ofNat 17), .int .i64 (.ofNat (m + 21))] = true := by kernel_rfl
set_option maxRecDepth 1000000 in
theorem nl_17_neg (m : Nat) : kresult EK [] 1000000 7 [.int .i64 (.ofNat 17), .int .i64 (.negSucc m)] = true := by kernel_rfl
theorem nl_17 : ∀ m : Nat, kresult EK [] 1000000 7 [.int .i64 (.ofNat 17), .int .i64 (.ofNat m)] = true
  | 0 => nl_17_0
  | 1 => nl_17_1
  | 2 => nl_17_2
  | 3 => nl_17_3
  | 4 => nl_17_4
  | 5 => nl_17_5
  | 6 => nl_17_6
  | 7 => nl_17_7
  | 8 => nl_17_8
  | 9 => nl_17_9
  | 10 => nl_17_10
  | 11 => nl_17_11
  | 12 => nl_17_12
  | 13 => nl_17_13
  | 14 => nl_17_14
  | 15 => nl_17_15
  | 16 => nl_17_16
  | 17 => nl_17_17
  | 18 => nl_17_18
  | 19 => nl_17_19
  | 20 => nl_17_20
  | m + 21 => nl_17_big m
theorem nl_all_17 (b : Int) : kresult EK [] 1000000 7 [.int .i64 (.ofNat 17), .int .i64 (b)] = true := by
  cases b with
  | ofNat m => exact nl_17 m
  | negSucc m => exact nl_17_neg m
end Go.Proofs.YtknhcgdhfndooaaDoor.GEv
