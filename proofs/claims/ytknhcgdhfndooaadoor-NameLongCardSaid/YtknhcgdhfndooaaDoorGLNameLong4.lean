/- 'NameLong': the evaluator says true: a run for each two numbers. -/
import Derived.Test.YtknhcgdhfndooaaDoorGEvT
namespace Go.Proofs.YtknhcgdhfndooaaDoor.GEv
open Go
open Go.RowKit (Below)
set_option maxRecDepth 1000000 in
theorem nl_12_0 : kresult EK [] 1000000 7 [.int .i64 (.ofNat 12), .int .i64 (.ofNat 0)] = true := by kernel_rfl
set_option maxRecDepth 1000000 in
theorem nl_12_1 : kresult EK [] 1000000 7 [.int .i64 (.ofNat 12), .int .i64 (.ofNat 1)] = true := by kernel_rfl
set_option maxRecDepth 1000000 in
theorem nl_12_2 : kresult EK [] 1000000 7 [.int .i64 (.ofNat 12), .int .i64 (.ofNat 2)] = true := by kernel_rfl
set_option maxRecDepth 1000000 in
theorem nl_12_3 : kresult EK [] 1000000 7 [.int .i64 (.ofNat 12), .int .i64 (.ofNat 3)] = true := by kernel_rfl
set_option maxRecDepth 1000000 in
theorem nl_12_4 : kresult EK [] 1000000 7 [.int .i64 (.ofNat 12), .int .i64 (.ofNat 4)] = true := by kernel_rfl
set_option maxRecDepth 1000000 in
theorem nl_12_5 : kresult EK [] 1000000 7 [.int .i64 (.ofNat 12), .int .i64 (.ofNat 5)] = true := by kernel_rfl
set_option maxRecDepth 1000000 in
theorem nl_12_6 : kresult EK [] 1000000 7 [.int .i64 (.ofNat 12), .int .i64 (.ofNat 6)] = true := by kernel_rfl
set_option maxRecDepth 1000000 in
theorem nl_12_7 : kresult EK [] 1000000 7 [.int .i64 (.ofNat 12), .int .i64 (.ofNat 7)] = true := by kernel_rfl
set_option maxRecDepth 1000000 in
theorem nl_12_8 : kresult EK [] 1000000 7 [.int .i64 (.ofNat 12), .int .i64 (.ofNat 8)] = true := by kernel_rfl
set_option maxRecDepth 1000000 in
theorem nl_12_9 : kresult EK [] 1000000 7 [.int .i64 (.ofNat 12), .int .i64 (.ofNat 9)] = true := by kernel_rfl
set_option maxRecDepth 1000000 in
theorem nl_12_10 : kresult EK [] 1000000 7 [.int .i64 (.ofNat 12), .int .i64 (.ofNat 10)] = true := by kernel_rfl
set_option maxRecDepth 1000000 in
theorem nl_12_11 : kresult EK [] 1000000 7 [.int .i64 (.ofNat 12), .int .i64 (.ofNat 11)] = true := by kernel_rfl
set_option maxRecDepth 1000000 in
theorem nl_12_12 : kresult EK [] 1000000 7 [.int .i64 (.ofNat 12), .int .i64 (.ofNat 12)] = true := by kernel_rfl
set_option maxRecDepth 1000000 in
theorem nl_12_13 : kresult EK [] 1000000 7 [.int .i64 (.ofNat 12), .int .i64 (.ofNat 13)] = true := by kernel_rfl
set_option maxRecDepth 1000000 in
theorem nl_12_14 : kresult EK [] 1000000 7 [.int .i64 (.ofNat 12), .int .i64 (.ofNat 14)] = true := by kernel_rfl
set_option maxRecDepth 1000000 in
theorem nl_12_15 : kresult EK [] 1000000 7 [.int .i64 (.ofNat 12), .int .i64 (.ofNat 15)] = true := by kernel_rfl
set_option maxRecDepth 1000000 in
theorem nl_12_16 : kresult EK [] 1000000 7 [.int .i64 (.ofNat 12), .int .i64 (.ofNat 16)] = true := by kernel_rfl
set_option maxRecDepth 1000000 in
theorem nl_12_17 : kresult EK [] 1000000 7 [.int .i64 (.ofNat 12), .int .i64 (.ofNat 17)] = true := by kernel_rfl
set_option maxRecDepth 1000000 in
theorem nl_12_18 : kresult EK [] 1000000 7 [.int .i64 (.ofNat 12), .int .i64 (.ofNat 18)] = true := by kernel_rfl
set_option maxRecDepth 1000000 in
theorem nl_12_19 : kresult EK [] 1000000 7 [.int .i64 (.ofNat 12), .int .i64 (.ofNat 19)] = true := by kernel_rfl
set_option maxRecDepth 1000000 in
theorem nl_12_20 : kresult EK [] 1000000 7 [.int .i64 (.ofNat 12), .int .i64 (.ofNat 20)] = true := by kernel_rfl
set_option maxRecDepth 1000000 in
theorem nl_12_big (m : Nat) : kresult EK [] 1000000 7 [.int .i64 (.ofNat 12), .int .i64 (.ofNat (m + 21))] = true := by kernel_rfl
set_option maxRecDepth 1000000 in
theorem nl_12_neg (m : Nat) : kresult EK [] 1000000 7 [.int .i64 (.ofNat 12), .int .i64 (.negSucc m)] = true := by kernel_rfl
theorem nl_12 : ∀ m : Nat, kresult EK [] 1000000 7 [.int .i64 (.ofNat 12), .int .i64 (.ofNat m)] = true
  | 0 => nl_12_0
  | 1 => nl_12_1
  | 2 => nl_12_2
  | 3 => nl_12_3
  | 4 => nl_12_4
  | 5 => nl_12_5
  | 6 => nl_12_6
  | 7 => nl_12_7
  | 8 => nl_12_8
  | 9 => nl_12_9
  | 10 => nl_12_10
  | 11 => nl_12_11
  | 12 => nl_12_12
  | 13 => nl_12_13
  | 14 => nl_12_14
  | 15 => nl_12_15
  | 16 => nl_12_16
  | 17 => nl_12_17
  | 18 => nl_12_18
  | 19 => nl_12_19
  | 20 => nl_12_20
  | m + 21 => nl_12_big m
theorem nl_all_12 (b : Int) : kresult EK [] 1000000 7 [.int .i64 (.ofNat 12), .int .i64 (b)] = true := by
  cases b with
  | ofNat m => exact nl_12 m
  | negSucc m => exact nl_12_neg m
set_option maxRecDepth 1000000 in
theorem nl_13_0 : kresult EK [] 1000000 7 [.int .i64 (.ofNat 13), .int .i64 (.ofNat 0)] = true := by kernel_rfl
set_option maxRecDepth 1000000 in
theorem nl_13_1 : kresult EK [] 1000000 7 [.int .i64 (.ofNat 13), .int .i64 (.ofNat 1)] = true := by kernel_rfl
set_option maxRecDepth 1000000 in
theorem nl_13_2 : kresult EK [] 1000000 7 [.int .i64 (.ofNat 13), .int .i64 (.ofNat 2)] = true := by kernel_rfl
set_option maxRecDepth 1000000 in
theorem nl_13_3 : kresult EK [] 1000000 7 [.int .i64 (.ofNat 13), .int .i64 (.ofNat 3)] = true := by kernel_rfl
set_option maxRecDepth 1000000 in
theorem nl_13_4 : kresult EK [] 1000000 7 [.int .i64 (.ofNat 13), .int .i64 (.ofNat 4)] = true := by kernel_rfl
set_option maxRecDepth 1000000 in
theorem nl_13_5 : kresult EK [] 1000000 7 [.int .i64 (.ofNat 13), .int .i64 (.ofNat 5)] = true := by kernel_rfl
set_option maxRecDepth 1000000 in
theorem nl_13_6 : kresult EK [] 1000000 7 [.int .i64 (.ofNat 13), .int .i64 (.ofNat 6)] = true := by kernel_rfl
set_option maxRecDepth 1000000 in
theorem nl_13_7 : kresult EK [] 1000000 7 [.int .i64 (.ofNat 13), .int .i64 (.ofNat 7)] = true := by kernel_rfl
set_option maxRecDepth 1000000 in
theorem nl_13_8 : kresult EK [] 1000000 7 [.int .i64 (.ofNat 13), .int .i64 (.ofNat 8)] = true := by kernel_rfl
set_option maxRecDepth 1000000 in
theorem nl_13_9 : kresult EK [] 1000000 7 [.int .i64 (.ofNat 13), .int .i64 (.ofNat 9)] = true := by kernel_rfl
set_option maxRecDepth 1000000 in
theorem nl_13_10 : kresult EK [] 1000000 7 [.int .i64 (.ofNat 13), .int .i64 (.ofNat 10)] = true := by kernel_rfl
set_option maxRecDepth 1000000 in
theorem nl_13_11 : kresult EK [] 1000000 7 [.int .i64 (.ofNat 13), .int .i64 (.ofNat 11)] = true := by kernel_rfl
set_option maxRecDepth 1000000 in
theorem nl_13_12 : kresult EK [] 1000000 7 [.int .i64 (.ofNat 13), .int .i64 (.ofNat 12)] = true := by kernel_rfl
set_option maxRecDepth 1000000 in
theorem nl_13_13 : kresult EK [] 1000000 7 [.int .i64 (.ofNat 13), .int .i64 (.ofNat 13)] = true := by kernel_rfl
set_option maxRecDepth 1000000 in
theorem nl_13_14 : kresult EK [] 1000000 7 [.int .i64 (.ofNat 13), .int .i64 (.ofNat 14)] = true := by kernel_rfl
set_option maxRecDepth 1000000 in
theorem nl_13_15 : kresult EK [] 1000000 7 [.int .i64 (.ofNat 13), .int .i64 (.ofNat 15)] = true := by kernel_rfl
set_option maxRecDepth 1000000 in
theorem nl_13_16 : kresult EK [] 1000000 7 [.int .i64 (.ofNat 13), .int .i64 (.ofNat 16)] = true := by kernel_rfl
set_option maxRecDepth 1000000 in
theorem nl_13_17 : kresult EK [] 1000000 7 [.int .i64 (.ofNat 13), .int .i64 (.ofNat 17)] = true := by kernel_rfl
set_option maxRecDepth 1000000 in
theorem nl_13_18 : kresult EK [] 1000000 7 [.int .i64 (.ofNat 13), .int .i64 (.ofNat 18)] = true := by kernel_rfl
set_option maxRecDepth 1000000 in
theorem nl_13_19 : kresult EK [] 1000000 7 [.int .i64 (.ofNat 13), .int .i64 (.ofNat 19)] = true := by kernel_rfl
set_option maxRecDepth 1000000 in
theorem nl_13_20 : kresult EK [] 1000000 7 [.int .i64 (.ofNat 13), .int .i64 (.ofNat 20)] = true := by kernel_rfl
set_option maxRecDepth 1000000 in
theorem nl_13_big (m : Nat) : kresult EK [] 1000000 7 [.int .i64 (.ofNat 13), .int .i64 (.ofNat (m + 21))] = true := by kernel_rfl
set_option maxRecDepth 1000000 in
theorem nl_13_neg (m : Nat) : kresult EK [] 1000000 7 [.int .i64 (.ofNat 13), .int .i64 (.negSucc m)] = true := by kernel_rfl
theorem nl_13 : ∀ m : Nat, kresult EK [] 1000000 7 [.int .i64 (.ofNat 13), .int .i64 (.ofNat m)] = true
  | 0 => nl_13_0
  | 1 => nl_13_1
  | 2 => nl_13_2
  | 3 => nl_13_3
  | 4 => nl_13_4
  | 5 => nl_13_5
  | 6 => nl_13_6
  | 7 => nl_13_7
  | 8 => nl_13_8
  | 9 => nl_13_9
  | 10 => nl_13_10
  | 11 => nl_13_11
  | 12 => nl_13_12
  | 13 => nl_13_13
  | 14 => nl_13_14
  | 15 => nl_13_15
  | 16 => nl_13_16
  | 17 => nl_13_17
  | 18 => nl_13_18
  | 19 => nl_13_19
  | 20 => nl_13_20
  | m + 21 => nl_13_big m
theorem nl_all_13 (b : Int) : kresult EK [] 1000000 7 [.int .i64 (.ofNat 13), .int .i64 (b)] = true := by
  cases b with
  | ofNat m => exact nl_13 m
  | negSucc m => exact nl_13_neg m
set_option maxRecDepth 1000000 in
theorem nl_14_0 : kresult EK [] 1000000 7 [.int .i64 (.ofNat 14), .int .i64 (.ofNat 0)] = true := by kernel_rfl
set_option maxRecDepth 1000000 in
theorem nl_14_1 : kresult EK [] 1000000 7 [.int .i64 (.ofNat 14), .int .i64 (.ofNat 1)] = true := by kernel_rfl
set_option maxRecDepth 1000000 in
theorem nl_14_2 : kresult EK [] 1000000 7 [.int .i64 (.ofNat 14), .int .i64 (.ofNat 2)] = true := by kernel_rfl
set_option maxRecDepth 1000000 in
theorem nl_14_3 : kresult EK [] 1000000 7 [.int .i64 (.ofNat 14), .int .i64 (.ofNat 3)] = true := by kernel_rfl
set_option maxRecDepth 1000000 in
theorem nl_14_4 : kresult EK [] 1000000 7 [.int .i64 (.ofNat 14), .int .i64 (.ofNat 4)] = true := by kernel_rfl
set_option maxRecDepth 1000000 in
theorem nl_14_5 : kresult EK [] 1000000 7 [.int .i64 (.ofNat 14), .int .i64 (.ofNat 5)] = true := by kernel_rfl
set_option maxRecDepth 1000000 in
theorem nl_14_6 : kresult EK [] 1000000 7 [.int .i64 (.ofNat 14), .int .i64 (.ofNat 6)] = true := by kernel_rfl
set_option maxRecDepth 1000000 in
theorem nl_14_7 : kresult EK [] 1000000 7 [.int .i64 (.ofNat 14), .int .i64 (.ofNat 7)] = true := by kernel_rfl
set_option maxRecDepth 1000000 in
theorem nl_14_8 : kresult EK [] 1000000 7 [.int .i64 (.ofNat 14), .int .i64 (.ofNat 8)] = true := by kernel_rfl
set_option maxRecDepth 1000000 in
theorem nl_14_9 : kresult EK [] 1000000 7 [.int .i64 (.ofNat 14), .int .i64 (.ofNat 9)] = true := by kernel_rfl
set_option maxRecDepth 1000000 in
theorem nl_14_10 : kresult EK [] 1000000 7 [.int .i64 (.ofNat 14), .int .i64 (.ofNat 10)] = true := by kernel_rfl
set_option maxRecDepth 1000000 in
theorem nl_14_11 : kresult EK [] 1000000 7 [.int .i64 (.ofNat 14), .int .i64 (.ofNat 11)] = true := by kernel_rfl
set_option maxRecDepth 1000000 in
theorem nl_14_12 : kresult EK [] 1000000 7 [.int .i64 (.ofNat 14), .int .i64 (.ofNat 12)] = true := by kernel_rfl
set_option maxRecDepth 1000000 in
theorem nl_14_13 : kresult EK [] 1000000 7 [.int .i64 (.ofNat 14), .int .i64 (.ofNat 13)] = true := by kernel_rfl
set_option maxRecDepth 1000000 in
theorem nl_14_14 : kresult EK [] 1000000 7 [.int .i64 (.ofNat 14), .int .i64 (.ofNat 14)] = true := by kernel_rfl
set_option maxRecDepth 1000000 in
theorem nl_14_15 : kresult EK [] 1000000 7 [.int .i64 (.ofNat 14), .int .i64 (.ofNat 15)] = true := by kernel_rfl
set_option maxRecDepth 1000000 in
theorem nl_14_16 : kresult EK [] 1000000 7 [.int .i64 (.ofNat 14), .int .i64 (.ofNat 16)] = true := by kernel_rfl
set_option maxRecDepth 1000000 in
theorem nl_14_17 : kresult EK [] 1000000 7 [.int .i64 (.ofNat 14), .int .i64 (.ofNat 17)] = true := by kernel_rfl
set_option maxRecDepth 1000000 in
theorem nl_14_18 : kresult EK [] 1000000 7 [.int .i64 (.ofNat 14), .int .i64 (.ofNat 18)] = true := by kernel_rfl
set_option maxRecDepth 1000000 in
theorem nl_14_19 : kresult EK [] 1000000 7 [.int .i64 (.ofNat 14), .int .i64 (.ofNat 19)] = true := by kernel_rfl
set_option maxRecDepth 1000000 in
theorem nl_14_20 : kresult EK [] 1000000 7 [.int .i64 (.ofNat 14), .int .i64 (.ofNat 20)] = true := by kernel_rfl
set_option maxRecDepth 1000000 in
theorem nl_14_big (m : Nat) : kresult EK [] 1000000 7 [.int .i64 (.ofNat 14), .int .i64 (.ofNat (m + 21))] = true := by kernel_rfl
set_option maxRecDepth 1000000 in
theorem nl_14_neg (m : Nat) : kresult EK [] 1000000 7 [.int .i64 (.ofNat 14), .int .i64 (.negSucc m)] = true := by kernel_rfl
theorem nl_14 : ∀ m : Nat, kresult EK [] 1000000 7 [.int .i64 (.ofNat 14), .int .i64 (.ofNat m)] = true
  | 0 => nl_14_0
  | 1 => nl_14_1
  | 2 => nl_14_2
  | 3 => nl_14_3
  | 4 => nl_14_4
  | 5 => nl_14_5
  | 6 => nl_14_6
  | 7 => nl_14_7
  | 8 => nl_14_8
  | 9 => nl_14_9
  | 10 => nl_14_10
  | 11 => nl_14_11
  | 12 => nl_14_12
  | 13 => nl_14_13
  | 14 => nl_14_14
  | 15 => nl_14_15
  | 16 => nl_14_16
  | 17 => nl_14_17
  | 18 => nl_14_18
  | 19 => nl_14_19
  | 20 => nl_14_20
  | m + 21 => nl_14_big m
theorem nl_all_14 (b : Int) : kresult EK [] 1000000 7 [.int .i64 (.ofNat 14), .int .i64 (b)] = true := by
  cases b with
  | ofNat m => exact nl_14 m
  | negSucc m => exact nl_14_neg m
end Go.Proofs.YtknhcgdhfndooaaDoor.GEv
