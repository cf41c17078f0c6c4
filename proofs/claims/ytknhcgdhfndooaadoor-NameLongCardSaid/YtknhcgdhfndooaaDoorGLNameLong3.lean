/- 'NameLong': the evaluator says true: a run for each two numbers. -/
import Derived.Test.YtknhcgdhfndooaaDoorGEvT
namespace Go.Proofs.YtknhcgdhfndooaaDoor.GEv
open Go
open Go.RowKit (Below)
set_option maxRecDepth 1000000 in
theorem nl_9_0 : kresult EK [] 1000000 7 [.int .i64 (.ofNat 9), .int .i64 (.ofNat 0)] = true := by kernel_rfl
set_option maxRecDepth 1000000 in
theorem nl_9_1 : kresult EK [] 1000000 7 [.int .i64 (.ofNat 9), .int .i64 (.ofNat 1)] = true := by kernel_rfl
set_option maxRecDepth 1000000 in
theorem nl_9_2 : kresult EK [] 1000000 7 [.int .i64 (.ofNat 9), .int .i64 (.ofNat 2)] = true := by kernel_rfl
set_option maxRecDepth 1000000 in
theorem nl_9_3 : kresult EK [] 1000000 7 [.int .i64 (.ofNat 9), .int .i64 (.ofNat 3)] = true := by kernel_rfl
set_option maxRecDepth 1000000 in
theorem nl_9_4 : kresult EK [] 1000000 7 [.int .i64 (.ofNat 9), .int .i64 (.ofNat 4)] = true := by kernel_rfl
set_option maxRecDepth 1000000 in
theorem nl_9_5 : kresult EK [] 1000000 7 [.int .i64 (.ofNat 9), .int .i64 (.ofNat 5)] = true := by kernel_rfl
set_option maxRecDepth 1000000 in
theorem nl_9_6 : kresult EK [] 1000000 7 [.int .i64 (.ofNat 9), .int .i64 (.ofNat 6)] = true := by kernel_rfl
set_option maxRecDepth 1000000 in
theorem nl_9_7 : kresult EK [] 1000000 7 [.int .i64 (.ofNat 9), .int .i64 (.ofNat 7)] = true := by kernel_rfl
set_option maxRecDepth 1000000 in
theorem nl_9_8 : kresult EK [] 1000000 7 [.int .i64 (.ofNat 9), .int .i64 (.ofNat 8)] = true := by kernel_rfl
set_option maxRecDepth 1000000 in
theorem nl_9_9 : kresult EK [] 1000000 7 [.int .i64 (.ofNat 9), .int .i64 (.ofNat 9)] = true := by kernel_rfl
set_option maxRecDepth 1000000 in
theorem nl_9_10 : kresult EK [] 1000000 7 [.int .i64 (.ofNat 9), .int .i64 (.ofNat 10)] = true := by kernel_rfl
set_option maxRecDepth 1000000 in
theorem nl_9_11 : kresult EK [] 1000000 7 [.int .i64 (.ofNat 9), .int .i64 (.ofNat 11)] = true := by kernel_rfl
set_option maxRecDepth 1000000 in
theorem nl_9_12 : kresult EK [] 1000000 7 [.int .i64 (.ofNat 9), .int .i64 (.ofNat 12)] = true := by kernel_rfl
set_option maxRecDepth 1000000 in
theorem nl_9_13 : kresult EK [] 1000000 7 [.int .i64 (.ofNat 9), .int .i64 (.ofNat 13)] = true := by kernel_rfl
set_option maxRecDepth 1000000 in
theorem nl_9_14 : kresult EK [] 1000000 7 [.int .i64 (.ofNat 9), .int .i64 (.ofNat 14)] = true := by kernel_rfl
set_option maxRecDepth 1000000 in
theorem nl_9_15 : kresult EK [] 1000000 7 [.int .i64 (.ofNat 9), .int .i64 (.ofNat 15)] = true := by kernel_rfl
set_option maxRecDepth 1000000 in
theorem nl_9_16 : kresult EK [] 1000000 7 [.int .i64 (.ofNat 9), .int .i64 (.ofNat 16)] = true := by kernel_rfl
set_option maxRecDepth 1000000 in
theorem nl_9_17 : kresult EK [] 1000000 7 [.int .i64 (.ofNat 9), .int .i64 (.ofNat 17)] = true := by kernel_rfl
set_option maxRecDepth 1000000 in
theorem nl_9_18 : kresult EK [] 1000000 7 [.int .i64 (.ofNat 9), .int .i64 (.ofNat 18)] = true := by kernel_rfl
set_option maxRecDepth 1000000 in
theorem nl_9_19 : kresult EK [] 1000000 7 [.int .i64 (.ofNat 9), .int .i64 (.ofNat 19)] = true := by kernel_rfl
set_option maxRecDepth 1000000 in
theorem nl_9_20 : kresult EK [] 1000000 7 [.int .i64 (.ofNat 9), .int .i64 (.ofNat 20)] = true := by kernel_rfl
set_option maxRecDepth 1000000 in
theorem nl_9_big (m : Nat) : kresult EK [] 1000000 7 [.int .i64 (.ofNat 9), .int .i64 (.ofNat (m + 21))] = true := by kernel_rfl
set_option maxRecDepth 1000000 in
theorem nl_9_neg (m : Nat) : kresult EK [] 1000000 7 [.int .i64 (.ofNat 9), .int .i64 (.negSucc m)] = true := by kernel_rfl
theorem nl_9 : ∀ m : Nat, kresult EK [] 1000000 7 [.int .i64 (.ofNat 9), .int .i64 (.ofNat m)] = true
  | 0 => nl_9_0
  | 1 => nl_9_1
  | 2 => nl_9_2
  | 3 => nl_9_3
  | 4 => nl_9_4
  | 5 => nl_9_5
  | 6 => nl_9_6
  | 7 => nl_9_7
  | 8 => nl_9_8
  | 9 => nl_9_9
  | 10 => nl_9_10
  | 11 => nl_9_11
  | 12 => nl_9_12
  | 13 => nl_9_13
  | 14 => nl_9_14
  | 15 => nl_9_15
  | 16 => nl_9_16
  | 17 => nl_9_17
  | 18 => nl_9_18
  | 19 => nl_9_19
  | 20 => nl_9_20
  | m + 21 => nl_9_big m
theorem nl_all_9 (b : Int) : kresult EK [] 1000000 7 [.int .i64 (.ofNat 9), .int .i64 (b)] = true := by
  cases b with
  | ofNat m => exact nl_9 m
  | negSucc m => exact nl_9_neg m
set_option maxRecDepth 1000000 in
theorem nl_10_0 : kresult EK [] 1000000 7 [.int .i64 (.ofNat 10), .int .i64 (.ofNat 0)] = true := by kernel_rfl
set_option maxRecDepth 1000000 in
theorem nl_10_1 : kresult EK [] 1000000 7 [.int .i64 (.ofNat 10), .int .i64 (.ofNat 1)] = true := by kernel_rfl
set_option maxRecDepth 1000000 in
theorem nl_10_2 : kresult EK [] 1000000 7 [.int .i64 (.ofNat 10), .int .i64 (.ofNat 2)] = true := by kernel_rfl
set_option maxRecDepth 1000000 in
theorem nl_10_3 : kresult EK [] 1000000 7 [.int .i64 (.ofNat 10), .int .i64 (.ofNat 3)] = true := by kernel_rfl
set_option maxRecDepth 1000000 in
theorem nl_10_4 : kresult EK [] 1000000 7 [.int .i64 (.ofNat 10), .int .i64 (.ofNat 4)] = true := by kernel_rfl
set_option maxRecDepth 1000000 in
theorem nl_10_5 : kresult EK [] 1000000 7 [.int .i64 (.ofNat 10), .int .i64 (.ofNat 5)] = true := by kernel_rfl
set_option maxRecDepth 1000000 in
theorem nl_10_6 : kresult EK [] 1000000 7 [.int .i64 (.ofNat 10), .int .i64 (.ofNat 6)] = true := by kernel_rfl
set_option maxRecDepth 1000000 in
theorem nl_10_7 : kresult EK [] 1000000 7 [.int .i64 (.ofNat 10), .int .i64 (.ofNat 7)] = true := by kernel_rfl
set_option maxRecDepth 1000000 in
theorem nl_10_8 : kresult EK [] 1000000 7 [.int .i64 (.ofNat 10), .int .i64 (.ofNat 8)] = true := by kernel_rfl
set_option maxRecDepth 1000000 in
theorem nl_10_9 : kresult EK [] 1000000 7 [.int .i64 (.ofNat 10), .int .i64 (.ofNat 9)] = true := by kernel_rfl
set_option maxRecDepth 1000000 in
theorem nl_10_10 : kresult EK [] 1000000 7 [.int .i64 (.ofNat 10), .int .i64 (.ofNat 10)] = true := by kernel_rfl
set_option maxRecDepth 1000000 in
theorem nl_10_11 : kresult EK [] 1000000 7 [.int .i64 (.ofNat 10), .int .i64 (.ofNat 11)] = true := by kernel_rfl
set_option maxRecDepth 1000000 in
theorem nl_10_12 : kresult EK [] 1000000 7 [.int .i64 (.ofNat 10), .int .i64 (.ofNat 12)] = true := by kernel_rfl
set_option maxRecDepth 1000000 in
theorem nl_10_13 : kresult EK [] 1000000 7 [.int .i64 (.ofNat 10), .int .i64 (.ofNat 13)] = true := by kernel_rfl
set_option maxRecDepth 1000000 in
theorem nl_10_14 : kresult EK [] 1000000 7 [.int .i64 (.ofNat 10), .int .i64 (.ofNat 14)] = true := by kernel_rfl
set_option maxRecDepth 1000000 in
theorem nl_10_15 : kresult EK [] 1000000 7 [.int .i64 (.ofNat 10), .int .i64 (.ofNat 15)] = true := by kernel_rfl
set_option maxRecDepth 1000000 in
theorem nl_10_16 : kresult EK [] 1000000 7 [.int .i64 (.ofNat 10), .int .i64 (.ofNat 16)] = true := by kernel_rfl
set_option maxRecDepth 1000000 in
theorem nl_10_17 : kresult EK [] 1000000 7 [.int .i64 (.ofNat 10), .int .i64 (.ofNat 17)] = true := by kernel_rfl
set_option maxRecDepth 1000000 in
theorem nl_10_18 : kresult EK [] 1000000 7 [.int .i64 (.ofNat 10), .int .i64 (.ofNat 18)] = true := by kernel_rfl
set_option maxRecDepth 1000000 in
theorem nl_10_19 : kresult EK [] 1000000 7 [.int .i64 (.ofNat 10), .int .i64 (.ofNat 19)] = true := by kernel_rfl
set_option maxRecDepth 1000000 in
theorem nl_10_20 : kresult EK [] 1000000 7 [.int .i64 (.ofNat 10), .int .i64 (.ofNat 20)] = true := by kernel_rfl
set_option maxRecDepth 1000000 in
theorem nl_10_big (m : Nat) : kresult EK [] 1000000 7 [.int .i64 (.ofNat 10), .int .i64 (.ofNat (m + 21))] = true := by kernel_rfl
set_option maxRecDepth 1000000 in
theorem nl_10_neg (m : Nat) : kresult EK [] 1000000 7 [.int .i64 (.ofNat 10), .int .i64 (.negSucc m)] = true := by kernel_rfl
theorem nl_10 : ∀ m : Nat, kresult EK [] 1000000 7 [.int .i64 (.ofNat 10), .int .i64 (.ofNat m)] = true
  | 0 => nl_10_0
  | 1 => nl_10_1
  | 2 => nl_10_2
  | 3 => nl_10_3
  | 4 => nl_10_4
  | 5 => nl_10_5
  | 6 => nl_10_6
  | 7 => nl_10_7
  | 8 => nl_10_8
  | 9 => nl_10_9
  | 10 => nl_10_10
  | 11 => nl_10_11
  | 12 => nl_10_12
  | 13 => nl_10_13
  | 14 => nl_10_14
  | 15 => nl_10_15
  | 16 => nl_10_16
  | 17 => nl_10_17
  | 18 => nl_10_18
  | 19 => nl_10_19
  | 20 => nl_10_20
  | m + 21 => nl_10_big m
theorem nl_all_10 (b : Int) : kresult EK [] 1000000 7 [.int .i64 (.ofNat 10), .int .i64 (b)] = true := by
  cases b with
  | ofNat m => exact nl_10 m
  | negSucc m => exact nl_10_neg m
set_option maxRecDepth 1000000 in
theorem nl_11_0 : kresult EK [] 1000000 7 [.int .i64 (.ofNat 11), .int .i64 (.ofNat 0)] = true := by kernel_rfl
set_option maxRecDepth 1000000 in
theorem nl_11_1 : kresult EK [] 1000000 7 [.int .i64 (.ofNat 11), .int .i64 (.ofNat 1)] = true := by kernel_rfl
set_option maxRecDepth 1000000 in
theorem nl_11_2 : kresult EK [] 1000000 7 [.int .i64 (.ofNat 11), .int .i64 (.ofNat 2)] = true := by kernel_rfl
set_option maxRecDepth 1000000 in
theorem nl_11_3 : kresult EK [] 1000000 7 [.int .i64 (.ofNat 11), .int .i64 (.ofNat 3)] = true := by kernel_rfl
set_option maxRecDepth 1000000 in
theorem nl_11_4 : kresult EK [] 1000000 7 [.int .i64 (.ofNat 11), .int .i64 (.ofNat 4)] = true := by kernel_rfl
set_option maxRecDepth 1000000 in
theorem nl_11_5 : kresult EK [] 1000000 7 [.int .i64 (.ofNat 11), .int .i64 (.ofNat 5)] = true := by kernel_rfl
set_option maxRecDepth 1000000 in
theorem nl_11_6 : kresult EK [] 1000000 7 [.int .i64 (.ofNat 11), .int .i64 (.ofNat 6)] = true := by kernel_rfl
set_option maxRecDepth 1000000 in
theorem nl_11_7 : kresult EK [] 1000000 7 [.int .i64 (.ofNat 11), .int .i64 (.ofNat 7)] = true := by kernel_rfl
set_option maxRecDepth 1000000 in
theorem nl_11_8 : kresult EK [] 1000000 7 [.int .i64 (.ofNat 11), .int .i64 (.ofNat 8)] = true := by kernel_rfl
set_option maxRecDepth 1000000 in
theorem nl_11_9 : kresult EK [] 1000000 7 [.int .i64 (.ofNat 11), .int .i64 (.ofNat 9)] = true := by kernel_rfl
set_option maxRecDepth 1000000 in
theorem nl_11_10 : kresult EK [] 1000000 7 [.int .i64 (.ofNat 11), .int .i64 (.ofNat 10)] = true := by kernel_rfl
set_option maxRecDepth 1000000 in
theorem nl_11_11 : kresult EK [] 1000000 7 [.int .i64 (.ofNat 11), .int .i64 (.ofNat 11)] = true := by kernel_rfl
set_option maxRecDepth 1000000 in
theorem nl_11_12 : kresult EK [] 1000000 7 [.int .i64 (.ofNat 11), .int .i64 (.ofNat 12)] = true := by kernel_rfl
set_option maxRecDepth 1000000 in
theorem nl_11_13 : kresult EK [] 1000000 7 [.int .i64 (.ofNat 11), .int .i64 (.ofNat 13)] = true := by kernel_rfl
set_option maxRecDepth 1000000 in
theorem nl_11_14 : kresult EK [] 1000000 7 [.int .i64 (.ofNat 11), .int .i64 (.ofNat 14)] = true := by kernel_rfl
set_option maxRecDepth 1000000 in
theorem nl_11_15 : kresult EK [] 1000000 7 [.int .i64 (.ofNat 11), .int .i64 (.ofNat 15)] = true := by kernel_rfl
set_option maxRecDepth 1000000 in
theorem nl_11_16 : kresult EK [] 1000000 7 [.int .i64 (.ofNat 11), .int .i64 (.ofNat 16)] = true := by kernel_rfl
set_option maxRecDepth 1000000 in
theorem nl_11_17 : kresult EK [] 1000000 7 [.int .i64 (.ofNat 11), .int .i64 (.ofNat 17)] = true := by kernel_rfl
set_option maxRecDepth 1000000 in
theorem nl_11_18 : kresult EK [] 1000000 7 [.int .i64 (.ofNat 11), .int .i64 (.ofNat 18)] = true := by kernel_rfl
set_option maxRecDepth 1000000 in
theorem nl_11_19 : kresult EK [] 1000000 7 [.int .i64 (.ofNat 11), .int .i64 (.ofNat 19)] = true := by kernel_rfl
set_option maxRecDepth 1000000 in
theorem nl_11_20 : kresult EK [] 1000000 7 [.int .i64 (.ofNat 11), .int .i64 (.ofNat 20)] = true := by kernel_rfl
set_option maxRecDepth 1000000 in
theorem nl_11_big (m : Nat) : kresult EK [] 1000000 7 [.int .i64 (.ofNat 11), .int .i64 (.ofNat (m + 21))] = true := by kernel_rfl
set_option maxRecDepth 1000000 in
theorem nl_11_neg (m : Nat) : kresult EK [] 1000000 7 [.int .i64 (.ofNat 11), .int .i64 (.negSucc m)] = true := by kernel_rfl
theorem nl_11 : ∀ m : Nat, kresult EK [] 1000000 7 [.int .i64 (.ofNat 11), .int .i64 (.ofNat m)] = true
  | 0 => nl_11_0
  | 1 => nl_11_1
  | 2 => nl_11_2
  | 3 => nl_11_3
  | 4 => nl_11_4
  | 5 => nl_11_5
  | 6 => nl_11_6
  | 7 => nl_11_7
  | 8 => nl_11_8
  | 9 => nl_11_9
  | 10 => nl_11_10
  | 11 => nl_11_11
  | 12 => nl_11_12
  | 13 => nl_11_13
  | 14 => nl_11_14
  | 15 => nl_11_15
  | 16 => nl_11_16
  | 17 => nl_11_17
  | 18 => nl_11_18
  | 19 => nl_11_19
  | 20 => nl_11_20
  | m + 21 => nl_11_big m
theorem nl_all_11 (b : Int) : kresult EK [] 1000000 7 [.int .i64 (.ofNat 11), .int .i64 (b)] = true := by
  cases b with
  | ofNat m => exact nl_11 m
  | negSucc m => exact nl_11_neg m
end Go.Proofs.YtknhcgdhfndooaaDoor.GEv
