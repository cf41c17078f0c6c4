/- 'NameLong': the evaluator says true: a run for each two numbers. -/
import Derived.Test.YtknhcgdhfndooaaDoorGEvT
namespace Go.Proofs.YtknhcgdhfndooaaDoor.GEv
open Go
open Go.RowKit (Below)
set_option maxRecDepth 1000000 in
theorem nl_3_0 : kresult EK [] 1000000 7 [.int .i64 (.ofNat 3), .int .i64 (.ofNat 0)] = true := by kernel_rfl
set_option maxRecDepth 1000000 in
theorem nl_3_1 : kresult EK [] 1000000 7 [.int .i64 (.ofNat 3), .int .i64 (.ofNat 1)] = true := by kernel_rfl
set_option maxRecDepth 1000000 in
theorem nl_3_2 : kresult EK [] 1000000 7 [.int .i64 (.ofNat 3), .int .i64 (.ofNat 2)] = true := by kernel_rfl
set_option maxRecDepth 1000000 in
theorem nl_3_3 : kresult EK [] 1000000 7 [.int .i64 (.ofNat 3), .int .i64 (.ofNat 3)] = true := by kernel_rfl
set_option maxRecDepth 1000000 in
theorem nl_3_4 : kresult EK [] 1000000 7 [.int .i64 (.ofNat 3), .int .i64 (.ofNat 4)] = true := by kernel_rfl
set_option maxRecDepth 1000000 in
theorem nl_3_5 : kresult EK [] 1000000 7 [.int .i64 (.ofNat 3), .int .i64 (.ofNat 5)] = true := by kernel_rfl
set_option maxRecDepth 1000000 in
theorem nl_3_6 : kresult EK [] 1000000 7 [.int .i64 (.ofNat 3), .int .i64 (.ofNat 6)] = true := by kernel_rfl
set_option maxRecDepth 1000000 in
theorem nl_3_7 : kresult EK [] 1000000 7 [.int .i64 (.ofNat 3), .int .i64 (.ofNat 7)] = true := by kernel_rfl
set_option maxRecDepth 1000000 in
theorem nl_3_8 : kresult EK [] 1000000 7 [.int .i64 (.ofNat 3), .int .i64 (.ofNat 8)] = true := by kernel_rfl
set_option maxRecDepth 1000000 in
theorem nl_3_9 : kresult EK [] 1000000 7 [.int .i64 (.ofNat 3), .int .i64 (.ofNat 9)] = true := by kernel_rfl
set_option maxRecDepth 1000000 in
theorem nl_3_10 : kresult EK [] 1000000 7 [.int .i64 (.ofNat 3), .int .i64 (.ofNat 10)] = true := by kernel_rfl
set_option maxRecDepth 1000000 in
theorem nl_3_11 : kresult EK [] 1000000 7 [.int .i64 (.ofNat 3), .int .i64 (.ofNat 11)] = true := by kernel_rfl
set_option maxRecDepth 1000000 in
theorem nl_3_12 : kresult EK [] 1000000 7 [.int .i64 (.ofNat 3), .int .i64 (.ofNat 12)] = true := by kernel_rfl
set_option maxRecDepth 1000000 in
theorem nl_3_13 : kresult EK [] 1000000 7 [.int .i64 (.ofNat 3), .int .i64 (.ofNat 13)] = true := by kernel_rfl
set_option maxRecDepth 1000000 in
theorem nl_3_14 : kresult EK [] 1000000 7 [.int .i64 (.ofNat 3), .int .i64 (.ofNat 14)] = true := by kernel_rfl
set_option maxRecDepth 1000000 in
theorem nl_3_15 : kresult EK [] 1000000 7 [.int .i64 (.ofNat 3), .int .i64 (.ofNat 15)] = true := by kernel_rfl
set_option maxRecDepth 1000000 in
theorem nl_3_16 : kresult EK [] 1000000 7 [.int .i64 (.ofNat 3), .int .i64 (.ofNat 16)] = true := by kernel_rfl
set_option maxRecDepth 1000000 in
theorem nl_3_17 : kresult EK [] 1000000 7 [.int .i64 (.ofNat 3), .int .i64 (.ofNat 17)] = true := by kernel_rfl
set_option maxRecDepth 1000000 in
theorem nl_3_18 : kresult EK [] 1000000 7 [.int .i64 (.ofNat 3), .int .i64 (.ofNat 18)] = true := by kernel_rfl
set_option maxRecDepth 1000000 in
theorem nl_3_19 : kresult EK [] 1000000 7 [.int .i64 (.ofNat 3), .int .i64 (.ofNat 19)] = true := by kernel_rfl
set_option maxRecDepth 1000000 in
theorem nl_3_20 : kresult EK [] 1000000 7 [.int .i64 (.ofNat 3), .int .i64 (.ofNat 20)] = true := by kernel_rfl
set_option maxRecDepth 1000000 in
theorem nl_3_big (m : Nat) : kresult EK [] 1000000 7 [.int .i64 (.ofNat 3), .int .i64 (.ofNat (m + 21))] = true := by kernel_rfl
set_option maxRecDepth 1000000 in
theorem nl_3_neg (m : Nat) : kresult EK [] 1000000 7 [.int .i64 (.ofNat 3), .int .i64 (.negSucc m)] = true := by kernel_rfl
theorem nl_3 : ∀ m : Nat, kresult EK [] 1000000 7 [.int .i64 (.ofNat 3), .int .i64 (.ofNat m)] = true
  | 0 => nl_3_0
  | 1 => nl_3_1
  | 2 => nl_3_2
  | 3 => nl_3_3
  | 4 => nl_3_4
  | 5 => nl_3_5
  | 6 => nl_3_6
  | 7 => nl_3_7
  | 8 => nl_3_8
  | 9 => nl_3_9
  | 10 => nl_3_10
  | 11 => nl_3_11
  | 12 => nl_3_12
  | 13 => nl_3_13
  | 14 => nl_3_14
  | 15 => nl_3_15
  | 16 => nl_3_16
  | 17 => nl_3_17
  | 18 => nl_3_18
  | 19 => nl_3_19
  | 20 => nl_3_20
  | m + 21 => nl_3_big m
theorem nl_all_3 (b : Int) : kresult EK [] 1000000 7 [.int .i64 (.ofNat 3), .int .i64 (b)] = true := by
  cases b with
  | ofNat m => exact nl_3 m
  | negSucc m => exact nl_3_neg m
set_option maxRecDepth 1000000 in
theorem nl_4_0 : kresult EK [] 1000000 7 [.int .i64 (.ofNat 4), .int .i64 (.ofNat 0)] = true := by kernel_rfl
set_option maxRecDepth 1000000 in
theorem nl_4_1 : kresult EK [] 1000000 7 [.int .i64 (.ofNat 4), .int .i64 (.ofNat 1)] = true := by kernel_rfl
set_option maxRecDepth 1000000 in
theorem nl_4_2 : kresult EK [] 1000000 7 [.int .i64 (.ofNat 4), .int .i64 (.ofNat 2)] = true := by kernel_rfl
set_option maxRecDepth 1000000 in
theorem nl_4_3 : kresult EK [] 1000000 7 [.int .i64 (.ofNat 4), .int .i64 (.ofNat 3)] = true := by kernel_rfl
set_option maxRecDepth 1000000 in
theorem nl_4_4 : kresult EK [] 1000000 7 [.int .i64 (.ofNat 4), .int .i64 (.ofNat 4)] = true := by kernel_rfl
set_option maxRecDepth 1000000 in
theorem nl_4_5 : kresult EK [] 1000000 7 [.int .i64 (.ofNat 4), .int .i64 (.ofNat 5)] = true := by kernel_rfl
set_option maxRecDepth 1000000 in
theorem nl_4_6 : kresult EK [] 1000000 7 [.int .i64 (.ofNat 4), .int .i64 (.ofNat 6)] = true := by kernel_rfl
set_option maxRecDepth 1000000 in
theorem nl_4_7 : kresult EK [] 1000000 7 [.int .i64 (.ofNat 4), .int .i64 (.ofNat 7)] = true := by kernel_rfl
set_option maxRecDepth 1000000 in
theorem nl_4_8 : kresult EK [] 1000000 7 [.int .i64 (.ofNat 4), .int .i64 (.ofNat 8)] = true := by kernel_rfl
set_option maxRecDepth 1000000 in
theorem nl_4_9 : kresult EK [] 1000000 7 [.int .i64 (.ofNat 4), .int .i64 (.ofNat 9)] = true := by kernel_rfl
set_option maxRecDepth 1000000 in
theorem nl_4_10 : kresult EK [] 1000000 7 [.int .i64 (.ofNat 4), .int .i64 (.ofNat 10)] = true := by kernel_rfl
set_option maxRecDepth 1000000 in
theorem nl_4_11 : kresult EK [] 1000000 7 [.int .i64 (.ofNat 4), .int .i64 (.ofNat 11)] = true := by kernel_rfl
set_option maxRecDepth 1000000 in
theorem nl_4_12 : kresult EK [] 1000000 7 [.int .i64 (.ofNat 4), .int .i64 (.ofNat 12)] = true := by kernel_rfl
set_option maxRecDepth 1000000 in
theorem nl_4_13 : kresult EK [] 1000000 7 [.int .i64 (.ofNat 4), .int .i64 (.ofNat 13)] = true := by kernel_rfl
set_option maxRecDepth 1000000 in
theorem nl_4_14 : kresult EK [] 1000000 7 [.int .i64 (.ofNat 4), .int .i64 (.ofNat 14)] = true := by kernel_rfl
set_option maxRecDepth 1000000 in
theorem nl_4_15 : kresult EK [] 1000000 7 [.int .i64 (.ofNat 4), .int .i64 (.ofNat 15)] = true := by kernel_rfl
set_option maxRecDepth 1000000 in
theorem nl_4_16 : kresult EK [] 1000000 7 [.int .i64 (.ofNat 4), .int .i64 (.ofNat 16)] = true := by kernel_rfl
set_option maxRecDepth 1000000 in
theorem nl_4_17 : kresult EK [] 1000000 7 [.int .i64 (.ofNat 4), .int .i64 (.ofNat 17)] = true := by kernel_rfl
set_option maxRecDepth 1000000 in
theorem nl_4_18 : kresult EK [] 1000000 7 [.int .i64 (.ofNat 4), .int .i64 (.ofNat 18)] = true := by kernel_rfl
set_option maxRecDepth 1000000 in
theorem nl_4_19 : kresult EK [] 1000000 7 [.int .i64 (.ofNat 4), .int .i64 (.ofNat 19)] = true := by kernel_rfl
set_option maxRecDepth 1000000 in
theorem nl_4_20 : kresult EK [] 1000000 7 [.int .i64 (.ofNat 4), .int .i64 (.ofNat 20)] = true := by kernel_rfl
set_option maxRecDepth 1000000 in
theorem nl_4_big (m : Nat) : kresult EK [] 1000000 7 [.int .i64 (.ofNat 4), .int .i64 (.ofNat (m + 21))] = true := by kernel_rfl
set_option maxRecDepth 1000000 in
theorem nl_4_neg (m : Nat) : kresult EK [] 1000000 7 [.int .i64 (.ofNat 4), .int .i64 (.negSucc m)] = true := by kernel_rfl
theorem nl_4 : ∀ m : Nat, kresult EK [] 1000000 7 [.int .i64 (.ofNat 4), .int .i64 (.ofNat m)] = true
  | 0 => nl_4_0
  | 1 => nl_4_1
  | 2 => nl_4_2
  | 3 => nl_4_3
  | 4 => nl_4_4
  | 5 => nl_4_5
  | 6 => nl_4_6
  | 7 => nl_4_7
  | 8 => nl_4_8
  | 9 => nl_4_9
  | 10 => nl_4_10
  | 11 => nl_4_11
  | 12 => nl_4_12
  | 13 => nl_4_13
  | 14 => nl_4_14
  | 15 => nl_4_15
  | 16 => nl_4_16
  | 17 => nl_4_17
  | 18 => nl_4_18
  | 19 => nl_4_19
  | 20 => nl_4_20
  | m + 21 => nl_4_big m
theorem nl_all_4 (b : Int) : kresult EK [] 1000000 7 [.int .i64 (.ofNat 4), .int .i64 (b)] = true := by
  cases b with
  | ofNat m => exact nl_4 m
  | negSucc m => exact nl_4_neg m
set_option maxRecDepth 1000000 in
theorem nl_5_0 : kresult EK [] 1000000 7 [.int .i64 (.ofNat 5), .int .i64 (.ofNat 0)] = true := by kernel_rfl
set_option maxRecDepth 1000000 in
theorem nl_5_1 : kresult EK [] 1000000 7 [.int .i64 (.ofNat 5), .int .i64 (.ofNat 1)] = true := by kernel_rfl
set_option maxRecDepth 1000000 in
theorem nl_5_2 : kresult EK [] 1000000 7 [.int .i64 (.ofNat 5), .int .i64 (.ofNat 2)] = true := by kernel_rfl
set_option maxRecDepth 1000000 in
theorem nl_5_3 : kresult EK [] 1000000 7 [.int .i64 (.ofNat 5), .int .i64 (.ofNat 3)] = true := by kernel_rfl
set_option maxRecDepth 1000000 in
theorem nl_5_4 : kresult EK [] 1000000 7 [.int .i64 (.ofNat 5), .int .i64 (.ofNat 4)] = true := by kernel_rfl
set_option maxRecDepth 1000000 in
theorem nl_5_5 : kresult EK [] 1000000 7 [.int .i64 (.ofNat 5), .int .i64 (.ofNat 5)] = true := by kernel_rfl
set_option maxRecDepth 1000000 in
theorem nl_5_6 : kresult EK [] 1000000 7 [.int .i64 (.ofNat 5), .int .i64 (.ofNat 6)] = true := by kernel_rfl
set_option maxRecDepth 1000000 in
theorem nl_5_7 : kresult EK [] 1000000 7 [.int .i64 (.ofNat 5), .int .i64 (.ofNat 7)] = true := by kernel_rfl
set_option maxRecDepth 1000000 in
theorem nl_5_8 : kresult EK [] 1000000 7 [.int .i64 (.ofNat 5), .int .i64 (.ofNat 8)] = true := by kernel_rfl
set_option maxRecDepth 1000000 in
theorem nl_5_9 : kresult EK [] 1000000 7 [.int .i64 (.ofNat 5), .int .i64 (.ofNat 9)] = true := by kernel_rfl
set_option maxRecDepth 1000000 in
theorem nl_5_10 : kresult EK [] 1000000 7 [.int .i64 (.ofNat 5), .int .i64 (.ofNat 10)] = true := by kernel_rfl
set_option maxRecDepth 1000000 in
theorem nl_5_11 : kresult EK [] 1000000 7 [.int .i64 (.ofNat 5), .int .i64 (.ofNat 11)] = true := by kernel_rfl
set_option maxRecDepth 1000000 in
theorem nl_5_12 : kresult EK [] 1000000 7 [.int .i64 (.ofNat 5), .int .i64 (.ofNat 12)] = true := by kernel_rfl
set_option maxRecDepth 1000000 in
theorem nl_5_13 : kresult EK [] 1000000 7 [.int .i64 (.ofNat 5), .int .i64 (.ofNat 13)] = true := by kernel_rfl
set_option maxRecDepth 1000000 in
theorem nl_5_14 : kresult EK [] 1000000 7 [.int .i64 (.ofNat 5), .int .i64 (.ofNat 14)] = true := by kernel_rfl
set_option maxRecDepth 1000000 in
theorem nl_5_15 : kresult EK [] 1000000 7 [.int .i64 (.ofNat 5), .int .i64 (.ofNat 15)] = true := by kernel_rfl
set_option maxRecDepth 1000000 in
theorem nl_5_16 : kresult EK [] 1000000 7 [.int .i64 (.ofNat 5), .int .i64 (.ofNat 16)] = true := by kernel_rfl
set_option maxRecDepth 1000000 in
theorem nl_5_17 : kresult EK [] 1000000 7 [.int .i64 (.ofNat 5), .int .i64 (.ofNat 17)] = true := by kernel_rfl
set_option maxRecDepth 1000000 in
theorem nl_5_18 : kresult EK [] 1000000 7 [.int .i64 (.ofNat 5), .int .i64 (.ofNat 18)] = true := by kernel_rfl
set_option maxRecDepth 1000000 in
theorem nl_5_19 : kresult EK [] 1000000 7 [.int .i64 (.ofNat 5), .int .i64 (.ofNat 19)] = true := by kernel_rfl
set_option maxRecDepth 1000000 in
theorem nl_5_20 : kresult EK [] 1000000 7 [.int .i64 (.ofNat 5), .int .i64 (.ofNat 20)] = true := by kernel_rfl
set_option maxRecDepth 1000000 in
theorem nl_5_big (m : Nat) : kresult EK [] 1000000 7 [.int .i64 (.ofNat 5), .int .i64 (.ofNat (m + 21))] = true := by kernel_rfl
set_option maxRecDepth 1000000 in
theorem nl_5_neg (m : Nat) : kresult EK [] 1000000 7 [.int .i64 (.ofNat 5), .int .i64 (.negSucc m)] = true := by kernel_rfl
theorem nl_5 : ∀ m : Nat, kresult EK [] 1000000 7 [.int .i64 (.ofNat 5), .int .i64 (.ofNat m)] = true
  | 0 => nl_5_0
  | 1 => nl_5_1
  | 2 => nl_5_2
  | 3 => nl_5_3
  | 4 => nl_5_4
  | 5 => nl_5_5
  | 6 => nl_5_6
  | 7 => nl_5_7
  | 8 => nl_5_8
  | 9 => nl_5_9
  | 10 => nl_5_10
  | 11 => nl_5_11
  | 12 => nl_5_12
  | 13 => nl_5_13
  | 14 => nl_5_14
  | 15 => nl_5_15
  | 16 => nl_5_16
  | 17 => nl_5_17
  | 18 => nl_5_18
  | 19 => nl_5_19
  | 20 => nl_5_20
  | m + 21 => nl_5_big m
theorem nl_all_5 (b : Int) : kresult EK [] 1000000 7 [.int .i64 (.ofNat 5), .int .i64 (b)] = true := by
  cases b with
  | ofNat m => exact nl_5 m
  | negSucc m => exact nl_5_neg m
end Go.Proofs.YtknhcgdhfndooaaDoor.GEv
