/- 'NameLong': the evaluator says true: a run for each two numbers. -/
import Derived.Test.YtknhcgdhfndooaaDoorGEvT
namespace Go.Proofs.YtknhcgdhfndooaaDoor.GEv
open Go
open Go.RowKit (Below)
set_option maxRecDepth 1000000 in
theorem nl_18_0 : kresult EK [] 1000000 7 [.int .i64 (.ofNat 18), .int .i64 (.ofNat 0)] = true := by kernel_rfl
set_option maxRecDepth 1000000 in
theorem nl_18_1 : kresult EK [] 1000000 7 [.int .i64 (.ofNat 18), .int .i64 (.ofNat 1)] = true := by kernel_rfl
set_option maxRecDepth 1000000 in
theorem nl_18_2 : kresult EK [] 1000000 7 [.int .i64 (.ofNat 18), .int .i64 (.ofNat 2)] = true := by kernel_rfl
set_option maxRecDepth 1000000 in
theorem nl_18_3 : kresult EK [] 1000000 7 [.int .i64 (.ofNat 18), .int .i64 (.ofNat 3)] = true := by kernel_rfl
set_option maxRecDepth 1000000 in
theorem nl_18_4 : kresult EK [] 1000000 7 [.int .i64 (.ofNat 18), .int .i64 (.ofNat 4)] = true := by kernel_rfl
set_option maxRecDepth 1000000 in
theorem nl_18_5 : kresult EK [] 1000000 7 [.int .i64 (.ofNat 18), .int .i64 (.ofNat 5)] = true := by kernel_rfl
set_option maxRecDepth 1000000 in
theorem nl_18_6 : kresult EK [] 1000000 7 [.int .i64 (.ofNat 18), .int .i64 (.ofNat 6)] = true := by kernel_rfl
set_option maxRecDepth 1000000 in
theorem nl_18_7 : kresult EK [] 1000000 7 [.int .i64 (.ofNat 18), .int .i64 (.ofNat 7)] = true := by kernel_rfl
set_option maxRecDepth 1000000 in
theorem nl_18_8 : kresult EK [] 1000000 7 [.int .i64 (.ofNat 18), .int .i64 (.ofNat 8)] = true := by kernel_rfl
set_option maxRecDepth 1000000 in
theorem nl_18_9 : kresult EK [] 1000000 7 [.int .i64 (.ofNat 18), .int .i64 (.ofNat 9)] = true := by kernel_rfl
set_option maxRecDepth 1000000 in
theorem nl_18_10 : kresult EK [] 1000000 7 [.int .i64 (.ofNat 18), .int .i64 (.ofNat 10)] = true := by kernel_rfl
set_option maxRecDepth 1000000 in
theorem nl_18_11 : kresult EK [] 1000000 7 [.int .i64 (.ofNat 18), .int .i64 (.ofNat 11)] = true := by kernel_rfl
set_option maxRecDepth 1000000 in
theorem nl_18_12 : kresult EK [] 1000000 7 [.int .i64 (.ofNat 18), .int .i64 (.ofNat 12)] = true := by kernel_rfl
set_option maxRecDepth 1000000 in
theorem nl_18_13 : kresult EK [] 1000000 7 [.int .i64 (.ofNat 18), .int .i64 (.ofNat 13)] = true := by kernel_rfl
set_option maxRecDepth 1000000 in
theorem nl_18_14 : kresult EK [] 1000000 7 [.int .i64 (.ofNat 18), .int .i64 (.ofNat 14)] = true := by kernel_rfl
set_option maxRecDepth 1000000 in
theorem nl_18_15 : kresult EK [] 1000000 7 [.int .i64 (.ofNat 18), .int .i64 (.ofNat 15)] = true := by kernel_rfl
set_option maxRecDepth 1000000 in
theorem nl_18_16 : kresult EK [] 1000000 7 [.int .i64 (.ofNat 18), .int .i64 (.ofNat 16)] = true := by kernel_rfl
set_option maxRecDepth 1000000 in
theorem nl_18_17 : kresult EK [] 1000000 7 [.int .i64 (.ofNat 18), .int .i64 (.ofNat 17)] = true := by kernel_rfl
set_option maxRecDepth 1000000 in
theorem nl_18_18 : kresult EK [] 1000000 7 [.int .i64 (.ofNat 18), .int .i64 (.ofNat 18)] = true := by kernel_rfl
set_option maxRecDepth 1000000 in
theorem nl_18_19 : kresult EK [] 1000000 7 [.int .i64 (.ofNat 18), .int .i64 (.ofNat 19)] = true := by kernel_rfl
set_option maxRecDepth 1000000 in
theorem nl_18_20 : kresult EK [] 1000000 7 [.int .i64 (.ofNat 18), .int .i64 (.ofNat 20)] = true := by kernel_rfl
set_option maxRecDepth 1000000 in
theorem nl_18_big (m : Nat) : kresult EK [] 1000000 7 [.int .i64 (.ofNat 18), .int .i64 (.ofNat (m + 21))] = true := by kernel_rfl
set_option maxRecDepth 1000000 in
theorem nl_18_neg (m : Nat) : kresult EK [] 1000000 7 [.int .i64 (.ofNat 18), .int .i64 (.negSucc m)] = true := by kernel_rfl
theorem nl_18 : ∀ m : Nat, kresult EK [] 1000000 7 [.int .i64 (.ofNat 18), .int .i64 (.ofNat m)] = true
  | 0 => nl_18_0
  | 1 => nl_18_1
  | 2 => nl_18_2
  | 3 => nl_18_3
  | 4 => nl_18_4
  | 5 => nl_18_5
  | 6 => nl_18_6
  | 7 => nl_18_7
  | 8 => nl_18_8
  | 9 => nl_18_9
  | 10 => nl_18_10
  | 11 => nl_18_11
  | 12 => nl_18_12
  | 13 => nl_18_13
  | 14 => nl_18_14
  | 15 => nl_18_15
  | 16 => nl_18_16
  | 17 => nl_18_17
  | 18 => nl_18_18
  | 19 => nl_18_19
  | 20 => nl_18_20
  | m + 21 => nl_18_big m
theorem nl_all_18 (b : Int) : kresult EK [] 1000000 7 [.int .i64 (.ofNat 18), .int .i64 (b)] = true := by
  cases b with
  | ofNat m => exact nl_18 m
  | negSucc m => exact nl_18_neg m
set_option maxRecDepth 1000000 in
theorem nl_19_0 : kresult EK [] 1000000 7 [.int .i64 (.ofNat 19), .int .i64 (.ofNat 0)] = true := by kernel_rfl
set_option maxRecDepth 1000000 in
theorem nl_19_1 : kresult EK [] 1000000 7 [.int .i64 (.ofNat 19), .int .i64 (.ofNat 1)] = true := by kernel_rfl
set_option maxRecDepth 1000000 in
theorem nl_19_2 : kresult EK [] 1000000 7 [.int .i64 (.ofNat 19), .int .i64 (.ofNat 2)] = true := by kernel_rfl
set_option maxRecDepth 1000000 in
theorem nl_19_3 : kresult EK [] 1000000 7 [.int .i64 (.ofNat 19), .int .i64 (.ofNat 3)] = true := by kernel_rfl
set_option maxRecDepth 1000000 in
theorem nl_19_4 : kresult EK [] 1000000 7 [.int .i64 (.ofNat 19), .int .i64 (.ofNat 4)] = true := by kernel_rfl
set_option maxRecDepth 1000000 in
theorem nl_19_5 : kresult EK [] 1000000 7 [.int .i64 (.ofNat 19), .int .i64 (.ofNat 5)] = true := by kernel_rfl
set_option maxRecDepth 1000000 in
theorem nl_19_6 : kresult EK [] 1000000 7 [.int .i64 (.ofNat 19), .int .i64 (.ofNat 6)] = true := by kernel_rfl
set_option maxRecDepth 1000000 in
theorem nl_19_7 : kresult EK [] 1000000 7 [.int .i64 (.ofNat 19), .int .i64 (.ofNat 7)] = true := by kernel_rfl
set_option maxRecDepth 1000000 in
theorem nl_19_8 : kresult EK [] 1000000 7 [.int .i64 (.ofNat 19), .int .i64 (.ofNat 8)] = true := by kernel_rfl
set_option maxRecDepth 1000000 in
theorem nl_19_9 : kresult EK [] 1000000 7 [.int .i64 (.ofNat 19), .int .i64 (.ofNat 9)] = true := by kernel_rfl
set_option maxRecDepth 1000000 in
theorem nl_19_10 : kresult EK [] 1000000 7 [.int .i64 (.ofNat 19), .int .i64 (.ofNat 10)] = true := by kernel_rfl
set_option maxRecDepth 1000000 in
theorem nl_19_11 : kresult EK [] 1000000 7 [.int .i64 (.ofNat 19), .int .i64 (.ofNat 11)] = true := by kernel_rfl
set_option maxRecDepth 1000000 in
theorem nl_19_12 : kresult EK [] 1000000 7 [.int .i64 (.ofNat 19), .int .i64 (.ofNat 12)] = true := by kernel_rfl
set_option maxRecDepth 1000000 in
theorem nl_19_13 : kresult EK [] 1000000 7 [.int .i64 (.ofNat 19), .int .i64 (.ofNat 13)] = true := by kernel_rfl
set_option maxRecDepth 1000000 in
theorem nl_19_14 : kresult EK [] 1000000 7 [.int .i64 (.ofNat 19), .int .i64 (.ofNat 14)] = true := by kernel_rfl
set_option maxRecDepth 1000000 in
theorem nl_19_15 : kresult EK [] 1000000 7 [.int .i64 (.ofNat 19), .int .i64 (.ofNat 15)] = true := by kernel_rfl
set_option maxRecDepth 1000000 in
theorem nl_19_16 : kresult EK [] 1000000 7 [.int .i64 (.ofNat 19), .int .i64 (.ofNat 16)] = true := by kernel_rfl
set_option maxRecDepth 1000000 in
theorem nl_19_17 : kresult EK [] 1000000 7 [.int .i64 (.ofNat 19), .int .i64 (.ofNat 17)] = true := by kernel_rfl
set_option maxRecDepth 1000000 in
theorem nl_19_18 : kresult EK [] 1000000 7 [.int .i64 (.ofNat 19), .int .i64 (.ofNat 18)] = true := by kernel_rfl
set_option maxRecDepth 1000000 in
theorem nl_19_19 : kresult EK [] 1000000 7 [.int .i64 (.ofNat 19), .int .i64 (.ofNat 19)] = true := by kernel_rfl
set_option maxRecDepth 1000000 in
theorem nl_19_20 : kresult EK [] 1000000 7 [.int .i64 (.ofNat 19), .int .i64 (.ofNat 20)] = true := by kernel_rfl
set_option maxRecDepth 1000000 in
theorem nl_19_big (m : Nat) : kresult EK [] 1000000 7 [.int .i64 (.ofNat 19), .int .i64 (.ofNat (m + 21))] = true := by kernel_rfl
set_option maxRecDepth 1000000 in
theorem nl_19_neg (m : Nat) : kresult EK [] 1000000 7 [.int .i64 (.ofNat 19), .int .i64 (.negSucc m)] = true := by kernel_rfl
theorem nl_19 : ∀ m : Nat, kresult EK [] 1000000 7 [.int .i64 (.ofNat 19), .int .i64 (.ofNat m)] = true
  | 0 => nl_19_0
  | 1 => nl_19_1
  | 2 => nl_19_2
  | 3 => nl_19_3
  | 4 => nl_19_4
  | 5 => nl_19_5
  | 6 => nl_19_6
  | 7 => nl_19_7
  | 8 => nl_19_8
  | 9 => nl_19_9
  | 10 => nl_19_10
  | 11 => nl_19_11
  | 12 => nl_19_12
  | 13 => nl_19_13
  | 14 => nl_19_14
  | 15 => nl_19_15
  | 16 => nl_19_16
  | 17 => nl_19_17
  | 18 => nl_19_18
  | 19 => nl_19_19
  | 20 => nl_19_20
  | m + 21 => nl_19_big m
theorem nl_all_19 (b : Int) : kresult EK [] 1000000 7 [.int .i64 (.ofNat 19), .int .i64 (b)] = true := by
  cases b with
  | ofNat m => exact nl_19 m
  | negSucc m => exact nl_19_neg m
set_option maxRecDepth 1000000 in
theorem nl_20_0 : kresult EK [] 1000000 7 [.int .i64 (.ofNat 20), .int .i64 (.ofNat 0)] = true := by kernel_rfl
set_option maxRecDepth 1000000 in
theorem nl_20_1 : kresult EK [] 1000000 7 [.int .i64 (.ofNat 20), .int .i64 (.ofNat 1)] = true := by kernel_rfl
set_option maxRecDepth 1000000 in
theorem nl_20_2 : kresult EK [] 1000000 7 [.int .i64 (.ofNat 20), .int .i64 (.ofNat 2)] = true := by kernel_rfl
set_option maxRecDepth 1000000 in
theorem nl_20_3 : kresult EK [] 1000000 7 [.int .i64 (.ofNat 20), .int .i64 (.ofNat 3)] = true := by kernel_rfl
set_option maxRecDepth 1000000 in
theorem nl_20_4 : kresult EK [] 1000000 7 [.int .i64 (.ofNat 20), .int .i64 (.ofNat 4)] = true := by kernel_rfl
set_option maxRecDepth 1000000 in
theorem nl_20_5 : kresult EK [] 1000000 7 [.int .i64 (.ofNat 20), .int .i64 (.ofNat 5)] = true := by kernel_rfl
set_option maxRecDepth 1000000 in
theorem nl_20_6 : kresult EK [] 1000000 7 [.int .i64 (.ofNat 20), .int .i64 (.ofNat 6)] = true := by kernel_rfl
set_option maxRecDepth 1000000 in
theorem nl_20_7 : kresult EK [] 1000000 7 [.int .i64 (.ofNat 20), .int .i64 (.ofNat 7)] = true := by kernel_rfl
set_option maxRecDepth 1000000 in
theorem nl_20_8 : kresult EK [] 1000000 7 [.int .i64 (.ofNat 20), .int .i64 (.ofNat 8)] = true := by kernel_rfl
set_option maxRecDepth 1000000 in
theorem nl_20_9 : kresult EK [] 1000000 7 [.int .i64 (.ofNat 20), .int .i64 (.ofNat 9)] = true := by kernel_rfl
set_option maxRecDepth 1000000 in
theorem nl_20_10 : kresult EK [] 1000000 7 [.int .i64 (.ofNat 20), .int .i64 (.ofNat 10)] = true := by kernel_rfl
set_option maxRecDepth 1000000 in
theorem nl_20_11 : kresult EK [] 1000000 7 [.int .i64 (.ofNat 20), .int .i64 (.ofNat 11)] = true := by kernel_rfl
set_option maxRecDepth 1000000 in
theorem nl_20_12 : kresult EK [] 1000000 7 [.int .i64 (.ofNat 20), .int .i64 (.ofNat 12)] = true := by kernel_rfl
set_option maxRecDepth 1000000 in
theorem nl_20_13 : kresult EK [] 1000000 7 [.int .i64 (.ofNat 20), .int .i64 (.ofNat 13)] = true := by kernel_rfl
set_option maxRecDepth 1000000 in
theorem nl_20_14 : kresult EK [] 1000000 7 [.int .i64 (.ofNat 20), .int .i64 (.ofNat 14)] = true := by kernel_rfl
set_option maxRecDepth 1000000 in
theorem nl_20_15 : kresult EK [] 1000000 7 [.int .i64 (.ofNat 20), .int .i64 (.ofNat 15)] = true := by kernel_rfl
set_option maxRecDepth 1000000 in
theorem nl_20_16 : kresult EK [] 1000000 7 [.int .i64 (.ofNat 20), .int .i64 (.ofNat 16)] = true := by kernel_rfl
set_option maxRecDepth 1000000 in
theorem nl_20_17 : kresult EK [] 1000000 7 [.int .i64 (.ofNat 20), .int .i64 (.ofNat 17)] = true := by kernel_rfl
set_option maxRecDepth 1000000 in
theorem nl_20_18 : kresult EK [] 1000000 7 [.int .i64 (.ofNat 20), .int .i64 (.ofNat 18)] = true := by kernel_rfl
set_option maxRecDepth 1000000 in
theorem nl_20_19 : kresult EK [] 1000000 7 [.int .i64 (.ofNat 20), .int .i64 (.ofNat 19)] = true := by kernel_rfl
set_option maxRecDepth 1000000 in
theorem nl_20_20 : kresult EK [] 1000000 7 [.int .i64 (.ofNat 20), .int .i64 (.ofNat 20)] = true := by kernel_rfl
set_option maxRecDepth 1000000 in
theorem nl_20_big (m : Nat) : kresult EK [] 1000000 7 [.int .i64 (.ofNat 20), .int .i64 (.ofNat (m + 21))] = true := by kernel_rfl
set_option maxRecDepth 1000000 in
theorem nl_20_neg (m : Nat) : kresult EK [] 1000000 7 [.int .i64 (.ofNat 20), .int .i64 (.negSucc m)] = true := by kernel_rfl
theorem nl_20 : ∀ m : Nat, kresult EK [] 1000000 7 [.int .i64 (.ofNat 20), .int .i64 (.ofNat m)] = true
  | 0 => nl_20_0
  | 1 => nl_20_1
  | 2 => nl_20_2
  | 3 => nl_20_3
  | 4 => nl_20_4
  | 5 => nl_20_5
  | 6 => nl_20_6
  | 7 => nl_20_7
  | 8 => nl_20_8
  | 9 => nl_20_9
  | 10 => nl_20_10
  | 11 => nl_20_11
  | 12 => nl_20_12
  | 13 => nl_20_13
  | 14 => nl_20_14
  | 15 => nl_20_15
  | 16 => nl_20_16
  | 17 => nl_20_17
  | 18 => nl_20_18
  | 19 => nl_20_19
  | 20 => nl_20_20
  | m + 21 => nl_20_big m
theorem nl_all_20 (b : Int) : kresult EK [] 1000000 7 [.int .i64 (.ofNat 20), .int .i64 (b)] = true := by
  cases b with
  | ofNat m => exact nl_20 m
  | negSucc m => exact nl_20_neg m
end Go.Proofs.YtknhcgdhfndooaaDoor.GEv
