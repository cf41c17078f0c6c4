/- 'TwinOfNothing': the evaluator says true, whatever the act is. -/
import Derived.Test.YtfodnfojepckfaaGreatGEvT
namespace Go.Proofs.YtfodnfojepckfaaGreat.GEv
open Go
open Go.RowKit (Below)
set_option maxRecDepth 1000000 in
theorem twinOfNothing_run (a : Int) (s : ByteArray) (e : Int) (f : ByteArray) (n : Int) : kresult EK [26, 15027] 1000000 3 [.agg #[.int .i64 a, .string s, .int .i64 e, .string f, .int .i64 n]] = true := by kernel_rfl
theorem twinOfNothing_calls (a : Int) (s : ByteArray) (e : Int) (f : ByteArray) (n : Int) (W : World) : Calls Tryz.prog 3 #[.agg #[.int .i64 a, .string s, .int .i64 e, .string f, .int .i64 n]] W fun e W' => e = .returned (.bool true) ∧ Below W.heap.size W W' :=
  kcalls_true kok (twinOfNothing_run a s e f n) rfl trivial (Nat.zero_le _)
end Go.Proofs.YtfodnfojepckfaaGreat.GEv
