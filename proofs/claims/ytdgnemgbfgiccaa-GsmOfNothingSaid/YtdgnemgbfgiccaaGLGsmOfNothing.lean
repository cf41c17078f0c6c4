/- 'GsmOfNothing': the evaluator says true, whatever the act is. -/
import Derived.Test.YtdgnemgbfgiccaaGEvT
namespace Go.Proofs.Ytdgnemgbfgiccaa.GEv
open Go
open Go.RowKit (Below)
set_option maxRecDepth 1000000 in
theorem gsmOfNothing_run (a : Int) (s : ByteArray) (e : Int) (f : ByteArray) (n : Int)(x0 : Int) : kresult EK [26, 27] 1000000 7 [.agg #[.int .i64 a, .string s, .int .i64 e, .string f, .int .i64 n], .int .i64 x0] = true := by kernel_rfl
theorem gsmOfNothing_calls (a : Int) (s : ByteArray) (e : Int) (f : ByteArray) (n : Int)(x0 : Int) (W : World) : Calls Try.prog 7 #[.agg #[.int .i64 a, .string s, .int .i64 e, .string f, .int .i64 n], .int .i64 x0] W fun e W' => e = .returned (.bool true) ∧ Below W.heap.size W W' :=
  kcalls_true kok (gsmOfNothing_run a s e f n x0) rfl W
end Go.Proofs.Ytdgnemgbfgiccaa.GEv
