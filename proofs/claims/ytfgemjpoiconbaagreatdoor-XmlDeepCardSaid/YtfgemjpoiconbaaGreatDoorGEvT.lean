/- The evaluator over this seat's program. -/
import Derived.Test.YtfgemjpoiconbaaGreatDoorGEvY2
import Derived.Test.YtfgemjpoiconbaaGreatDoorChecked
import Derived.KernelRfl
namespace Go.Proofs.YtfgemjpoiconbaaGreatDoor.GEv
open Go
open Go.RowKit (Below)
noncomputable def EE : Env := ⟨Tryz.prog, none, some 61, some 111, []⟩
theorem names_ok {P : Program} (h : P.funcs.toList.all (fun fn => !(fn.name == "runtime.NumGoroutine")) = true) : ∀ (f : FuncId) (fn : Func), P.funcs[f]? = some fn → (fn.name == "runtime.NumGoroutine") = false := by
  intro f fn hf
  have hm : fn ∈ P.funcs.toList := by
    have : P.funcs.toList[f]? = some fn := by rw [Array.getElem?_toList]; exact hf
    exact List.mem_of_getElem? this
  have := List.all_eq_true.1 h fn hm
  simpa using this
theorem same_ok (args : Array Value) (w : World) : (callFunc 61 args).run Tryz.prog w = ((Extern.AbiNoEscape.same args).run Tryz.prog w).andThen fun v w' => .ok (.value v) w' := by
  have h1 : ((Tryz.f61.name == "runtime.NumGoroutine") = true) = False := by simp [Tryz.f61]
  have h2 : Tryz.f61.body.isNone = true := rfl
  have h3 : Extern.findNext Tryz.f61 = none := by kernel_rfl
  have h4 : Extern.find Tryz.f61 = some (Extern.AbiNoEscape.same) := by kernel_rfl
  unfold callFunc
  simp only [Sem.run_bind, run_program, Result.andThen_ok, Tryz.func61, h1, if_false, h2, if_true, run_mark, h3, h4, Sem.run_pure]
theorem room_ok (args : Array Value) (w : World) : (callFunc 111 args).run Tryz.prog w = ((Extern.BytealgMakeNoZero.makeNoZero Tryz.f111.params Tryz.f111.resultTypes args).run Tryz.prog w).andThen fun v w' => .ok (.value v) w' := by
  have h1 : ((Tryz.f111.name == "runtime.NumGoroutine") = true) = False := by simp [Tryz.f111]
  have h2 : Tryz.f111.body.isNone = true := rfl
  have h3 : Extern.findNext Tryz.f111 = none := by kernel_rfl
  have h4 : Extern.find Tryz.f111 = some (Extern.BytealgMakeNoZero.makeNoZero Tryz.f111.params Tryz.f111.resultTypes) := by kernel_rfl
  unfold callFunc
  simp only [Sem.run_bind, run_program, Result.andThen_ok, Tryz.func111, h1, if_false, h2, if_true, run_mark, h3, h4, Sem.run_pure]
theorem eok : EE.OK := ⟨(fun f p args v h => by cases h), by kernel_rfl, names_ok (by kernel_rfl), (fun f h => by cases h), (fun f h args w => by cases h; exact same_ok args w), (fun f fn h hf args w => by cases h; have hf' : Tryz.prog.funcs[111]? = some fn := hf; rw [Tryz.func111] at hf'; cases hf'; exact room_ok args w)⟩
set_option maxRecDepth 1000000 in
/-- What the laws ask beside: 'known'. -/
theorem known_run : kresult EE [] 1000000 15 [] = true := by kernel_rfl
theorem known_calls {w : World} (hw : WOK w) (hs : GN ≤ w.heap.size) : Calls Tryz.prog 15 #[] w fun e w' => e = .returned (.bool true) ∧ Below w.heap.size w w' := kcalls_true eok known_run rfl hw hs
end Go.Proofs.YtfgemjpoiconbaaGreatDoor.GEv
