/- The evaluator over this seat's program. -/
import Derived.Test.YtdgnemgbfgiccaaGEvY2
import Derived.Test.YtdgnemgbfgiccaaChecked
import Derived.KernelRfl
namespace Go.Proofs.Ytdgnemgbfgiccaa.GEv
open Go
open Go.RowKit (Below)
noncomputable def EE : Env := ⟨Try.prog, some 40, []⟩
theorem names_ok {P : Program} (h : P.funcs.toList.all (fun fn => !(fn.name == "runtime.NumGoroutine")) = true) : ∀ (f : FuncId) (fn : Func), P.funcs[f]? = some fn → (fn.name == "runtime.NumGoroutine") = false := by
  intro f fn hf
  have hm : fn ∈ P.funcs.toList := by
    have : P.funcs.toList[f]? = some fn := by rw [Array.getElem?_toList]; exact hf
    exact List.mem_of_getElem? this
  have := List.all_eq_true.1 h fn hm
  simpa using this
theorem clone_ok (args : Array Value) (w : World) : (callFunc 40 args).run Try.prog w = ((Extern.MapsClone.clone args).run Try.prog w).andThen fun v w' => .ok (.value v) w' := by
  have h1 : ((Try.f40.name == "runtime.NumGoroutine") = true) = False := by simp [Try.f40]
  have h2 : Try.f40.body.isNone = true := rfl
  have h3 : Extern.findNext Try.f40 = none := by kernel_rfl
  have h4 : Extern.find Try.f40 = some Extern.MapsClone.clone := by kernel_rfl
  unfold callFunc
  simp only [Sem.run_bind, run_program, Result.andThen_ok, Try.func40, h1, if_false, h2, if_true, run_mark, h3, h4, Sem.run_pure]
theorem eok : EE.OK := ⟨(fun f v h => by cases h), by kernel_rfl, names_ok (by kernel_rfl), (fun f h args w => by cases h; exact clone_ok args w)⟩
set_option maxRecDepth 1000000 in
/-- What the laws ask beside: 'known'. -/
theorem known_run : kresult EE [] 1000000 11 [] = true := by kernel_rfl
theorem known_calls (w : World) : Calls Try.prog 11 #[] w fun e w' => e = .returned (.bool true) ∧ Below w.heap.size w w' := kcalls_true eok known_run rfl w
noncomputable def EK : Env := ⟨Try.prog, some 40, [(11, .bool true)]⟩
theorem kok : EK.OK := ⟨(fun f v h => by
  cases h with
  | head => exact ⟨rfl, known_calls⟩
  | tail _ h => cases h), eok.mixed, eok.names, eok.clone⟩
end Go.Proofs.Ytdgnemgbfgiccaa.GEv
