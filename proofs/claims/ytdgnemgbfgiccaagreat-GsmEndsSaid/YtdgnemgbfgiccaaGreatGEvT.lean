/- The evaluator over this seat's program. -/
import Derived.Test.YtdgnemgbfgiccaaGreatGEvY
import Derived.Test.YtdgnemgbfgiccaaGreatChecked
import Derived.KernelRfl
namespace Go.Proofs.YtdgnemgbfgiccaaGreat.GEv
open Go
open Go.RowKit (Below)
noncomputable def EE : Env := ⟨Tryz.prog, some 58, []⟩
theorem names_ok {P : Program} (h : P.funcs.toList.all (fun fn => !(fn.name == "runtime.NumGoroutine")) = true) : ∀ (f : FuncId) (fn : Func), P.funcs[f]? = some fn → (fn.name == "runtime.NumGoroutine") = false := by
  intro f fn hf
  have hm : fn ∈ P.funcs.toList := by
    have : P.funcs.toList[f]? = some fn := by rw [Array.getElem?_toList]; exact hf
    exact List.mem_of_getElem? this
  have := List.all_eq_true.1 h fn hm
  simpa using this
theorem clone_ok (args : Array Value) (w : World) : (callFunc 58 args).run Tryz.prog w = ((Extern.MapsClone.clone args).run Tryz.prog w).andThen fun v w' => .ok (.value v) w' := by
  have h1 : ((Tryz.f58.name == "runtime.NumGoroutine") = true) = False := by simp [Tryz.f58]
  have h2 : Tryz.f58.body.isNone = true := rfl
  have h3 : Extern.findNext Tryz.f58 = none := by kernel_rfl
  have h4 : Extern.find Tryz.f58 = some Extern.MapsClone.clone := by kernel_rfl
  unfold callFunc
  simp only [Sem.run_bind, run_program, Result.andThen_ok, Tryz.func58, h1, if_false, h2, if_true, run_mark, h3, h4, Sem.run_pure]
theorem eok : EE.OK := ⟨(fun f v h => by cases h), by kernel_rfl, names_ok (by kernel_rfl), (fun f h args w => by cases h; exact clone_ok args w)⟩
set_option maxRecDepth 1000000 in
/-- What the laws ask beside: 'known'. -/
theorem known_run : kresult EE 1000000 12 [] = true := by kernel_rfl
theorem known_calls (w : World) : Calls Tryz.prog 12 #[] w fun e w' => e = .returned (.bool true) ∧ Below w.heap.size w w' := kcalls_true eok known_run rfl w
noncomputable def EK : Env := ⟨Tryz.prog, some 58, [(12, .bool true)]⟩
theorem kok : EK.OK := ⟨(fun f v h => by
  cases h with
  | head => exact ⟨rfl, known_calls⟩
  | tail _ h => cases h), eok.mixed, eok.names, eok.clone⟩
end Go.Proofs.YtdgnemgbfgiccaaGreat.GEv
