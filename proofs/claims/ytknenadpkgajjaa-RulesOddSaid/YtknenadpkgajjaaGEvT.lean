/- The evaluator over this seat's program. -/
import Derived.Test.YtknenadpkgajjaaGEvS
import Derived.Test.YtknenadpkgajjaaChecked
import Derived.KernelRfl
namespace Go.Proofs.Ytknenadpkgajjaa.GEv
open Go
open Go.RowKit (Below)
noncomputable def EE : Env := ⟨Try.prog, none, []⟩
theorem names_ok {P : Program} (h : P.funcs.toList.all (fun fn => !(fn.name == "runtime.NumGoroutine")) = true) : ∀ (f : FuncId) (fn : Func), P.funcs[f]? = some fn → (fn.name == "runtime.NumGoroutine") = false := by
  intro f fn hf
  have hm : fn ∈ P.funcs.toList := by
    have : P.funcs.toList[f]? = some fn := by rw [Array.getElem?_toList]; exact hf
    exact List.mem_of_getElem? this
  have := List.all_eq_true.1 h fn hm
  simpa using this
theorem eok : EE.OK := ⟨(fun f v h => by cases h), by kernel_rfl, names_ok (by kernel_rfl), (fun f h => by cases h)⟩
set_option maxRecDepth 1000000 in
/-- What the laws ask beside: 'known'. -/
theorem known_run : isTrue (result EE 1000000 10 []) = true := by kernel_rfl
theorem known_calls (w : World) : Calls Try.prog 10 #[] w fun e w' => e = .returned (.bool true) ∧ Below w.heap.size w w' := calls_true eok known_run rfl w
noncomputable def EK : Env := ⟨Try.prog, none, [(10, .bool true)]⟩
theorem kok : EK.OK := ⟨(fun f v h => by
  cases h with
  | head => exact ⟨rfl, known_calls⟩
  | tail _ h => cases h), eok.mixed, eok.names, eok.clone⟩
end Go.Proofs.Ytknenadpkgajjaa.GEv
