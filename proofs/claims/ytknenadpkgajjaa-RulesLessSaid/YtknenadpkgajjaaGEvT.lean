/- The evaluator over this seat's program. -/
import Derived.Test.YtknenadpkgajjaaGEvY2
import Derived.Test.YtknenadpkgajjaaChecked
import Derived.KernelRfl
namespace Go.Proofs.Ytknenadpkgajjaa.GEv
open Go
open Go.RowKit (Below)
noncomputable def EE : Env := ⟨Try.prog, none, none, none, [], []⟩
theorem names_ok {P : Program} (h : P.funcs.toList.all (fun fn => !(fn.name == "runtime.NumGoroutine")) = true) : ∀ (f : FuncId) (fn : Func), P.funcs[f]? = some fn → (fn.name == "runtime.NumGoroutine") = false := by
  intro f fn hf
  have hm : fn ∈ P.funcs.toList := by
    have : P.funcs.toList[f]? = some fn := by rw [Array.getElem?_toList]; exact hf
    exact List.mem_of_getElem? this
  have := List.all_eq_true.1 h fn hm
  simpa using this
theorem eok : EE.OK := ⟨(fun f p args v h => by cases h), (fun f p args h r v h' q => by cases q), by kernel_rfl, names_ok (by kernel_rfl), (fun f h => by cases h), (fun f h => by cases h), (fun f fn h => by cases h)⟩
set_option maxRecDepth 1000000 in
/-- What the laws ask beside: 'known'. -/
theorem known_run : kresult EE [] 1000000 10 [] = true := by kernel_rfl
theorem known_calls {w : World} (hw : WOK w) (hs : GN ≤ w.heap.size) : Calls Try.prog 10 #[] w fun e w' => e = .returned (.bool true) ∧ Below w.heap.size w w' := kcalls_true eok known_run rfl hw hs
noncomputable def EK : Env := ⟨Try.prog, none, none, none, [(10, always (.bool true))], []⟩
theorem kok : EK.OK := ⟨(fun f p args v h hp => by
  cases h with
  | head =>
    cases args with
    | nil => cases hp; exact ⟨rfl, rfl, fun w hw hs => known_calls hw hs⟩
    | cons _ _ => cases hp
  | tail _ h => cases h), (fun f p args h r v h' q => by cases q), eok.mixed, eok.names, eok.clone, eok.same, eok.room⟩
end Go.Proofs.Ytknenadpkgajjaa.GEv
