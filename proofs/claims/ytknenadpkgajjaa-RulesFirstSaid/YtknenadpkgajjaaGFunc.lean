/- Where a function first holds along a row: plain Lean, no program's number stands here. -/
import Derived.RowKit
import Derived.WalkKit
import Derived.ProofKit
import Derived.WideLaws
namespace Go.Proofs.Ytknenadpkgajjaa.GFunc
open Go.RowKit
/-- the first place from i on at which p holds; -1: none. -/
def idx {α : Type} (p : α → Bool) : List α → Nat → Int
  | [], _ => -1
  | x :: r, i => if p x = true then (i : Int) else idx p r (i + 1)
theorem idx_any {α : Type} (p : α → Bool) : ∀ (l : List α) (i : Nat), decide (0 ≤ idx p l i) = l.any p
  | [], i => by simp [idx]
  | x :: r, i => by
    unfold idx
    by_cases h : p x = true
    · rw [if_pos h]; simp [h]
    · rw [if_neg h, idx_any p r (i + 1)]; simp [h]
/-- a function that has a Go body. -/
def HasBody (P : Program) (f : FuncId) : Prop := (match P.funcs[f]? with | some fn => !(fn.name == "runtime.NumGoroutine") && fn.body.isSome | none => false) = true
theorem run_enter {P : Program} {f : FuncId} (h : HasBody P f) (args : Array Value) (w : World) : (callFunc f args).run P w = .ok (.enter f args) w := by
  unfold HasBody at h
  cases hf : P.funcs[f]? with
  | none => rw [hf] at h; simp at h
  | some fn =>
    rw [hf] at h
    simp only [Bool.and_eq_true] at h
    obtain ⟨h1, h2⟩ := h
    obtain ⟨c, hb⟩ := Option.isSome_iff_exists.mp h2
    have hn : fn.name ≠ "runtime.NumGoroutine" := by simpa using h1
    simp [callFunc, hf, hn, hb]
theorem run_store_func (P : Program) (w : World) (a : Addr) (m : Mode) (fn : Fn) (first cap : Array Value) : (store a (.func fn first cap) m).run P w = stored P w a (.func fn first cap) m := run_store P w a _ m rfl
theorem hmf (P : Program) : ∀ (fn : Fn) (first cap : Array Value) (w : World), (Instr.makeFunc fn first cap).run P w = .ok (.func fn first cap) w := fun _ _ _ _ => rfl
end Go.Proofs.Ytknenadpkgajjaa.GFunc
