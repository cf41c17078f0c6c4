/- The fields of a struct of one-cell fields that came in as data: numbers and texts. No program here. -/
import Derived.RowKit
import Derived.WalkKit
import Derived.ProofKit
import Derived.ChangeArms
import Derived.Carry
namespace Go.Proofs.YtfodnfojepckfaaGreat.GFields
open Go
variable {H : Type} {enc : TypeId × Value → H} {P : Program} {w : World} {base : Nat} {sp : Nat → Bool} {held : Bool} {fs : Array Field} {n : Nat} {cs : List Value} {xs : List (DataW H × List MemPlace)}
theorem one_cell {i : Nat} {c : Value} (h : cs[i]? = some c) : (cs.drop i).take 1 = [c] := by
  obtain ⟨hi, rfl⟩ := List.getElem?_eq_some_iff.1 h
  rw [List.drop_eq_getElem_cons hi]
  rfl
theorem some_cell {i : Nat} (hl : xs.length = fs.size) {f : Field} (hf : fs[i]? = some f) : ∃ y, xs[i]? = some y := by
  obtain ⟨hi, _⟩ := Array.getElem?_eq_some_iff.1 hf
  exact ⟨_, List.getElem?_eq_getElem (by omega)⟩
theorem field_int (hl : xs.length = fs.size) (hr : ∀ (i : Nat) (f : Field), fs[i]? = some f → DataW.trod enc P w base sp held n f.type ((cs.drop f.offset).take (P.cellsOf f.type)) = xs[i]?)
    (i : Nat) {k : IntKind} {c : Value} {f : Field} (hf : fs[i]? = some f) (ho : f.offset = i) (hc : P.cellsOf f.type = 1) (hu : P.underlying f.type = some (.int k)) (h : cs[i]? = some c) : ∃ a, c = .int k a := by
  have q := hr i f hf
  rw [ho, hc, one_cell h] at q
  obtain ⟨y, hy⟩ := some_cell hl hf
  rw [hy] at q
  obtain ⟨a, ha, _⟩ := DataW.trod_int hu q
  exact ⟨a, by cases ha; rfl⟩
theorem field_str (hl : xs.length = fs.size) (hr : ∀ (i : Nat) (f : Field), fs[i]? = some f → DataW.trod enc P w base sp held n f.type ((cs.drop f.offset).take (P.cellsOf f.type)) = xs[i]?)
    (i : Nat) {c : Value} {f : Field} (hf : fs[i]? = some f) (ho : f.offset = i) (hc : P.cellsOf f.type = 1) (hu : P.underlying f.type = some .string) (h : cs[i]? = some c) : ∃ a, c = .string a := by
  have q := hr i f hf
  rw [ho, hc, one_cell h] at q
  obtain ⟨y, hy⟩ := some_cell hl hf
  rw [hy] at q
  obtain ⟨a, ha, _⟩ := DataW.trod_string hu q
  exact ⟨a, by cases ha; rfl⟩
theorem five {cs : Array Value} (h : cs.size = 5) : ∃ a b c d e, cs = #[a, b, c, d, e] := by
  obtain ⟨l⟩ := cs
  match l, h with
  | [a, b, c, d, e], _ => exact ⟨a, b, c, d, e, rfl⟩
end Go.Proofs.YtfodnfojepckfaaGreat.GFields
