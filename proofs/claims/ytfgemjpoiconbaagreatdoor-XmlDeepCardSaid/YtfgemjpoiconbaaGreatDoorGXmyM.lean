/- XmlDeep: its call by arguments that came in as data. -/
import Derived.Test.YtfgemjpoiconbaaGreatDoorGXmxM
import Derived.Test.YtfgemjpoiconbaaGreatDoorGXmS
namespace Go.Proofs.YtfgemjpoiconbaaGreatDoor.GEv
open Go
open Go.RowKit
set_option linter.unusedSimpArgs false
set_option linter.unusedVariables false
theorem xmlDeep_core (hOK : EMX.OK) {W : World} (hw : WOK W) (hs : GN ≤ W.heap.size) (z : Int) (wz : (Lit.int .i64 z).wf = true) (y : Int) (wy : (Lit.int .i64 y).wf = true) :
    Calls Tryz.prog 5 #[.int .i64 z, .int .i64 y] W fun e W' => e = .returned (.bool true) ∧ Below W.heap.size W W' :=
  calls_emb (args := [.int .i64 z, .int .i64 y]) (args' := [.int .i64 z, .int .i64 y]) (emokY hOK) (lDeep rfl z y (emb W) _ (fun h' g => ⟨rfl, g⟩)) (.cons (.int _ _) (.cons (.int _ _) (.nil _))) rfl hw hs
end Go.Proofs.YtfgemjpoiconbaaGreatDoor.GEv
