import Derived.Test.YtfgemjpoiconbaaGreatDoorGXmxJ
import Derived.Test.YtfgemjpoiconbaaGreatDoorGXmS
/- XmlLong: its call by an argument that came in as data. -/
namespace Go.Proofs.YtfgemjpoiconbaaGreatDoor.GEv
open Go
open Go.RowKit
set_option linter.unusedSimpArgs false
set_option linter.unusedVariables false
theorem xmlLong_core (hOK : EMX.OK) {W : World} (hw : WOK W) (hs : GN ≤ W.heap.size) (z : Int) (wz : (Lit.int .i64 z).wf = true) :
    Calls Tryz.prog 9 #[.int .i64 z] W fun e W' => e = .returned (.bool true) ∧ Below W.heap.size W W' :=
  calls_emb (args := [.int .i64 z]) (args' := [.int .i64 z]) (emokY hOK) (lLong rfl z (emb W) _ (fun h' g => ⟨rfl, g⟩)) (.cons (.int _ _) (.nil _)) rfl hw hs
end Go.Proofs.YtfgemjpoiconbaaGreatDoor.GEv

