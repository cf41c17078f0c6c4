import Derived.Test.YtfgemjpoiconbaaGreatDoorGXmxL
import Derived.Test.YtfgemjpoiconbaaGreatDoorGXmS
/- XmlAttrs: its call by arguments that came in as data. -/
namespace Go.Proofs.YtfgemjpoiconbaaGreatDoor.GEv
open Go
open Go.RowKit
set_option linter.unusedSimpArgs false
set_option linter.unusedVariables false
theorem xmlAttrs_core (hOK : EMX.OK) {W : World} (hw : WOK W) (hs : GN ≤ W.heap.size) (z : Int) (wz : (Lit.int .i64 z).wf = true) (y : Int) (wy : (Lit.int .i64 y).wf = true) (b : Bool) :
    Calls Tryz.prog 8 #[.int .i64 z, .int .i64 y, .bool b] W fun e W' => e = .returned (.bool true) ∧ Below W.heap.size W W' :=
  calls_emb (args := [.int .i64 z, .int .i64 y, .bool b]) (args' := [.int .i64 z, .int .i64 y, .bool b]) (emokY hOK) (lAttrs rfl z y b (emb W) _ (fun h' g => ⟨rfl, g⟩)) (.cons (.int _ _) (.cons (.int _ _) (.cons (.bool _) (.nil _)))) rfl hw hs
end Go.Proofs.YtfgemjpoiconbaaGreatDoor.GEv

