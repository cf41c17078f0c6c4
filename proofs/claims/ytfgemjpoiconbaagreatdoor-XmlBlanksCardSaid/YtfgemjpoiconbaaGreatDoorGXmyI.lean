import Derived.Test.YtfgemjpoiconbaaGreatDoorGXmxI
import Derived.Test.YtfgemjpoiconbaaGreatDoorGXmS
/- XmlBlanks: its call by arguments that came in as data. -/
namespace Go.Proofs.YtfgemjpoiconbaaGreatDoor.GEv
open Go
open Go.RowKit
set_option linter.unusedSimpArgs false
set_option linter.unusedVariables false
theorem xmlBlanks_core (hOK : EMX.OK) {W : World} (hw : WOK W) (hs : GN ≤ W.heap.size) {a : El} {ca : List Value} (ha : IsEl (emb W) (fun _ => True) a (ca.map (absV W))) (z : Int) (wz : (Lit.int .i64 z).wf = true) (ga : Big a) :
    Calls Tryz.prog 6 #[.agg ca.toArray, .int .i64 z] W fun e W' => e = .returned (.bool true) ∧ Below W.heap.size W W' :=
  calls_emb (args := [.agg (ca.map (absV W)).toArray, .int .i64 z]) (args' := [.agg ca.toArray, .int .i64 z]) (emokY hOK) (lBlanks rfl a _ z (emb W) _ ha ga _ (fun h' g => ⟨rfl, g⟩)) (.cons (vr_agg W ca) (.cons (.int _ _) (.nil _))) rfl hw hs
end Go.Proofs.YtfgemjpoiconbaaGreatDoor.GEv

