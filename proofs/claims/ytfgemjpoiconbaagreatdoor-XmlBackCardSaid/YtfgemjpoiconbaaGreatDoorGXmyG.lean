import Derived.Test.YtfgemjpoiconbaaGreatDoorGXmxG
import Derived.Test.YtfgemjpoiconbaaGreatDoorGXmS
/- XmlBack: its call by arguments that came in as data. -/
namespace Go.Proofs.YtfgemjpoiconbaaGreatDoor.GEv
open Go
open Go.RowKit
set_option linter.unusedSimpArgs false
set_option linter.unusedVariables false
theorem xmlBack_core (hOK : EMX.OK) {W : World} (hw : WOK W) (hs : GN ≤ W.heap.size) {a : El} {ca : List Value} (ha : IsEl (emb W) (fun _ => True) a (ca.map (absV W))) (ga : Big a) :
    Calls Tryz.prog 3 #[.agg ca.toArray] W fun e W' => e = .returned (.bool true) ∧ Below W.heap.size W W' :=
  calls_emb (args := [.agg (ca.map (absV W)).toArray]) (args' := [.agg ca.toArray]) (emokY hOK) (lBack rfl a _ (emb W) _ ha ga _ (fun h' g => ⟨rfl, g⟩)) (.cons (vr_agg W ca) (.nil _)) rfl hw hs
end Go.Proofs.YtfgemjpoiconbaaGreatDoor.GEv

