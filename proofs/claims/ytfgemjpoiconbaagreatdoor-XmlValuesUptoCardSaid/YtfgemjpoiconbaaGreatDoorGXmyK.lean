import Derived.Test.YtfgemjpoiconbaaGreatDoorGXmxK
import Derived.Test.YtfgemjpoiconbaaGreatDoorGXmS
/- XmlValues: its call by an argument that came in as data. -/
namespace Go.Proofs.YtfgemjpoiconbaaGreatDoor.GEv
open Go
open Go.RowKit
set_option linter.unusedSimpArgs false
set_option linter.unusedVariables false
theorem xmlValues_core (hOK : EMX.OK) {W : World} (hw : WOK W) (hs : GN ≤ W.heap.size) (s : ByteArray) (hb : s.size ≤ 1048576) :
    Calls Tryz.prog 7 #[.string s] W fun e W' => e = .returned (.bool true) ∧ Below W.heap.size W W' := by
  obtain ⟨⟨l⟩⟩ := s
  have hl : l.length ≤ 2000000 := Nat.le_trans hb (by decide)
  exact calls_emb (args := [.string ⟨⟨l⟩⟩]) (args' := [.string ⟨⟨l⟩⟩]) (emokY hOK) (lValues rfl l hl (emb W) _ (fun h' g => ⟨rfl, g⟩)) (.cons (.string _) (.nil _)) rfl hw hs
end Go.Proofs.YtfgemjpoiconbaaGreatDoor.GEv

