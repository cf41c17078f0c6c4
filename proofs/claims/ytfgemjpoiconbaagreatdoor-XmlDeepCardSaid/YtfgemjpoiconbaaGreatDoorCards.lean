/-
  DERIVED. GIVEN WITH THE SEED: THE CARDS: each row of YtfgemjpoiconbaaGreatDoorRows.lean that lists a variable, with what it lists TIED to the program's text (the seventh form; the later family's looks); each row that meets fmt, with fmt's text TOLD by the authors' own Lean function (tested against real Go, not proved from fmt's source: count such statements apart). THE CARD IS WHAT COUNTS. Prove the row's statement (the work); the ties are given (YtfgemjpoiconbaaGreatDoorTie.lean); close each card by the builder's one call (the guide's Derived/Test/ToyasCard.lean, 'card_holds'). Laid BY PROGRAM, IN A SANDBOX (cutbox-door.mjs). By AI agents, Wed Nov 11 2026. No macro, syntax, notation, axiom, sorry.
-/
import Derived.Test.YtfgemjpoiconbaaGreatDoorRows
import GoSem.ClaimSeven
namespace Go.Proofs.YtfgemjpoiconbaaGreatDoor
namespace Rows

/-- THE TIED CARD OF 'sentrylaw2.XmlBack'. -/
def xmlBackCard : Claim7 := { stood := { row := xmlBackRow, standIns := [], harness := (true, "e39ed48f252e8596a88e9d000a839d979c1fc7a4a0eec3b0521f350c679f98f0"), looks := true }, kinds := [], alts := [], laidByText := true, laidKinds := [.data, .data, .data, .data, .sentinel, .sentinel, .pinned], laidTests := true, laidLooks := .later }
def XmlBackCardSaid : Prop := Claim7.holds Tryz.pinned (.plain (OpenSpec.ofChange xmlBackSpec)) xmlBackCard

/-- THE TIED CARD OF 'sentrylaw2.XmlCut'. -/
def xmlCutCard : Claim7 := { stood := { row := xmlCutRow, standIns := [], harness := (true, "e39ed48f252e8596a88e9d000a839d979c1fc7a4a0eec3b0521f350c679f98f0"), looks := true }, kinds := [], alts := [], laidByText := true, laidKinds := [.data, .data, .data, .data, .sentinel, .sentinel, .pinned], laidTests := true, laidLooks := .later }
def XmlCutCardSaid : Prop := Claim7.holds Tryz.pinned (.plain (OpenSpec.ofChange xmlCutSpec)) xmlCutCard

/-- THE TIED CARD OF 'sentrylaw2.XmlDeep'. -/
def xmlDeepCard : Claim7 := { stood := { row := xmlDeepRow, standIns := [], harness := (true, "e39ed48f252e8596a88e9d000a839d979c1fc7a4a0eec3b0521f350c679f98f0"), looks := true }, kinds := [], alts := [], laidByText := true, laidKinds := [.data, .data, .data, .data, .sentinel, .sentinel, .pinned], laidTests := true, laidLooks := .later }
def XmlDeepCardSaid : Prop := Claim7.holds Tryz.pinned (.plain (OpenSpec.ofChange xmlDeepSpec)) xmlDeepCard

/-- THE TIED CARD OF 'sentrylaw2.XmlBlanks'. -/
def xmlBlanksCard : Claim7 := { stood := { row := xmlBlanksRow, standIns := [], harness := (true, "e39ed48f252e8596a88e9d000a839d979c1fc7a4a0eec3b0521f350c679f98f0"), looks := true }, kinds := [], alts := [], laidByText := true, laidKinds := [.data, .data, .data, .data, .sentinel, .sentinel, .pinned], laidTests := true, laidLooks := .later }
def XmlBlanksCardSaid : Prop := Claim7.holds Tryz.pinned (.plain (OpenSpec.ofChange xmlBlanksSpec)) xmlBlanksCard

/-- THE TIED CARD OF 'sentrylaw2.XmlValues'. -/
def xmlValuesCard : Claim7 := { stood := { row := xmlValuesRow, standIns := [], harness := (true, "e39ed48f252e8596a88e9d000a839d979c1fc7a4a0eec3b0521f350c679f98f0"), looks := true }, kinds := [], alts := [], laidByText := true, laidKinds := [.data, .data, .data, .data, .sentinel, .sentinel, .pinned], laidTests := true, laidLooks := .later }
def XmlValuesCardSaid : Prop := Claim7.holds Tryz.pinned (.plain (OpenSpec.ofChange xmlValuesSpec)) xmlValuesCard

/-- THE TIED CARD OF 'sentrylaw2.XmlAttrs'. -/
def xmlAttrsCard : Claim7 := { stood := { row := xmlAttrsRow, standIns := [], harness := (true, "e39ed48f252e8596a88e9d000a839d979c1fc7a4a0eec3b0521f350c679f98f0"), looks := true }, kinds := [], alts := [], laidByText := true, laidKinds := [.data, .data, .data, .data, .sentinel, .sentinel, .pinned], laidTests := true, laidLooks := .later }
def XmlAttrsCardSaid : Prop := Claim7.holds Tryz.pinned (.plain (OpenSpec.ofChange xmlAttrsSpec)) xmlAttrsCard

/-- THE TIED CARD OF 'sentrylaw2.XmlLong'. -/
def xmlLongCard : Claim7 := { stood := { row := xmlLongRow, standIns := [], harness := (true, "e39ed48f252e8596a88e9d000a839d979c1fc7a4a0eec3b0521f350c679f98f0"), looks := true }, kinds := [], alts := [], laidByText := true, laidKinds := [.data, .data, .data, .data, .sentinel, .sentinel, .pinned], laidTests := true, laidLooks := .later }
def XmlLongCardSaid : Prop := Claim7.holds Tryz.pinned (.plain (OpenSpec.ofChange xmlLongSpec)) xmlLongCard

/-- THE TIED CARD OF 'sentrylaw2.XmlPrints'. -/
def xmlPrintsCard : Claim7 := { stood := { row := xmlPrintsRow, standIns := [], harness := (true, "e39ed48f252e8596a88e9d000a839d979c1fc7a4a0eec3b0521f350c679f98f0"), looks := true }, kinds := [], alts := [], laidByText := true, laidKinds := [.data, .data, .data, .data, .sentinel, .sentinel, .pinned], laidTests := true, laidLooks := .later }
def XmlPrintsCardSaid : Prop := Claim7.holds Tryz.pinned (.plain (OpenSpec.ofChange xmlPrintsSpec)) xmlPrintsCard

/-- THE SECOND FORM's CARD OF 'sentrylaw2.XmlBack'. -/
def xmlBackUptoCard : Claim7 := { stood := { row := xmlBackUptoRow, standIns := [], harness := (true, "e39ed48f252e8596a88e9d000a839d979c1fc7a4a0eec3b0521f350c679f98f0"), looks := true }, kinds := [], alts := [], laidByText := true, laidKinds := [.data, .data, .data, .data, .sentinel, .sentinel, .pinned], laidTests := true, laidLooks := .later }
def XmlBackUptoCardSaid : Prop := Claim7.holds Tryz.pinned (.plain (OpenSpec.upto xmlBackSpec)) xmlBackUptoCard

/-- THE SECOND FORM's CARD OF 'sentrylaw2.XmlCut'. -/
def xmlCutUptoCard : Claim7 := { stood := { row := xmlCutUptoRow, standIns := [], harness := (true, "e39ed48f252e8596a88e9d000a839d979c1fc7a4a0eec3b0521f350c679f98f0"), looks := true }, kinds := [], alts := [], laidByText := true, laidKinds := [.data, .data, .data, .data, .sentinel, .sentinel, .pinned], laidTests := true, laidLooks := .later }
def XmlCutUptoCardSaid : Prop := Claim7.holds Tryz.pinned (.plain (OpenSpec.upto xmlCutSpec)) xmlCutUptoCard

/-- THE SECOND FORM's CARD OF 'sentrylaw2.XmlDeep'. -/
def xmlDeepUptoCard : Claim7 := { stood := { row := xmlDeepUptoRow, standIns := [], harness := (true, "e39ed48f252e8596a88e9d000a839d979c1fc7a4a0eec3b0521f350c679f98f0"), looks := true }, kinds := [], alts := [], laidByText := true, laidKinds := [.data, .data, .data, .data, .sentinel, .sentinel, .pinned], laidTests := true, laidLooks := .later }
def XmlDeepUptoCardSaid : Prop := Claim7.holds Tryz.pinned (.plain (OpenSpec.upto xmlDeepSpec)) xmlDeepUptoCard

/-- THE SECOND FORM's CARD OF 'sentrylaw2.XmlBlanks'. -/
def xmlBlanksUptoCard : Claim7 := { stood := { row := xmlBlanksUptoRow, standIns := [], harness := (true, "e39ed48f252e8596a88e9d000a839d979c1fc7a4a0eec3b0521f350c679f98f0"), looks := true }, kinds := [], alts := [], laidByText := true, laidKinds := [.data, .data, .data, .data, .sentinel, .sentinel, .pinned], laidTests := true, laidLooks := .later }
def XmlBlanksUptoCardSaid : Prop := Claim7.holds Tryz.pinned (.plain (OpenSpec.upto xmlBlanksSpec)) xmlBlanksUptoCard

/-- THE SECOND FORM's CARD OF 'sentrylaw2.XmlValues'. -/
def xmlValuesUptoCard : Claim7 := { stood := { row := xmlValuesUptoRow, standIns := [], harness := (true, "e39ed48f252e8596a88e9d000a839d979c1fc7a4a0eec3b0521f350c679f98f0"), looks := true }, kinds := [], alts := [], laidByText := true, laidKinds := [.data, .data, .data, .data, .sentinel, .sentinel, .pinned], laidTests := true, laidLooks := .later }
def XmlValuesUptoCardSaid : Prop := Claim7.holds Tryz.pinned (.plain (OpenSpec.upto xmlValuesSpec)) xmlValuesUptoCard

/-- THE SECOND FORM's CARD OF 'sentrylaw2.XmlAttrs'. -/
def xmlAttrsUptoCard : Claim7 := { stood := { row := xmlAttrsUptoRow, standIns := [], harness := (true, "e39ed48f252e8596a88e9d000a839d979c1fc7a4a0eec3b0521f350c679f98f0"), looks := true }, kinds := [], alts := [], laidByText := true, laidKinds := [.data, .data, .data, .data, .sentinel, .sentinel, .pinned], laidTests := true, laidLooks := .later }
def XmlAttrsUptoCardSaid : Prop := Claim7.holds Tryz.pinned (.plain (OpenSpec.upto xmlAttrsSpec)) xmlAttrsUptoCard

/-- THE SECOND FORM's CARD OF 'sentrylaw2.XmlLong'. -/
def xmlLongUptoCard : Claim7 := { stood := { row := xmlLongUptoRow, standIns := [], harness := (true, "e39ed48f252e8596a88e9d000a839d979c1fc7a4a0eec3b0521f350c679f98f0"), looks := true }, kinds := [], alts := [], laidByText := true, laidKinds := [.data, .data, .data, .data, .sentinel, .sentinel, .pinned], laidTests := true, laidLooks := .later }
def XmlLongUptoCardSaid : Prop := Claim7.holds Tryz.pinned (.plain (OpenSpec.upto xmlLongSpec)) xmlLongUptoCard

/-- THE SECOND FORM's CARD OF 'sentrylaw2.XmlPrints'. -/
def xmlPrintsUptoCard : Claim7 := { stood := { row := xmlPrintsUptoRow, standIns := [], harness := (true, "e39ed48f252e8596a88e9d000a839d979c1fc7a4a0eec3b0521f350c679f98f0"), looks := true }, kinds := [], alts := [], laidByText := true, laidKinds := [.data, .data, .data, .data, .sentinel, .sentinel, .pinned], laidTests := true, laidLooks := .later }
def XmlPrintsUptoCardSaid : Prop := Claim7.holds Tryz.pinned (.plain (OpenSpec.upto xmlPrintsSpec)) xmlPrintsUptoCard
end Rows
end Go.Proofs.YtfgemjpoiconbaaGreatDoor
