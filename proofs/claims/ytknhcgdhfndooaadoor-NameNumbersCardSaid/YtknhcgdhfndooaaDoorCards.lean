/-
  DERIVED. GIVEN WITH THE SEED: THE CARDS: each row of YtknhcgdhfndooaaDoorRows.lean that lists a variable, with what it lists TIED to the program's text (the seventh form; the later family's looks); each row that meets fmt, with fmt's text TOLD by the authors' own Lean function (tested against real Go, not proved from fmt's source: count such statements apart). THE CARD IS WHAT COUNTS. Prove the row's statement (the work); the ties are given (YtknhcgdhfndooaaDoorTie.lean); close each card by the builder's one call (the guide's Derived/Test/ToyasCard.lean, 'card_holds'). Laid BY PROGRAM, IN A SANDBOX (cutbox-door.mjs). By AI agents, Wed Nov 11 2026. No macro, syntax, notation, axiom, sorry.
-/
import Derived.Test.YtknhcgdhfndooaaDoorRows
import GoSem.ClaimSeven
namespace Go.Proofs.YtknhcgdhfndooaaDoor
namespace Rows

/-- THE TIED CARD OF 'sentrylaw1.NameChars'. -/
def nameCharsCard : Claim7 := { stood := { row := nameCharsRow, standIns := [], harness := (true, "4154ff967bf927237e9821db17bd5faceb3eabb5a0a1b47a26a1c61d959a788a"), looks := true }, kinds := [], alts := [], laidByText := true, laidKinds := [.data, .data, .data, .data, .sentinel, .sentinel, .pinned], laidTests := true, laidLooks := .later }
def NameCharsCardSaid : Prop := Claim7.holds Tryd.pinned (.plain (OpenSpec.ofChange nameCharsSpec)) nameCharsCard

/-- THE TIED CARD OF 'sentrylaw1.NameBack'. -/
def nameBackCard : Claim7 := { stood := { row := nameBackRow, standIns := [], harness := (true, "4154ff967bf927237e9821db17bd5faceb3eabb5a0a1b47a26a1c61d959a788a"), looks := true }, kinds := [], alts := [], laidByText := true, laidKinds := [.data, .data, .data, .data, .sentinel, .sentinel, .pinned], laidTests := true, laidLooks := .later }
def NameBackCardSaid : Prop := Claim7.holds Tryd.pinned (.plain (OpenSpec.ofChange nameBackSpec)) nameBackCard

/-- THE TIED CARD OF 'sentrylaw1.NameNumbers'. -/
def nameNumbersCard : Claim7 := { stood := { row := nameNumbersRow, standIns := [], harness := (true, "4154ff967bf927237e9821db17bd5faceb3eabb5a0a1b47a26a1c61d959a788a"), looks := true }, kinds := [], alts := [], laidByText := true, laidKinds := [.data, .data, .data, .data, .sentinel, .sentinel, .pinned], laidTests := true, laidLooks := .later }
def NameNumbersCardSaid : Prop := Claim7.holds Tryd.pinned (.plain (OpenSpec.ofChange nameNumbersSpec)) nameNumbersCard

/-- THE TIED CARD OF 'sentrylaw1.NameWrong'. -/
def nameWrongCard : Claim7 := { stood := { row := nameWrongRow, standIns := [], harness := (true, "4154ff967bf927237e9821db17bd5faceb3eabb5a0a1b47a26a1c61d959a788a"), looks := true }, kinds := [], alts := [], laidByText := true, laidKinds := [.data, .data, .data, .data, .sentinel, .sentinel, .pinned], laidTests := true, laidLooks := .later }
def NameWrongCardSaid : Prop := Claim7.holds Tryd.pinned (.plain (OpenSpec.ofChange nameWrongSpec)) nameWrongCard

/-- THE TIED CARD OF 'sentrylaw1.NameLong'. -/
def nameLongCard : Claim7 := { stood := { row := nameLongRow, standIns := [], harness := (true, "4154ff967bf927237e9821db17bd5faceb3eabb5a0a1b47a26a1c61d959a788a"), looks := true }, kinds := [], alts := [], laidByText := true, laidKinds := [.data, .data, .data, .data, .sentinel, .sentinel, .pinned], laidTests := true, laidLooks := .later }
def NameLongCardSaid : Prop := Claim7.holds Tryd.pinned (.plain (OpenSpec.ofChange nameLongSpec)) nameLongCard

/-- THE TIED CARD OF 'sentrylaw1.NameJoin'. -/
def nameJoinCard : Claim7 := { stood := { row := nameJoinRow, standIns := [], harness := (true, "4154ff967bf927237e9821db17bd5faceb3eabb5a0a1b47a26a1c61d959a788a"), looks := true }, kinds := [], alts := [], laidByText := true, laidKinds := [.data, .data, .data, .data, .sentinel, .sentinel, .pinned], laidTests := true, laidLooks := .later }
def NameJoinCardSaid : Prop := Claim7.holds Tryd.pinned (.plain (OpenSpec.ofChange nameJoinSpec)) nameJoinCard

/-- THE TIED CARD OF 'sentrylaw1.NameSigns'. -/
def nameSignsCard : Claim7 := { stood := { row := nameSignsRow, standIns := [], harness := (true, "4154ff967bf927237e9821db17bd5faceb3eabb5a0a1b47a26a1c61d959a788a"), looks := true }, kinds := [], alts := [], laidByText := true, laidKinds := [.data, .data, .data, .data, .sentinel, .sentinel, .pinned], laidTests := true, laidLooks := .later }
def NameSignsCardSaid : Prop := Claim7.holds Tryd.pinned (.plain (OpenSpec.ofChange nameSignsSpec)) nameSignsCard

/-- THE TIED CARD OF 'sentrylaw1.NameTells'. -/
def nameTellsCard : Claim7 := { stood := { row := nameTellsRow, standIns := [], harness := (true, "4154ff967bf927237e9821db17bd5faceb3eabb5a0a1b47a26a1c61d959a788a"), looks := true }, kinds := [], alts := [], laidByText := true, laidKinds := [.data, .data, .data, .data, .sentinel, .sentinel, .pinned], laidTests := true, laidLooks := .later }
def NameTellsCardSaid : Prop := Claim7.holds Tryd.pinned (.plain (OpenSpec.ofChange nameTellsSpec)) nameTellsCard

/-- THE TIED CARD OF 'sentrylaw1.NameParts'. -/
def namePartsCard : Claim7 := { stood := { row := namePartsRow, standIns := [], harness := (true, "4154ff967bf927237e9821db17bd5faceb3eabb5a0a1b47a26a1c61d959a788a"), looks := true }, kinds := [], alts := [], laidByText := true, laidKinds := [.data, .data, .data, .data, .sentinel, .sentinel, .pinned], laidTests := true, laidLooks := .later }
def NamePartsCardSaid : Prop := Claim7.holds Tryd.pinned (.plain (OpenSpec.ofChange namePartsSpec)) namePartsCard

/-- THE SECOND FORM's CARD OF 'sentrylaw1.NameChars'. -/
def nameCharsUptoCard : Claim7 := { stood := { row := nameCharsUptoRow, standIns := [], harness := (true, "4154ff967bf927237e9821db17bd5faceb3eabb5a0a1b47a26a1c61d959a788a"), looks := true }, kinds := [], alts := [], laidByText := true, laidKinds := [.data, .data, .data, .data, .sentinel, .sentinel, .pinned], laidTests := true, laidLooks := .later }
def NameCharsUptoCardSaid : Prop := Claim7.holds Tryd.pinned (.plain (OpenSpec.upto nameCharsSpec)) nameCharsUptoCard

/-- THE SECOND FORM's CARD OF 'sentrylaw1.NameBack'. -/
def nameBackUptoCard : Claim7 := { stood := { row := nameBackUptoRow, standIns := [], harness := (true, "4154ff967bf927237e9821db17bd5faceb3eabb5a0a1b47a26a1c61d959a788a"), looks := true }, kinds := [], alts := [], laidByText := true, laidKinds := [.data, .data, .data, .data, .sentinel, .sentinel, .pinned], laidTests := true, laidLooks := .later }
def NameBackUptoCardSaid : Prop := Claim7.holds Tryd.pinned (.plain (OpenSpec.upto nameBackSpec)) nameBackUptoCard

/-- THE SECOND FORM's CARD OF 'sentrylaw1.NameNumbers'. -/
def nameNumbersUptoCard : Claim7 := { stood := { row := nameNumbersUptoRow, standIns := [], harness := (true, "4154ff967bf927237e9821db17bd5faceb3eabb5a0a1b47a26a1c61d959a788a"), looks := true }, kinds := [], alts := [], laidByText := true, laidKinds := [.data, .data, .data, .data, .sentinel, .sentinel, .pinned], laidTests := true, laidLooks := .later }
def NameNumbersUptoCardSaid : Prop := Claim7.holds Tryd.pinned (.plain (OpenSpec.upto nameNumbersSpec)) nameNumbersUptoCard

/-- THE SECOND FORM's CARD OF 'sentrylaw1.NameWrong'. -/
def nameWrongUptoCard : Claim7 := { stood := { row := nameWrongUptoRow, standIns := [], harness := (true, "4154ff967bf927237e9821db17bd5faceb3eabb5a0a1b47a26a1c61d959a788a"), looks := true }, kinds := [], alts := [], laidByText := true, laidKinds := [.data, .data, .data, .data, .sentinel, .sentinel, .pinned], laidTests := true, laidLooks := .later }
def NameWrongUptoCardSaid : Prop := Claim7.holds Tryd.pinned (.plain (OpenSpec.upto nameWrongSpec)) nameWrongUptoCard

/-- THE SECOND FORM's CARD OF 'sentrylaw1.NameLong'. -/
def nameLongUptoCard : Claim7 := { stood := { row := nameLongUptoRow, standIns := [], harness := (true, "4154ff967bf927237e9821db17bd5faceb3eabb5a0a1b47a26a1c61d959a788a"), looks := true }, kinds := [], alts := [], laidByText := true, laidKinds := [.data, .data, .data, .data, .sentinel, .sentinel, .pinned], laidTests := true, laidLooks := .later }
def NameLongUptoCardSaid : Prop := Claim7.holds Tryd.pinned (.plain (OpenSpec.upto nameLongSpec)) nameLongUptoCard

/-- THE SECOND FORM's CARD OF 'sentrylaw1.NameJoin'. -/
def nameJoinUptoCard : Claim7 := { stood := { row := nameJoinUptoRow, standIns := [], harness := (true, "4154ff967bf927237e9821db17bd5faceb3eabb5a0a1b47a26a1c61d959a788a"), looks := true }, kinds := [], alts := [], laidByText := true, laidKinds := [.data, .data, .data, .data, .sentinel, .sentinel, .pinned], laidTests := true, laidLooks := .later }
def NameJoinUptoCardSaid : Prop := Claim7.holds Tryd.pinned (.plain (OpenSpec.upto nameJoinSpec)) nameJoinUptoCard

/-- THE SECOND FORM's CARD OF 'sentrylaw1.NameSigns'. -/
def nameSignsUptoCard : Claim7 := { stood := { row := nameSignsUptoRow, standIns := [], harness := (true, "4154ff967bf927237e9821db17bd5faceb3eabb5a0a1b47a26a1c61d959a788a"), looks := true }, kinds := [], alts := [], laidByText := true, laidKinds := [.data, .data, .data, .data, .sentinel, .sentinel, .pinned], laidTests := true, laidLooks := .later }
def NameSignsUptoCardSaid : Prop := Claim7.holds Tryd.pinned (.plain (OpenSpec.upto nameSignsSpec)) nameSignsUptoCard

/-- THE SECOND FORM's CARD OF 'sentrylaw1.NameTells'. -/
def nameTellsUptoCard : Claim7 := { stood := { row := nameTellsUptoRow, standIns := [], harness := (true, "4154ff967bf927237e9821db17bd5faceb3eabb5a0a1b47a26a1c61d959a788a"), looks := true }, kinds := [], alts := [], laidByText := true, laidKinds := [.data, .data, .data, .data, .sentinel, .sentinel, .pinned], laidTests := true, laidLooks := .later }
def NameTellsUptoCardSaid : Prop := Claim7.holds Tryd.pinned (.plain (OpenSpec.upto nameTellsSpec)) nameTellsUptoCard

/-- THE SECOND FORM's CARD OF 'sentrylaw1.NameParts'. -/
def namePartsUptoCard : Claim7 := { stood := { row := namePartsUptoRow, standIns := [], harness := (true, "4154ff967bf927237e9821db17bd5faceb3eabb5a0a1b47a26a1c61d959a788a"), looks := true }, kinds := [], alts := [], laidByText := true, laidKinds := [.data, .data, .data, .data, .sentinel, .sentinel, .pinned], laidTests := true, laidLooks := .later }
def NamePartsUptoCardSaid : Prop := Claim7.holds Tryd.pinned (.plain (OpenSpec.upto namePartsSpec)) namePartsUptoCard
end Rows
end Go.Proofs.YtknhcgdhfndooaaDoor
