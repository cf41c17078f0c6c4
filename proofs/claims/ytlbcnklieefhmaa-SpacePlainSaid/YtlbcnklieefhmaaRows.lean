/-
  NARROWER THAN 'FOR EVERY INPUT', by the rows' own cells (each row's printed sentence says how): SpaceBack: loops · SpacePlain: loops.
  DERIVED. THE GIVEN ROWS OF THIS SEAT. 7 by the template 'for every input the law returns true; each argument reads behind the call as it read before'; 0 by the template 'total and deterministic' (their statements: YtlbcnklieefhmaaTotals.lean).
  GIVEN WITH THE SEED: the statements are not yours to turn. If you find one false, say at which input.
  Laid BY PROGRAM, IN A SANDBOX (cutbox-rows.mjs): the forced cells as the released guide's own fill.sh prints them over the translation b3b7b84e312bf780… (all of the seat's roots in one cut). By AI agents, Wed Nov 11 2026. No macro, syntax, notation, axiom, sorry.
-/
import Derived.Test.YtlbcnklieefhmaaChecked
import GoSem.Claim
import GoSem.ClaimJoined
import GoSem.ClaimMapViews
import Derived.JoinedTies
import Derived.KernelRfl
namespace Go.Proofs.Ytlbcnklieefhmaa
/- THE CELL 'sum', in the pinned program and in every row, IS THE sha256 OF THE DUMP (.gsa) THAT YtlbcnklieefhmaaProg.lean LOADS. Nothing in Lean hashes anything: it is a label: what it is worth is what the hold of that sum in a sandbox is worth. -/
noncomputable def Try.pinned : Pinned := { name := "ytlbcnklieefhmaa", sum := "b3b7b84e312bf780c86f1b00eeeb7fdb41deb73b5b108b1d9ca9ba77b0a31116", checked := Try.checked }
namespace Rows
def none {H : Type} : Left H := { results := [], args := [] }

/-- 'sentrylaw3.SpacePrefix': WHATEVER THE INPUT: true; the input reads as it did. -/
def spacePrefixSpec : ChangeSpec := { name := "spacePrefix", fn := fun _ => fun
  | [d1, d2, d3] => { results := [.lit (.bool true)], args := [d1, d2, d3] }
  | _ => none }
def spacePrefixRow : OpenClaim := { program := "ytlbcnklieefhmaa", sum := "b3b7b84e312bf780c86f1b00eeeb7fdb41deb73b5b108b1d9ca9ba77b0a31116", func := "sentry/sentrylaw3.SpacePrefix", spec := "spacePrefix", inPlace := ["maps.clone", "internal/bytealg.IndexByteString", "internal/bytealg.IndexString"], recurses := true, named := ["internal/bytealg.MaxLen"], apart := false }
def SpacePrefixSaid : Prop := spacePrefixRow.holds Try.pinned (OpenSpec.ofChange spacePrefixSpec)

/-- ITS FALSE NEIGHBOUR: 'it returns false'. Refute it at one input. -/
def spacePrefixWrong : ChangeSpec := { name := "spacePrefix", fn := fun _ => fun
  | [d1, d2, d3] => { results := [.lit (.bool false)], args := [d1, d2, d3] }
  | _ => none }
def SpacePrefixWrongFalsely : Prop := spacePrefixRow.holds Try.pinned (OpenSpec.ofChange spacePrefixWrong)

/-- 'sentrylaw3.SpaceWrong': WHATEVER THE INPUT: true; the input reads as it did. -/
def spaceWrongSpec : ChangeSpec := { name := "spaceWrong", fn := fun _ => fun
  | [d1, d2] => { results := [.lit (.bool true)], args := [d1, d2] }
  | _ => none }
def spaceWrongRow : OpenClaim := { program := "ytlbcnklieefhmaa", sum := "b3b7b84e312bf780c86f1b00eeeb7fdb41deb73b5b108b1d9ca9ba77b0a31116", func := "sentry/sentrylaw3.SpaceWrong", spec := "spaceWrong", inPlace := ["maps.clone", "internal/bytealg.IndexByteString", "internal/bytealg.IndexString"], recurses := true, named := ["internal/bytealg.MaxLen"], apart := false }
def SpaceWrongSaid : Prop := spaceWrongRow.holds Try.pinned (OpenSpec.ofChange spaceWrongSpec)

/-- ITS FALSE NEIGHBOUR: 'it returns false'. Refute it at one input. -/
def spaceWrongWrong : ChangeSpec := { name := "spaceWrong", fn := fun _ => fun
  | [d1, d2] => { results := [.lit (.bool false)], args := [d1, d2] }
  | _ => none }
def SpaceWrongWrongFalsely : Prop := spaceWrongRow.holds Try.pinned (OpenSpec.ofChange spaceWrongWrong)

/-- 'sentrylaw3.SpaceWithin': WHATEVER THE INPUT: true; the input reads as it did. -/
def spaceWithinSpec : ChangeSpec := { name := "spaceWithin", fn := fun _ => fun
  | [d1, d2] => { results := [.lit (.bool true)], args := [d1, d2] }
  | _ => none }
def spaceWithinRow : OpenClaim := { program := "ytlbcnklieefhmaa", sum := "b3b7b84e312bf780c86f1b00eeeb7fdb41deb73b5b108b1d9ca9ba77b0a31116", func := "sentry/sentrylaw3.SpaceWithin", spec := "spaceWithin", inPlace := ["maps.clone", "internal/bytealg.IndexByteString", "internal/bytealg.IndexString"], recurses := true, named := ["internal/bytealg.MaxLen"], apart := false }
def SpaceWithinSaid : Prop := spaceWithinRow.holds Try.pinned (OpenSpec.ofChange spaceWithinSpec)

/-- ITS FALSE NEIGHBOUR: 'it returns false'. Refute it at one input. -/
def spaceWithinWrong : ChangeSpec := { name := "spaceWithin", fn := fun _ => fun
  | [d1, d2] => { results := [.lit (.bool false)], args := [d1, d2] }
  | _ => none }
def SpaceWithinWrongFalsely : Prop := spaceWithinRow.holds Try.pinned (OpenSpec.ofChange spaceWithinWrong)

/-- 'sentrylaw3.SpaceMixed': WHATEVER THE INPUT: true; the input reads as it did. -/
def spaceMixedSpec : ChangeSpec := { name := "spaceMixed", fn := fun _ => fun
  | [d1, d2, d3] => { results := [.lit (.bool true)], args := [d1, d2, d3] }
  | _ => none }
def spaceMixedRow : OpenClaim := { program := "ytlbcnklieefhmaa", sum := "b3b7b84e312bf780c86f1b00eeeb7fdb41deb73b5b108b1d9ca9ba77b0a31116", func := "sentry/sentrylaw3.SpaceMixed", spec := "spaceMixed", inPlace := ["maps.clone", "internal/bytealg.IndexByteString", "internal/bytealg.IndexString"], recurses := true, named := ["internal/bytealg.MaxLen"], apart := false }
def SpaceMixedSaid : Prop := spaceMixedRow.holds Try.pinned (OpenSpec.ofChange spaceMixedSpec)

/-- ITS FALSE NEIGHBOUR: 'it returns false'. Refute it at one input. -/
def spaceMixedWrong : ChangeSpec := { name := "spaceMixed", fn := fun _ => fun
  | [d1, d2, d3] => { results := [.lit (.bool false)], args := [d1, d2, d3] }
  | _ => none }
def SpaceMixedWrongFalsely : Prop := spaceMixedRow.holds Try.pinned (OpenSpec.ofChange spaceMixedWrong)

/-- 'sentrylaw3.SpaceAttrs': WHATEVER THE INPUT: true; the input reads as it did. -/
def spaceAttrsSpec : ChangeSpec := { name := "spaceAttrs", fn := fun _ => fun
  | [d1, d2] => { results := [.lit (.bool true)], args := [d1, d2] }
  | _ => none }
def spaceAttrsRow : OpenClaim := { program := "ytlbcnklieefhmaa", sum := "b3b7b84e312bf780c86f1b00eeeb7fdb41deb73b5b108b1d9ca9ba77b0a31116", func := "sentry/sentrylaw3.SpaceAttrs", spec := "spaceAttrs", inPlace := ["maps.clone", "internal/bytealg.IndexByteString", "internal/bytealg.IndexString"], recurses := true, named := ["internal/bytealg.MaxLen"], apart := false }
def SpaceAttrsSaid : Prop := spaceAttrsRow.holds Try.pinned (OpenSpec.ofChange spaceAttrsSpec)

/-- ITS FALSE NEIGHBOUR: 'it returns false'. Refute it at one input. -/
def spaceAttrsWrong : ChangeSpec := { name := "spaceAttrs", fn := fun _ => fun
  | [d1, d2] => { results := [.lit (.bool false)], args := [d1, d2] }
  | _ => none }
def SpaceAttrsWrongFalsely : Prop := spaceAttrsRow.holds Try.pinned (OpenSpec.ofChange spaceAttrsWrong)

/-- 'sentrylaw3.SpaceBack': WHATEVER THE INPUT: true; the input reads as it did. -/
def spaceBackSpec : ChangeSpec := { name := "spaceBack", fn := fun _ => fun
  | [d] => { results := [.lit (.bool true)], args := [d] }
  | _ => none }
def spaceBackRow : OpenClaim := { program := "ytlbcnklieefhmaa", sum := "b3b7b84e312bf780c86f1b00eeeb7fdb41deb73b5b108b1d9ca9ba77b0a31116", func := "sentry/sentrylaw3.SpaceBack", spec := "spaceBack", inPlace := ["maps.clone", "internal/bytealg.IndexByteString", "internal/bytealg.IndexString"], recurses := true, named := ["internal/bytealg.MaxLen"], loops := true, apart := false }
def SpaceBackSaid : Prop := spaceBackRow.holds Try.pinned (OpenSpec.ofChange spaceBackSpec)

/-- ITS FALSE NEIGHBOUR: 'it returns false'. Refute it at one input. -/
def spaceBackWrong : ChangeSpec := { name := "spaceBack", fn := fun _ => fun
  | [d] => { results := [.lit (.bool false)], args := [d] }
  | _ => none }
def SpaceBackWrongFalsely : Prop := spaceBackRow.holds Try.pinned (OpenSpec.ofChange spaceBackWrong)

/-- 'sentrylaw3.SpacePlain': WHATEVER THE INPUT: true; the input reads as it did. -/
def spacePlainSpec : ChangeSpec := { name := "spacePlain", fn := fun _ => fun
  | [d1, d2] => { results := [.lit (.bool true)], args := [d1, d2] }
  | _ => none }
def spacePlainRow : OpenClaim := { program := "ytlbcnklieefhmaa", sum := "b3b7b84e312bf780c86f1b00eeeb7fdb41deb73b5b108b1d9ca9ba77b0a31116", func := "sentry/sentrylaw3.SpacePlain", spec := "spacePlain", inPlace := ["maps.clone", "internal/bytealg.IndexByteString", "internal/bytealg.IndexString"], unfollowed := true, recurses := true, named := ["internal/bytealg.MaxLen"], loops := true, apart := false }
def SpacePlainSaid : Prop := spacePlainRow.holds Try.pinned (OpenSpec.ofChange spacePlainSpec)

/-- ITS FALSE NEIGHBOUR: 'it returns false'. Refute it at one input. -/
def spacePlainWrong : ChangeSpec := { name := "spacePlain", fn := fun _ => fun
  | [d1, d2] => { results := [.lit (.bool false)], args := [d1, d2] }
  | _ => none }
def SpacePlainWrongFalsely : Prop := spacePlainRow.holds Try.pinned (OpenSpec.ofChange spacePlainWrong)

/- THE SECOND FORM. 'bulk': how many values and letters a reading holds, each counted each time it is reached (what is shared counts as often as it is met; a slice's spare places count too). A statement '..UptoSaid' is the law's where the arguments, and the package variables that the reading takes, are together of bulk at most 1048576: NARROWER than '..Said'. Prove '..Said' where nothing that the law and all that it calls make is longer than what came in: it says more and counts as full. Else prove '..UptoSaid'. A law counts once. -/
mutual
def uptoBulk {H : Type} : DataW H → Nat
  | .lit (.string bytes) => bytes.length + 1
  | .lit _ => 1
  | .nil => 1
  | .ptr d => uptoBulk d + 1
  | .slice elems spare => uptoBulkAll elems + uptoBulkAll spare + 1
  | .agg parts => uptoBulkAll parts + 1
  | .iface _ d => uptoBulk d + 1
  | .map entries => uptoBulkEntries entries + 1
  | .held _ => 1
def uptoBulkAll {H : Type} : List (DataW H) → Nat
  | [] => 0
  | d :: r => uptoBulk d + uptoBulkAll r
def uptoBulkEntries {H : Type} : List (Lit × DataW H) → Nat
  | [] => 0
  | x :: r => uptoBulkEntry x + uptoBulkEntries r
def uptoBulkEntry {H : Type} : Lit × DataW H → Nat
  | (.string bytes, d) => bytes.length + uptoBulk d + 1
  | (_, d) => uptoBulk d + 1
 end
def uptoSmall : (H : Type) → List (DataW H) → Bool := fun _ ds => decide (uptoBulkAll ds ≤ 1048576)
def OpenSpec.upto (s : _root_.Go.ChangeSpec) : _root_.Go.OpenSpec := { _root_.Go.OpenSpec.ofChange s with cond := some uptoSmall }

/-- 'sentrylaw3.SpacePrefix', WHERE WHAT IT READS IS OF BULK AT MOST 1048576: true; the input reads as it did. -/
def spacePrefixUptoRow : OpenClaim := { program := "ytlbcnklieefhmaa", sum := "b3b7b84e312bf780c86f1b00eeeb7fdb41deb73b5b108b1d9ca9ba77b0a31116", func := "sentry/sentrylaw3.SpacePrefix", spec := "spacePrefix", inPlace := ["maps.clone", "internal/bytealg.IndexByteString", "internal/bytealg.IndexString"], recurses := true, named := ["internal/bytealg.MaxLen"], apart := false, narrowed := true }
def SpacePrefixUptoSaid : Prop := spacePrefixUptoRow.holds Try.pinned (OpenSpec.upto spacePrefixSpec)

/-- 'sentrylaw3.SpaceWrong', WHERE WHAT IT READS IS OF BULK AT MOST 1048576: true; the input reads as it did. -/
def spaceWrongUptoRow : OpenClaim := { program := "ytlbcnklieefhmaa", sum := "b3b7b84e312bf780c86f1b00eeeb7fdb41deb73b5b108b1d9ca9ba77b0a31116", func := "sentry/sentrylaw3.SpaceWrong", spec := "spaceWrong", inPlace := ["maps.clone", "internal/bytealg.IndexByteString", "internal/bytealg.IndexString"], recurses := true, named := ["internal/bytealg.MaxLen"], apart := false, narrowed := true }
def SpaceWrongUptoSaid : Prop := spaceWrongUptoRow.holds Try.pinned (OpenSpec.upto spaceWrongSpec)

/-- 'sentrylaw3.SpaceWithin', WHERE WHAT IT READS IS OF BULK AT MOST 1048576: true; the input reads as it did. -/
def spaceWithinUptoRow : OpenClaim := { program := "ytlbcnklieefhmaa", sum := "b3b7b84e312bf780c86f1b00eeeb7fdb41deb73b5b108b1d9ca9ba77b0a31116", func := "sentry/sentrylaw3.SpaceWithin", spec := "spaceWithin", inPlace := ["maps.clone", "internal/bytealg.IndexByteString", "internal/bytealg.IndexString"], recurses := true, named := ["internal/bytealg.MaxLen"], apart := false, narrowed := true }
def SpaceWithinUptoSaid : Prop := spaceWithinUptoRow.holds Try.pinned (OpenSpec.upto spaceWithinSpec)

/-- 'sentrylaw3.SpaceMixed', WHERE WHAT IT READS IS OF BULK AT MOST 1048576: true; the input reads as it did. -/
def spaceMixedUptoRow : OpenClaim := { program := "ytlbcnklieefhmaa", sum := "b3b7b84e312bf780c86f1b00eeeb7fdb41deb73b5b108b1d9ca9ba77b0a31116", func := "sentry/sentrylaw3.SpaceMixed", spec := "spaceMixed", inPlace := ["maps.clone", "internal/bytealg.IndexByteString", "internal/bytealg.IndexString"], recurses := true, named := ["internal/bytealg.MaxLen"], apart := false, narrowed := true }
def SpaceMixedUptoSaid : Prop := spaceMixedUptoRow.holds Try.pinned (OpenSpec.upto spaceMixedSpec)

/-- 'sentrylaw3.SpaceAttrs', WHERE WHAT IT READS IS OF BULK AT MOST 1048576: true; the input reads as it did. -/
def spaceAttrsUptoRow : OpenClaim := { program := "ytlbcnklieefhmaa", sum := "b3b7b84e312bf780c86f1b00eeeb7fdb41deb73b5b108b1d9ca9ba77b0a31116", func := "sentry/sentrylaw3.SpaceAttrs", spec := "spaceAttrs", inPlace := ["maps.clone", "internal/bytealg.IndexByteString", "internal/bytealg.IndexString"], recurses := true, named := ["internal/bytealg.MaxLen"], apart := false, narrowed := true }
def SpaceAttrsUptoSaid : Prop := spaceAttrsUptoRow.holds Try.pinned (OpenSpec.upto spaceAttrsSpec)

/-- 'sentrylaw3.SpaceBack', WHERE WHAT IT READS IS OF BULK AT MOST 1048576: true; the input reads as it did. -/
def spaceBackUptoRow : OpenClaim := { program := "ytlbcnklieefhmaa", sum := "b3b7b84e312bf780c86f1b00eeeb7fdb41deb73b5b108b1d9ca9ba77b0a31116", func := "sentry/sentrylaw3.SpaceBack", spec := "spaceBack", inPlace := ["maps.clone", "internal/bytealg.IndexByteString", "internal/bytealg.IndexString"], recurses := true, named := ["internal/bytealg.MaxLen"], loops := true, apart := false, narrowed := true }
def SpaceBackUptoSaid : Prop := spaceBackUptoRow.holds Try.pinned (OpenSpec.upto spaceBackSpec)

/-- 'sentrylaw3.SpacePlain', WHERE WHAT IT READS IS OF BULK AT MOST 1048576: true; the input reads as it did. -/
def spacePlainUptoRow : OpenClaim := { program := "ytlbcnklieefhmaa", sum := "b3b7b84e312bf780c86f1b00eeeb7fdb41deb73b5b108b1d9ca9ba77b0a31116", func := "sentry/sentrylaw3.SpacePlain", spec := "spacePlain", inPlace := ["maps.clone", "internal/bytealg.IndexByteString", "internal/bytealg.IndexString"], unfollowed := true, recurses := true, named := ["internal/bytealg.MaxLen"], loops := true, apart := false, narrowed := true }
def SpacePlainUptoSaid : Prop := spacePlainUptoRow.holds Try.pinned (OpenSpec.upto spacePlainSpec)

end Rows
end Go.Proofs.Ytlbcnklieefhmaa
