/-
  No cell of these rows narrows 'for every input' (looked for: loops, veiled, ifaces, maps, wideKeys, modest, calm, conditions, laid).
  DERIVED. THE GIVEN ROWS OF THIS SEAT. 5 by the template 'for every input the law returns true; each argument reads behind the call as it read before'; 0 by the template 'total and deterministic' (their statements: YtdgnemgbfgiccaaGreatTotals.lean).
  GIVEN WITH THE SEED: the statements are not yours to turn. If you find one false, say at which input.
  Laid BY PROGRAM, IN A SANDBOX (cutbox-rows.mjs): the forced cells as the released guide's own fill.sh prints them over the translation cb589a8ee926dbf7… (all of the seat's roots in one cut). By AI agents, Wed Nov 11 2026. No macro, syntax, notation, axiom, sorry.
-/
import Derived.Test.YtdgnemgbfgiccaaGreatChecked
import GoSem.Claim
import GoSem.ClaimJoined
import GoSem.ClaimMapViews
import Derived.JoinedTies
import Derived.KernelRfl
namespace Go.Proofs.YtdgnemgbfgiccaaGreat
/- THE CELL 'sum', in the pinned program and in every row, IS THE sha256 OF THE DUMP (.gsa) THAT YtdgnemgbfgiccaaGreatProg.lean LOADS. Nothing in Lean hashes anything: it is a label: what it is worth is what the hold of that sum in a sandbox is worth. -/
noncomputable def Tryz.pinned : Pinned := { name := "ytdgnemgbfgiccaagreat", sum := "cb589a8ee926dbf73796958fcce299ccab47b15f844d100e20b8a02123ec9fbc", checked := Tryz.checked }
namespace Rows
def none {H : Type} : Left H := { results := [], args := [] }

/-- 'sentrylaw11.GsmBrief': WHATEVER THE INPUT: true; the input reads as it did. -/
def gsmBriefSpec : ChangeSpec := { name := "gsmBrief", fn := fun _ => fun
  | [d1, d2] => { results := [.lit (.bool true)], args := [d1, d2] }
  | _ => none }
def gsmBriefRow : OpenClaim := { program := "ytdgnemgbfgiccaagreat", sum := "cb589a8ee926dbf73796958fcce299ccab47b15f844d100e20b8a02123ec9fbc", func := "sentry/sentrylaw11.GsmBrief", spec := "gsmBrief", inPlace := ["maps.clone"], unfollowed := true, recurses := true, apart := false }
def GsmBriefSaid : Prop := gsmBriefRow.holds Tryz.pinned (OpenSpec.ofChange gsmBriefSpec)

/-- ITS FALSE NEIGHBOUR: 'it returns false'. Refute it at one input. -/
def gsmBriefWrong : ChangeSpec := { name := "gsmBrief", fn := fun _ => fun
  | [d1, d2] => { results := [.lit (.bool false)], args := [d1, d2] }
  | _ => none }
def GsmBriefWrongFalsely : Prop := gsmBriefRow.holds Tryz.pinned (OpenSpec.ofChange gsmBriefWrong)

/-- 'sentrylaw11.GsmPlays': WHATEVER THE INPUT: true; the input reads as it did. -/
def gsmPlaysSpec : ChangeSpec := { name := "gsmPlays", fn := fun _ => fun
  | [d1, d2] => { results := [.lit (.bool true)], args := [d1, d2] }
  | _ => none }
def gsmPlaysRow : OpenClaim := { program := "ytdgnemgbfgiccaagreat", sum := "cb589a8ee926dbf73796958fcce299ccab47b15f844d100e20b8a02123ec9fbc", func := "sentry/sentrylaw11.GsmPlays", spec := "gsmPlays", inPlace := ["maps.clone"], unfollowed := true, recurses := true, apart := false }
def GsmPlaysSaid : Prop := gsmPlaysRow.holds Tryz.pinned (OpenSpec.ofChange gsmPlaysSpec)

/-- ITS FALSE NEIGHBOUR: 'it returns false'. Refute it at one input. -/
def gsmPlaysWrong : ChangeSpec := { name := "gsmPlays", fn := fun _ => fun
  | [d1, d2] => { results := [.lit (.bool false)], args := [d1, d2] }
  | _ => none }
def GsmPlaysWrongFalsely : Prop := gsmPlaysRow.holds Tryz.pinned (OpenSpec.ofChange gsmPlaysWrong)

/-- 'sentrylaw11.GsmErrs': WHATEVER THE INPUT: true; the input reads as it did. -/
def gsmErrsSpec : ChangeSpec := { name := "gsmErrs", fn := fun _ => fun
  | [d1, d2, d3] => { results := [.lit (.bool true)], args := [d1, d2, d3] }
  | _ => none }
def gsmErrsRow : OpenClaim := { program := "ytdgnemgbfgiccaagreat", sum := "cb589a8ee926dbf73796958fcce299ccab47b15f844d100e20b8a02123ec9fbc", func := "sentry/sentrylaw11.GsmErrs", spec := "gsmErrs", inPlace := ["maps.clone"], unfollowed := true, recurses := true, apart := false }
def GsmErrsSaid : Prop := gsmErrsRow.holds Tryz.pinned (OpenSpec.ofChange gsmErrsSpec)

/-- ITS FALSE NEIGHBOUR: 'it returns false'. Refute it at one input. -/
def gsmErrsWrong : ChangeSpec := { name := "gsmErrs", fn := fun _ => fun
  | [d1, d2, d3] => { results := [.lit (.bool false)], args := [d1, d2, d3] }
  | _ => none }
def GsmErrsWrongFalsely : Prop := gsmErrsRow.holds Tryz.pinned (OpenSpec.ofChange gsmErrsWrong)

/-- 'sentrylaw11.GsmFixed': WHATEVER THE INPUT: true; the input reads as it did. -/
def gsmFixedSpec : ChangeSpec := { name := "gsmFixed", fn := fun _ => fun
  | [d1, d2] => { results := [.lit (.bool true)], args := [d1, d2] }
  | _ => none }
def gsmFixedRow : OpenClaim := { program := "ytdgnemgbfgiccaagreat", sum := "cb589a8ee926dbf73796958fcce299ccab47b15f844d100e20b8a02123ec9fbc", func := "sentry/sentrylaw11.GsmFixed", spec := "gsmFixed", inPlace := ["maps.clone"], unfollowed := true, recurses := true, apart := false }
def GsmFixedSaid : Prop := gsmFixedRow.holds Tryz.pinned (OpenSpec.ofChange gsmFixedSpec)

/-- ITS FALSE NEIGHBOUR: 'it returns false'. Refute it at one input. -/
def gsmFixedWrong : ChangeSpec := { name := "gsmFixed", fn := fun _ => fun
  | [d1, d2] => { results := [.lit (.bool false)], args := [d1, d2] }
  | _ => none }
def GsmFixedWrongFalsely : Prop := gsmFixedRow.holds Tryz.pinned (OpenSpec.ofChange gsmFixedWrong)

/-- 'sentrylaw11.GsmEnds': WHATEVER THE INPUT: true; the input reads as it did. -/
def gsmEndsSpec : ChangeSpec := { name := "gsmEnds", fn := fun _ => fun
  | [d] => { results := [.lit (.bool true)], args := [d] }
  | _ => none }
def gsmEndsRow : OpenClaim := { program := "ytdgnemgbfgiccaagreat", sum := "cb589a8ee926dbf73796958fcce299ccab47b15f844d100e20b8a02123ec9fbc", func := "sentry/sentrylaw11.GsmEnds", spec := "gsmEnds", inPlace := ["maps.clone"], unfollowed := true, recurses := true, apart := false }
def GsmEndsSaid : Prop := gsmEndsRow.holds Tryz.pinned (OpenSpec.ofChange gsmEndsSpec)

/-- ITS FALSE NEIGHBOUR: 'it returns false'. Refute it at one input. -/
def gsmEndsWrong : ChangeSpec := { name := "gsmEnds", fn := fun _ => fun
  | [d] => { results := [.lit (.bool false)], args := [d] }
  | _ => none }
def GsmEndsWrongFalsely : Prop := gsmEndsRow.holds Tryz.pinned (OpenSpec.ofChange gsmEndsWrong)

/- THE SECOND FORM. 'bulk': how many values and letters a reading holds, each counted each time it is reached (what is shared counts as often as it is met; a slice's spare places count too). A statement '..UptoSaid' is the law's where the arguments, and the package variables that the reading takes, are together of bulk at most 1048576: NARROWER than '..Said'. Prove '..Said' where nothing that the law and all that it calls make is longer than what came in: it says more and counts as full. Else prove '..UptoSaid'. A law counts once. -/
mutual
def uptoBulk {H : Type} : DataW H → Nat
  | .lit (.string bytes) => bytes.length + 1
  | .lit _ => 1
  | .nil => 1
  | .ptr d => uptoBulk d + 1
  | .slice elems spare => uptoBulkAll elems + uptoBulkAll spare + 1
  | .agg parts => uptoBulkAll parts + 1
  | .iface _ d => uptoBulk d + 1
  | .map entries => uptoBulkEntries entries + 1
  | .held _ => 1
def uptoBulkAll {H : Type} : List (DataW H) → Nat
  | [] => 0
  | d :: r => uptoBulk d + uptoBulkAll r
def uptoBulkEntries {H : Type} : List (Lit × DataW H) → Nat
  | [] => 0
  | x :: r => uptoBulkEntry x + uptoBulkEntries r
def uptoBulkEntry {H : Type} : Lit × DataW H → Nat
  | (.string bytes, d) => bytes.length + uptoBulk d + 1
  | (_, d) => uptoBulk d + 1
 end
def uptoSmall : (H : Type) → List (DataW H) → Bool := fun _ ds => decide (uptoBulkAll ds ≤ 1048576)
def OpenSpec.upto (s : _root_.Go.ChangeSpec) : _root_.Go.OpenSpec := { _root_.Go.OpenSpec.ofChange s with cond := some uptoSmall }

/-- 'sentrylaw11.GsmBrief', WHERE WHAT IT READS IS OF BULK AT MOST 1048576: true; the input reads as it did. -/
def gsmBriefUptoRow : OpenClaim := { program := "ytdgnemgbfgiccaagreat", sum := "cb589a8ee926dbf73796958fcce299ccab47b15f844d100e20b8a02123ec9fbc", func := "sentry/sentrylaw11.GsmBrief", spec := "gsmBrief", inPlace := ["maps.clone"], unfollowed := true, recurses := true, apart := false, narrowed := true }
def GsmBriefUptoSaid : Prop := gsmBriefUptoRow.holds Tryz.pinned (OpenSpec.upto gsmBriefSpec)

/-- 'sentrylaw11.GsmPlays', WHERE WHAT IT READS IS OF BULK AT MOST 1048576: true; the input reads as it did. -/
def gsmPlaysUptoRow : OpenClaim := { program := "ytdgnemgbfgiccaagreat", sum := "cb589a8ee926dbf73796958fcce299ccab47b15f844d100e20b8a02123ec9fbc", func := "sentry/sentrylaw11.GsmPlays", spec := "gsmPlays", inPlace := ["maps.clone"], unfollowed := true, recurses := true, apart := false, narrowed := true }
def GsmPlaysUptoSaid : Prop := gsmPlaysUptoRow.holds Tryz.pinned (OpenSpec.upto gsmPlaysSpec)

/-- 'sentrylaw11.GsmErrs', WHERE WHAT IT READS IS OF BULK AT MOST 1048576: true; the input reads as it did. -/
def gsmErrsUptoRow : OpenClaim := { program := "ytdgnemgbfgiccaagreat", sum := "cb589a8ee926dbf73796958fcce299ccab47b15f844d100e20b8a02123ec9fbc", func := "sentry/sentrylaw11.GsmErrs", spec := "gsmErrs", inPlace := ["maps.clone"], unfollowed := true, recurses := true, apart := false, narrowed := true }
def GsmErrsUptoSaid : Prop := gsmErrsUptoRow.holds Tryz.pinned (OpenSpec.upto gsmErrsSpec)

/-- 'sentrylaw11.GsmFixed', WHERE WHAT IT READS IS OF BULK AT MOST 1048576: true; the input reads as it did. -/
def gsmFixedUptoRow : OpenClaim := { program := "ytdgnemgbfgiccaagreat", sum := "cb589a8ee926dbf73796958fcce299ccab47b15f844d100e20b8a02123ec9fbc", func := "sentry/sentrylaw11.GsmFixed", spec := "gsmFixed", inPlace := ["maps.clone"], unfollowed := true, recurses := true, apart := false, narrowed := true }
def GsmFixedUptoSaid : Prop := gsmFixedUptoRow.holds Tryz.pinned (OpenSpec.upto gsmFixedSpec)

/-- 'sentrylaw11.GsmEnds', WHERE WHAT IT READS IS OF BULK AT MOST 1048576: true; the input reads as it did. -/
def gsmEndsUptoRow : OpenClaim := { program := "ytdgnemgbfgiccaagreat", sum := "cb589a8ee926dbf73796958fcce299ccab47b15f844d100e20b8a02123ec9fbc", func := "sentry/sentrylaw11.GsmEnds", spec := "gsmEnds", inPlace := ["maps.clone"], unfollowed := true, recurses := true, apart := false, narrowed := true }
def GsmEndsUptoSaid : Prop := gsmEndsUptoRow.holds Tryz.pinned (OpenSpec.upto gsmEndsSpec)

end Rows
end Go.Proofs.YtdgnemgbfgiccaaGreat
