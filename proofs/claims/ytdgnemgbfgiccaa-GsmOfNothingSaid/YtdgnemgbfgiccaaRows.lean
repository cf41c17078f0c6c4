/-
  No cell of these rows narrows 'for every input' (looked for: loops, veiled, ifaces, maps, wideKeys, modest, calm, conditions, laid).
  DERIVED. THE GIVEN ROWS OF THIS SEAT. 5 by the template 'for every input the law returns true; each argument reads behind the call as it read before'; 0 by the template 'total and deterministic' (their statements: YtdgnemgbfgiccaaTotals.lean).
  GIVEN WITH THE SEED: the statements are not yours to turn. If you find one false, say at which input.
  Laid BY PROGRAM, IN A SANDBOX (cutbox-rows.mjs): the forced cells as the released guide's own fill.sh prints them over the translation 5d1593f20c3d6672… (all of the seat's roots in one cut). By AI agents, Wed Nov 11 2026. No macro, syntax, notation, axiom, sorry.
-/
import Derived.Test.YtdgnemgbfgiccaaChecked
import GoSem.Claim
import GoSem.ClaimJoined
import GoSem.ClaimMapViews
import Derived.JoinedTies
import Derived.KernelRfl
namespace Go.Proofs.Ytdgnemgbfgiccaa
/- THE CELL 'sum', in the pinned program and in every row, IS THE sha256 OF THE DUMP (.gsa) THAT YtdgnemgbfgiccaaProg.lean LOADS. Nothing in Lean hashes anything: it is a label: what it is worth is what the hold of that sum in a sandbox is worth. -/
noncomputable def Try.pinned : Pinned := { name := "ytdgnemgbfgiccaa", sum := "5d1593f20c3d66726cbf503686af55c6d4c72031d064caf0451028af4fc21cae", checked := Try.checked }
namespace Rows
def none {H : Type} : Left H := { results := [], args := [] }

/-- 'sentrylaw11.GsmCounts': WHATEVER THE INPUT: true; the input reads as it did. -/
def gsmCountsSpec : ChangeSpec := { name := "gsmCounts", fn := fun _ => fun
  | [d1, d2] => { results := [.lit (.bool true)], args := [d1, d2] }
  | _ => none }
def gsmCountsRow : OpenClaim := { program := "ytdgnemgbfgiccaa", sum := "5d1593f20c3d66726cbf503686af55c6d4c72031d064caf0451028af4fc21cae", func := "sentry/sentrylaw11.GsmCounts", spec := "gsmCounts", inPlace := ["maps.clone"], unfollowed := true, recurses := true, apart := false }
def GsmCountsSaid : Prop := gsmCountsRow.holds Try.pinned (OpenSpec.ofChange gsmCountsSpec)

/-- ITS FALSE NEIGHBOUR: 'it returns false'. Refute it at one input. -/
def gsmCountsWrong : ChangeSpec := { name := "gsmCounts", fn := fun _ => fun
  | [d1, d2] => { results := [.lit (.bool false)], args := [d1, d2] }
  | _ => none }
def GsmCountsWrongFalsely : Prop := gsmCountsRow.holds Try.pinned (OpenSpec.ofChange gsmCountsWrong)

/-- 'sentrylaw11.GsmOnce': WHATEVER THE INPUT: true; the input reads as it did. -/
def gsmOnceSpec : ChangeSpec := { name := "gsmOnce", fn := fun _ => fun
  | [d1, d2] => { results := [.lit (.bool true)], args := [d1, d2] }
  | _ => none }
def gsmOnceRow : OpenClaim := { program := "ytdgnemgbfgiccaa", sum := "5d1593f20c3d66726cbf503686af55c6d4c72031d064caf0451028af4fc21cae", func := "sentry/sentrylaw11.GsmOnce", spec := "gsmOnce", inPlace := ["maps.clone"], unfollowed := true, recurses := true, apart := false }
def GsmOnceSaid : Prop := gsmOnceRow.holds Try.pinned (OpenSpec.ofChange gsmOnceSpec)

/-- ITS FALSE NEIGHBOUR: 'it returns false'. Refute it at one input. -/
def gsmOnceWrong : ChangeSpec := { name := "gsmOnce", fn := fun _ => fun
  | [d1, d2] => { results := [.lit (.bool false)], args := [d1, d2] }
  | _ => none }
def GsmOnceWrongFalsely : Prop := gsmOnceRow.holds Try.pinned (OpenSpec.ofChange gsmOnceWrong)

/-- 'sentrylaw11.GsmUsers': WHATEVER THE INPUT: true; the input reads as it did. -/
def gsmUsersSpec : ChangeSpec := { name := "gsmUsers", fn := fun _ => fun
  | [d1, d2] => { results := [.lit (.bool true)], args := [d1, d2] }
  | _ => none }
def gsmUsersRow : OpenClaim := { program := "ytdgnemgbfgiccaa", sum := "5d1593f20c3d66726cbf503686af55c6d4c72031d064caf0451028af4fc21cae", func := "sentry/sentrylaw11.GsmUsers", spec := "gsmUsers", inPlace := ["maps.clone"], unfollowed := true, recurses := true, apart := false }
def GsmUsersSaid : Prop := gsmUsersRow.holds Try.pinned (OpenSpec.ofChange gsmUsersSpec)

/-- ITS FALSE NEIGHBOUR: 'it returns false'. Refute it at one input. -/
def gsmUsersWrong : ChangeSpec := { name := "gsmUsers", fn := fun _ => fun
  | [d1, d2] => { results := [.lit (.bool false)], args := [d1, d2] }
  | _ => none }
def GsmUsersWrongFalsely : Prop := gsmUsersRow.holds Try.pinned (OpenSpec.ofChange gsmUsersWrong)

/-- 'sentrylaw11.GsmConds': WHATEVER THE INPUT: true; the input reads as it did. -/
def gsmCondsSpec : ChangeSpec := { name := "gsmConds", fn := fun _ => fun
  | [d1, d2] => { results := [.lit (.bool true)], args := [d1, d2] }
  | _ => none }
def gsmCondsRow : OpenClaim := { program := "ytdgnemgbfgiccaa", sum := "5d1593f20c3d66726cbf503686af55c6d4c72031d064caf0451028af4fc21cae", func := "sentry/sentrylaw11.GsmConds", spec := "gsmConds", inPlace := ["maps.clone"], unfollowed := true, recurses := true, apart := false }
def GsmCondsSaid : Prop := gsmCondsRow.holds Try.pinned (OpenSpec.ofChange gsmCondsSpec)

/-- ITS FALSE NEIGHBOUR: 'it returns false'. Refute it at one input. -/
def gsmCondsWrong : ChangeSpec := { name := "gsmConds", fn := fun _ => fun
  | [d1, d2] => { results := [.lit (.bool false)], args := [d1, d2] }
  | _ => none }
def GsmCondsWrongFalsely : Prop := gsmCondsRow.holds Try.pinned (OpenSpec.ofChange gsmCondsWrong)

/-- 'sentrylaw11.GsmOfNothing': WHATEVER THE INPUT: true; the input reads as it did. -/
def gsmOfNothingSpec : ChangeSpec := { name := "gsmOfNothing", fn := fun _ => fun
  | [d1, d2] => { results := [.lit (.bool true)], args := [d1, d2] }
  | _ => none }
def gsmOfNothingRow : OpenClaim := { program := "ytdgnemgbfgiccaa", sum := "5d1593f20c3d66726cbf503686af55c6d4c72031d064caf0451028af4fc21cae", func := "sentry/sentrylaw11.GsmOfNothing", spec := "gsmOfNothing", inPlace := ["maps.clone"], unfollowed := true, recurses := true, apart := false }
def GsmOfNothingSaid : Prop := gsmOfNothingRow.holds Try.pinned (OpenSpec.ofChange gsmOfNothingSpec)

/-- ITS FALSE NEIGHBOUR: 'it returns false'. Refute it at one input. -/
def gsmOfNothingWrong : ChangeSpec := { name := "gsmOfNothing", fn := fun _ => fun
  | [d1, d2] => { results := [.lit (.bool false)], args := [d1, d2] }
  | _ => none }
def GsmOfNothingWrongFalsely : Prop := gsmOfNothingRow.holds Try.pinned (OpenSpec.ofChange gsmOfNothingWrong)

/- THE SECOND FORM. 'bulk': how many values and letters a reading holds, each counted each time it is reached (what is shared counts as often as it is met; a slice's spare places count too). A statement '..UptoSaid' is the law's where the arguments, and the package variables that the reading takes, are together of bulk at most 1048576: NARROWER than '..Said'. Prove '..Said' where nothing that the law and all that it calls make is longer than what came in: it says more and counts as full. Else prove '..UptoSaid'. A law counts once. -/
mutual
def uptoBulk {H : Type} : DataW H → Nat
  | .lit (.string bytes) => bytes.length + 1
  | .lit _ => 1
  | .nil => 1
  | .ptr d => uptoBulk d + 1
  | .slice elems spare => uptoBulkAll elems + uptoBulkAll spare + 1
  | .agg parts => uptoBulkAll parts + 1
  | .iface _ d => uptoBulk d + 1
  | .map entries => uptoBulkEntries entries + 1
  | .held _ => 1
def uptoBulkAll {H : Type} : List (DataW H) → Nat
  | [] => 0
  | d :: r => uptoBulk d + uptoBulkAll r
def uptoBulkEntries {H : Type} : List (Lit × DataW H) → Nat
  | [] => 0
  | x :: r => uptoBulkEntry x + uptoBulkEntries r
def uptoBulkEntry {H : Type} : Lit × DataW H → Nat
  | (.string bytes, d) => bytes.length + uptoBulk d + 1
  | (_, d) => uptoBulk d + 1
 end
def uptoSmall : (H : Type) → List (DataW H) → Bool := fun _ ds => decide (uptoBulkAll ds ≤ 1048576)
def OpenSpec.upto (s : _root_.Go.ChangeSpec) : _root_.Go.OpenSpec := { _root_.Go.OpenSpec.ofChange s with cond := some uptoSmall }

/-- 'sentrylaw11.GsmCounts', WHERE WHAT IT READS IS OF BULK AT MOST 1048576: true; the input reads as it did. -/
def gsmCountsUptoRow : OpenClaim := { program := "ytdgnemgbfgiccaa", sum := "5d1593f20c3d66726cbf503686af55c6d4c72031d064caf0451028af4fc21cae", func := "sentry/sentrylaw11.GsmCounts", spec := "gsmCounts", inPlace := ["maps.clone"], unfollowed := true, recurses := true, apart := false, narrowed := true }
def GsmCountsUptoSaid : Prop := gsmCountsUptoRow.holds Try.pinned (OpenSpec.upto gsmCountsSpec)

/-- 'sentrylaw11.GsmOnce', WHERE WHAT IT READS IS OF BULK AT MOST 1048576: true; the input reads as it did. -/
def gsmOnceUptoRow : OpenClaim := { program := "ytdgnemgbfgiccaa", sum := "5d1593f20c3d66726cbf503686af55c6d4c72031d064caf0451028af4fc21cae", func := "sentry/sentrylaw11.GsmOnce", spec := "gsmOnce", inPlace := ["maps.clone"], unfollowed := true, recurses := true, apart := false, narrowed := true }
def GsmOnceUptoSaid : Prop := gsmOnceUptoRow.holds Try.pinned (OpenSpec.upto gsmOnceSpec)

/-- 'sentrylaw11.GsmUsers', WHERE WHAT IT READS IS OF BULK AT MOST 1048576: true; the input reads as it did. -/
def gsmUsersUptoRow : OpenClaim := { program := "ytdgnemgbfgiccaa", sum := "5d1593f20c3d66726cbf503686af55c6d4c72031d064caf0451028af4fc21cae", func := "sentry/sentrylaw11.GsmUsers", spec := "gsmUsers", inPlace := ["maps.clone"], unfollowed := true, recurses := true, apart := false, narrowed := true }
def GsmUsersUptoSaid : Prop := gsmUsersUptoRow.holds Try.pinned (OpenSpec.upto gsmUsersSpec)

/-- 'sentrylaw11.GsmConds', WHERE WHAT IT READS IS OF BULK AT MOST 1048576: true; the input reads as it did. -/
def gsmCondsUptoRow : OpenClaim := { program := "ytdgnemgbfgiccaa", sum := "5d1593f20c3d66726cbf503686af55c6d4c72031d064caf0451028af4fc21cae", func := "sentry/sentrylaw11.GsmConds", spec := "gsmConds", inPlace := ["maps.clone"], unfollowed := true, recurses := true, apart := false, narrowed := true }
def GsmCondsUptoSaid : Prop := gsmCondsUptoRow.holds Try.pinned (OpenSpec.upto gsmCondsSpec)

/-- 'sentrylaw11.GsmOfNothing', WHERE WHAT IT READS IS OF BULK AT MOST 1048576: true; the input reads as it did. -/
def gsmOfNothingUptoRow : OpenClaim := { program := "ytdgnemgbfgiccaa", sum := "5d1593f20c3d66726cbf503686af55c6d4c72031d064caf0451028af4fc21cae", func := "sentry/sentrylaw11.GsmOfNothing", spec := "gsmOfNothing", inPlace := ["maps.clone"], unfollowed := true, recurses := true, apart := false, narrowed := true }
def GsmOfNothingUptoSaid : Prop := gsmOfNothingUptoRow.holds Try.pinned (OpenSpec.upto gsmOfNothingSpec)

end Rows
end Go.Proofs.Ytdgnemgbfgiccaa
