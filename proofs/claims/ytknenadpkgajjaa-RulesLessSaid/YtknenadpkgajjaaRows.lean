/-
  No cell of these rows narrows 'for every input' (looked for: loops, veiled, ifaces, maps, wideKeys, modest, calm, conditions, laid).
  DERIVED. THE GIVEN ROWS OF THIS SEAT. 5 by the template 'for every input the law returns true; each argument reads behind the call as it read before'; 0 by the template 'total and deterministic' (their statements: YtknenadpkgajjaaTotals.lean).
  GIVEN WITH THE SEED: the statements are not yours to turn. If you find one false, say at which input.
  Laid BY PROGRAM, IN A SANDBOX (cutbox-rows.mjs): the forced cells as the released guide's own fill.sh prints them over the translation 1bd006228ed2bf92… (all of the seat's roots in one cut). By AI agents, Wed Nov 11 2026. No macro, syntax, notation, axiom, sorry.
-/
import Derived.Test.YtknenadpkgajjaaChecked
import GoSem.Claim
import GoSem.ClaimJoined
import GoSem.ClaimMapViews
import Derived.JoinedTies
import Derived.KernelRfl
namespace Go.Proofs.Ytknenadpkgajjaa
/- THE CELL 'sum', in the pinned program and in every row, IS THE sha256 OF THE DUMP (.gsa) THAT YtknenadpkgajjaaProg.lean LOADS. Nothing in Lean hashes anything: it is a label: what it is worth is what the hold of that sum in a sandbox is worth. -/
noncomputable def Try.pinned : Pinned := { name := "ytknenadpkgajjaa", sum := "1bd006228ed2bf92a3f0128589af4f90b6b0068912721b350e6cec1787c715e4", checked := Try.checked }
namespace Rows
def none {H : Type} : Left H := { results := [], args := [] }

/-- 'sentrylaw10.RulesOdd': WHATEVER THE INPUT: true; the input reads as it did. -/
def rulesOddSpec : ChangeSpec := { name := "rulesOdd", fn := fun _ => fun
  | [d] => { results := [.lit (.bool true)], args := [d] }
  | _ => none }
def rulesOddRow : OpenClaim := { program := "ytknenadpkgajjaa", sum := "1bd006228ed2bf92a3f0128589af4f90b6b0068912721b350e6cec1787c715e4", func := "sentry/sentrylaw10.RulesOdd", spec := "rulesOdd", unfollowed := true, recurses := true, apart := false }
def RulesOddSaid : Prop := rulesOddRow.holds Try.pinned (OpenSpec.ofChange rulesOddSpec)

/-- ITS FALSE NEIGHBOUR: 'it returns false'. Refute it at one input. -/
def rulesOddWrong : ChangeSpec := { name := "rulesOdd", fn := fun _ => fun
  | [d] => { results := [.lit (.bool false)], args := [d] }
  | _ => none }
def RulesOddWrongFalsely : Prop := rulesOddRow.holds Try.pinned (OpenSpec.ofChange rulesOddWrong)

/-- 'sentrylaw10.RulesLess': WHATEVER THE INPUT: true; the input reads as it did. -/
def rulesLessSpec : ChangeSpec := { name := "rulesLess", fn := fun _ => fun
  | [d] => { results := [.lit (.bool true)], args := [d] }
  | _ => none }
def rulesLessRow : OpenClaim := { program := "ytknenadpkgajjaa", sum := "1bd006228ed2bf92a3f0128589af4f90b6b0068912721b350e6cec1787c715e4", func := "sentry/sentrylaw10.RulesLess", spec := "rulesLess", unfollowed := true, recurses := true, apart := false }
def RulesLessSaid : Prop := rulesLessRow.holds Try.pinned (OpenSpec.ofChange rulesLessSpec)

/-- ITS FALSE NEIGHBOUR: 'it returns false'. Refute it at one input. -/
def rulesLessWrong : ChangeSpec := { name := "rulesLess", fn := fun _ => fun
  | [d] => { results := [.lit (.bool false)], args := [d] }
  | _ => none }
def RulesLessWrongFalsely : Prop := rulesLessRow.holds Try.pinned (OpenSpec.ofChange rulesLessWrong)

/-- 'sentrylaw10.RulesFirst': WHATEVER THE INPUT: true; the input reads as it did. -/
def rulesFirstSpec : ChangeSpec := { name := "rulesFirst", fn := fun _ => fun
  | [d1, d2] => { results := [.lit (.bool true)], args := [d1, d2] }
  | _ => none }
def rulesFirstRow : OpenClaim := { program := "ytknenadpkgajjaa", sum := "1bd006228ed2bf92a3f0128589af4f90b6b0068912721b350e6cec1787c715e4", func := "sentry/sentrylaw10.RulesFirst", spec := "rulesFirst", unfollowed := true, recurses := true, apart := false }
def RulesFirstSaid : Prop := rulesFirstRow.holds Try.pinned (OpenSpec.ofChange rulesFirstSpec)

/-- ITS FALSE NEIGHBOUR: 'it returns false'. Refute it at one input. -/
def rulesFirstWrong : ChangeSpec := { name := "rulesFirst", fn := fun _ => fun
  | [d1, d2] => { results := [.lit (.bool false)], args := [d1, d2] }
  | _ => none }
def RulesFirstWrongFalsely : Prop := rulesFirstRow.holds Try.pinned (OpenSpec.ofChange rulesFirstWrong)

/-- 'sentrylaw10.RulesTells': WHATEVER THE INPUT: true; the input reads as it did. -/
def rulesTellsSpec : ChangeSpec := { name := "rulesTells", fn := fun _ => fun
  | [d1, d2, d3] => { results := [.lit (.bool true)], args := [d1, d2, d3] }
  | _ => none }
def rulesTellsRow : OpenClaim := { program := "ytknenadpkgajjaa", sum := "1bd006228ed2bf92a3f0128589af4f90b6b0068912721b350e6cec1787c715e4", func := "sentry/sentrylaw10.RulesTells", spec := "rulesTells", unfollowed := true, recurses := true, apart := false }
def RulesTellsSaid : Prop := rulesTellsRow.holds Try.pinned (OpenSpec.ofChange rulesTellsSpec)

/-- ITS FALSE NEIGHBOUR: 'it returns false'. Refute it at one input. -/
def rulesTellsWrong : ChangeSpec := { name := "rulesTells", fn := fun _ => fun
  | [d1, d2, d3] => { results := [.lit (.bool false)], args := [d1, d2, d3] }
  | _ => none }
def RulesTellsWrongFalsely : Prop := rulesTellsRow.holds Try.pinned (OpenSpec.ofChange rulesTellsWrong)

/-- 'sentrylaw10.RulesSame': WHATEVER THE INPUT: true; the input reads as it did. -/
def rulesSameSpec : ChangeSpec := { name := "rulesSame", fn := fun _ => fun
  | [d1, d2] => { results := [.lit (.bool true)], args := [d1, d2] }
  | _ => none }
def rulesSameRow : OpenClaim := { program := "ytknenadpkgajjaa", sum := "1bd006228ed2bf92a3f0128589af4f90b6b0068912721b350e6cec1787c715e4", func := "sentry/sentrylaw10.RulesSame", spec := "rulesSame", unfollowed := true, recurses := true, apart := false }
def RulesSameSaid : Prop := rulesSameRow.holds Try.pinned (OpenSpec.ofChange rulesSameSpec)

/-- ITS FALSE NEIGHBOUR: 'it returns false'. Refute it at one input. -/
def rulesSameWrong : ChangeSpec := { name := "rulesSame", fn := fun _ => fun
  | [d1, d2] => { results := [.lit (.bool false)], args := [d1, d2] }
  | _ => none }
def RulesSameWrongFalsely : Prop := rulesSameRow.holds Try.pinned (OpenSpec.ofChange rulesSameWrong)

/- THE SECOND FORM. 'bulk': how many values and letters a reading holds, each counted each time it is reached (what is shared counts as often as it is met; a slice's spare places count too). A statement '..UptoSaid' is the law's where the arguments, and the package variables that the reading takes, are together of bulk at most 1048576: NARROWER than '..Said'. Prove '..Said' where nothing that the law and all that it calls make is longer than what came in: it says more and counts as full. Else prove '..UptoSaid'. A law counts once. -/
mutual
def uptoBulk {H : Type} : DataW H → Nat
  | .lit (.string bytes) => bytes.length + 1
  | .lit _ => 1
  | .nil => 1
  | .ptr d => uptoBulk d + 1
  | .slice elems spare => uptoBulkAll elems + uptoBulkAll spare + 1
  | .agg parts => uptoBulkAll parts + 1
  | .iface _ d => uptoBulk d + 1
  | .map entries => uptoBulkEntries entries + 1
  | .held _ => 1
def uptoBulkAll {H : Type} : List (DataW H) → Nat
  | [] => 0
  | d :: r => uptoBulk d + uptoBulkAll r
def uptoBulkEntries {H : Type} : List (Lit × DataW H) → Nat
  | [] => 0
  | x :: r => uptoBulkEntry x + uptoBulkEntries r
def uptoBulkEntry {H : Type} : Lit × DataW H → Nat
  | (.string bytes, d) => bytes.length + uptoBulk d + 1
  | (_, d) => uptoBulk d + 1
 end
def uptoSmall : (H : Type) → List (DataW H) → Bool := fun _ ds => decide (uptoBulkAll ds ≤ 1048576)
def OpenSpec.upto (s : _root_.Go.ChangeSpec) : _root_.Go.OpenSpec := { _root_.Go.OpenSpec.ofChange s with cond := some uptoSmall }

/-- 'sentrylaw10.RulesOdd', WHERE WHAT IT READS IS OF BULK AT MOST 1048576: true; the input reads as it did. -/
def rulesOddUptoRow : OpenClaim := { program := "ytknenadpkgajjaa", sum := "1bd006228ed2bf92a3f0128589af4f90b6b0068912721b350e6cec1787c715e4", func := "sentry/sentrylaw10.RulesOdd", spec := "rulesOdd", unfollowed := true, recurses := true, apart := false, narrowed := true }
def RulesOddUptoSaid : Prop := rulesOddUptoRow.holds Try.pinned (OpenSpec.upto rulesOddSpec)

/-- 'sentrylaw10.RulesLess', WHERE WHAT IT READS IS OF BULK AT MOST 1048576: true; the input reads as it did. -/
def rulesLessUptoRow : OpenClaim := { program := "ytknenadpkgajjaa", sum := "1bd006228ed2bf92a3f0128589af4f90b6b0068912721b350e6cec1787c715e4", func := "sentry/sentrylaw10.RulesLess", spec := "rulesLess", unfollowed := true, recurses := true, apart := false, narrowed := true }
def RulesLessUptoSaid : Prop := rulesLessUptoRow.holds Try.pinned (OpenSpec.upto rulesLessSpec)

/-- 'sentrylaw10.RulesFirst', WHERE WHAT IT READS IS OF BULK AT MOST 1048576: true; the input reads as it did. -/
def rulesFirstUptoRow : OpenClaim := { program := "ytknenadpkgajjaa", sum := "1bd006228ed2bf92a3f0128589af4f90b6b0068912721b350e6cec1787c715e4", func := "sentry/sentrylaw10.RulesFirst", spec := "rulesFirst", unfollowed := true, recurses := true, apart := false, narrowed := true }
def RulesFirstUptoSaid : Prop := rulesFirstUptoRow.holds Try.pinned (OpenSpec.upto rulesFirstSpec)

/-- 'sentrylaw10.RulesTells', WHERE WHAT IT READS IS OF BULK AT MOST 1048576: true; the input reads as it did. -/
def rulesTellsUptoRow : OpenClaim := { program := "ytknenadpkgajjaa", sum := "1bd006228ed2bf92a3f0128589af4f90b6b0068912721b350e6cec1787c715e4", func := "sentry/sentrylaw10.RulesTells", spec := "rulesTells", unfollowed := true, recurses := true, apart := false, narrowed := true }
def RulesTellsUptoSaid : Prop := rulesTellsUptoRow.holds Try.pinned (OpenSpec.upto rulesTellsSpec)

/-- 'sentrylaw10.RulesSame', WHERE WHAT IT READS IS OF BULK AT MOST 1048576: true; the input reads as it did. -/
def rulesSameUptoRow : OpenClaim := { program := "ytknenadpkgajjaa", sum := "1bd006228ed2bf92a3f0128589af4f90b6b0068912721b350e6cec1787c715e4", func := "sentry/sentrylaw10.RulesSame", spec := "rulesSame", unfollowed := true, recurses := true, apart := false, narrowed := true }
def RulesSameUptoSaid : Prop := rulesSameUptoRow.holds Try.pinned (OpenSpec.upto rulesSameSpec)

end Rows
end Go.Proofs.Ytknenadpkgajjaa
