/- The library's functions that are known by what they hand back: 'utf8.ValidString', 'strings.ReplaceAll'. -/
import Derived.Test.YtknhcgdhfndooaaDoorGSyC
import Derived.Lib.Replace
import Derived.Shelf.Unicode.DecodeSlow
import Derived.Lib.ValidLaws
import Derived.KernelRfl
import Derived.Test.YtknhcgdhfndooaaDoorChecked
namespace Go.Proofs.YtknhcgdhfndooaaDoor.GEv
open Go
def validP : Prim
  | [.string s] => match Nat.ble s.size 4000000000 with
    | true => some (.bool (Lib.validD s.data.toList))
    | false => none
  | _ => none
def replP : Prim
  | [.string s, .string old, .string new] => match Nat.ble 1 old.size, Nat.ble s.size 4000000000, Nat.ble new.size 6 with
    | true, true, true => some (.string ⟨(Lib.replaceAll s.data.toList old.data.toList new.data.toList).toArray⟩)
    | _, _, _ => none
  | _ => none
/-- 'stringslite.Clone' hands back what it is given. -/
def cloneP : Prim
  | [.string s] => match Nat.ble s.size 4000000000 with
    | true => some (.string s)
    | false => none
  | _ => none
noncomputable def EM : Env := ⟨Tryd.prog, none, some 54, some 70, [(14, always (.bool true)), (27, validP), (28, replP), (79, cloneP)]⟩
end Go.Proofs.YtknhcgdhfndooaaDoor.GEv
