/- The library's functions that are known are what they are; what is known of the package's variables comes from what is laid. -/
import Derived.Test.YtfgemjpoiconbaaGreatDoorGXmS
import Derived.Test.YtfgemjpoiconbaaGreatDoorGEvT
import Derived.Test.YtfgemjpoiconbaaGreatDoorShelf
import Derived.Test.YtfgemjpoiconbaaGreatDoorRows
import Derived.Ground.NamesProg
import Derived.WalkKit
import Derived.WalkMore
import Derived.Shelf.Lay
import Derived.Shelf.Unicode.ValidAny
import Derived.Lib.LaidIn
import Derived.Lib.LaidU8T
import Derived.MakeChecks
import Derived.PinnedBridge
import Derived.Shelf.Vars
import Derived.Stop.LaidErr
namespace Go.Proofs
open Go.RowKit Go.Shelf Go.Lib
shelf_lay Lays.n196 Nm 196 at Tryz as Tryz.laysValid
end Go.Proofs
namespace Go.Proofs.YtfgemjpoiconbaaGreatDoor.GEv
open Go
open Go.RowKit (Below)
theorem valid_ok (args : List Value) (v : Value) (hp : validP args = some v) : args.all flat2 = true ∧ flat2 v = true ∧ ∀ w, WOK w → GN ≤ w.heap.size → Calls Tryz.prog 35 args.toArray w fun e w' => e = .returned v ∧ Below w.heap.size w w' := by
  unfold validP at hp
  split at hp
  · rename_i s
    split at hp
    · rename_i hb
      cases hp
      refine ⟨rfl, rfl, fun w hw _ => ?_⟩
      have hs : s.size ≤ 4000000000 := Nat.le_of_ble_eq_true hb
      exact Any.utf8_ValidString Tryz.laysValid s w (by omega) hw.1
    · cases hp
  · cases hp
theorem repl_ok (args : List Value) (v : Value) (hp : replP args = some v) : args.all flat2 = true ∧ flat2 v = true ∧ ∀ w, WOK w → GN ≤ w.heap.size → Calls Tryz.prog 42 args.toArray w fun e w' => e = .returned v ∧ Below w.heap.size w w' := by
  unfold replP at hp
  split at hp
  · rename_i s old new
    split at hp
    · rename_i h1 h2 h3
      cases hp
      refine ⟨rfl, rfl, fun w hw _ => ?_⟩
      obtain ⟨m, hm⟩ := hw.2.1
      have b1 : 1 ≤ old.size := Nat.le_of_ble_eq_true h1
      have b2 : s.size ≤ 4000000000 := Nat.le_of_ble_eq_true h2
      have b3 : new.size ≤ 6 := Nat.le_of_ble_eq_true h3
      have b4 := Lib.countB_le old b1 s.size s (Nat.le_refl _)
      have b5 : Lib.countB s old * new.size ≤ 4000000000 * 6 := Nat.mul_le_mul (by omega) b3
      exact Tryz.strings_ReplaceAll s old new m w (by omega) hm b1 (by omega)
    · cases hp
  · cases hp
theorem clone_prim (args : List Value) (v : Value) (hp : cloneP args = some v) : args.all flat2 = true ∧ flat2 v = true ∧ ∀ w, WOK w → GN ≤ w.heap.size → Calls Tryz.prog 127 args.toArray w fun e w' => e = .returned v ∧ Below w.heap.size w w' := by
  unfold cloneP at hp
  split at hp
  · rename_i s
    split at hp
    · rename_i hb
      cases hp
      refine ⟨rfl, rfl, fun w hw _ => ?_⟩
      have hs : s.size ≤ 4000000000 := Nat.le_of_ble_eq_true hb
      exact Tryz.stringslite_Clone s w (by omega)
    · cases hp
  · cases hp
theorem emok : EM.OK := ⟨(fun f p args v h hp => by
  cases h with
  | head =>
    cases args with
    | nil => cases hp; exact ⟨rfl, rfl, fun w hw hs => known_calls hw hs⟩
    | cons _ _ => cases hp
  | tail _ h => cases h with
    | head => exact valid_ok args v hp
    | tail _ h => cases h with
      | head => exact repl_ok args v hp
      | tail _ h => cases h with
        | head => exact clone_prim args v hp
        | tail _ h => cases h), eok.mixed, eok.names, eok.clone, eok.same, eok.room⟩
theorem errRow : ∀ u, (Tryz.prog).typeName? 3 u = some "*errors.errorString" → u = 137 := by
  intro u h
  have star : "*" ++ "errors.errorString" = "*errors.errorString" := by decide
  exact typeName_ptr_named (nm := "errors.errorString") (by rw [star]; kernel_rfl) (by kernel_rfl) (by decide) u (by rw [star]; exact h)
theorem errOne : ((fieldsOf (Tryz.prog.underlying 139))[0]?).isSome = true := by kernel_rfl
noncomputable def errFld : Field := ((fieldsOf (Tryz.prog.underlying 139))[0]?).get errOne
theorem errIU2 : ∃ ms, Tryz.prog.underlying 49 = some (.interface ms) := errIU
theorem wok_of {W : World} (hL : laidMetH Tryz.prog Rows.xmlPrintsRow.laid W) (h : W.ShapedOpen Tryz.prog) : WOK W := by
  rw [MakeChecks.laidMetH_plain _ _ _ (by kernel_rfl)] at hL
  have h3 := Lib.laidMet.reads hL (n := "unicode/utf8.first") (d := Lib.firstData) (by rw [← Pinned.utf8First_eq]; exact .tail _ (.tail _ (.tail _ (.tail _ (.tail _ (.tail _ (.head _)))))))
  have h4 := Lib.laidMet.reads hL (n := "unicode/utf8.acceptRanges") (d := Lib.acceptData) (by rw [show Lib.acceptData = Rows.laid_unicode_utf8_acceptRanges by kernel_rfl]; exact .tail _ (.tail _ (.tail _ (.head _))))
  obtain ⟨ms, hms⟩ := errIU2
  have h5 := Go.laid_sentinel (n := "strconv.ErrSyntax") (nm := "*errors.errorString") (g := 3) (ti := 49) (tp := 137) (te := 139) (ts := 9) (f := errFld) hL.tail.tail.tail.tail.tail (by kernel_rfl) (by kernel_rfl) hms errRow (by kernel_rfl) (by kernel_rfl) (by kernel_rfl) (by kernel_rfl) (by kernel_rfl) (by kernel_rfl) (by kernel_rfl)
  obtain ⟨a5, s5, h5, _⟩ := h5
  have hg5 : Tryz.prog.globalNamed "strconv.ErrSyntax" = some 3 := by kernel_rfl
  refine ⟨utf8Tabs_of_readsT (U8Types.of196 Tryz.laysValid) ⟨by kernel_rfl, by kernel_rfl, by kernel_rfl, by kernel_rfl, by kernel_rfl, by kernel_rfl, by kernel_rfl⟩ h3 h4, ?_, ⟨_, World.var?_cell hg5 h5 0, rfl⟩⟩
  · exact cell_of_shapedOpen_int (t := 3) (zero := #[.int .i64 0]) h (Nat.le_of_ble_eq_true (by kernel_rfl)) (by kernel_rfl) rfl (by kernel_rfl) (by kernel_rfl) (by kernel_rfl)
theorem begin7 : (((begin Tryz.prog (fun _ _ => 0) default).world.heap[7]?).bind Obj.row?).isSome = true := by kernel_rfl
theorem size_of {W : World} (h : W.ShapedOpen Tryz.prog) : GN ≤ W.heap.size := by
  obtain ⟨⟨zero, t⟩, h0⟩ := Option.isSome_iff_exists.1 begin7
  obtain ⟨cs, hh, _, _⟩ := h.1 7 zero t (Nat.le_of_ble_eq_true (by kernel_rfl)) h0
  rcases Nat.lt_or_ge 7 W.heap.size with q | q
  · exact q
  · rw [Array.getElem?_eq_none q] at hh; cases hh
end Go.Proofs.YtfgemjpoiconbaaGreatDoor.GEv
