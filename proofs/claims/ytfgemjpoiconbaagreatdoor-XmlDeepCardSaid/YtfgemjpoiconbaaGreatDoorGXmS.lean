import Derived.Test.YtfgemjpoiconbaaGreatDoorGXmO
import Derived.RowKit
import Derived.WalkKit
import Derived.ProofKit
import Derived.SizedLaws
import Derived.Test.YtfgemjpoiconbaaGreatDoorRows
import Derived.Ground.NamesProg
import Derived.WalkMore
import Derived.Lib.LaidIn
import Derived.MakeChecks
import Derived.Shelf.Vars
import Derived.Stop.LaidErr
import Derived.Test.YtfgemjpoiconbaaGreatDoorShelf
import Derived.Shelf.Strings.SlTrimAscii
/- Elements that came in as data, as rows of the run's memory. -/
namespace Go.Proofs.YtfgemjpoiconbaaGreatDoor.GEv
open Go
open Go.RowKit
set_option linter.unusedSimpArgs false
set_option linter.unusedVariables false
section
variable {P : Program} {H : Type} {enc : TypeId × Value → H} {W : World} {sp : Nat → Bool}
end
end Go.Proofs.YtfgemjpoiconbaaGreatDoor.GEv

/- Attributes and elements that came in as data. -/
namespace Go.Proofs.YtfgemjpoiconbaaGreatDoor.GEv
open Go
open Go.RowKit
set_option linter.unusedSimpArgs false
set_option linter.unusedVariables false
theorem elemFs : ∃ f1 f2 f3 f4 : Field, Tryz.prog.underlying 25 = some (.struct #[f1, f2, f3, f4]) ∧ f1.type = 9 ∧ f2.type = 22 ∧ f3.type = 23 ∧ f4.type = 3 ∧ f1.offset = 0 ∧ f2.offset = 1 ∧ f3.offset = 2 ∧ f4.offset = 3 := by
  have h1 : ((fieldsOf (Tryz.prog.underlying 25))[0]?).isSome = true := by kernel_rfl
  have h2 : ((fieldsOf (Tryz.prog.underlying 25))[1]?).isSome = true := by kernel_rfl
  have h3 : ((fieldsOf (Tryz.prog.underlying 25))[2]?).isSome = true := by kernel_rfl
  have h4 : ((fieldsOf (Tryz.prog.underlying 25))[3]?).isSome = true := by kernel_rfl
  exact ⟨_, _, _, _, (by kernel_rfl : Tryz.prog.underlying 25 = some (.struct #[((fieldsOf (Tryz.prog.underlying 25))[0]?).get h1, ((fieldsOf (Tryz.prog.underlying 25))[1]?).get h2, ((fieldsOf (Tryz.prog.underlying 25))[2]?).get h3, ((fieldsOf (Tryz.prog.underlying 25))[3]?).get h4])), by kernel_rfl, by kernel_rfl, by kernel_rfl, by kernel_rfl, by kernel_rfl, by kernel_rfl, by kernel_rfl, by kernel_rfl⟩
/-- What the readers of data must know of the types. -/
structure OpOk (P : Program) : Prop where
  at' : ∃ f1 f2 : Field, P.underlying 41 = some (.struct #[f1, f2]) ∧ f1.type = 9 ∧ f2.type = 9 ∧ f1.offset = 0 ∧ f2.offset = 1
  el : ∃ f1 f2 f3 f4 : Field, P.underlying 25 = some (.struct #[f1, f2, f3, f4]) ∧ f1.type = 9 ∧ f2.type = 22 ∧ f3.type = 23 ∧ f4.type = 3 ∧ f1.offset = 0 ∧ f2.offset = 1 ∧ f3.offset = 2 ∧ f4.offset = 3
  s : P.underlying 9 = some .string
  i : P.underlying 3 = some (.int .i64)
  la : P.underlying 22 = some (.slice 41)
  lk : P.underlying 23 = some (.slice 25)
  c0 : P.cellsOf 9 = 1
  c1 : P.cellsOf 3 = 1
  c2 : P.cellsOf 22 = 1
  c3 : P.cellsOf 23 = 1
  c4 : P.cellsOf 41 = 1 + 1
  c5 : P.cellsOf 25 = 3 + 1
  b4 : P.bytesOf 41 = 31 + 1
  b5 : P.bytesOf 25 = 71 + 1
section
variable {P : Program} (O : OpOk P) {H : Type} {enc : TypeId × Value → H} {W : World} {sp : Nat → Bool}
include O
end
end Go.Proofs.YtfgemjpoiconbaaGreatDoor.GEv

/- A law upon two elements: from data to the model's calls; no variable of a package bears a text. -/
namespace Go.Proofs.YtfgemjpoiconbaaGreatDoor.GEv
open Go
open Go.RowKit (Below)
set_option linter.unusedSimpArgs false
set_option linter.unusedVariables false
end Go.Proofs.YtfgemjpoiconbaaGreatDoor.GEv

/- The library's functions that chapter 2's environments know. -/
namespace Go.Proofs.YtfgemjpoiconbaaGreatDoor.GEv
open Go
open Go.RowKit (Below)
set_option linter.unusedSimpArgs false
set_option linter.unusedVariables false
theorem cutX_ok : PrimOK Tryz.prog 50 cutX := by
  intro args v hp
  unfold cutX at hp
  split at hp
  · rename_i s t
    split at hp
    · rename_i c h1 h2
      cases hp
      refine ⟨rfl, cutV_flat _ _, fun w hw _ => ?_⟩
      obtain ⟨m, hm⟩ := hw.2.1
      have hs : s.size ≤ 1000000 := Nat.le_of_ble_eq_true h1
      refine (Tryz.strings_Cut s t m w (by omega) hm).mono ?_
      rintro e w' ⟨rfl, n, rfl⟩
      rw [h2, lib_cut1]
      exact ⟨rfl, rfl, rfl, rfl, Nat.le_refl _, fun _ _ => rfl⟩
    · rename_i h1 h2
      cases hp
      refine ⟨rfl, ?_, fun w hw _ => ?_⟩
      · unfold cut2V
        cases cut2 s.data.toList <;> rfl
      obtain ⟨m, hm⟩ := hw.2.1
      have hs : s.size ≤ 1000000 := Nat.le_of_ble_eq_true h1
      refine (Tryz.strings_Cut s t m w (by omega) hm).mono ?_
      rintro e w' ⟨rfl, n, rfl⟩
      rw [h2, lib_cut2]
      exact ⟨rfl, rfl, rfl, rfl, Nat.le_refl _, fun _ _ => rfl⟩
    · cases hp
  · cases hp
theorem ba_of_list {t : ByteArray} {l : List UInt8} (h : t.data.toList = l) : t = ⟨⟨l⟩⟩ := by
  obtain ⟨⟨t⟩⟩ := t
  cases h
  rfl
theorem trim_ok : PrimOK Tryz.prog 70 trimP := by
  intro args v hp
  unfold trimP at hp
  split at hp
  · rename_i s t
    split at hp
    · rename_i h2
      cases hp
      refine ⟨rfl, rfl, fun w hw _ => ?_⟩
      refine (Any.strings_TrimLeft_laid Tryz.lays161 (by kernel_rfl) s t w (by rw [ba_of_list h2]; decide) (by
        rw [h2]
        intro j b hb
        have := List.mem_of_getElem? hb
        simp at this
        rcases this with rfl | rfl | rfl | rfl <;> decide)).mono ?_
      rintro e w' ⟨rfl, hb⟩
      rw [h2, lib_trim]
      exact ⟨rfl, hb⟩
    · cases hp
  · cases hp
theorem contains_ok : PrimOK Tryz.prog 83 containsP := by
  intro args v hp
  unfold containsP at hp
  split at hp
  · rename_i s t
    split at hp
    · rename_i h2
      cases hp
      refine ⟨rfl, rfl, fun w hw _ => ?_⟩
      obtain rfl := ba_of_list h2
      refine (Tryz.strings_Contains_one s 60 w).mono ?_
      rintro e w' ⟨rfl, rfl⟩
      rw [lib_contains]
      exact ⟨rfl, Below.refl _ _⟩
    · cases hp
  · cases hp
theorem emokX (h : EM.OK) : EMX.OK := by
  have h3 : PrimsOK Tryz.prog memo3 := PrimsOK.of (emok3 h)
  have hr : PrimOK Tryz.prog 42 replP := PrimsOK.of h _ _ (.tail _ (.tail _ (.head _)))
  have hl : PrimsOK Tryz.prog memoX := .cons cutX_ok <| .cons trim_ok <| .cons contains_ok <| .cons hr h3
  exact ⟨fun f p args v hm hp => hl f p hm args v hp, h.mixed, h.names, h.clone, h.same, h.room⟩
end Go.Proofs.YtfgemjpoiconbaaGreatDoor.GEv

