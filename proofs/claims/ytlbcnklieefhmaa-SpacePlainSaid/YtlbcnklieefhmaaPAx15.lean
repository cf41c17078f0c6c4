-- Printed by this session's gprint.py (over the kit's print.py) out of the translation.
import Derived.Test.YtlbcnklieefhmaaPAx0
namespace Go.Proofs.Ytlbcnklieefhmaa.PA
open Go.RowKit Go.Proofs.YtlbcnklieefhmaaW.PrintWords Go.Proofs.YtlbcnklieefhmaaW.PrintLast Go.Proofs.YtlbcnklieefhmaaW.PrintMore
attribute [local go_sem] max2_int min2_int max_two min_two max_three min_three max_four min_four   -- for this text's walks alone
set_option linter.unusedVariables false
set_option linter.unusedSimpArgs false

/-! ### strings_Cut: function 33 -/
def cutAt (s : ByteArray) (c : UInt8) : ByteArray × ByteArray × Bool :=
  if 0 ≤ Lib.indexByte s.data.toList c then (s.extract 0 (Lib.indexByte s.data.toList c).toNat, s.extract ((Lib.indexByte s.data.toList c).toNat + 1) s.size, true) else (s, ⟨#[]⟩, false)
def strings_Cut.f (a0 a1 : ByteArray) : Option (ByteArray × ByteArray × Bool) :=
  if h : a1.size = 1 ∧ a0.size ≤ 4611686018427387904 then some (cutAt a0 (a1[0]'(by have := h.1; omega))) else none
theorem one_byte (a : ByteArray) (h : a.size = 1) : a = ⟨#[a[0]'(by omega)]⟩ := by
  obtain ⟨d⟩ := a
  have h' : d.size = 1 := h
  obtain ⟨l⟩ := d
  match l, h' with
  | [x], _ => rfl
set_option maxHeartbeats 2000000 in
set_option maxRecDepth 100000 in
theorem strings_Cut.calls (a0 a1 r1 r2 : ByteArray) (r3 : Bool) (w : World) (h : strings_Cut.f a0 a1 = some (r1, r2, r3)) :
    Calls Try.prog 33 #[.string a0, .string a1] w fun e w' => e = .returned (.tuple #[.string r1, .string r2, .bool r3]) ∧ Drawn0 w w' := by
  unfold strings_Cut.f at h
  split at h
  · rename_i h12
    obtain ⟨h1, hbig⟩ := h12
    generalize hc : a1[0]'(by omega) = c at h
    have ha1 : a1 = ⟨#[c]⟩ := by rw [one_byte a1 h1, hc]
    clear hc h1
    subst ha1
    have h := Option.some.inj h
    unfold cutAt at h
    by_cases hi : 0 ≤ Lib.indexByte a0.data.toList c
    · rw [if_pos hi] at h
      injection h with e1 h
      injection h with e2 e3
      subst e1 e2 e3
      obtain ⟨i, ei⟩ := Int.eq_ofNat_of_zero_le hi
      have hs := Lib.indexByte_some (l := a0.data.toList) (c := c) (o := i) ei
      have hlt : i < a0.size := by
        have := hs.1
        by_cases hh : i < a0.data.toList.length
        · simpa using hh
        · rw [List.getElem?_eq_none (by omega)] at this; cases this
      have c1 : (0 : Int) ≤ ↑i := by omega
      have c2 : (↑i : Int) ≤ ↑a0.size := by omega
      have c3 : (0 : Int) ≤ ↑i + 1 := by omega
      have c4 : (↑i + 1 : Int) ≤ ↑a0.size := by omega
      have c5 : ((↑i : Int) + 1).toNat = i + 1 := by omega
      have c6 : IntKind.i64.wrap ((↑i : Int) + 1) = ↑i + 1 := IntWalk.i64_in _ (by omega)
      rw [ei]
      have HI := Aside0.mk ei
      clear ei hi hs hbig
      go_enter Try.func33, Try.ntmps33
      go_wp2_with (first | (go_at_call 35; refine (Try.stringslite_Index_one a0 c _).mono ?_; rintro e w' ⟨rfl, rfl⟩; rw [HI.out]) | go_in)
      go_quiet (fail)
      go_wp2
      go_ret3
      go_wp2
      go_ret3
      exact ⟨rfl, ⟨_, rfl⟩⟩
    · rw [if_neg hi] at h
      injection h with e1 h
      injection h with e2 e3
      subst e1 e2 e3
      have c0 : decide (0 ≤ Lib.indexByte a0.data.toList c) = false := decide_eq_false hi
      clear hi
      go_enter Try.func33, Try.ntmps33
      go_wp2_with (first | (go_at_call 35; refine (Try.stringslite_Index_one a0 c _).mono ?_; rintro e w' ⟨rfl, rfl⟩) | go_in)
      go_ret3
      go_wp2
      go_ret3
      exact ⟨rfl, ⟨0, rfl⟩⟩
  · cases h

end Go.Proofs.Ytlbcnklieefhmaa.PA
