/- SpaceWrong: seven elements whose names or attributes may not be, each told by its element. -/
import Derived.Test.YtlbcnklieefhmaaPAx25
import Derived.Test.YtlbcnklieefhmaaGSpace
import Derived.Test.YtlbcnklieefhmaaGKnown
namespace Go.Proofs.Ytlbcnklieefhmaa.Pure
open Go.RowKit Go.Proofs.Ytlbcnklieefhmaa.PA Go.Proofs.YtlbcnklieefhmaaW.PrintWords Go.Proofs.YtlbcnklieefhmaaW.PrintLast Go.Proofs.Ytlbcnklieefhmaa.GMap
set_option linter.unusedSimpArgs false
theorem w0 : name_Split.f (⟨#[112, 58, 97]⟩ : ByteArray) = some (⟨#[112]⟩, ⟨#[97]⟩) := by rfl
theorem w1 : name_Split.f (⟨#[120, 109, 108, 58, 97]⟩ : ByteArray) = some (⟨#[120, 109, 108]⟩, ⟨#[97]⟩) := by rfl
theorem w2 : name_Split.f (⟨#[112, 58, 120]⟩ : ByteArray) = some (⟨#[112]⟩, ⟨#[120]⟩) := by rfl
theorem w3 : name_Split.f (⟨#[120, 109, 108, 110, 115, 58, 112]⟩ : ByteArray) = some (⟨#[120, 109, 108, 110, 115]⟩, ⟨#[112]⟩) := by rfl
theorem w4 : name_Split.f (⟨#[120, 109, 108, 110, 115, 58, 120, 109, 108]⟩ : ByteArray) = some (⟨#[120, 109, 108, 110, 115]⟩, ⟨#[120, 109, 108]⟩) := by rfl
theorem w5 : name_Split.f (⟨#[120, 109, 108, 110, 115, 58, 120, 109, 108, 110, 115]⟩ : ByteArray) = some (⟨#[120, 109, 108, 110, 115]⟩, ⟨#[120, 109, 108, 110, 115]⟩) := by rfl
theorem w6 : name_Split.f (⟨#[120, 109, 108, 110, 115, 58, 97]⟩ : ByteArray) = some (⟨#[120, 109, 108, 110, 115]⟩, ⟨#[97]⟩) := by rfl
theorem known5 : sentrylaw3_known.f 5 = some true := at_rounds (fun k => sentrylaw3_known.mono k) (show 3 ≤ 5 by omega) known3
theorem SpaceWrong (a0 : Int) (_ : (Lit.int .i64 a0).wf = true) (a1 : Int) (_ : (Lit.int .i64 a1).wf = true) : ∃ k, sentrylaw3_SpaceWrong.f k a0 a1 = some true := by
  refine ⟨5, ?_⟩
  unfold sentrylaw3_SpaceWrong.f
  by_cases h0 : a0 < 0
  · rw [if_pos h0]
  · rw [if_neg h0]
    by_cases h1 : a0 ≥ 7
    · rw [if_pos h1]
    · rw [if_neg h1]
      by_cases h2 : a1 < 0
      · rw [if_pos h2]
      · rw [if_neg h2]
        have e0 : a0 = 0 ∨ a0 = 1 ∨ a0 = 2 ∨ a0 = 3 ∨ a0 = 4 ∨ a0 = 5 ∨ a0 = 6 := by omega
        rcases e0 with rfl | rfl | rfl | rfl | rfl | rfl | rfl <;>
          simp [wrongF, wrongK, rd_T32, wrongL, space_Resolve.f, resolveF, attrsF, kidsF, declareF, sp_a, sp_b, sp_c, sp_d, sp_xmlns, w0, w1, w2, w3, w4, w5, w6, Lib.toList_data, size_mk, lk, same, known5]
end Go.Proofs.Ytlbcnklieefhmaa.Pure
