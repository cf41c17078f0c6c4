/- SpaceMixed: for every two texts of one to 50 bytes as name spaces, elements of both, by prefixes or without, within one another, are resolved as they are written (P3.1). -/
import Derived.Test.YtlbcnklieefhmaaPAx27
import Derived.Test.YtlbcnklieefhmaaGSpace
import Derived.Test.YtlbcnklieefhmaaGKnown
namespace Go.Proofs.Ytlbcnklieefhmaa.Pure
open Go.RowKit Go.Proofs.Ytlbcnklieefhmaa.PA Go.Proofs.YtlbcnklieefhmaaW.PrintWords Go.Proofs.YtlbcnklieefhmaaW.PrintLast Go.Proofs.Ytlbcnklieefhmaa.GMap
set_option linter.unusedSimpArgs false
theorem m0 : name_Split.f (⟨#[112, 58, 97]⟩ : ByteArray) = some (⟨#[112]⟩, ⟨#[97]⟩) := by rfl
theorem m1 : name_Split.f (⟨#[112, 58, 98]⟩ : ByteArray) = some (⟨#[112]⟩, ⟨#[98]⟩) := by rfl
theorem m2 : name_Split.f (⟨#[113, 58, 98]⟩ : ByteArray) = some (⟨#[113]⟩, ⟨#[98]⟩) := by rfl
theorem m3 : name_Split.f (⟨#[120, 109, 108, 110, 115, 58, 112]⟩ : ByteArray) = some (⟨#[120, 109, 108, 110, 115]⟩, ⟨#[112]⟩) := by rfl
theorem m4 : name_Split.f (⟨#[120, 109, 108, 110, 115, 58, 113]⟩ : ByteArray) = some (⟨#[120, 109, 108, 110, 115]⟩, ⟨#[113]⟩) := by rfl
theorem m5 : sentrylaw3_known.f 5 = some true := at_rounds (fun k => sentrylaw3_known.mono k) (show 3 ≤ 5 by omega) known3
theorem SpaceMixed (a0 : ByteArray) (_ : a0.size ≤ 140737488351232) (a1 : ByteArray) (_ : a1.size ≤ 140737488351232) (a2 : Int) (_ : (Lit.int .i64 a2).wf = true) : ∃ k, sentrylaw3_SpaceMixed.f k a0 a1 a2 = some true := by
  refine ⟨5, ?_⟩
  unfold sentrylaw3_SpaceMixed.f
  by_cases h0 : a0.toList = ([] : List UInt8)
  · rw [if_pos h0]
  rw [if_neg h0]
  by_cases h1 : a1.toList = ([] : List UInt8)
  · rw [if_pos h1]
  rw [if_neg h1]
  by_cases h2 : (a0.size : Int) > 50
  · rw [if_pos h2]
  rw [if_neg h2]
  by_cases h3 : (a1.size : Int) > 50
  · rw [if_pos h3]
  rw [if_neg h3]
  by_cases h4 : a2 < 0
  · rw [if_pos h4]
  rw [if_neg h4]
  by_cases h5 : a2 > 3
  · rw [if_pos h5]
  rw [if_neg h5]
  have hu' : a0.size ≤ 4611686018427387904 := by omega
  have hv' : a1.size ≤ 4611686018427387904 := by omega
  have hu1 : ¬ a0.data = #[] := fun h => h0 (by rw [Lib.toList_data, h])
  have hv1 : ¬ a1.data = #[] := fun h => h1 (by rw [Lib.toList_data, h])
  have e0 : a2 = 0 ∨ a2 = 1 ∨ a2 = 2 ∨ a2 = 3 := by omega
  rcases e0 with rfl | rfl | rfl | rfl <;>
    simp [mixF, mixK, mixW, mixL, mixA, rd_T26, space_Resolve.f, resolveF, attrsF, kidsF, declareF, sp_a, sp_b, sp_xmlns, m0, m1, m2, m3, m4, hu', hv', hu1, hv1, Lib.toList_data, size_mk, lk, same, m5]
end Go.Proofs.Ytlbcnklieefhmaa.Pure
