/- SpaceWithin: for every two texts of at most 50 bytes as name spaces, a space holds in an element and all within, till another one is named, and not behind it (P3.1); longer texts are let by. -/
import Derived.Test.YtlbcnklieefhmaaPAx26
import Derived.Test.YtlbcnklieefhmaaGSpace
import Derived.Test.YtlbcnklieefhmaaGKnown
namespace Go.Proofs.Ytlbcnklieefhmaa.Pure
open Go.RowKit Go.Proofs.Ytlbcnklieefhmaa.PA Go.Proofs.YtlbcnklieefhmaaW.PrintWords Go.Proofs.YtlbcnklieefhmaaW.PrintLast Go.Proofs.Ytlbcnklieefhmaa.GMap

theorem within_run (u v : ByteArray) (hu : u.size ≤ 50) (hv : v.size ≤ 50) : space_Resolve.f 3 (⟨#[97]⟩ : ByteArray) [⟨⟨#[120, 109, 108, 110, 115]⟩, u⟩] [⟨⟨#[98]⟩, [⟨⟨#[120, 109, 108, 110, 115]⟩, v⟩], [⟨⟨#[99]⟩, [], [], 0⟩], 0⟩, ⟨⟨#[100]⟩, [], [], 0⟩] 0 =
    some (u, ⟨#[97]⟩, [], [⟨v, ⟨#[98]⟩, [], [⟨v, ⟨#[99]⟩, [], [], 0⟩], 0⟩, ⟨u, ⟨#[100]⟩, [], [], 0⟩], 0, 0, 0) := by
  have hu' : u.size ≤ 4611686018427387904 := by omega
  have hv' : v.size ≤ 4611686018427387904 := by omega
  simp [space_Resolve.f, resolveF, attrsF, kidsF, declareF, sp_a, sp_b, sp_c, sp_d, sp_xmlns, hu', hv', Lib.toList_data, size_mk, lk, same]

theorem SpaceWithin : sentrylaw3_SpaceWithin.Pure := by
  intro u v _ _
  refine ⟨4, ?_⟩
  unfold sentrylaw3_SpaceWithin.f
  by_cases hu : (u.size : Int) > 50
  · rw [if_pos hu]; rfl
  · rw [if_neg hu]
    by_cases hv : (v.size : Int) > 50
    · rw [decide_eq_true hv]; rfl
    · rw [decide_eq_false hv]
      simp only [sentrylaw3_SpaceWithin.j0]
      rw [within_run u v (by omega) (by omega), known3]
      simp [rd_T26]

end Go.Proofs.Ytlbcnklieefhmaa.Pure
