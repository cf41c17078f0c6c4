/- SpaceBack: any element of a bounded bulk, whose names and attributes' names are plain names, is written plainly and resolved, and is as it was. -/
import Derived.Test.YtlbcnklieefhmaaPAx33
import Derived.Test.YtlbcnklieefhmaaGBack
namespace Go.Proofs.Ytlbcnklieefhmaa.Pure
open Go.RowKit Go.Proofs.Ytlbcnklieefhmaa.PA Go.Proofs.YtlbcnklieefhmaaW.PrintWords Go.Proofs.YtlbcnklieefhmaaW.PrintLast Go.Proofs.Ytlbcnklieefhmaa.GMap Go.Proofs.Ytlbcnklieefhmaa.OA
theorem SpaceBack (x0 : S26) (wf0 : Wf26 x0) : ∃ k, sentrylaw3_SpaceBack.f k x0.f0 x0.f1 x0.f2 x0.f3 x0.f4 = some true := by
  refine ⟨100001, ?_⟩
  obtain ⟨r, e, a, b, c⟩ := heavy_f 200 (by omega) x0 200 100001 wf0 (by omega) (by omega) (by omega)
  unfold sentrylaw3_SpaceBack.f
  rw [e]
  simp only [Option.bind_some]
  by_cases hr : r ≤ 0
  · rw [if_pos hr]; rfl
  · rw [if_neg hr]
    have hs := c (by omega)
    obtain ⟨g, e2, h2⟩ := fair_f hs 100001 (by omega)
    rw [e2]
    simp only [Option.bind_some]
    cases g with
    | false => rfl
    | true =>
      obtain ⟨e, x', h⟩ := back hs (h2 rfl) ⟨#[]⟩ [(⟨#[]⟩, ⟨#[]⟩)] (lk_hit _ _ _ _ rfl) (by simp)
      obtain ⟨h3, h4, h5⟩ := h 100000 (by omega)
      simp only [sentrylaw3_SpaceBack.j0]
      rw [if_neg (show ¬ ((!true) = true) by decide)]
      unfold space_Plain.f space_Resolve.f
      rw [h3]
      simp only [Option.bind_some]
      rw [show (⟨e.f0, e.f1, e.f2, e.f3⟩ : S32) = e from by cases e; rfl, h4]
      simp only [Option.map_some, Option.bind_some]
      rw [if_pos (by trivial), if_pos (by trivial), if_pos (by trivial), h5]
      simp only [Option.bind_some]
      rw [if_pos (by trivial), at_rounds (fun k => sentrylaw3_known.mono k) (show 3 ≤ 100000 by omega) known3]
      rfl
end Go.Proofs.Ytlbcnklieefhmaa.Pure
