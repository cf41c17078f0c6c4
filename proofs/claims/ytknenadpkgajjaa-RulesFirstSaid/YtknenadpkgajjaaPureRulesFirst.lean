/- RulesFirst: for every row of at most 50 numbers, and of 0 to 50 lasting flags, a program whose first (or last) flags it is may be just if they last, rise, none twice (P10.1). -/
import Derived.Test.YtknenadpkgajjaaPAx66
import Derived.Test.YtknenadpkgajjaaGKnown10
import Derived.Test.YtknenadpkgajjaaOpenA
namespace Go.Proofs.Ytknenadpkgajjaa.Pure
open Go.RowKit Go.Proofs.Ytknenadpkgajjaa.PA Go.Proofs.YtknenadpkgajjaaW.PrintWords Go.Proofs.YtknenadpkgajjaaW.PrintLast
set_option linter.unusedSimpArgs false
theorem okB_iff (l : List Int) (la : Int) : okB l la l.length = true ↔ Rising la l := by
  unfold okB
  rw [List.all_eq_true]
  constructor
  · intro h i hi
    have h1 := h i (List.mem_range.mpr hi)
    unfold okAt at h1
    rw [rdn l i hi] at h1
    simp only [Bool.and_eq_true, Bool.or_eq_true, decide_eq_true_iff] at h1
    refine ⟨⟨h1.1.1, h1.1.2⟩, fun h0 => ?_⟩
    have h2 := h1.2.resolve_left (by omega)
    rw [rdn l (i - 1) (by omega)] at h2
    exact h2
  · intro h i hi
    have hi := List.mem_range.mp hi
    obtain ⟨⟨h1, h2⟩, h3⟩ := h i hi
    unfold okAt
    rw [rdn l i hi]
    simp only [Bool.and_eq_true, Bool.or_eq_true, decide_eq_true_iff]
    refine ⟨⟨h1, h2⟩, ?_⟩
    by_cases h0 : i = 0
    · exact .inl h0
    · refine .inr ?_
      rw [rdn l (i - 1) (by omega)]
      exact h3 (by omega)
theorem RulesFirst (x0 : List Int) (_ : x0.length * 8 ≤ reachBytes ∧ ∀ y0 ∈ x0, (Lit.int .i64 y0).wf = true) (a1 : Int) (_ : (Lit.int .i64 a1).wf = true) : ∃ k, sentrylaw10_RulesFirst.f k x0 a1 = some true := by
  refine ⟨300200, ?_⟩
  unfold sentrylaw10_RulesFirst.f
  by_cases hl : (x0.length : Int) > 50
  · rw [if_pos hl]
  rw [if_neg hl]
  by_cases h0 : a1 < 0
  · rw [if_pos h0]
  rw [if_neg h0]
  by_cases h1 : a1 > 50
  · rw [if_pos h1]
  rw [if_neg h1]
  obtain ⟨b1, r1, q1⟩ := is_f 50 a1 x0 [] 1 [] [] [] [] [] (by omega) (by simp) (by simp) (by simp)
  obtain ⟨b2, r2, q2⟩ := is_f 50 a1 [] x0 1 [] [] [] [] [] (by simp) (by omega) (by simp) (by simp)
  have hb := okB_iff x0 a1
  have e1 : b1 = okB x0 a1 x0.length := Bool.eq_iff_iff.mpr (q1.trans ((isok_none 50 a1 x0 []).trans ⟨fun h => hb.mpr h.2.2.1, fun h => ⟨by omega, by omega, hb.mp h, fun i h => by simp at h⟩⟩))
  have e2 : b2 = okB x0 a1 x0.length := Bool.eq_iff_iff.mpr (q2.trans ((isok_none 50 a1 [] x0).trans ⟨fun h => hb.mpr h.2.2.2, fun h => ⟨by omega, by omega, fun i h => by simp at h, hb.mp h⟩⟩))
  unfold firstF firstG
  rw [r1 _ (by omega), r2 _ (by omega)]
  simp only [Option.bind_some]
  rw [if_pos e1, if_pos e2]
  exact known10 _ (by omega)
end Go.Proofs.Ytknenadpkgajjaa.Pure
