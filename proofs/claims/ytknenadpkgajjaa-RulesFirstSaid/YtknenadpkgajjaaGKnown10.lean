/- Chapter 10: the known example. -/
import Derived.Test.YtknenadpkgajjaaGRules
import Derived.Test.YtknenadpkgajjaaPAx53
namespace Go.Proofs.Ytknenadpkgajjaa.PA
open Go.RowKit Go.Proofs.YtknenadpkgajjaaW.PrintWords Go.Proofs.YtknenadpkgajjaaW.PrintLast
set_option linter.unusedSimpArgs false
theorem compact_one (a : Int) : Lib.compact [a] = [a] := by simp [Lib.compact, Lib.compactUpTo, Lib.keeps, List.range_succ]
theorem strata_one (r : S28) (p : S28 → Bool) : strataF [r] p = if p r = true then [r.f0] else [] := by
  unfold strataF
  by_cases h : p r = true
  · rw [if_pos h]
    rw [show [r].filter p = [r] by simp [h]]
    simp only [List.map_cons, List.map_nil, List.mergeSort_singleton]
    exact compact_one _
  · rw [if_neg h]
    rw [show [r].filter p = [] by simp [h]]
    simp [Lib.compact, Lib.compactUpTo]
def knownR : S28 := ⟨1, [⟨1, false⟩], [], [⟨1, true⟩]⟩
theorem isok_none (n la : Int) (a b : List Int) : IsOk n la a b 1 [] [] [] [] ↔ (0 ≤ n ∧ n < 801) ∧ (0 ≤ la ∧ la < n + 1) ∧ Rising la a ∧ Rising la b := by
  unfold IsOk
  constructor
  · rintro ⟨h1, h2, _, h3, h4, _⟩
    exact ⟨h1, h2, h3, h4⟩
  · rintro ⟨h1, h2, h3, h4⟩
    exact ⟨h1, h2, by omega, h3, h4, ⟨fun i h => by simp at h, by simp⟩, ⟨fun i h => by simp at h, by simp⟩, rfl, rfl, fun f _ => .inl (strata_nil _)⟩
theorem known10 (k : Nat) (hk : 300000 ≤ k) : sentrylaw10_known.f k = some true := by
  obtain ⟨b1, h1, q1⟩ := is_f 2 1 [] [] 1 [] [knownR] [] [] [] (by simp) (by simp) (by simp) (by simp)
  obtain ⟨b2, h2, q2⟩ := is_f 0 0 [] [] 1 [] [] [] [] [] (by simp) (by simp) (by simp) (by simp)
  have hr : rdL [knownR] 1 = [1] := by unfold rdL; rw [strata_one]; rfl
  have hw : wrL [knownR] 1 = [1] := by unfold wrL; rw [strata_one]; rfl
  have e1 : b1 = false := Bool.eq_false_iff.mpr fun h => by
    have h5 := (q1.mp h).2.2.2.2.2.2.2.2.2 1 (by omega)
    rcases h5 with h5 | h5 | h5
    · rw [show ((1 : Nat) : Int) = 1 from rfl, hw] at h5; simp at h5
    · omega
    · rcases h5.2 with h5 | h5
      · rw [show ((1 : Nat) : Int) = 1 from rfl, hr] at h5; simp at h5
      · rw [show ((1 : Nat) : Int) = 1 from rfl, hr, hw] at h5; simp [rd] at h5
  have e2 : b2 = true := q2.mpr ((isok_none 0 0 [] []).mpr ⟨by omega, by omega, fun i h => by simp at h, fun i h => by simp at h⟩)
  have s1 : sentryref4_SameInts.f k [1] [1] = some true := at_rounds (fun k => sentryref4_SameInts.mono [1] [1] k) (show 3 ≤ k by omega) (by decide +kernel)
  unfold sentrylaw10_known.f
  simp only [Option.bind_some]
  rw [show [(⟨1, [(⟨1, false⟩ : S39)], [], [(⟨1, true⟩ : S23)]⟩ : S28)] = [knownR] from rfl, h1 k hk, e1]
  simp only [Option.bind_some]
  rw [if_neg (by decide), h2 k hk, e2]
  simp only [Option.bind_some]
  rw [if_pos (by trivial), show rules_Reads.f 2 1 [] [] 1 [] [knownR] [] [] [] 1 = some (rdL [knownR] 1) from rfl, hr]
  simp only [Option.bind_some]
  rw [s1]
  simp only [Option.bind_some]
  rw [if_pos (by trivial), show rules_Writes.f 2 1 [] [] 1 [] [knownR] [] [] [] 1 = some (wrL [knownR] 1) from rfl, hw]
  simp only [Option.bind_some]
  rw [s1]
  rfl
end Go.Proofs.Ytknenadpkgajjaa.PA
