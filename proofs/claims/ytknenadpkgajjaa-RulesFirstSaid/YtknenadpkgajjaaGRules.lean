/- Chapter 10's pure side: what rules.Is comes to. -/
import Derived.Test.YtknenadpkgajjaaPAx51
namespace Go.Proofs.Ytknenadpkgajjaa.PA
open Go.RowKit Go.Proofs.YtknenadpkgajjaaW.PrintWords Go.Proofs.YtknenadpkgajjaaW.PrintLast
set_option linter.unusedVariables false
set_option linter.unusedSimpArgs false
/-- a loop that goes on as long as something holds. -/
theorem loop_all (F : Nat → Int → Option Bool) (n K : Nat) (P : Nat → Prop) (e : Bool)
    (hs : ∀ i, i < n → ∃ c : Bool, (c = true ↔ P i) ∧ ∀ k, K ≤ k → F (k + 1) (i : Int) = if c = true then F k ((i + 1 : Nat) : Int) else some false)
    (he : ∀ k, K ≤ k → F (k + 1) (n : Int) = some e) : ∃ b, (∀ k, K + n + 1 ≤ k → F k 0 = some b) ∧ (b = true ↔ (∀ i, i < n → P i) ∧ e = true) := by
  have main : ∀ d i, i + d = n → ∃ b, (∀ k, K + d + 1 ≤ k → F k (i : Int) = some b) ∧ (b = true ↔ (∀ j, i ≤ j → j < n → P j) ∧ e = true) := by
    intro d
    induction d with
    | zero =>
      intro i hi
      have : i = n := by omega
      subst this
      refine ⟨e, fun k hk => ?_, ⟨fun h => ⟨fun j h1 h2 => by omega, h⟩, fun h => h.2⟩⟩
      obtain ⟨k, rfl⟩ : ∃ q, k = q + 1 := ⟨k - 1, by omega⟩
      exact he k (by omega)
    | succ d ih =>
      intro i hi
      obtain ⟨c, hc, hF⟩ := hs i (by omega)
      cases c with
      | false =>
        refine ⟨false, fun k hk => ?_, ⟨fun h => absurd h (by decide), fun h => ?_⟩⟩
        · obtain ⟨k, rfl⟩ : ∃ q, k = q + 1 := ⟨k - 1, by omega⟩
          rw [hF k (by omega), if_neg (by decide)]
        · exact absurd (hc.mpr (h.1 i (Nat.le_refl _) (by omega))) (by decide)
      | true =>
        obtain ⟨b, h1, h2⟩ := ih (i + 1) (by omega)
        refine ⟨b, fun k hk => ?_, h2.trans ⟨fun h => ⟨fun j h3 h4 => ?_, h.2⟩, fun h => ⟨fun j h3 h4 => h.1 j (by omega) h4, h.2⟩⟩⟩
        · obtain ⟨k, rfl⟩ : ∃ q, k = q + 1 := ⟨k - 1, by omega⟩
          rw [hF k (by omega), if_pos rfl]
          exact h1 k (by omega)
        · by_cases hj : j = i
          · subst hj; exact hc.mp rfl
          · exact h.1 j (by omega) h4
  obtain ⟨b, h1, h2⟩ := main n 0 (by omega)
  exact ⟨b, h1, h2.trans ⟨fun h => ⟨fun i hi => h.1 i (Nat.zero_le _) hi, h.2⟩, fun h => ⟨fun j _ hj => h.1 j hj, h.2⟩⟩⟩
theorem wr_s {i : Nat} (h : i < 4611686018427387904) : wrap64 ((i : Int) + 1) = ((i + 1 : Nat) : Int) := by unfold wrap64; omega
theorem wr_p {i : Nat} (h0 : 0 < i) (h : i < 4611686018427387904) : wrap64 ((i : Int) - 1) = ((i - 1 : Nat) : Int) := by unfold wrap64; omega
theorem within_f (a b c : Int) : rules_within.f a b c = some (inB a b c) := by
  unfold rules_within.f inB
  by_cases h : a ≥ b
  · rw [if_pos h, decide_eq_true h]; rfl
  · rw [if_neg h, decide_eq_false h]; rfl
theorem inB_iff (n a b : Int) : inB n a b = true ↔ a ≤ n ∧ n < b := by unfold inB; simp
theorem rdn (l : List Int) (i : Nat) (h : i < l.length) : rd l (i : Int) = l[i] := by simp [rd, List.getD_eq_getElem?_getD, h]
theorem rd28 (l : List S28) (i : Nat) (h : i < l.length) : rd_T28 l (i : Int) = l[i] := by simp [rd_T28, List.getD_eq_getElem?_getD, h]
/-- flags below a number, rising, none twice. -/
def Rising (la : Int) (l : List Int) : Prop := ∀ i (h : i < l.length), (0 ≤ l[i] ∧ l[i] < la) ∧ (0 < i → l[i - 1] < l[i])
section
variable (p0 p1 : Int) (p2 p3 : List Int) (p4 : Int) (p5 : List ByteArray) (p6 : List S28) (p7 : List S44) (p8 : List S46) (p9 : List S57)
theorem last_f (l : List Int) (hl : l.length ≤ 1000000) : ∃ b, (∀ k, l.length + 2 ≤ k → rules_last.f k p0 p1 p2 p3 p4 p5 p6 p7 p8 p9 l = some b) ∧ (b = true ↔ Rising p1 l) := by
  obtain ⟨b, h1, h2⟩ := loop_all (fun k i => rules_last.l0 k l l (l.length : Int) i p0 p1 p2 p3 p4 p5 p6 p7 p8 p9) l.length 0 (fun i => ∃ h : i < l.length, (0 ≤ l[i] ∧ l[i] < p1) ∧ (0 < i → l[i - 1] < l[i])) true
    (fun i hi => by
      refine ⟨inB l[i] 0 p1 && (decide (i = 0) || decide (l[i - 1]'(by omega) < l[i])), ?_, fun k _ => ?_⟩
      · rw [Bool.and_eq_true, inB_iff, Bool.or_eq_true, decide_eq_true_iff, decide_eq_true_iff]
        constructor
        · rintro ⟨h1, h2⟩
          exact ⟨hi, h1, fun h => h2.resolve_left (by omega)⟩
        · rintro ⟨_, h1, h2⟩
          exact ⟨h1, by by_cases h : i = 0; exact .inl h; exact .inr (h2 (by omega))⟩
      · simp only [rules_last.l0]
        rw [if_pos (by omega), if_pos (by omega), if_pos (by omega), within_f, rdn l i hi]
        simp only [Option.bind_some]
        cases h1 : inB l[i] 0 p1 with
        | false => rw [if_neg (by decide)]; simp
        | true =>
          rw [if_pos rfl]
          by_cases h0 : i = 0
          · subst h0
            rw [if_neg (by omega), wr_s (by omega)]
            simp
          · rw [if_pos (by omega), wr_p (by omega) (by omega), if_pos (by omega), if_pos (by omega), rdn l (i - 1) (by omega), wr_s (by omega)]
            by_cases h2 : l[i - 1] < l[i]
            · rw [if_neg (by omega)]; simp [h2]
            · rw [if_pos (by omega)]; simp [h2, h0])
    (fun k _ => by
      simp only [rules_last.l0]
      rw [if_neg (by omega)])
  refine ⟨b, fun k hk => h1 k (by omega), h2.trans ⟨fun h i hi => ?_, fun h => ⟨fun i hi => ⟨hi, h i hi⟩, rfl⟩⟩⟩
  obtain ⟨_, h3⟩ := h.1 i hi
  exact h3
def FilesOk (l : List ByteArray) : Prop := (∀ i (h : i < l.length), hasText (l.take i) l[i] = false) ∧ l.length ≤ 6
theorem files_f (hl : p5.length ≤ 1000000) : ∃ b, (∀ k, 2 * p5.length + 3 ≤ k → rules_areFiles.f k p0 p1 p2 p3 p4 p5 p6 p7 p8 p9 = some b) ∧ (b = true ↔ FilesOk p5) := by
  obtain ⟨b, h1, h2⟩ := loop_all (fun k i => rules_areFiles.l0 k p5 (p5.length : Int) i p0 p1 p2 p3 p4 p5 p6 p7 p8 p9) p5.length (p5.length + 1) (fun i => ∃ h : i < p5.length, hasText (p5.take i) p5[i] = false) (decide ((p5.length : Int) ≤ 6))
    (fun i hi => by
      refine ⟨!hasText (p5.take i) p5[i], ?_, fun k hk => ?_⟩
      · constructor
        · intro h; exact ⟨hi, by simpa using h⟩
        · rintro ⟨_, h⟩; rw [h]; rfl
      · have hx : rdOf ByteArray.empty p5 (i : Int) = p5[i] := by simp [rdOf, List.getD_eq_getElem?_getD, hi]
        have hc := at_rounds (fun k => slices_Contains_string_string.mono (p5.take i) p5[i] k) (show (p5.take i).length + 1 ≤ k by rw [List.length_take]; omega) (contains_texts p5[i] (p5.take i) (by rw [List.length_take]; omega))
        simp only [rules_areFiles.l0]
        rw [if_pos (by omega), if_pos (by omega), if_pos (by omega), if_pos (by omega), hx, Int.toNat_natCast, hc]
        simp only [Option.bind_some]
        rw [wr_s (by omega)]
        cases hasText (p5.take i) p5[i] <;> simp)
    (fun k _ => by
      simp only [rules_areFiles.l0]
      rw [if_neg (by omega)])
  refine ⟨b, fun k hk => h1 k (by omega), h2.trans ⟨fun h => ⟨fun i hi => ?_, by have := h.2; simp at this; omega⟩, fun h => ⟨fun i hi => ⟨hi, h.1 i hi⟩, by have := h.2; simp; omega⟩⟩⟩
  obtain ⟨_, h3⟩ := h.1 i hi
  exact h3
def RulesOk (p0 : Int) (p5 : List ByteArray) (l : List S28) : Prop := (∀ i (h : i < l.length), isRuleF p0 p5 l[i] = true ∧ (0 < i → l[i - 1].f0 ≤ l[i].f0)) ∧ l.length ≤ 1500
theorem rules_f (hl : p6.length ≤ 1000000) : ∃ b, (∀ k, p6.length + 2 ≤ k → rules_areRules.f k p0 p1 p2 p3 p4 p5 p6 p7 p8 p9 = some b) ∧ (b = true ↔ RulesOk p0 p5 p6) := by
  obtain ⟨b, h1, h2⟩ := loop_all (fun k i => rules_areRules.l0 k p6 (p6.length : Int) i p0 p1 p2 p3 p4 p5 p6 p7 p8 p9) p6.length 0 (fun i => ∃ h : i < p6.length, isRuleF p0 p5 p6[i] = true ∧ (0 < i → p6[i - 1].f0 ≤ p6[i].f0)) (decide ((p6.length : Int) ≤ 1500))
    (fun i hi => by
      refine ⟨isRuleF p0 p5 p6[i] && (decide (i = 0) || decide ((p6[i - 1]'(by omega)).f0 ≤ p6[i].f0)), ?_, fun k _ => ?_⟩
      · rw [Bool.and_eq_true, Bool.or_eq_true, decide_eq_true_iff, decide_eq_true_iff]
        constructor
        · rintro ⟨h1, h2⟩
          exact ⟨hi, h1, fun h => h2.resolve_left (by omega)⟩
        · rintro ⟨_, h1, h2⟩
          exact ⟨h1, by by_cases h : i = 0; exact .inl h; exact .inr (h2 (by omega))⟩
      · have hr : rules_isRule.f p0 p1 p2 p3 p4 p5 p6 p7 p8 p9 p6[i].f0 p6[i].f1 p6[i].f2 p6[i].f3 = some (isRuleF p0 p5 p6[i]) := rfl
        simp only [rules_areRules.l0]
        rw [if_pos (by omega), if_pos (by omega), if_pos (by omega), rd28 p6 i hi, hr]
        simp only [Option.bind_some]
        cases h1 : isRuleF p0 p5 p6[i] with
        | false => rw [if_neg (by decide)]; simp
        | true =>
          rw [if_pos rfl]
          by_cases h0 : i = 0
          · subst h0
            rw [if_neg (by omega), wr_s (by omega)]
            simp
          · rw [if_pos (by omega), wr_p (by omega) (by omega), if_pos (by omega), if_pos (by omega), rd28 p6 (i - 1) (by omega), wr_s (by omega)]
            by_cases h2 : p6[i - 1].f0 ≤ p6[i].f0
            · rw [if_neg (by omega)]; simp [h2]
            · rw [if_pos (by omega)]; simp [h2, h0])
    (fun k _ => by
      simp only [rules_areRules.l0]
      rw [if_neg (by omega)])
  refine ⟨b, fun k hk => h1 k (by omega), h2.trans ⟨fun h => ⟨fun i hi => ?_, by have := h.2; simp at this; omega⟩, fun h => ⟨fun i hi => ⟨hi, h.1 i hi⟩, by have := h.2; simp; omega⟩⟩⟩
  obtain ⟨_, h3⟩ := h.1 i hi
  exact h3
/-- the strata in which a flag is read and written, as they are found. -/
def rdL (l : List S28) (f : Int) : List Int := strataF l (readsP f)
def wrL (l : List S28) (f : Int) : List Int := strataF l (writesP f)
def FlagOk (p1 : Int) (l : List S28) (f : Nat) : Prop := wrL l f = [] ∨ ((f : Int) < p1 ∧ rd (wrL l f) 0 = (rd_T28 l ((l.length - 1 : Nat) : Int)).f0) ∨ (p1 ≤ f ∧ (rdL l f = [] ∨ rd (wrL l f) (((wrL l f).length - 1 : Nat) : Int) < rd (rdL l f) 0))
theorem strata_len (l : List S28) (p : S28 → Bool) : (strataF l p).length ≤ l.length := by
  unfold strataF
  refine Nat.le_trans (Lib.compact_length_le _) ?_
  rw [List.length_mergeSort, List.length_map]
  exact List.length_filter_le _ _
theorem strata_nil (p : S28 → Bool) : strataF [] p = [] := List.eq_nil_of_length_eq_zero (Nat.le_zero.mp (strata_len [] p))
theorem strata_f (hl : p6.length < 1000000) (h0 : 0 ≤ p0) (h1 : p0 ≤ 1000000) : ∃ b, (∀ k, p0.toNat + 1 ≤ k → rules_areStrata.f k p0 p1 p2 p3 p4 p5 p6 p7 p8 p9 = some b) ∧ (b = true ↔ ∀ f : Nat, (f : Int) < p0 → FlagOk p1 p6 f) := by
  obtain ⟨b, h2, h3⟩ := loop_all (fun k i => rules_areStrata.l0 k p0 i p0 p1 p2 p3 p4 p5 p6 p7 p8 p9) p0.toNat 0 (fun i => FlagOk p1 p6 i) true
    (fun i hi => by
      haveI hd := Classical.propDecidable (FlagOk p1 p6 i)
      refine ⟨decide (FlagOk p1 p6 i), decide_eq_true_iff, fun k _ => ?_⟩
      have hR : rules_Reads.f p0 p1 p2 p3 p4 p5 p6 p7 p8 p9 (i : Int) = some (rdL p6 i) := by unfold rules_Reads.f; rw [if_pos hl]; rfl
      have hW : rules_Writes.f p0 p1 p2 p3 p4 p5 p6 p7 p8 p9 (i : Int) = some (wrL p6 i) := by unfold rules_Writes.f; rw [if_pos hl]; rfl
      have hlr : (rdL p6 i).length ≤ p6.length := strata_len _ _
      have hlw : (wrL p6 i).length ≤ p6.length := strata_len _ _
      simp only [rules_areStrata.l0]
      rw [if_pos (by omega), hR, hW]
      simp only [Option.bind_some]
      rw [wr_s (by omega)]
      by_cases e : wrL p6 i = []
      · rw [if_pos (by rw [e]; rfl), if_pos (decide_eq_true (.inl e))]
      · have hne : 0 < (wrL p6 i).length := by cases h : wrL p6 i with | nil => exact absurd h e | cons _ _ => simp
        rw [if_neg (by omega)]
        by_cases hp : (i : Int) < p1
        · rw [if_pos hp, if_pos (by omega), wr_p (by omega) (by omega), if_pos (by omega), if_pos (by omega)]
          by_cases hq : rd (wrL p6 i) 0 = (rd_T28 p6 ((p6.length - 1 : Nat) : Int)).f0
          · rw [if_pos hq, if_pos (decide_eq_true (.inr (.inl ⟨hp, hq⟩)))]
          · rw [if_neg hq, if_neg (fun h => by
              rcases of_decide_eq_true h with h | h | h
              · exact e h
              · exact hq h.2
              · omega)]
        · rw [if_neg hp]
          by_cases hr : rdL p6 i = []
          · rw [if_neg (by rw [hr]; simp), if_pos (decide_eq_true (.inr (.inr ⟨by omega, .inl hr⟩)))]
          · have hnr : 0 < (rdL p6 i).length := by cases h : rdL p6 i with | nil => exact absurd h hr | cons _ _ => simp
            rw [if_pos (by omega), wr_p (by omega) (by omega), if_pos (by omega), if_pos (by omega), if_pos (by omega)]
            by_cases hq : rd (wrL p6 i) (((wrL p6 i).length - 1 : Nat) : Int) < rd (rdL p6 i) 0
            · rw [if_neg (by omega), if_pos (decide_eq_true (.inr (.inr ⟨by omega, .inr hq⟩)))]
            · rw [if_pos (by omega), if_neg (fun h => by
                rcases of_decide_eq_true h with h | h | h
                · exact e h
                · omega
                · rcases h.2 with h | h
                  · exact hr h
                  · exact hq h)])
    (fun k _ => by
      simp only [rules_areStrata.l0]
      rw [if_neg (by omega)])
  refine ⟨b, fun k hk => h2 k (by omega), h3.trans ⟨fun h f hf => h.1 f (by omega), fun h => ⟨fun i hi => h i (by omega), rfl⟩⟩⟩
def IsOk : Prop := (0 ≤ p0 ∧ p0 < 801) ∧ (0 ≤ p1 ∧ p1 < p0 + 1) ∧ (1 ≤ p4 ∧ p4 < 21) ∧ Rising p1 p2 ∧ Rising p1 p3 ∧ FilesOk p5 ∧ RulesOk p0 p5 p6 ∧ p7.any (counterOdd p0 p1) = false ∧ p8.any (userOdd p0 p1) = false ∧ ∀ f : Nat, (f : Int) < p0 → FlagOk p1 p6 f
theorem is_j (k : Nat) : rules_Is.j0 (k + 1) true p0 p1 p2 p3 p4 p5 p6 p7 p8 p9 = some false := by
  simp only [rules_Is.j0]
  rw [if_pos (by trivial)]
theorem is_f (h2 : p2.length ≤ 100000) (h3 : p3.length ≤ 100000) (h5 : p5.length ≤ 100000) (h6 : p6.length ≤ 100000) : ∃ b, (∀ k, 300000 ≤ k → rules_Is.f k p0 p1 p2 p3 p4 p5 p6 p7 p8 p9 = some b) ∧ (b = true ↔ IsOk p0 p1 p2 p3 p4 p5 p6 p7 p8) := by
  by_cases c0 : 0 ≤ p0 ∧ p0 < 801
  case neg =>
    refine ⟨false, fun k hk => ?_, ⟨fun h => absurd h (by decide), fun h => absurd h.1 c0⟩⟩
    obtain ⟨k, rfl⟩ : ∃ q, k = q + 1 := ⟨k - 1, by omega⟩
    unfold rules_Is.f
    rw [within_f, show inB p0 0 801 = false from Bool.eq_false_iff.mpr (fun h => c0 ((inB_iff _ _ _).mp h))]
    simp only [Option.bind_some]
    rw [if_neg (by decide), is_j]
  by_cases c1 : 0 ≤ p1 ∧ p1 < p0 + 1
  case neg =>
    refine ⟨false, fun k hk => ?_, ⟨fun h => absurd h (by decide), fun h => absurd h.2.1 c1⟩⟩
    obtain ⟨k, rfl⟩ : ∃ q, k = q + 1 := ⟨k - 1, by omega⟩
    unfold rules_Is.f
    rw [within_f, show inB p0 0 801 = true from (inB_iff _ _ _).mpr c0]
    simp only [Option.bind_some]
    rw [if_pos (by trivial), within_f, show wrap64 (p0 + 1) = p0 + 1 by unfold wrap64; omega, show inB p1 0 (p0 + 1) = false from Bool.eq_false_iff.mpr (fun h => c1 ((inB_iff _ _ _).mp h))]
    simp only [Option.bind_some]
    rw [if_neg (by decide), is_j]
  by_cases c4 : 1 ≤ p4 ∧ p4 < 21
  case neg =>
    refine ⟨false, fun k hk => ?_, ⟨fun h => absurd h (by decide), fun h => absurd h.2.2.1 c4⟩⟩
    obtain ⟨k, rfl⟩ : ∃ q, k = q + 1 := ⟨k - 1, by omega⟩
    unfold rules_Is.f
    rw [within_f, show inB p0 0 801 = true from (inB_iff _ _ _).mpr c0]
    simp only [Option.bind_some]
    rw [if_pos (by trivial), within_f, show wrap64 (p0 + 1) = p0 + 1 by unfold wrap64; omega, show inB p1 0 (p0 + 1) = true from (inB_iff _ _ _).mpr c1]
    simp only [Option.bind_some]
    rw [if_pos (by trivial), within_f, show inB p4 1 21 = false from Bool.eq_false_iff.mpr (fun h => c4 ((inB_iff _ _ _).mp h))]
    simp only [Option.bind_some, Bool.not_false]
    rw [is_j]
  obtain ⟨b2, r2, q2⟩ := last_f p0 p1 p2 p3 p4 p5 p6 p7 p8 p9 p2 (by omega)
  obtain ⟨b3, r3, q3⟩ := last_f p0 p1 p2 p3 p4 p5 p6 p7 p8 p9 p3 (by omega)
  obtain ⟨b5, r5, q5⟩ := files_f p0 p1 p2 p3 p4 p5 p6 p7 p8 p9 (by omega)
  obtain ⟨b6, r6, q6⟩ := rules_f p0 p1 p2 p3 p4 p5 p6 p7 p8 p9 (by omega)
  obtain ⟨bs, rs, qs⟩ := strata_f p0 p1 p2 p3 p4 p5 p6 p7 p8 p9 (by omega) c0.1 (by omega)
  refine ⟨b2 && b3 && b5 && b6 && !p7.any (counterOdd p0 p1) && !p8.any (userOdd p0 p1) && bs, fun k hk => ?_, ?_⟩
  · obtain ⟨k, rfl⟩ : ∃ q, k = q + 1 := ⟨k - 1, by omega⟩
    unfold rules_Is.f
    rw [within_f, show inB p0 0 801 = true from (inB_iff _ _ _).mpr c0]
    simp only [Option.bind_some]
    rw [if_pos (by trivial), within_f, show wrap64 (p0 + 1) = p0 + 1 by unfold wrap64; omega, show inB p1 0 (p0 + 1) = true from (inB_iff _ _ _).mpr c1]
    simp only [Option.bind_some]
    rw [if_pos (by trivial), within_f, show inB p4 1 21 = true from (inB_iff _ _ _).mpr c4]
    simp only [Option.bind_some, Bool.not_true]
    simp only [rules_Is.j0]
    rw [if_neg (by decide), r2 k (by omega), r3 k (by omega), r5 k (by omega), r6 k (by omega), rs k (by omega), show rules_areCounters.f p0 p1 p2 p3 p4 p5 p6 p7 p8 p9 = some (!p7.any (counterOdd p0 p1)) from rfl, show rules_areUsers.f p0 p1 p2 p3 p4 p5 p6 p7 p8 p9 = some (!p8.any (userOdd p0 p1)) from rfl]
    simp only [Option.bind_some]
    cases b2 <;> cases b3 <;> cases b5 <;> cases b6 <;> cases p7.any (counterOdd p0 p1) <;> cases p8.any (userOdd p0 p1) <;> cases bs <;> rfl
  · simp only [Bool.and_eq_true, Bool.not_eq_true', q2, q3, q5, q6, qs]
    unfold IsOk
    constructor
    · rintro ⟨⟨⟨⟨⟨⟨a, b⟩, c⟩, d⟩, e⟩, f⟩, g⟩
      exact ⟨c0, c1, c4, a, b, c, d, e, f, g⟩
    · rintro ⟨_, _, _, a, b, c, d, e, f, g⟩
      exact ⟨⟨⟨⟨⟨⟨a, b⟩, c⟩, d⟩, e⟩, f⟩, g⟩
end
end Go.Proofs.Ytknenadpkgajjaa.PA
