/- Chapter 3's trees: what 'heavy' lets by is small; 'fair' tells its own; and what is plainly written is resolved to what it was. -/
import Derived.Test.YtlbcnklieefhmaaPAx30
import Derived.Test.YtlbcnklieefhmaaPAx29
import Derived.Test.YtlbcnklieefhmaaPAx31
import Derived.Test.YtlbcnklieefhmaaPAx22
import Derived.Test.YtlbcnklieefhmaaPAx19
import Derived.Test.YtlbcnklieefhmaaOpenA
import Derived.Test.YtlbcnklieefhmaaGName
namespace Go.Proofs.Ytlbcnklieefhmaa.PA
open Go.RowKit Go.Proofs.YtlbcnklieefhmaaW.PrintWords Go.Proofs.YtlbcnklieefhmaaW.PrintLast Go.Proofs.Ytlbcnklieefhmaa.GMap Go.Proofs.Ytlbcnklieefhmaa.OA

theorem rd26 {xs : List S26} {j : Nat} (h : j < xs.length) : rd_T26 xs (j : Int) = xs[j] := by simp [rd_T26, h]
theorem rd35 {xs : List S35} {j : Nat} (h : j < xs.length) : rd_T35 xs (j : Int) = xs[j] := by simp [rd_T35, h]
theorem wr_succ {i : Nat} (h : i < 4611686018427387904) : wrap64 ((i : Int) + 1) = ((i + 1 : Nat) : Int) := by unfold wrap64; omega
inductive Small : Nat → S26 → Prop
  | mk (d : Nat) (x : S26) : x.f0.size ≤ 10000 → x.f1.size ≤ 10000 → x.f2.length ≤ 200 → (∀ a ∈ x.f2, a.f0.size ≤ 10000 ∧ a.f1.size ≤ 10000) → x.f3.length ≤ 200 → (∀ y ∈ x.f3, Small d y) → Small (d + 1) x
inductive Fair : S26 → Prop
  | mk (x : S26) : isB x.f1 = true → (∀ a ∈ x.f2, isB a.f0 = true ∧ a.f0.toList ≠ ([120, 109, 108, 110, 115] : List UInt8)) → (∀ y ∈ x.f3, Fair y) → Fair x
theorem reach : reachBytes = 140737488351232 := rfl

def HClaim (m : Nat) : Prop := ∀ (x : S26) (left : Int) (k : Nat), Wf26 x → 1 ≤ left → left ≤ m → 500 * m ≤ k → ∃ r, sentrylaw3_heavy.f k x.f0 x.f1 x.f2 x.f3 x.f4 left = some r ∧ -1125899906842624 ≤ r ∧ r ≤ left - 1 ∧ (0 < r → Small m x)
theorem heavy_l1 {m : Nat} (H : HClaim m) (x : S26) (wf : ∀ y ∈ x.f3, Wf26 y) (hl : x.f3.length * 88 ≤ reachBytes) : ∀ (dd i : Nat) (x1 : Int) (k : Nat), i + dd = x.f3.length → -1125899906842624 ≤ x1 → x1 ≤ m → 1 ≤ k → (0 < x1 → 500 * (m : Int) + 1 + x1 ≤ k) →
    ∃ r, sentrylaw3_heavy.l1 k x1 i x.f0 x.f1 x.f2 x.f3 x.f4 = some r ∧ -1125899906842624 ≤ r ∧ r ≤ x1 ∧ (0 < r → (dd : Int) ≤ x1 ∧ ∀ j (hj : j < x.f3.length), i ≤ j → Small m x.f3[j]) := by
  intro dd
  induction dd with
  | zero =>
    intro i x1 k hi h1 h2 hk hr
    obtain ⟨k, rfl⟩ : ∃ q, k = q + 1 := ⟨k - 1, by omega⟩
    refine ⟨x1, ?_, h1, Int.le_refl _, fun h => ⟨by omega, fun j hj hij => by omega⟩⟩
    simp only [sentrylaw3_heavy.l1]
    rw [if_neg (by omega)]
  | succ dd ih =>
    intro i x1 k hi h1 h2 hk hr
    obtain ⟨k, rfl⟩ : ∃ q, k = q + 1 := ⟨k - 1, by omega⟩
    rw [reach] at hl
    simp only [sentrylaw3_heavy.l1]
    rw [if_pos (by omega)]
    by_cases hx : x1 > 0
    · have hr' := hr hx
      rw [if_pos hx, if_pos (by omega), rd26 (by omega)]
      obtain ⟨r1, e1, a1, b1, c1⟩ := H x.f3[i] x1 k (wf _ (List.getElem_mem _)) (by omega) h2 (by omega)
      rw [e1]
      simp only [Option.bind_some]
      rw [wr_succ (by omega)]
      obtain ⟨r, e2, a2, b2, c2⟩ := ih (i + 1) r1 k (by omega) a1 (by omega) (by omega) (fun h => by omega)
      refine ⟨r, e2, a2, by omega, fun h => ?_⟩
      have := c2 h
      refine ⟨by omega, fun j hj hij => ?_⟩
      by_cases e : j = i
      · subst e
        exact c1 (by omega)
      · exact this.2 j hj (by omega)
    · rw [if_neg hx]
      exact ⟨x1, rfl, h1, Int.le_refl _, fun h => absurd h hx⟩
theorem heavy_l0 {m : Nat} (H : HClaim m) (hm : m ≤ 200) (x : S26) (wf : Wf26 x) : ∀ (dd i : Nat) (x1 : Int) (k : Nat), i + dd = x.f2.length → -1125899906842624 ≤ x1 → x1 ≤ m → 3 ≤ k → (0 < x1 → x.f2.length ≤ 200 ∧ 500 * (m : Int) + 210 + dd ≤ k) →
    ∃ r, sentrylaw3_heavy.l0 k x1 i x.f0 x.f1 x.f2 x.f3 x.f4 = some r ∧ -1125899906842624 ≤ r ∧ r ≤ x1 ∧ (0 < r → (∀ j (hj : j < x.f2.length), i ≤ j → (x.f2[j]).f0.size ≤ 10000 ∧ (x.f2[j]).f1.size ≤ 10000) ∧ x.f3.length ≤ 200 ∧ ∀ y ∈ x.f3, Small m y) := by
  obtain ⟨_, w0, w1, ⟨w2, w2'⟩, w3, w3', _⟩ := wf
  have hj1 : ∀ (x1 : Int) (k : Nat), 2 ≤ k → -1125899906842624 ≤ x1 → x1 ≤ m → (0 < x1 → 500 * (m : Int) + 202 ≤ k) → ∃ r, sentrylaw3_heavy.j1 k x1 x.f0 x.f1 x.f2 x.f3 x.f4 = some r ∧ -1125899906842624 ≤ r ∧ r ≤ x1 ∧ (0 < r → x.f3.length ≤ 200 ∧ ∀ y ∈ x.f3, Small m y) := by
    intro x1 k hk a b c
    obtain ⟨k, rfl⟩ : ∃ q, k = q + 1 := ⟨k - 1, by omega⟩
    obtain ⟨r, e, a', b', c'⟩ := heavy_l1 H x w3' w3 x.f3.length 0 x1 k (by omega) a b (by omega) (fun h => by have := c h; omega)
    refine ⟨r, e, a', b', fun h => ?_⟩
    have := c' h
    refine ⟨by omega, fun y hy => ?_⟩
    obtain ⟨j, hj, rfl⟩ := List.getElem_of_mem hy
    exact this.2 j hj (Nat.zero_le _)
  rw [reach] at w2
  intro dd
  induction dd with
  | zero =>
    intro i x1 k hi h1 h2 hk hr
    obtain ⟨k, rfl⟩ : ∃ q, k = q + 1 := ⟨k - 1, by omega⟩
    simp only [sentrylaw3_heavy.l0]
    rw [if_neg (by omega)]
    obtain ⟨r, e, a', b', c'⟩ := hj1 x1 k (by omega) h1 h2 (fun h => by have := hr h; omega)
    exact ⟨r, e, a', b', fun h => ⟨fun j hj hij => by omega, c' h⟩⟩
  | succ dd ih =>
    intro i x1 k hi h1 h2 hk hr
    obtain ⟨k, rfl⟩ : ∃ q, k = q + 1 := ⟨k - 1, by omega⟩
    simp only [sentrylaw3_heavy.l0]
    rw [if_pos (by omega)]
    by_cases hx : x1 > 0
    · have hr' := hr hx
      rw [if_pos hx, if_pos (by omega), rd35 (by omega), wr_succ (by omega)]
      obtain ⟨z0, z1⟩ := w2' x.f2[i] (List.getElem_mem _)
      rw [reach] at z0 z1
      have e1 : wrap64 ((wrap64 (x1 - (wrap64 (((x.f2[i]).f0.size : Int) / 50)))) - (wrap64 (((x.f2[i]).f1.size : Int) / 50))) = x1 - ((x.f2[i]).f0.size : Int) / 50 - ((x.f2[i]).f1.size : Int) / 50 := by
        unfold wrap64; omega
      rw [e1]
      obtain ⟨r, e2, a2, b2, c2⟩ := ih (i + 1) (x1 - ((x.f2[i]).f0.size : Int) / 50 - ((x.f2[i]).f1.size : Int) / 50) k (by omega) (by omega) (by omega) (by omega) (fun h => by omega)
      refine ⟨r, e2, a2, by omega, fun h => ?_⟩
      have := c2 h
      refine ⟨fun j hj hij => ?_, this.2⟩
      by_cases e : j = i
      · subst e
        omega
      · exact this.1 j hj (by omega)
    · rw [if_neg hx]
      obtain ⟨r, e, a', b', c'⟩ := hj1 x1 k (by omega) h1 h2 (fun h => absurd h hx)
      exact ⟨r, e, a', b', fun h => by omega⟩
theorem heavy_f : ∀ m, m ≤ 200 → HClaim m := by
  intro m
  induction m with
  | zero => exact fun _ x left k _ h1 h2 => by omega
  | succ m ih =>
    intro hm x left k wf h1 h2 hk
    obtain ⟨k, rfl⟩ : ∃ q, k = q + 1 := ⟨k - 1, by omega⟩
    have wf' := wf
    obtain ⟨_, w0, w1, ⟨w2, w2'⟩, w3, w3', _⟩ := wf
    rw [reach] at w0 w1 w2 w3
    simp only [sentrylaw3_heavy.f]
    have e1 : wrap64 ((wrap64 ((wrap64 ((wrap64 (left - 1)) - (x.f2.length : Int))) - (wrap64 ((x.f1.size : Int) / 50)))) - (wrap64 ((x.f0.size : Int) / 50))) = left - 1 - x.f2.length - (x.f1.size : Int) / 50 - (x.f0.size : Int) / 50 := by
      unfold wrap64; omega
    rw [e1]
    obtain ⟨r, e2, a2, b2, c2⟩ := heavy_l0 (ih (by omega)) (by omega) x wf' x.f2.length 0 (left - 1 - x.f2.length - (x.f1.size : Int) / 50 - (x.f0.size : Int) / 50) k (by omega) (by omega) (by omega) (by omega) (fun h => by omega)
    refine ⟨r, e2, a2, by omega, fun h => ?_⟩
    obtain ⟨c3, c4, c5⟩ := c2 h
    refine .mk m x (by omega) (by omega) (by omega) (fun a ha => ?_) c4 c5
    obtain ⟨j, hj, rfl⟩ := List.getElem_of_mem ha
    exact c3 j hj (Nat.zero_le _)

theorem fair_l1 (x : S26) (hx : x.f3.length ≤ 200) (R : Nat) (H : ∀ y ∈ x.f3, ∀ k, R ≤ k → ∃ b, sentrylaw3_fair.f k y.f0 y.f1 y.f2 y.f3 y.f4 = some b ∧ (b = true → Fair y)) : ∀ (dd i k : Nat), i + dd = x.f3.length → R + 1 + dd ≤ k →
    ∃ b, sentrylaw3_fair.l1 k i x.f0 x.f1 x.f2 x.f3 x.f4 = some b ∧ (b = true → ∀ j (hj : j < x.f3.length), i ≤ j → Fair x.f3[j]) := by
  intro dd
  induction dd with
  | zero =>
    intro i k hi hk
    obtain ⟨k, rfl⟩ : ∃ q, k = q + 1 := ⟨k - 1, by omega⟩
    simp only [sentrylaw3_fair.l1]
    rw [if_neg (by omega)]
    exact ⟨true, rfl, fun _ j hj hij => by omega⟩
  | succ dd ih =>
    intro i k hi hk
    obtain ⟨k, rfl⟩ : ∃ q, k = q + 1 := ⟨k - 1, by omega⟩
    simp only [sentrylaw3_fair.l1]
    rw [if_pos (by omega), if_pos (by omega), rd26 (by omega), wr_succ (by omega)]
    obtain ⟨b, e, hb⟩ := H x.f3[i] (List.getElem_mem _) k (by omega)
    rw [e]
    simp only [Option.bind_some]
    cases b with
    | false => exact ⟨false, rfl, fun h => by cases h⟩
    | true =>
      rw [if_pos rfl]
      obtain ⟨b, e2, h2⟩ := ih (i + 1) k (by omega) (by omega)
      refine ⟨b, e2, fun h j hj hij => ?_⟩
      by_cases e : j = i
      · subst e
        exact hb rfl
      · exact h2 h j hj (by omega)
theorem fair_l0 (x : S26) (hx : x.f3.length ≤ 200) (hx2 : x.f2.length ≤ 200) (R : Nat) (H : ∀ y ∈ x.f3, ∀ k, R ≤ k → ∃ b, sentrylaw3_fair.f k y.f0 y.f1 y.f2 y.f3 y.f4 = some b ∧ (b = true → Fair y)) : ∀ (dd i k : Nat), i + dd = x.f2.length → R + 220 + dd ≤ k →
    ∃ b, sentrylaw3_fair.l0 k i x.f0 x.f1 x.f2 x.f3 x.f4 = some b ∧ (b = true → (∀ j (hj : j < x.f2.length), i ≤ j → isB (x.f2[j]).f0 = true ∧ (x.f2[j]).f0.toList ≠ ([120, 109, 108, 110, 115] : List UInt8)) ∧ ∀ j (hj : j < x.f3.length), Fair x.f3[j]) := by
  intro dd
  induction dd with
  | zero =>
    intro i k hi hk
    obtain ⟨k, rfl⟩ : ∃ q, k = q + 1 := ⟨k - 1, by omega⟩
    simp only [sentrylaw3_fair.l0]
    rw [if_neg (by omega)]
    obtain ⟨b, e, hb⟩ := fair_l1 x hx R H x.f3.length 0 k (by omega) (by omega)
    exact ⟨b, e, fun h => ⟨fun j hj hij => by omega, fun j hj => hb h j hj (Nat.zero_le _)⟩⟩
  | succ dd ih =>
    intro i k hi hk
    obtain ⟨k, rfl⟩ : ∃ q, k = q + 1 := ⟨k - 1, by omega⟩
    simp only [sentrylaw3_fair.l0]
    rw [if_pos (by omega), if_pos (by omega), rd35 (by omega), wr_succ (by omega), is_f _ k (by omega)]
    simp only [Option.bind_some]
    by_cases h1 : isB (x.f2[i]).f0 = true
    · rw [if_pos h1]
      by_cases h2 : (x.f2[i]).f0.toList = ([120, 109, 108, 110, 115] : List UInt8)
      · rw [if_pos h2]
        exact ⟨false, rfl, fun h => by cases h⟩
      · rw [if_neg h2]
        obtain ⟨b, e2, h3⟩ := ih (i + 1) k (by omega) (by omega)
        refine ⟨b, e2, fun h => ⟨fun j hj hij => ?_, (h3 h).2⟩⟩
        by_cases e : j = i
        · subst e
          exact ⟨h1, h2⟩
        · exact (h3 h).1 j hj (by omega)
    · rw [if_neg h1]
      exact ⟨false, rfl, fun h => by cases h⟩
theorem fair_f {d : Nat} {x : S26} (h : Small d x) : ∀ k, 500 * d ≤ k → ∃ b, sentrylaw3_fair.f k x.f0 x.f1 x.f2 x.f3 x.f4 = some b ∧ (b = true → Fair x) := by
  induction h with
  | mk d x s0 s1 l2 a2 l3 _ ih =>
    intro k hk
    obtain ⟨k, rfl⟩ : ∃ q, k = q + 1 := ⟨k - 1, by omega⟩
    simp only [sentrylaw3_fair.f]
    rw [is_f _ k (by omega)]
    simp only [Option.bind_some]
    by_cases h1 : isB x.f1 = true
    · rw [if_pos h1]
      obtain ⟨b, e, hb⟩ := fair_l0 x l3 l2 (500 * d) ih x.f2.length 0 k (by omega) (by omega)
      refine ⟨b, e, fun h => .mk x h1 (fun a ha => ?_) (fun y hy => ?_)⟩
      · obtain ⟨j, hj, rfl⟩ := List.getElem_of_mem ha
        exact (hb h).1 j hj (Nat.zero_le _)
      · obtain ⟨j, hj, rfl⟩ := List.getElem_of_mem hy
        exact (hb h).2 j hj
    · rw [if_neg h1]
      exact ⟨false, rfl, fun h => by cases h⟩
end Go.Proofs.Ytlbcnklieefhmaa.PA
