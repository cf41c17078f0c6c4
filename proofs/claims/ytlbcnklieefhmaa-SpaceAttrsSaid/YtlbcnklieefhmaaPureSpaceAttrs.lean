/- SpaceAttrs: of at most eight attributes with plain names, none of them 'xmlns', and a space of at most 50 bytes: they stay, in order. -/
import Derived.Test.YtlbcnklieefhmaaPAx28
import Derived.Test.YtlbcnklieefhmaaGBack
import Derived.Test.YtlbcnklieefhmaaGSpace
namespace Go.Proofs.Ytlbcnklieefhmaa.Pure
open Go.RowKit Go.Proofs.Ytlbcnklieefhmaa.PA Go.Proofs.YtlbcnklieefhmaaW.PrintWords Go.Proofs.YtlbcnklieefhmaaW.PrintLast Go.Proofs.Ytlbcnklieefhmaa.GMap Go.Proofs.Ytlbcnklieefhmaa.OA
theorem attrs_end (u : ByteArray) (hu : u.size ≤ 50) (l : List S35) (hl : l.length ≤ 8) (h : ∀ a ∈ l, isB a.f0 = true ∧ a.f0.toList ≠ ([120, 109, 108, 110, 115] : List UInt8)) (h1 : ∀ a ∈ l, a.f1 = u) (k : Nat) (hk : 20 ≤ k) :
    (space_Resolve.f k (⟨#[97]⟩ : ByteArray) ([(⟨(⟨#[120, 109, 108, 110, 115]⟩ : ByteArray), u⟩ : S35)] ++ l) ([] : List S32) 0) = some (u, ⟨#[97]⟩, l, [], 0, 0, 0) := by
  obtain ⟨k, rfl⟩ : ∃ q, k = q + 1 := ⟨k - 1, by omega⟩
  unfold space_Resolve.f
  rw [resolveF, if_pos ⟨by simp; omega, by simp⟩]
  show Option.map _ ((attrsF _ _ (⟨⟨#[120, 109, 108, 110, 115]⟩, u⟩ :: l)).bind _) = _
  rw [attrsF, declare_xmlns _ _ _ (by omega) (by simp) (by simp)]
  simp only [Option.bind_some]
  rw [if_pos (by trivial), attrs_plain _ (by simp) l [] (by simp; omega) h (fun a ha => by rw [h1 a ha]; omega)]
  simp only [Option.bind_some]
  rw [if_pos (by trivial), sp_a]
  simp only [Option.bind_some]
  rw [if_pos (by decide), lk_hit _ _ _ _ rfl]
  simp only
  rw [if_neg (by rw [Lib.toList_data]; decide)]
  rfl
theorem attrs_l0 (l : List ByteArray) (hl : l.length ≤ 8) (u : ByteArray) (hu : u.size ≤ 50) : ∀ (dd i : Nat) (acc : List S35) (k : Nat), i + dd = l.length → 60 + dd ≤ k → acc.length = i → (∀ a ∈ acc, isB a.f0 = true ∧ a.f0.toList ≠ ([120, 109, 108, 110, 115] : List UInt8)) → (∀ a ∈ acc, a.f1 = u) →
    sentrylaw3_SpaceAttrs.l0 k l u acc i (⟨#[97]⟩ : ByteArray) [(⟨(⟨#[120, 109, 108, 110, 115]⟩ : ByteArray), u⟩ : S35)] 0 = some true := by
  intro dd
  induction dd with
  | zero =>
    intro i acc k hi hk ha h1 h2
    obtain ⟨k, rfl⟩ : ∃ q, k = q + 1 := ⟨k - 1, by omega⟩
    simp only [sentrylaw3_SpaceAttrs.l0]
    rw [if_neg (by omega), if_pos (by simp; omega), attrs_end u hu acc (by omega) h1 h2 k (by omega)]
    simp only [Option.bind_some]
    rw [if_pos (by trivial), same_attrs_f acc k (by omega) (by omega)]
    simp only [Option.bind_some]
    rw [if_pos (by trivial), at_rounds (fun k => sentrylaw3_known.mono k) (show 3 ≤ k by omega) known3]
    rfl
  | succ dd ih =>
    intro i acc k hi hk ha h1 h2
    obtain ⟨k, rfl⟩ : ∃ q, k = q + 1 := ⟨k - 1, by omega⟩
    simp only [sentrylaw3_SpaceAttrs.l0]
    rw [if_pos (by omega), if_pos (by omega), is_f _ k (by omega)]
    simp only [Option.bind_some]
    by_cases e : isB (rdOf ByteArray.empty l i) = true
    · rw [if_pos e]
      by_cases e2 : (rdOf ByteArray.empty l i).toList = ([120, 109, 108, 110, 115] : List UInt8)
      · rw [if_pos e2]
      · rw [if_neg e2, if_pos (by omega), wr_succ (by omega)]
        refine ih (i + 1) _ k (by omega) (by omega) (by simp [ha]) (fun a hm => ?_) (fun a hm => ?_)
        · rcases List.mem_append.1 hm with hm | hm
          · exact h1 a hm
          · obtain rfl := List.mem_singleton.1 hm
            exact ⟨e, e2⟩
        · rcases List.mem_append.1 hm with hm | hm
          · exact h2 a hm
          · obtain rfl := List.mem_singleton.1 hm
            rfl
    · rw [if_neg e]
theorem SpaceAttrs (x0 : List ByteArray) (_ : x0.length * 16 ≤ reachBytes ∧ ∀ y0 ∈ x0, y0.size ≤ reachBytes) (a1 : ByteArray) (_ : a1.size ≤ 140737488351232) : ∃ k, sentrylaw3_SpaceAttrs.f k x0 a1 = some true := by
  refine ⟨101, ?_⟩
  have hj : sentrylaw3_SpaceAttrs.j0 101 x0 a1 true = some true := rfl
  unfold sentrylaw3_SpaceAttrs.f
  by_cases h : (x0.length : Int) > 8
  · rw [if_pos h]; exact hj
  · rw [if_neg h]
    by_cases h2 : (a1.size : Int) > 50
    · rw [decide_eq_true h2]; exact hj
    · rw [decide_eq_false h2]
      simp only [sentrylaw3_SpaceAttrs.j0]
      rw [if_neg (by decide)]
      exact attrs_l0 x0 (by omega) a1 (by omega) x0.length 0 [] 100 (by omega) (by omega) rfl (fun a h => by simp at h) (fun a h => by simp at h)
end Go.Proofs.Ytlbcnklieefhmaa.Pure
