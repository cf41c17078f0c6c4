/- Names, on the pure side: what the reference's Is tells, and what a name's parting at ':' comes to. -/
import Derived.Test.YtlbcnklieefhmaaPAx4
import Derived.Test.YtlbcnklieefhmaaPAx16
import Derived.Lib.IndexLaws
namespace Go.Proofs.Ytlbcnklieefhmaa.PA
open Go.RowKit Go.Proofs.YtlbcnklieefhmaaW.PrintWords Go.Proofs.YtlbcnklieefhmaaW.PrintLast

theorem ba_ext {a b : ByteArray} (h : a.data.toList = b.data.toList) : a = b := by
  obtain ⟨⟨l⟩⟩ := a
  obtain ⟨⟨m⟩⟩ := b
  have h' : l = m := h
  rw [h']
theorem size_list (s : ByteArray) : s.size = s.data.toList.length := by rw [Array.length_toList]; rfl
def okFirst (c : Int) : Bool := decide ((97 ≤ c ∧ c ≤ 122) ∨ (65 ≤ c ∧ c ≤ 90) ∨ c = 95)
def okByte (c : Int) : Bool := okFirst c || decide ((48 ≤ c ∧ c ≤ 57) ∨ c = 45 ∨ c = 46)
theorem first_f (c : Int) : sentryref1_first.f c = some (okFirst c) := by
  unfold sentryref1_first.f okFirst
  (repeat' split) <;> (congr 1; rw [eq_comm, Bool.eq_iff_iff]; simp; omega)
theorem byte_f (c : Int) : sentryref1_Byte.f c = some (okByte c) := by
  unfold sentryref1_Byte.f
  rw [first_f]
  simp only [Option.bind_some]
  unfold okByte
  cases hf : okFirst c
  · rw [if_neg (by decide), Bool.false_or]
    (repeat' split) <;> (congr 1; rw [eq_comm, Bool.eq_iff_iff]; simp; omega)
  · rfl
def isB (s : ByteArray) : Bool := decide (1 ≤ s.size ∧ s.size ≤ 12) && (okFirst (bt s 0) && decide (∀ i : Nat, i < s.size → okByte (bt s i) = true))
theorem is_l0 (s : ByteArray) (hs : s.size ≤ 12) (d : Nat) : ∀ (k i : Nat), i ≤ s.size → s.size - i = d → d < k → sentryref1_Is.l0 k s i = some (decide (∀ j : Nat, j < s.size → i ≤ j → okByte (bt s j) = true)) := by
  induction d with
  | zero =>
    intro k i h1 hd hk
    obtain ⟨k, rfl⟩ : ∃ m, k = m + 1 := ⟨k - 1, by omega⟩
    simp only [sentryref1_Is.l0]
    rw [if_neg (by omega), decide_eq_true (fun j b a => by omega)]
  | succ d ih =>
    intro k i h1 hd hk
    obtain ⟨k, rfl⟩ : ∃ m, k = m + 1 := ⟨k - 1, by omega⟩
    simp only [sentryref1_Is.l0]
    rw [if_pos (by omega), if_pos (by omega), byte_f]
    simp only [Option.bind_some]
    have hw : wrap64 ((i : Int) + 1) = ((i + 1 : Nat) : Int) := by unfold wrap64; omega
    cases hb : okByte (bt s i)
    · rw [if_neg (by decide), decide_eq_false (fun h => by rw [h i (by omega) (by omega)] at hb; cases hb)]
    · rw [if_pos rfl, hw, ih k (i + 1) (by omega) (by omega) (by omega)]
      congr 1
      rw [Bool.eq_iff_iff]
      simp only [decide_eq_true_eq]
      refine ⟨fun h j b a => ?_, fun h j b a => h j b (by omega)⟩
      by_cases e : j = i
      · subst e; exact hb
      · exact h j b (by omega)
theorem is_f (s : ByteArray) (k : Nat) (hk : 15 ≤ k) : sentryref1_Is.f k s = some (isB s) := by
  obtain ⟨k, rfl⟩ : ∃ m, k = m + 1 := ⟨k - 1, by omega⟩
  unfold sentryref1_Is.f isB
  by_cases h1 : s.size < 1
  · rw [if_pos (by omega)]
    simp only [sentryref1_Is.j0]
    rw [decide_eq_false (by omega)]; rfl
  · rw [if_neg (by omega)]
    by_cases h2 : s.size > 12
    · rw [if_pos (by omega)]
      simp only [sentryref1_Is.j0]
      rw [decide_eq_false (by omega)]; rfl
    · rw [if_neg (by omega), if_pos (by omega), first_f]
      simp only [Option.bind_some, sentryref1_Is.j0]
      rw [decide_eq_true (show 1 ≤ s.size ∧ s.size ≤ 12 by omega), Bool.true_and]
      cases hf : okFirst (bt s 0)
      · rw [if_pos (by decide), Bool.false_and]
      · rw [if_neg (by decide), Bool.true_and]
        have := is_l0 s (by omega) s.size k 0 (by omega) (by omega) (by omega)
        rw [show ((0 : Nat) : Int) = 0 from rfl] at this
        rw [this]
        congr 1
        rw [Bool.eq_iff_iff]
        simp
theorem isB_size {s : ByteArray} (h : isB s = true) : 1 ≤ s.size ∧ s.size ≤ 12 := by
  unfold isB at h
  rw [Bool.and_eq_true] at h
  exact of_decide_eq_true h.1
theorem isB_colon {s : ByteArray} (h : isB s = true) : ∀ c ∈ s.data.toList, c ≠ 58 := by
  unfold isB at h
  rw [Bool.and_eq_true, Bool.and_eq_true] at h
  have h3 := of_decide_eq_true h.2.2
  intro c hc e
  subst e
  obtain ⟨i, hi, he⟩ := List.getElem_of_mem hc
  have hi' : i < s.size := by rw [size_list]; exact hi
  have h4 := h3 i hi'
  have h5 : bt s i = 58 := by
    unfold bt
    rw [dif_pos (by simpa using hi')]
    have : s[(i : Int).toNat]'(by simpa using hi') = 58 := by
      simp only [Int.toNat_natCast]
      rw [← he]; rfl
    rw [this]; rfl
  rw [h5] at h4
  revert h4
  decide
theorem indexByte_at (p r : List UInt8) (c : UInt8) (h : ∀ x ∈ p, x ≠ c) : Lib.indexByte (p ++ c :: r) c = p.length := by
  induction p with
  | nil => simp [Lib.indexByte]
  | cons x p ih =>
    have hx := h x (by simp)
    have := ih (fun y hy => h y (by simp [hy]))
    simp only [List.cons_append, Lib.indexByte]
    rw [this]
    have e1 : (x == c) = false := by simpa using hx
    have e2 : ((p.length : Int) == -1) = false := by rw [beq_eq_false_iff_ne]; omega
    rw [e1, e2]
    simp
theorem indexByte_not (p : List UInt8) (c : UInt8) (h : ∀ x ∈ p, x ≠ c) : Lib.indexByte p c = -1 := by
  induction p with
  | nil => rfl
  | cons x p ih =>
    have hx := h x (by simp)
    have := ih (fun y hy => h y (by simp [hy]))
    simp only [Lib.indexByte]
    rw [this]
    simp [hx]
theorem split_at (s : ByteArray) (p r : List UInt8) (hs : s.data.toList = p ++ 58 :: r) (hp : ∀ x ∈ p, x ≠ 58) (hb : s.size ≤ 4611686018427387904) : name_Split.f s = some (⟨p.toArray⟩, ⟨r.toArray⟩) := by
  unfold name_Split.f strings_Cut.f
  rw [dif_pos (by exact ⟨rfl, hb⟩)]
  have h1 : (⟨#[58]⟩ : ByteArray)[0]'(by decide) = 58 := rfl
  simp only [h1]
  unfold cutAt
  rw [hs, indexByte_at p r 58 hp, if_pos (by omega)]
  simp only [Option.bind_some, if_true]
  congr 2
  · apply ba_ext
    simp [hs]
  · apply ba_ext
    rw [size_list, hs]
    simp [hs]
    rw [List.take_of_length_le (by omega)]
theorem split_not (s : ByteArray) (hp : ∀ x ∈ s.data.toList, x ≠ 58) (hb : s.size ≤ 4611686018427387904) : name_Split.f s = some (⟨#[]⟩, s) := by
  unfold name_Split.f strings_Cut.f
  rw [dif_pos (by exact ⟨rfl, hb⟩)]
  have h1 : (⟨#[58]⟩ : ByteArray)[0]'(by decide) = 58 := rfl
  simp only [h1]
  unfold cutAt
  rw [indexByte_not _ 58 hp, if_neg (by omega)]
  rfl
end Go.Proofs.Ytlbcnklieefhmaa.PA
