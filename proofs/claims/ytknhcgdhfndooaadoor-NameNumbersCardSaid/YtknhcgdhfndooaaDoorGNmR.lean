/- Texts in which one byte is replaced: by the library's own words, and by this claim's. -/
import Derived.Test.YtknhcgdhfndooaaDoorGNmS
import Derived.Lib.Replace
namespace Go.Proofs.YtknhcgdhfndooaaDoor.GEv
open Go
set_option linter.unusedSimpArgs false
set_option linter.unusedVariables false
theorem index_cons (b c : UInt8) (l : List UInt8) : Lib.index (b :: l) [c] = if b = c then 0 else if Lib.index l [c] = -1 then -1 else Lib.index l [c] + 1 := by
  show (if [c].isPrefixOf (b :: l) then 0 else if Lib.index l [c] == -1 then -1 else Lib.index l [c] + 1) = _
  by_cases h : b = c
  · subst h; simp [List.isPrefixOf]
  · have : ¬ c = b := fun e => h e.symm
    simp [List.isPrefixOf, h, this]
theorem index_none' {c : UInt8} : ∀ {l : List UInt8}, cutB c l = none → Lib.index l [c] = -1
  | [], _ => rfl
  | b :: l, h => by
    rw [index_cons]
    simp only [cutB] at h
    split at h
    · cases h
    · rename_i e
      rw [if_neg e]
      cases hl : cutB c l with
      | none => rw [index_none' hl, if_pos rfl]
      | some pq => rw [hl] at h; cases h
theorem index_some' {c : UInt8} : ∀ {l p q : List UInt8}, cutB c l = some (p, q) → Lib.index l [c] = p.length
  | [], p, q, h => by cases h
  | b :: l, p, q, h => by
    rw [index_cons]
    simp only [cutB] at h
    split at h
    · rename_i e; cases h; rw [if_pos e]; rfl
    · rename_i e
      rw [if_neg e]
      cases hl : cutB c l with
      | none => rw [hl] at h; cases h
      | some pq =>
        obtain ⟨p', q'⟩ := pq
        rw [hl] at h
        cases h
        rw [index_some' hl, if_neg (by omega)]
        simp
/-- A byte for which something else is written. -/
def sub1 (c : UInt8) (new : List UInt8) (x : UInt8) : List UInt8 := if x = c then new else [x]
theorem flat_not {c : UInt8} {new : List UInt8} : ∀ {l : List UInt8}, c ∉ l → l.flatMap (sub1 c new) = l
  | [], _ => rfl
  | b :: l, h => by
    have h1 : ¬ b = c := fun e => h (e ▸ List.mem_cons_self ..)
    rw [List.flatMap_cons, flat_not (l := l) fun hm => h (List.mem_cons_of_mem _ hm)]
    simp [sub1, h1]
theorem replaceK_flat (c : UInt8) (new : List UInt8) : ∀ (k : Nat) (s : List UInt8), s.count c ≤ k → Lib.replaceK [c] new k s = s.flatMap (sub1 c new)
  | 0, s, h => by
    have : c ∉ s := by
      intro hm
      have := List.count_pos_iff.2 hm
      omega
    rw [flat_not this]; rfl
  | k + 1, s, h => by
    unfold Lib.replaceK
    cases hc : cutB c s with
    | none =>
      rw [index_none' hc]
      simp only [beq_self_eq_true, if_true]
      exact (flat_not (cutB_none hc)).symm
    | some pq =>
      obtain ⟨p, q⟩ := pq
      obtain ⟨hs, hn⟩ := cutB_some hc
      rw [index_some' hc]
      have e1 : ((p.length : Int) == -1) = false := by simp
      have e2 : s.drop (p.length + 1) = q := by rw [hs]; simp
      have e3 : s.take p.length = p := by rw [hs]; simp
      have e4 : q.count c ≤ k := by
        rw [hs, List.count_append, List.count_cons_self] at h
        omega
      simp only [e1, Bool.false_eq_true, if_false, Int.toNat_natCast, List.length_singleton, e2, e3, replaceK_flat c new k q e4]
      rw [hs, List.flatMap_append, List.flatMap_cons, flat_not hn]
      simp [sub1]
theorem replaceAll_flat (c : UInt8) (new s : List UInt8) : Lib.replaceAll s [c] new = s.flatMap (sub1 c new) := by
  unfold Lib.replaceAll Lib.replace
  split
  · rename_i e
    have e := (eq_of_beq e).symm
    subst e
    have : ∀ x : UInt8, sub1 c [c] x = [x] := by
      intro x
      unfold sub1
      split
      · rename_i q; rw [q]
      · rfl
    rw [show sub1 c [c] = fun x => [x] from funext this]
    simp
  · have hn : Lib.replaceNum s [c] (-1) = s.count c := by
      unfold Lib.replaceNum
      rw [if_pos (.inl (by decide)), Lib.count_one]
    rw [hn]
    exact replaceK_flat c new _ s (Nat.le_refl _)
/-- A byte as it is written. -/
def esc (attr : Bool) (c : UInt8) : List UInt8 :=
  if c = 38 then [38, 97, 109, 112, 59] else if c = 60 then [38, 108, 116, 59] else if c = 62 then [38, 103, 116, 59] else
  if c = 34 ∧ attr = true then [38, 113, 117, 111, 116, 59] else if c = 9 ∧ attr = true then [38, 35, 57, 59] else
  if c = 10 ∧ attr = true then [38, 35, 49, 48, 59] else if c = 13 ∧ attr = true then [38, 35, 49, 51, 59] else [c]
def escape (attr : Bool) (s : List UInt8) : List UInt8 := s.flatMap (esc attr)
theorem escape_false (s : List UInt8) : ((s.flatMap (sub1 38 [38, 97, 109, 112, 59])).flatMap (sub1 60 [38, 108, 116, 59])).flatMap (sub1 62 [38, 103, 116, 59]) = escape false s := by
  rw [List.flatMap_assoc, List.flatMap_assoc]
  unfold escape
  congr 1
  funext x
  unfold esc sub1
  by_cases h1 : x = 38
  · subst h1; decide
  by_cases h2 : x = 60
  · subst h2; decide
  by_cases h3 : x = 62
  · subst h3; decide
  simp [h1, h2, h3]
theorem escape_true (s : List UInt8) : ((((((s.flatMap (sub1 38 [38, 97, 109, 112, 59])).flatMap (sub1 60 [38, 108, 116, 59])).flatMap (sub1 62 [38, 103, 116, 59])).flatMap (sub1 34 [38, 113, 117, 111, 116, 59])).flatMap (sub1 9 [38, 35, 57, 59])).flatMap (sub1 10 [38, 35, 49, 48, 59])).flatMap (sub1 13 [38, 35, 49, 51, 59]) = escape true s := by
  simp only [List.flatMap_assoc]
  unfold escape
  congr 1
  funext x
  unfold esc sub1
  by_cases h1 : x = 38
  · subst h1; decide
  by_cases h2 : x = 60
  · subst h2; decide
  by_cases h3 : x = 62
  · subst h3; decide
  by_cases h4 : x = 34
  · subst h4; decide
  by_cases h5 : x = 9
  · subst h5; decide
  by_cases h6 : x = 10
  · subst h6; decide
  by_cases h7 : x = 13
  · subst h7; decide
  simp [h1, h2, h3, h4, h5, h6, h7]
end Go.Proofs.YtknhcgdhfndooaaDoor.GEv
