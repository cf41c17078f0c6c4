/- The evaluator's soundness, thirteenth part: regions that draw their order. First: what the evaluator has seen of one. -/
import Derived.Test.YtknenadpkgajjaaGEvM
namespace Go.Proofs.Ytknenadpkgajjaa.GEv
open Go
set_option linter.unusedSimpArgs false
set_option linter.unusedVariables false

section
variable {ops : Array Oper}
theorem lexFrom_facts : ∀ (fuel k : Nat) (listed : Array Bool), listed.size = ops.size → (∀ j, j < ops.size → listed[j]? = some (decide (j < k))) → fuel + k = ops.size → Region.lexFrom .any ops fuel k listed = true →
    (∀ j o, k ≤ j → ops[j]? = some o → ∀ e ∈ o.after, Region.binds .any e = true → e.on < j) ∧
    (∀ i j oi oj, k ≤ i → i < j → ops[i]? = some oi → ops[j]? = some oj → (∃ e ∈ oj.after, Region.binds .any e = true ∧ e.on = i) ∨ oi.apart ops oj = true)
  | 0, k, listed, hs, hl, hk, hB => by
    have hno : ∀ j o, k ≤ j → ops[j]? ≠ some o := fun j o hj e => by
      have := (Array.getElem?_eq_some_iff.1 e).1
      omega
    exact ⟨fun j o hj e => absurd e (hno j o hj), fun i j oi oj hi hij e => absurd e (hno i oi hi)⟩
  | fuel + 1, k, listed, hs, hl, hk, hB => by
    simp only [Region.lexFrom, Bool.and_eq_true] at hB
    obtain ⟨⟨hr, hf⟩, hB'⟩ := hB
    have hkn : k < ops.size := by omega
    have ih := lexFrom_facts fuel (k + 1) (listed.setIfInBounds k true) (by simp [hs]) (fun j hj => by
      rw [Array.getElem?_setIfInBounds]
      by_cases e : k = j
      · subst e; simp [hs, hkn]
      · rw [if_neg e, hl j hj]
        congr 1
        have : (j < k) ↔ (j < k + 1) := by omega
        simp [this]) (by omega) hB'
    have hg : ∀ j, listed.getD j false = true → j < k := fun j e => by
      rw [Array.getD_eq_getD_getElem?] at e
      rcases Nat.lt_or_ge j ops.size with h | h
      · rw [hl j h] at e; simpa using e
      · rw [Array.getElem?_eq_none (by omega)] at e; cases e
    have hk' : k ∈ Region.ready .any ops listed := by simpa using hr
    obtain ⟨_, ok, hok, hall⟩ := mem_ready.1 hk'
    refine ⟨fun j o hj ho e he hb => ?_, fun i j oi oj hi hij ho1 ho2 => ?_⟩
    · by_cases q : j = k
      · subst q
        rw [hok] at ho; cases ho
        exact hg _ (hall e he hb)
      · exact ih.1 j o (by omega) ho e he hb
    · by_cases q : i = k
      · subst q
        rw [hok] at ho1; cases ho1
        have hun : listed.getD j true = false := by
          have hjn : j < ops.size := (Array.getElem?_eq_some_iff.1 ho2).1
          rw [Array.getD_eq_getD_getElem?, hl j hjn]
          simp; omega
        by_cases hex : ∃ e ∈ oj.after, Region.binds .any e = true ∧ e.on = i
        · exact .inl hex
        · right
          exact Region.free_spec hok hf j oj ho2 (by omega) hun fun e he hb heq => hex ⟨e, he, hb, heq⟩
      · exact ih.2 i j oi oj (by omega) hij ho1 ho2
structure Lex (ops : Array Oper) : Prop where
  back : ∀ j o, ops[j]? = some o → ∀ e ∈ o.after, Region.binds .any e = true → e.on < j
  pair : ∀ i j oi oj, i < j → ops[i]? = some oi → ops[j]? = some oj → (∃ e ∈ oj.after, Region.binds .any e = true ∧ e.on = i) ∨ oi.apart ops oj = true
theorem lex_of (hB : Region.lexB .any ops = true) : Lex ops := by
  simp only [Region.lexB, Bool.and_eq_true] at hB
  have := lexFrom_facts ops.size 0 (Array.replicate ops.size false) (by simp) (fun j hj => by simp [hj]) (by omega) hB.2
  exact ⟨fun j o => this.1 j o (Nat.zero_le _), fun i j oi oj => this.2 i j oi oj (Nat.zero_le _)⟩

/-! ### what stands ahead -/
theorem bmask_spec {acc : List Nat} {o : Oper} {j : Nat} (h : Nat.testBit (bmask acc o) j = true) : ∃ e ∈ o.after, Region.binds .any e = true ∧ (j = e.on ∨ Nat.testBit (acc.getD e.on 0) j = true) := by
  unfold bmask at h
  have key : ∀ l : List Edge, Nat.testBit (l.foldr (fun e s => if Region.binds .any e then s ||| 2 ^ e.on ||| acc.getD e.on 0 else s) 0) j = true →
      ∃ e ∈ l, Region.binds .any e = true ∧ (j = e.on ∨ Nat.testBit (acc.getD e.on 0) j = true) := by
    intro l
    induction l with
    | nil => intro h; simp at h
    | cons e l ih =>
      intro h
      simp only [List.foldr_cons] at h
      split at h
      · rename_i hb
        rw [Nat.testBit_or, Nat.testBit_or] at h
        simp only [Bool.or_eq_true] at h
        rcases h with (h | h) | h
        · obtain ⟨e', h1, h2⟩ := ih h
          exact ⟨e', List.mem_cons_of_mem _ h1, h2⟩
        · rw [Nat.testBit_two_pow] at h
          exact ⟨e, List.mem_cons_self .., hb, .inl ((by simpa using h : e.on = j).symm)⟩
        · exact ⟨e, List.mem_cons_self .., hb, .inr h⟩
      · obtain ⟨e', h1, h2⟩ := ih h
        exact ⟨e', List.mem_cons_of_mem _ h1, h2⟩
  obtain ⟨e, h1, h2⟩ := key o.after.toList h
  exact ⟨e, by simpa using h1, h2⟩
theorem befL_spec : ∀ (l : List Oper) (acc : List Nat), (∀ j, l[j]? = ops[acc.length + j]?) →
    (∀ i j, Nat.testBit (acc.getD i 0) j = true → ∃ o, ops[i]? = some o ∧ ∃ e ∈ o.after, Region.binds .any e = true ∧ (j = e.on ∨ Nat.testBit (acc.getD e.on 0) j = true)) →
    ∀ i j, Nat.testBit ((befL l acc).getD i 0) j = true → ∃ o, ops[i]? = some o ∧ ∃ e ∈ o.after, Region.binds .any e = true ∧ (j = e.on ∨ Nat.testBit ((befL l acc).getD e.on 0) j = true)
  | [], acc, _, h => h
  | o :: l, acc, hl, h => by
    have grow : ∀ k j, Nat.testBit (acc.getD k 0) j = true → Nat.testBit ((acc ++ [bmask acc o]).getD k 0) j = true := fun k j q => by
      rcases Nat.lt_or_ge k acc.length with hk | hk
      · simpa [List.getD_eq_getElem?_getD, List.getElem?_append_left hk] using q
      · simp [List.getD_eq_getElem?_getD, List.getElem?_eq_none hk] at q
    refine befL_spec l (acc ++ [bmask acc o]) (fun j => by have := hl (j + 1); simpa [Nat.add_assoc, Nat.add_comm 1 j] using this) fun i j q => ?_
    rcases Nat.lt_trichotomy i acc.length with hi | hi | hi
    · have q' : Nat.testBit (acc.getD i 0) j = true := by simpa [List.getD_eq_getElem?_getD, List.getElem?_append_left hi] using q
      obtain ⟨o', h1, e, h2, h3, h4⟩ := h i j q'
      exact ⟨o', h1, e, h2, h3, h4.imp id (grow _ _)⟩
    · subst hi
      have q' : Nat.testBit (bmask acc o) j = true := by simpa [List.getD_eq_getElem?_getD] using q
      obtain ⟨e, h2, h3, h4⟩ := bmask_spec q'
      exact ⟨o, by simpa using (hl 0).symm, e, h2, h3, h4.imp id (grow _ _)⟩
    · rw [List.getD_eq_getElem?_getD, List.getElem?_eq_none (by simp; omega)] at q
      simp at q
theorem bef_closed (hL : Lex ops) {L : Nat → Prop} (hC : ∀ i o, ops[i]? = some o → L i → ∀ e ∈ o.after, Region.binds .any e = true → L e.on) :
    ∀ i j, Nat.testBit ((befL ops.toList []).getD i 0) j = true → (L i → L j) ∧ ((∀ o, ops[i]? = some o → ∀ e ∈ o.after, Region.binds .any e = true → L e.on) → L j) := by
  have spec := befL_spec (ops := ops) ops.toList [] (fun j => by simp) (fun i j q => by simp at q)
  intro i
  induction i using Nat.strongRecOn with
  | _ i ih =>
    intro j q
    obtain ⟨o, h1, e, h2, h3, h4⟩ := spec i j q
    have hlt := hL.back i o h1 e h2 h3
    have down : L e.on → L j := fun h => by
      rcases h4 with rfl | h4
      · exact h
      · exact (ih e.on hlt j h4).1 h
    exact ⟨fun h => down (hC i o h1 h e h2 h3), fun h => down (h o h1 e h2 h3)⟩

/-! ### what the evaluator has done -/
def StepOk (E : Env) (n : Nat) (ops : Array Oper) (F : Nat → Option Foot) (j : Nat) (o : Oper) (s s' : St) (v : Value) (h' : H) : Prop :=
  s'.nt = s.nt ∧ putT s.tm s.nt o.dst v = some s'.tm ∧
  ((wanted ops s.tm o = false ∧ v = undef ∧ s'.h = s.h ∧ F j = none) ∨
   (wanted ops s.tm o = true ∧ evFull E (ev E n) s.tm { s.h with low := top s.h.next } o = some (v, h') ∧ s'.h = { h' with low := if h'.low < s.h.low then h'.low else s.h.low } ∧
     ((pureOp o.op = true ∧ F j = none) ∨ (pureOp o.op = false ∧ F j = some (foot s.tm o (Nat.blt h'.low s.h.next) s.h.m h'.m)))))
theorem fits_spec {b : Nat} {f : Foot} : ∀ {l : List (Nat × Foot)}, fits b f l = true → ∀ p ∈ l, clash f p.2 = true → Nat.testBit b p.1 = true
  | [], _, p, hp => by cases hp
  | (j, g) :: r, h, p, hp => by
    simp only [fits, Bool.and_eq_true] at h
    intro hc
    cases hp with
    | head => have := h.1; rw [if_pos hc] at this; exact this
    | tail _ hp => exact fits_spec h.2 p hp hc
structure Trace (E : Env) (n : Nat) (ops : Array Oper) (bef : List Nat) (i m : Nat) (seen : List (Nat × Foot)) (S : Nat → St) (V : Nat → Value) (Hh : Nat → H) (F : Nat → Option Foot) : Prop where
  step : ∀ j o, i ≤ j → j < m → ops[j]? = some o → StepOk E n ops F j o (S j) (S (j + 1)) (V j) (Hh j)
  seen : ∀ j f, i ≤ j → j < m → F j = some f → ∀ p ∈ seen, clash f p.2 = true → Nat.testBit (bef.getD j 0) p.1 = true
  fits : ∀ j f k g, i ≤ k → k < j → j < m → F j = some f → F k = some g → clash f g = true → Nat.testBit (bef.getD j 0) k = true
theorem trace_of {E : Env} {n : Nat} {bef : List Nat} : ∀ (l : List Oper) (i : Nat) (seen : List (Nat × Foot)) (st st' : St), (∀ j, l[j]? = ops[i + j]?) → evDraw E (ev E n) ops bef l i seen st = some st' →
    ∃ S V Hh F, S i = st ∧ S (i + l.length) = st' ∧ Trace E n ops bef i (i + l.length) seen S V Hh F
  | [], i, seen, st, st', hl, he => by
    cases he
    exact ⟨fun _ => st, fun _ => undef, fun _ => st.h, fun _ => none, rfl, rfl, ⟨fun j o h1 h2 => by simp at h2; omega, fun j f h1 h2 => by simp at h2; omega, fun j f k g h1 h2 h3 => by simp at h3; omega⟩⟩
  | o :: l, i, seen, st, st', hl, he => by
    have h0 : ops[i]? = some o := by simpa using (hl 0).symm
    have hl' : ∀ j, l[j]? = ops[i + 1 + j]? := fun j => by have := hl (j + 1); simpa [Nat.add_assoc, Nat.add_comm 1 j] using this
    have hlen : i + (o :: l).length = i + 1 + l.length := by simp; omega
    -- putting the first step ahead of the rest
    have put : ∀ (s1 : St) (v : Value) (h' : H) (f : Option Foot) (seen' : List (Nat × Foot)), evDraw E (ev E n) ops bef l (i + 1) seen' s1 = some st' →
        (∀ F : Nat → Option Foot, F i = f → StepOk E n ops F i o st s1 v h') → (∀ p ∈ seen, p ∈ seen') → (∀ g, f = some g → (i, g) ∈ seen') → (∀ g, f = some g → ∀ p ∈ seen, clash g p.2 = true → Nat.testBit (bef.getD i 0) p.1 = true) →
        ∃ S V Hh F, S i = st ∧ S (i + (o :: l).length) = st' ∧ Trace E n ops bef i (i + (o :: l).length) seen S V Hh F := by
      intro s1 v h' f seen' hev hstep hsub hin hfit
      obtain ⟨S, V, Hh, F, e1, e2, tr⟩ := trace_of l (i + 1) seen' s1 st' hl' hev
      have hF : ∀ j, j ≠ i → (fun j => if j = i then f else F j) j = F j := fun j hj => by simp [hj]
      refine ⟨fun j => if j = i then st else S j, fun j => if j = i then v else V j, fun j => if j = i then h' else Hh j, fun j => if j = i then f else F j, by simp, ?_, ⟨?_, ?_, ?_⟩⟩
      · rw [hlen]
        have : ¬ (i + 1 + l.length = i) := by omega
        simp only [this, if_false]; exact e2
      · intro j o' h1 h2 ho
        rw [hlen] at h2
        by_cases q : j = i
        · subst q
          rw [h0] at ho; cases ho
          have : ¬ (j + 1 = j) := by omega
          simp only [if_true, this, if_false, e1]
          exact hstep _ (by simp)
        · have q2 : ¬ (j + 1 = i) := by omega
          have := tr.step j o' (by omega) h2 ho
          simp only [q, q2, if_false]
          unfold StepOk at this ⊢
          simp only [q, if_false]
          exact this
      · intro j g h1 h2 hg p hp hc
        rw [hlen] at h2
        by_cases q : j = i
        · subst q
          simp only [if_true] at hg
          exact hfit g hg p hp hc
        · simp only [q, if_false] at hg
          exact tr.seen j g (by omega) h2 hg p (hsub p hp) hc
      · intro j g k g' h1 h2 h3 hg hg' hc
        rw [hlen] at h3
        have q : j ≠ i := by omega
        simp only [q, if_false] at hg
        by_cases q2 : k = i
        · subst q2
          simp only [if_true] at hg'
          exact tr.seen j g (by omega) h3 hg _ (hin g' hg') hc
        · simp only [q2, if_false] at hg'
          exact tr.fits j g k g' (by omega) h2 h3 hg hg' hc
    simp only [evDraw] at he
    split at he
    · rename_i hw
      split at he
      · rename_i v h' hf
        split at he
        · rename_i tm hp
          split at he
          · rename_i hpure
            exact put _ v h' none seen he (fun F hF => ⟨rfl, hp, .inr ⟨hw, hf, rfl, .inl ⟨hpure, hF⟩⟩⟩) (fun p hp => hp) (fun g q => by cases q) (fun g q => by cases q)
          · rename_i hpure
            split at he
            · rename_i hfit
              exact put _ v h' (some (foot st.tm o (Nat.blt h'.low st.h.next) st.h.m h'.m)) _ he (fun F hF => ⟨rfl, hp, .inr ⟨hw, hf, rfl, .inr ⟨by simpa using hpure, hF⟩⟩⟩) (fun p hp => List.mem_cons_of_mem _ hp)
                (fun g q => by cases q; exact List.mem_cons_self ..) (fun g q p hp hc => by cases q; exact fits_spec hfit p hp hc)
            · cases he
        · cases he
      · cases he
    · rename_i hw
      split at he
      · rename_i tm hp
        exact put _ undef st.h none seen he (fun F hF => ⟨rfl, hp, .inl ⟨by simpa using hw, rfl, rfl, hF⟩⟩) (fun p hp => hp) (fun g q => by cases q) (fun g q => by cases q)
      · cases he
end
end Go.Proofs.Ytknenadpkgajjaa.GEv
