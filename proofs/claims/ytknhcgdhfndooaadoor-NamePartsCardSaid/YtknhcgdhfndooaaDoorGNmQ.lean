/- 'NameParts', by a symbolic run. -/
import Derived.Test.YtknhcgdhfndooaaDoorGNmS
namespace Go.Proofs.YtknhcgdhfndooaaDoor.GEv
open Go
open Go.RowKit (Below)
set_option linter.unusedSimpArgs false
set_option linter.unusedVariables false
theorem isName_no {l : List UInt8} (h : isName l = true) : (58 : UInt8) ∉ l := by
  intro hm
  unfold isName at h
  simp only [Bool.and_eq_true, List.all_eq_true] at h
  have := h.2 58 hm
  revert this
  decide
theorem isName_len {l : List UInt8} (h : isName l = true) : l.length ≤ 12 := by
  unfold isName at h
  simp only [Bool.and_eq_true, decide_eq_true_eq] at h
  exact h.1.1.2
theorem isName_not {l : List UInt8} (h : (58 : UInt8) ∈ l) : isName l = false := by
  cases hb : isName l with
  | false => rfl
  | true => exact absurd h (isName_no hb)
set_option maxRecDepth 100000
attribute [local cbv_opaque] isString isSlice isBoolT fOff iSize eqNil zero H.load H.store H.push H.dip whereB List.length List.take List.drop List.append Nat.sub Nat.add isName
attribute [local cbv_eval] List.length_cons List.length_nil
section
variable {E : Env} (hE : E = EK)
include hE
theorem nameParts (s t : ByteArray) (h : H) : CallP E 11 [.string s, .string t] h (fun v _ => v = .bool true) := by
  refine CallP.ofE hE rfl Tryd.func11 rfl (Nat.le_of_ble_eq_true rfl) ?_
  have hS : isString E.1 9 = true := by rw [hE]; exact stringT
  obtain ⟨⟨a⟩⟩ := s
  obtain ⟨⟨b⟩⟩ := t
  have n1 : ∀ (h : H) (K : Value → H → Prop), K (.bool (isName a)) h → CallP E 25 [.string ⟨⟨a⟩⟩] h K := fun h K hk => rIs hE ⟨⟨a⟩⟩ h K hk
  have n2 : ∀ (h : H) (K : Value → H → Prop), K (.bool (isName b)) h → CallP E 25 [.string ⟨⟨b⟩⟩] h K := fun h K hk => rIs hE ⟨⟨b⟩⟩ h K hk
  have n3 := fun h K hk => knownK hE h K hk
  cases ha : isName a with
  | false =>
    clear hE
    rw [ha] at n1
    cbv
    refine .inl (n1 _ _ ?_)
    cbv
    exact ⟨_, rfl, rfl⟩
  | true =>
  cases hb : isName b with
  | false =>
    clear hE
    rw [ha] at n1
    rw [hb] at n2
    cbv
    refine .inl (n1 _ _ ?_)
    cbv
    refine .inl (n2 _ _ ?_)
    cbv
    exact ⟨_, rfl, rfl⟩
  | true =>
  have la := isName_len ha
  have lb := isName_len hb
  have na := isName_no ha
  have s1 : ∀ (h : H) (K : Value → H → Prop), (∀ h', K (.tuple #[.string ⟨⟨a⟩⟩, .string ⟨⟨b⟩⟩]) h') → CallP E 22 [.string ⟨⟨(a ++ [58]) ++ b⟩⟩] h K := fun h K hk =>
    nSplit hE ((a ++ [58]) ++ b) (by simp; omega) h K (by
      unfold splitV
      rw [List.append_assoc, List.singleton_append, cutB_of na]
      exact hk)
  have s2 : ∀ (h : H) (K : Value → H → Prop), (∀ h', K (.tuple #[.string ⟨⟨[]⟩⟩, .string ⟨⟨a⟩⟩]) h') → CallP E 22 [.string ⟨⟨a⟩⟩] h K := fun h K hk =>
    nSplit hE a (by omega) h K (by
      unfold splitV
      rw [cutB_not na]
      exact hk)
  have q1 : ∀ (h : H) (K : Value → H → Prop), (∀ h', K (.bool true) h') → CallP E 21 [.string ⟨⟨(a ++ [58]) ++ b⟩⟩] h K := fun h K hk =>
    nQual hE ((a ++ [58]) ++ b) (by simp; omega) h K (by
      unfold isQual
      rw [List.append_assoc, List.singleton_append, cutB_of na]
      simp only [ha, hb, Bool.and_self]
      exact hk)
  have q2 : ∀ (h : H) (K : Value → H → Prop), (∀ h', K (.bool false) h') → CallP E 21 [.string ⟨⟨(((a ++ [58]) ++ b) ++ [58]) ++ a⟩⟩] h K := fun h K hk =>
    nQual hE ((((a ++ [58]) ++ b) ++ [58]) ++ a) (by simp; omega) h K (by
      unfold isQual
      rw [show (((a ++ [58]) ++ b) ++ [58]) ++ a = a ++ 58 :: (b ++ 58 :: a) by simp, cutB_of na]
      simp only [ha, isName_not (l := b ++ 58 :: a) (by simp), Bool.and_false]
      exact hk)
  have q3 : ∀ (h : H) (K : Value → H → Prop), (∀ h', K (.bool false) h') → CallP E 21 [.string ⟨⟨[58] ++ a⟩⟩] h K := fun h K hk =>
    nQual hE ([58] ++ a) (by simp; omega) h K (by
      unfold isQual
      rw [show [58] ++ a = [] ++ 58 :: a by simp, cutB_of (by simp)]
      simp only [show isName [] = false from rfl, Bool.false_and]
      exact hk)
  have q4 : ∀ (h : H) (K : Value → H → Prop), (∀ h', K (.bool false) h') → CallP E 21 [.string ⟨⟨a ++ [58]⟩⟩] h K := fun h K hk =>
    nQual hE (a ++ [58]) (by simp; omega) h K (by
      unfold isQual
      rw [cutB_of na]
      simp only [show isName [] = false from rfl, Bool.and_false]
      exact hk)
  clear hE
  rw [ha] at n1
  rw [hb] at n2
  cbv
  refine .inl (n1 _ _ ?_)
  cbv
  refine .inl (n2 _ _ ?_)
  cbv
  refine ⟨(by show a.length + 1 ≤ 4611686018427387904; omega), (by show (a ++ [58]).length + b.length ≤ 4611686018427387904; simp; omega), ?_⟩
  refine .inl (s1 _ _ fun h' => ?_)
  cbv
  refine .inl (s2 _ _ fun h' => ?_)
  cbv
  repeat' (refine And.intro (fun _ => ?_) (fun h1 => absurd rfl h1); cbv)
  refine ⟨(by show a.length + 1 ≤ 4611686018427387904; omega), (by show (a ++ [58]).length + b.length ≤ 4611686018427387904; simp; omega), ?_⟩
  refine .inl (q1 _ _ fun h' => ?_)
  cbv
  refine ⟨(by show a.length + 1 ≤ 4611686018427387904; omega), (by show (a ++ [58]).length + b.length ≤ 4611686018427387904; simp; omega), (by show ((a ++ [58]) ++ b).length + 1 ≤ 4611686018427387904; simp; omega), (by show (((a ++ [58]) ++ b) ++ [58]).length + a.length ≤ 4611686018427387904; simp; omega), ?_⟩
  refine .inl (q2 _ _ fun h' => ?_)
  cbv
  refine ⟨(by show 1 + a.length ≤ 4611686018427387904; omega), ?_⟩
  refine .inl (q3 _ _ fun h' => ?_)
  cbv
  refine ⟨(by show a.length + 1 ≤ 4611686018427387904; omega), ?_⟩
  refine .inl (q4 _ _ fun h' => ?_)
  cbv
  refine .inl (n3 _ _ ?_)
  cbv
  exact ⟨_, rfl, rfl⟩
theorem nameParts_calls (hOK : E.OK) (s t : ByteArray) {W : World} (hw : WOK W) (hs : GN ≤ W.heap.size) : Calls E.P 11 #[.string s, .string t] W fun e W' => e = .returned (.bool true) ∧ Below W.heap.size W W' := by
  obtain ⟨n, v, h', he, rfl⟩ := (nameParts hE s t h0).ex
  exact calls_flat (args := [.string s, .string t]) hOK (n := n) (by simp only [result, run, he]) rfl rfl hw hs
end
theorem nameParts_true (s : ByteArray) (_ : s.size ≤ 140737488351232) (t : ByteArray) (_ : t.size ≤ 140737488351232) (W : World) : Calls Tryd.prog 11 #[.string s, .string t] W fun e W' => e = .returned (.bool true) ∧ Below W.heap.size W W' := nameParts_calls rfl kok s t trivial (Nat.zero_le _)
end Go.Proofs.YtknhcgdhfndooaaDoor.GEv
