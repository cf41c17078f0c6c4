/- Texts as they are written, by symbolic runs. -/
import Derived.Test.YtknhcgdhfndooaaDoorGNmR
namespace Go.Proofs.YtknhcgdhfndooaaDoor.GEv
open Go
set_option linter.unusedSimpArgs false
set_option linter.unusedVariables false
theorem esc_len (a : Bool) (c : UInt8) : (esc a c).length ≤ 6 := by
  unfold esc
  repeat' split
  all_goals simp
theorem escape_len (a : Bool) : ∀ l : List UInt8, (escape a l).length ≤ 6 * l.length
  | [] => Nat.le_refl _
  | c :: l => by
    have h1 := escape_len a l
    have h2 := esc_len a c
    unfold escape at h1 ⊢
    rw [List.flatMap_cons, List.length_append, List.length_cons]
    omega
theorem sub1_len {c : UInt8} {new : List UInt8} (hn : new.length ≤ 6) (l : List UInt8) : (l.flatMap (sub1 c new)).length ≤ 6 * l.length := by
  induction l with
  | nil => exact Nat.le_refl _
  | cons b l ih =>
    rw [List.flatMap_cons, List.length_append, List.length_cons]
    have : (sub1 c new b).length ≤ 6 := by
      unfold sub1
      split
      · exact hn
      · simp
    omega
theorem esc_nat (attr : Bool) (c : UInt8) : esc attr c = if c.toNat = 38 then [38, 97, 109, 112, 59] else if c.toNat = 60 then [38, 108, 116, 59] else if c.toNat = 62 then [38, 103, 116, 59] else
  if c.toNat = 34 ∧ attr = true then [38, 113, 117, 111, 116, 59] else if c.toNat = 9 ∧ attr = true then [38, 35, 57, 59] else
  if c.toNat = 10 ∧ attr = true then [38, 35, 49, 48, 59] else if c.toNat = 13 ∧ attr = true then [38, 35, 49, 51, 59] else [c] := by
  unfold esc
  simp only [← UInt8.toNat_inj]
  rfl
theorem escape_next {a : Bool} {l s : List UInt8} {i : Nat} (hi : i < l.length) (hs : s = escape a (l.take i)) (X : List UInt8) (hX : esc a (l.getD i 0) = X) : s ++ X = escape a (l.take (i + 1)) := by
  have e : l.take (i + 1) = l.take i ++ [l[i]] := by rw [List.take_succ_eq_append_getElem hi]
  rw [hs, ← hX, e, List.getD_eq_getElem?_getD, List.getElem?_eq_getElem hi]
  unfold escape
  rw [List.flatMap_append]
  simp
theorem take_one {l : List UInt8} {i : Nat} (hi : i < l.length) : List.take (i + 1 - i) (List.drop i l) = [l.getD i 0] := by
  rw [show i + 1 - i = 1 by omega, List.drop_eq_getElem_cons hi, List.getD_eq_getElem?_getD, List.getElem?_eq_getElem hi]
  rfl
set_option maxRecDepth 100000
attribute [local cbv_opaque] isString isSlice isBoolT fOff iSize eqNil zero H.load H.store H.push H.dip List.flatMap escape
section
variable {E : Env} (hE : E = EM)
include hE
theorem validC (l : List UInt8) (hl : l.length ≤ 4000000000) (h : H) (K : Value → H → Prop) (hk : K (.bool (Lib.validD l)) h) : CallP E 27 [.string ⟨⟨l⟩⟩] h K := by
  refine CallP.memo (v := .bool (Lib.validD l)) ?_ (by rw [hE]; exact ⟨_, _, Tryd.func27, rfl⟩) hk
  rw [hE]
  show validP [.string ⟨⟨l⟩⟩] = _
  have : Nat.ble (⟨⟨l⟩⟩ : ByteArray).size 4000000000 = true := Nat.ble_eq_true_of_le hl
  simp only [validP, this]
theorem replC (l new : List UInt8) (c : UInt8) (hl : l.length ≤ 4000000000) (hn : new.length ≤ 6) (h : H) (K : Value → H → Prop) (hk : K (.string ⟨⟨l.flatMap (sub1 c new)⟩⟩) h) : CallP E 28 [.string ⟨⟨l⟩⟩, .string ⟨⟨[c]⟩⟩, .string ⟨⟨new⟩⟩] h K := by
  refine CallP.memo (v := .string ⟨⟨l.flatMap (sub1 c new)⟩⟩) ?_ (by rw [hE]; exact ⟨_, _, Tryd.func28, rfl⟩) hk
  rw [hE]
  show replP [.string ⟨⟨l⟩⟩, .string ⟨⟨[c]⟩⟩, .string ⟨⟨new⟩⟩] = _
  have h1 : Nat.ble (⟨⟨l⟩⟩ : ByteArray).size 4000000000 = true := Nat.ble_eq_true_of_le hl
  have h2 : Nat.ble (⟨⟨new⟩⟩ : ByteArray).size 6 = true := Nat.ble_eq_true_of_le hn
  have h3 : Nat.ble 1 (⟨⟨[c]⟩⟩ : ByteArray).size = true := rfl
  simp only [replP, h1, h2, h3]
  rw [replaceAll_flat]
theorem nEscape (a : Bool) (l : List UInt8) (hl : l.length ≤ 1000) (h : H) (K : Value → H → Prop) (hk : K (.string ⟨⟨escape a l⟩⟩) h) : CallP E 16 [.string ⟨⟨l⟩⟩, .bool a] h K := by
  refine CallP.ofE hE rfl Tryd.func16 rfl (Nat.le_of_ble_eq_true rfl) ?_
  have k1 := sub1_len (c := 38) (new := [38, 97, 109, 112, 59]) (by decide) l
  have r1 := replC hE l [38, 97, 109, 112, 59] 38 (by omega) (by decide)
  generalize e1 : l.flatMap (sub1 38 [38, 97, 109, 112, 59]) = m1 at k1 r1
  have k2 := sub1_len (c := 60) (new := [38, 108, 116, 59]) (by decide) m1
  have r2 := replC hE m1 [38, 108, 116, 59] 60 (by omega) (by decide)
  generalize e2 : m1.flatMap (sub1 60 [38, 108, 116, 59]) = m2 at k2 r2
  have k3 := sub1_len (c := 62) (new := [38, 103, 116, 59]) (by decide) m2
  have r3 := replC hE m2 [38, 103, 116, 59] 62 (by omega) (by decide)
  generalize e3 : m2.flatMap (sub1 62 [38, 103, 116, 59]) = m3 at k3 r3
  have k4 := sub1_len (c := 34) (new := [38, 113, 117, 111, 116, 59]) (by decide) m3
  have r4 := replC hE m3 [38, 113, 117, 111, 116, 59] 34 (by omega) (by decide)
  generalize e4 : m3.flatMap (sub1 34 [38, 113, 117, 111, 116, 59]) = m4 at k4 r4
  have k5 := sub1_len (c := 9) (new := [38, 35, 57, 59]) (by decide) m4
  have r5 := replC hE m4 [38, 35, 57, 59] 9 (by omega) (by decide)
  generalize e5 : m4.flatMap (sub1 9 [38, 35, 57, 59]) = m5 at k5 r5
  have k6 := sub1_len (c := 10) (new := [38, 35, 49, 48, 59]) (by decide) m5
  have r6 := replC hE m5 [38, 35, 49, 48, 59] 10 (by omega) (by decide)
  generalize e6 : m5.flatMap (sub1 10 [38, 35, 49, 48, 59]) = m6 at k6 r6
  have r7 := replC hE m6 [38, 35, 49, 51, 59] 13 (by omega) (by decide)
  clear k1 k2 k3 k4 k5 k6 hE
  cases a with
  | false =>
    have hm : escape false l = m3 := by rw [← escape_false, e1, e2, e3]
    rw [hm] at hk
    clear e1 e2 e3 e4 e5 e6
    cbv
    refine .inl (r1 _ _ ?_)
    cbv
    refine .inl (r2 _ _ ?_)
    cbv
    refine .inl (r3 _ _ ?_)
    cbv
    exact ⟨_, rfl, hk⟩
  | true =>
    have hm : escape true l = m6.flatMap (sub1 13 [38, 35, 49, 51, 59]) := by rw [← escape_true, e1, e2, e3, e4, e5, e6]
    rw [hm] at hk
    generalize m6.flatMap (sub1 13 [38, 35, 49, 51, 59]) = m7 at r7 hk
    clear e1 e2 e3 e4 e5 e6
    cbv
    refine .inl (r1 _ _ ?_)
    cbv
    refine .inl (r2 _ _ ?_)
    cbv
    refine .inl (r3 _ _ ?_)
    cbv
    refine .inl (r4 _ _ ?_)
    cbv
    refine .inl (r5 _ _ ?_)
    cbv
    refine .inl (r6 _ _ ?_)
    cbv
    refine .inl (r7 _ _ ?_)
    cbv
    exact ⟨_, rfl, hk⟩
attribute [local cbv_opaque] List.length List.take List.drop List.append List.getD UInt8.toNat Nat.sub Nat.add
attribute [local cbv_eval] List.length_cons List.length_nil
theorem rEscape (a : Bool) (l : List UInt8) (hl : l.length ≤ 1000) (h : H) (K : Value → H → Prop) (hk : K (.string ⟨⟨escape a l⟩⟩) h) : CallP E 19 [.string ⟨⟨l⟩⟩, .bool a] h K := by
  refine CallP.ofE hE rfl Tryd.func19 rfl (Nat.le_of_ble_eq_true rfl) ?_
  have hS : isString E.1 9 = true := by rw [hE]; exact stringT
  clear hE
  cases a
  all_goals cbv
  · refine LoopP.on (fun x : Nat × List UInt8 => [(6, .int .i64 (.ofNat x.1)), (0, .string ⟨⟨l⟩⟩), (1, .bool false), (5, .string ⟨⟨x.2⟩⟩)]) (fun _ => h) (fun x => x.1 ≤ l.length ∧ x.2 = escape false (l.take x.1)) (fun x => l.length - x.1) (0, []) rfl (Less.cons rfl (Less.cons rfl (Less.cons rfl (Less.cons rfl (Less.nil _))))) ⟨Nat.zero_le _, rfl⟩ ?_
    rintro ⟨i, s⟩ ⟨i1, i2⟩
    have i1 : i ≤ l.length := i1
    have i2 : s = escape false (l.take i) := i2
    have i3 : i + 1 ≤ 4611686018427387904 := by omega
    have i4 : i ≤ i + 1 := Nat.le_succ i
    have hs : s.length ≤ 6000 := by
      have q1 := escape_len false (l.take i)
      have q2 : (l.take i).length ≤ l.length := by simp; omega
      rw [i2]; omega
    have f4 : s.length + 4 ≤ 4611686018427387904 := by omega
    have f5 : s.length + 5 ≤ 4611686018427387904 := by omega
    have f6 : s.length + 6 ≤ 4611686018427387904 := by omega
    have f7 : s.length + (List.take (i + 1 - i) (List.drop i l)).length ≤ 4611686018427387904 := by
      have q1 : (List.take (i + 1 - i) (List.drop i l)).length ≤ i + 1 - i := by simp; omega
      omega
    have nx := fun hi X hX => escape_next (a := false) (l := l) (i := i) hi i2 X hX
    have t1 := fun hi => take_one (l := l) (i := i) hi
    simp only [esc_nat] at nx
    cbv
    repeat' (first | refine And.intro (by assumption) ?_ | refine And.intro (fun h1 => ?_) (fun h1 => ?_)) <;> cbv
    all_goals try (refine ⟨(i + 1, s ++ _), Less.cons rfl (Less.cons rfl (Less.cons rfl (Less.cons rfl (Less.nil _)))), rfl, ⟨?_, nx (by assumption) _ ?_⟩, ?_⟩)
    any_goals (show i + 1 ≤ l.length; omega)
    any_goals (show l.length - (i + 1) < l.length - i; omega)
    any_goals first
      | ((repeat' (first | rw [if_pos (by assumption)] | rw [if_neg (by assumption)] | rw [if_pos ⟨by assumption, by first | exact trivial | exact rfl⟩] | rw [if_neg (fun e => absurd e.1 (by assumption))] | rw [if_neg (fun e => Bool.noConfusion e.2)])); done)
      | (refine Eq.trans ?_ (t1 (by assumption)).symm; (repeat' (first | rw [if_neg (by assumption)] | rw [if_neg (fun e => absurd e.1 (by assumption))] | rw [if_neg (fun e => Bool.noConfusion e.2)])); done)
      | skip
    all_goals (refine ⟨_, rfl, ?_⟩; rw [show s = escape false l by rw [i2, List.take_of_length_le (by omega)]]; exact hk)
  · refine LoopP.on (fun x : Nat × List UInt8 => [(6, .int .i64 (.ofNat x.1)), (0, .string ⟨⟨l⟩⟩), (1, .bool true), (5, .string ⟨⟨x.2⟩⟩)]) (fun _ => h) (fun x => x.1 ≤ l.length ∧ x.2 = escape true (l.take x.1)) (fun x => l.length - x.1) (0, []) rfl (Less.cons rfl (Less.cons rfl (Less.cons rfl (Less.cons rfl (Less.nil _))))) ⟨Nat.zero_le _, rfl⟩ ?_
    rintro ⟨i, s⟩ ⟨i1, i2⟩
    have i1 : i ≤ l.length := i1
    have i2 : s = escape true (l.take i) := i2
    have i3 : i + 1 ≤ 4611686018427387904 := by omega
    have i4 : i ≤ i + 1 := Nat.le_succ i
    have hs : s.length ≤ 6000 := by
      have q1 := escape_len true (l.take i)
      have q2 : (l.take i).length ≤ l.length := by simp; omega
      rw [i2]; omega
    have f4 : s.length + 4 ≤ 4611686018427387904 := by omega
    have f5 : s.length + 5 ≤ 4611686018427387904 := by omega
    have f6 : s.length + 6 ≤ 4611686018427387904 := by omega
    have f7 : s.length + (List.take (i + 1 - i) (List.drop i l)).length ≤ 4611686018427387904 := by
      have q1 : (List.take (i + 1 - i) (List.drop i l)).length ≤ i + 1 - i := by simp; omega
      omega
    have nx := fun hi X hX => escape_next (a := true) (l := l) (i := i) hi i2 X hX
    have t1 := fun hi => take_one (l := l) (i := i) hi
    simp only [esc_nat] at nx
    cbv
    repeat' (first | refine And.intro (by assumption) ?_ | refine And.intro (fun h1 => ?_) (fun h1 => ?_)) <;> cbv
    all_goals try (refine ⟨(i + 1, s ++ _), Less.cons rfl (Less.cons rfl (Less.cons rfl (Less.cons rfl (Less.nil _)))), rfl, ⟨?_, nx (by assumption) _ ?_⟩, ?_⟩)
    any_goals (show i + 1 ≤ l.length; omega)
    any_goals (show l.length - (i + 1) < l.length - i; omega)
    any_goals first
      | ((repeat' (first | rw [if_pos (by assumption)] | rw [if_neg (by assumption)] | rw [if_pos ⟨by assumption, by first | exact trivial | exact rfl⟩] | rw [if_neg (fun e => absurd e.1 (by assumption))] | rw [if_neg (fun e => Bool.noConfusion e.2)])); done)
      | (refine Eq.trans ?_ (t1 (by assumption)).symm; (repeat' (first | rw [if_neg (by assumption)] | rw [if_neg (fun e => absurd e.1 (by assumption))] | rw [if_neg (fun e => Bool.noConfusion e.2)])); done)
      | skip
    all_goals (refine ⟨_, rfl, ?_⟩; rw [show s = escape true l by rw [i2, List.take_of_length_le (by omega)]]; exact hk)
end
end Go.Proofs.YtknhcgdhfndooaaDoor.GEv
