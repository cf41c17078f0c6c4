/- 'isWhole': a text of signs, by a symbolic run over 'strings.ContainsFunc'. -/
import Derived.Test.YtknhcgdhfndooaaDoorGNmG
namespace Go.Proofs.YtknhcgdhfndooaaDoor.GEv
open Go
set_option linter.unusedSimpArgs false
set_option linter.unusedVariables false
theorem raw_range {E : Env} {l : L} {h : H} {dst ty pos after guard t x} {s : ByteArray} {K : Value → H → Prop} (hx : evL l x = some (.string s)) (h1 : E.P.underlying t = some .string)
    (hk : K (.pointer (some ⟨h.next, 0, none⟩)) (h.push (.iter s 0))) : RawP E l h ⟨dst, .range t x, ty, pos, after, guard⟩ K :=
  ⟨fun tm hv => OpP.val (by simp only [evOp, hRange, evL_ok hv hx, h1]) hk⟩
theorem raw_next_end {E : Env} {l : L} {h : H} {dst ty pos after guard x} {b p : Nat} {s : ByteArray} {K : Value → H → Prop} (hx : evL l x = some (.pointer (some ⟨b, 0, none⟩))) (hb : h.m.get b = some (.iter s p)) (hp : s.size ≤ p)
    (hk : K (.tuple #[.bool false]) h) : RawP E l h ⟨dst, .next x true, ty, pos, after, guard⟩ K :=
  ⟨fun tm hv => OpP.val (by
    have : Nat.blt p s.size = false := by
      cases q : Nat.blt p s.size with
      | false => rfl
      | true => exact absurd (Nat.le_of_ble_eq_true q) (by omega)
    simp only [evOp, hNext, evL_ok hv hx, hb, this]) hk⟩
theorem raw_next {E : Env} {l : L} {h : H} {dst ty pos after guard x} {b p : Nat} {s : ByteArray} {K : Value → H → Prop} (hx : evL l x = some (.pointer (some ⟨b, 0, none⟩))) (hb : h.m.get b = some (.iter s p)) (hp : p < s.size)
    (hk : K (.tuple #[.bool true, .int .i64 (.ofNat p), .int .i32 (.ofNat (Utf8.decode s p).1)]) (h.put b (some (.iter s (p + (Utf8.decode s p).2))))) : RawP E l h ⟨dst, .next x true, ty, pos, after, guard⟩ K :=
  ⟨fun tm hv => OpP.val (by
    have : Nat.blt p s.size = true := Nat.ble_eq_true_of_le hp
    simp only [evOp, hNext, evL_ok hv hx, hb, this]
    rfl) hk⟩
set_option maxRecDepth 100000
attribute [local cbv_opaque] isString isSlice isBoolT fOff iSize eqNil zero H.load H.store H.push H.dip H.put List.length List.getD runesV Utf8.decode Nat.add
section
variable {E : Env} (hE : E = EM)
include hE
theorem nNot (r : Int) (h : H) (K : Value → H → Prop) (hk : K (.bool (Bool.notB (sign r))) h) : CallP E 42 [.int .i32 r] h K := by
  refine CallP.ofE hE rfl Tryd.func42 rfl (Nat.le_of_ble_eq_true rfl) ?_
  have n1 := fun h K hk => nChar hE r h K hk
  clear hE
  generalize sign r = b at n1 hk
  cases b
  all_goals cbv
  all_goals (refine .inl (n1 _ _ ?_); cbv)
  all_goals exact ⟨_, rfl, hk⟩
theorem indexF (s : ByteArray) (h : H) (K : Value → H → Prop) (hk1 : ((runesP s s.size 0).all fun r => sign (.ofNat r)) = true → ∀ h', K (.int .i64 (.negSucc 0)) h') (hk2 : ((runesP s s.size 0).all fun r => sign (.ofNat r)) = false → ∀ h' n, K (.int .i64 (.ofNat n)) h') :
    CallP E 62 [.string s, .func (.func 42) #[] #[], .bool true] h K := by
  refine CallP.ofE hE rfl Tryd.func62 rfl (Nat.le_of_ble_eq_true rfl) ?_
  have hB : isBoolT E.1 4 = true := by rw [hE]; exact boolT
  have hR := fun q h dst ty pos after guard x K hx hk => raw_range (E := E) (l := q) (h := h) (dst := dst) (ty := ty) (pos := pos) (after := after) (guard := guard) (x := x) (s := s) (K := K) hx (show E.P.underlying 9 = some .string by rw [hE]; exact stringU) hk
  have n1 := fun r h K hk => nNot hE r h K hk
  clear hE
  generalize hA : ((runesP s s.size 0).all fun r => sign (.ofNat r)) = A at hk1 hk2
  cbv
  refine hR _ _ _ _ _ _ _ _ _ rfl ?_
  cbv
  refine LoopP.on (fun x : H × Nat × Nat => [(10, .pointer (some ⟨h.next, 0, none⟩)), (1, .func (.func 42) #[] #[]), (2, .bool true)]) (fun x => x.1) (fun x => x.1.m.get h.next = some (.iter s x.2.1) ∧ s.size ≤ x.2.1 + x.2.2 ∧ A = ((runesP s x.2.2 x.2.1).all fun r => sign (.ofNat r))) (fun x => x.2.2) (h.push (.iter s 0), 0, s.size) rfl (Less.cons rfl (Less.cons rfl (Less.cons rfl (Less.nil _)))) ⟨by simp [push_get], by simp, hA.symm⟩ ?_
  rintro ⟨g, p, b⟩ ⟨i1, i2, i3⟩
  have i1 : g.m.get h.next = some (.iter s p) := i1
  have i2 : s.size ≤ p + b := i2
  have i3 : A = ((runesP s b p).all fun r => sign (.ofNat r)) := i3
  by_cases hp : p < s.size
  · obtain ⟨b, rfl⟩ : ∃ c, b = c + 1 := ⟨b - 1, by omega⟩
    have hw := Lib.width_pos s p
    have hN := fun q dst ty pos after guard x K hx hk => raw_next (E := E) (l := q) (h := g) (dst := dst) (ty := ty) (pos := pos) (after := after) (guard := guard) (x := x) (K := K) hx i1 hp hk
    unfold runesP at i3
    rw [if_pos hp, List.all_cons] at i3
    have n2 := fun h K hk => n1 (.ofNat (Utf8.decode s p).1) h K hk
    generalize hc : sign (.ofNat (Utf8.decode s p).1) = c at n2 i3
    cases c
    all_goals cbv
    all_goals (refine hN _ _ _ _ _ _ _ _ rfl ?_; cbv; refine .inl (n2 _ _ ?_); cbv; refine And.intro hB ?_; cbv)
    · exact ⟨_, rfl, hk2 i3 _ _⟩
    · refine ⟨(g.put h.next (some (.iter s (p + (Utf8.decode s p).2))), p + (Utf8.decode s p).2, b), Less.cons rfl (Less.cons rfl (Less.cons rfl (Less.nil _))), rfl, ⟨by simp [put_get], by show s.size ≤ p + (Utf8.decode s p).2 + b; omega, i3⟩, Nat.lt_succ_self b⟩
  · have hN := fun q dst ty pos after guard x K hx hk => raw_next_end (E := E) (l := q) (h := g) (dst := dst) (ty := ty) (pos := pos) (after := after) (guard := guard) (x := x) (K := K) hx i1 (by omega) hk
    have i4 : ((runesP s b p).all fun r => sign (.ofNat r)) = true := by
      cases b with
      | zero => rfl
      | succ b => unfold runesP; rw [if_neg hp]; rfl
    rw [i4] at i3
    cbv
    refine hN _ _ _ _ _ _ _ _ rfl ?_
    cbv
    exact ⟨_, rfl, hk1 i3 _⟩
theorem nWhole (l : List UInt8) (hl : l.length ≤ 1000000) (h : H) (K : Value → H → Prop) (hk : ∀ h', K (.bool (signs l)) h') : CallP E 29 [.string ⟨⟨l⟩⟩] h K := by
  refine CallP.ofE hE rfl Tryd.func29 rfl (Nat.le_of_ble_eq_true rfl) ?_
  have n0 := fun h K hk => validC hE l (by omega) h K hk
  have n1 : ∀ (h : H) (K : Value → H → Prop), (∀ h', K (.bool (Bool.notB ((runesL l).all fun r => sign (.ofNat r)))) h') → CallP E 41 [.string ⟨⟨l⟩⟩, .func (.func 42) #[] #[]] h K := by
    intro h K hk
    refine CallP.ofE hE rfl Tryd.func41 rfl (Nat.le_of_ble_eq_true rfl) ?_
    have n2 : ∀ (h : H) (K : Value → H → Prop), (((runesL l).all fun r => sign (.ofNat r)) = true → ∀ h', K (.int .i64 (.negSucc 0)) h') → (((runesL l).all fun r => sign (.ofNat r)) = false → ∀ h' n, K (.int .i64 (.ofNat n)) h') → CallP E 52 [.string ⟨⟨l⟩⟩, .func (.func 42) #[] #[]] h K := by
      intro h K hk1 hk2
      refine CallP.ofE hE rfl Tryd.func52 rfl (Nat.le_of_ble_eq_true rfl) ?_
      have n3 := fun h K hk1 hk2 => indexF hE ⟨⟨l⟩⟩ h K hk1 hk2
      clear hE
      cbv
      refine .inl (n3 _ _ (fun q h' => ?_) (fun q h' n => ?_))
      · cbv; exact ⟨_, rfl, hk1 q _⟩
      · cbv; exact ⟨_, rfl, hk2 q _ _⟩
    clear hE
    generalize ((runesL l).all fun r => sign (.ofNat r)) = A at n2 hk
    cbv
    refine .inl (n2 _ _ (fun q h' => ?_) (fun q h' n => ?_))
    · subst q
      cbv
      refine And.intro (fun h1 => absurd h1 (by decide)) (fun _ => ?_)
      cbv
      exact ⟨_, rfl, hk _⟩
    · subst q
      cbv
      refine And.intro (fun _ => ?_) (fun h1 => absurd h1 (by omega))
      cbv
      exact ⟨_, rfl, hk _⟩
  clear hE
  have hd : signs l = (Lib.validD l && (runesL l).all fun r => sign (.ofNat r)) := rfl
  generalize signs l = ans at hk hd
  generalize Lib.validD l = a at n0 hd
  generalize ((runesL l).all fun r => sign (.ofNat r)) = b at n1 hd
  subst hd
  cases a <;> cases b
  all_goals cbv
  all_goals (refine .inl (n0 _ _ ?_); cbv)
  all_goals first | exact ⟨_, rfl, hk _⟩ | (refine .inl (n1 _ _ fun h' => ?_); cbv; exact ⟨_, rfl, hk _⟩)
end
end Go.Proofs.YtknhcgdhfndooaaDoor.GEv
