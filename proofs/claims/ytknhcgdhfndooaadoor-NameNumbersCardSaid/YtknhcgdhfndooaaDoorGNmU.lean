/- 'strconv.ParseUint' at ten and sixteen, of seven digits at most, by a symbolic run. -/
import Derived.Test.YtknhcgdhfndooaaDoorGNmO
namespace Go.Proofs.YtknhcgdhfndooaaDoor.GEv
open Go
set_option linter.unusedSimpArgs false
set_option linter.unusedVariables false
theorem digLow : ∀ c : Fin 256, ¬ (48 ≤ c.val ∧ c.val ≤ 57) → ((97 ≤ lowN c.val ∧ lowN c.val ≤ 102) → digitV true c.val = some (lowN c.val - 97 + 10)) ∧ ((lowN c.val < 97 ∨ 102 < lowN c.val) → digitV true c.val = none) ∧ digitV false c.val = none := by decide +kernel
theorem digHigh (hex : Bool) (c : Nat) (h1 : 48 ≤ c) (h2 : c ≤ 57) : digitV hex c = some (c - 48) := by simp [digitV, h1, h2]
theorem drop_get {l : List UInt8} {i : Nat} (hi : i < l.length) : l.drop i = l.getD i 0 :: l.drop (i + 1) := by
  rw [List.drop_eq_getElem_cons hi, List.getD_eq_getElem?_getD, List.getElem?_eq_getElem hi]
  rfl
theorem numF_step {hex : Bool} {n : Nat} {l : List UInt8} {i : Nat} (hi : i < l.length) : numF hex n (l.drop i) = match digitV hex (l.getD i 0).toNat with
    | some d => numF hex (n * baseV hex + d) (l.drop (i + 1))
    | none => none := by
  rw [drop_get hi]
  rfl
/-- What the inner function hands back. -/
def uintV : Option Nat → Value
  | some n => .tuple #[.int .u64 (.ofNat n), .nilIface]
  | none => .tuple #[.int .u64 (.ofNat 0), .iface 83 (.int .i64 (.ofNat 2))]
set_option maxRecDepth 100000
attribute [local cbv_opaque] isString isSlice isBoolT fOff iSize eqNil zero H.load H.store H.push H.dip H.put List.length List.getD Nat.add Nat.sub Nat.mul List.take List.drop lowN UInt8.toNat bytesV
attribute [local cbv_eval] List.length_cons List.length_nil
section
variable {E : Env} (hE : E = EM)
include hE
theorem uInner (hex : Bool) (l : List UInt8) (h0 : 1 ≤ l.length) (h7 : l.length ≤ 7) (h : H) (K : Value → H → Prop) (hk : ∀ h', K (uintV (numF hex 0 l)) h') : CallP E 68 [.string ⟨⟨l⟩⟩, .int .i64 (.ofNat (baseV hex)), .int .i64 (.ofNat 32)] h K := by
  refine CallP.ofE hE rfl Tryd.func68 rfl (Nat.le_of_ble_eq_true rfl) ?_
  have hL : isSlice E.1 (some 36) = true := by rw [hE]; exact bytesT
  have hZ : iSize E.1 36 = some 1 := by rw [hE]; exact bytesZ
  have hC := fun q h dst ty pos after guard x s K hx hk => raw_bytes (E := E) (l := q) (h := h) (dst := dst) (ty := ty) (pos := pos) (after := after) (guard := guard) (x := x) (s := s) (K := K) hx (show E.P.underlying 9 = some .string by rw [hE]; exact stringU) (show E.P.underlying 36 = some (.slice 5) by rw [hE]; exact bytesU) (show E.P.underlying 5 = some (.int .u8) by rw [hE]; exact byteU) hk
  have hM := fun h l i hi => load_bytes (E := E) (h := h) (l := l) (i := i) (e := 5) (show isAgg E.P 5 = some false by rw [hE]; exact byteA) (show sizeOf E.P 5 = some 1 by rw [hE]; exact byteZ) hi
  have u8 : E.P.underlying 5 = some (.int .u8) := by rw [hE]; exact u8U
  have ui : E.P.underlying 3 = some (.int .i64) := by rw [hE]; exact intU
  have uu : E.P.underlying 58 = some (.int .u64) := by rw [hE]; exact uintU
  have u6 : E.P.underlying 63 = some (.int .u64) := by rw [hE]; exact u64U
  obtain ⟨ue, e1, e2⟩ : ∃ u, E.P.underlying 83 = some u ∧ ∀ ms, u ≠ .interface ms := by rw [hE]; exact errU
  have n1 := fun c hc h K hk => lowC hE c hc h K hk
  have hne : ¬ l = [] := by rintro rfl; simp at h0
  clear hE
  cases hex
  · cbv
    refine And.intro (fun e => absurd e hne) (fun _ => ?_)
    cbv
    repeat (first | (refine And.intro (fun e => absurd e (by decide)) (fun _ => ?_); cbv) | (refine And.intro (fun _ => ?_) (fun e => absurd e (by decide)); cbv))
    refine raw_conv rfl ui uu (r := .ofNat 32) (by decide) ?_
    cbv
    refine raw_shl rfl rfl (by decide) (r := .ofNat 4294967296) (by decide) ?_
    cbv
    refine raw_sub rfl rfl rfl (r := .ofNat 4294967295) (by decide) ?_
    cbv
    refine hC _ _ _ _ _ _ _ _ _ _ rfl ?_
    cbv
    refine And.intro hL ?_
    cbv
    refine LoopP.on (fun x : Nat × Nat => [(101, .int .i64 (.ofNat x.1)), (13, .int .u64 (.ofNat x.2)), (99, .slice (some ⟨h.next, 0, none⟩) l.length (UNK + 1)), (100, .int .i64 (.ofNat l.length)), (1, .int .i64 (.ofNat 10)), (8, .bool false), (10, .int .u64 1844674407370955162), (11, .int .u64 (.ofNat 4294967295)), (12, .bool false)]) (fun _ => h.push (.cells (bytesV ⟨⟨l⟩⟩) (some 5) false 0))
      (fun x => x.1 ≤ l.length ∧ numF false x.2 (l.drop x.1) = numF false 0 l ∧ x.2 < 16 ^ x.1) (fun x => l.length - x.1) (0, 0) rfl (Less.cons rfl (Less.cons rfl (Less.cons rfl (Less.cons rfl (Less.cons rfl (Less.cons rfl (Less.cons rfl (Less.cons rfl (Less.cons rfl (Less.nil _)))))))))) ⟨Nat.zero_le _, by simp, by decide⟩ ?_
    rintro ⟨i, n⟩ ⟨i1, i2, i3⟩
    have i1 : i ≤ l.length := i1
    have i2 : numF false n (l.drop i) = numF false 0 l := i2
    have i3 : n < 16 ^ i := i3
    by_cases hi : i < l.length
    · have hM := hM h l i hi
      have st := numF_step (hex := false) (n := n) hi
      rw [i2] at st
      have hc : (l.getD i 0).toNat < 256 := (l.getD i 0).toNat_lt
      have dl := digLow ⟨_, hc⟩
      have dh := digHigh false (l.getD i 0).toNat
      have hp : 16 ^ (i + 1) = 16 ^ i * 16 := Nat.pow_succ ..
      have hq : 16 ^ i ≤ 16 ^ 6 := Nat.pow_le_pow_right (by decide) (by omega)
      have hn : n < 16777216 := by omega
      have hs : Nat.succ i = i + 1 := rfl
      have hb : Nat.le (Nat.add i 1) 4611686018427387904 := by show i + 1 ≤ _; omega
      obtain ⟨m, hm⟩ : ∃ m, m = n * 10 := ⟨_, rfl⟩
      have hmw : IntKind.u64.wrap (.ofNat n * 10) = .ofNat m := by rw [hm]; exact wrap_u64 (n := n * 10) (by omega)
      have hmb : m ≤ 16777216 * 16 := by omega
      clear hne h0
      generalize (l.getD i 0).toNat = c at hM st hc dl dh
      have dl : ¬ (48 ≤ c ∧ c ≤ 57) → ((97 ≤ lowN c ∧ lowN c ≤ 102) → digitV true c = some (lowN c - 97 + 10)) ∧ ((lowN c < 97 ∨ 102 < lowN c) → digitV true c = none) ∧ digitV false c = none := dl
      have n1 := fun h K hk => n1 c hc h K hk
      have hl8 : lowN c < 256 := by
        have := Nat.or_lt_two_pow (n := 8) (x := c) (y := 32) hc (by decide)
        exact this
      generalize lowN c = L at n1 dl hl8
      cbv
      refine And.intro (fun _ => ?_) (fun e => absurd e (by omega))
      cbv
      refine ⟨1, hZ, by assumption, ?_⟩
      rw [Nat.mul_one, show (({ block := h.2, off := 0 } : Addr).add i) = ⟨h.2, i, none⟩ by simp [Addr.add]; exact fun e => e.symm]
      cbv
      refine ⟨_, hM, ?_⟩
      cbv
      by_cases hA : 48 ≤ c ∧ c ≤ 57
      · obtain ⟨d, hd⟩ : ∃ d, d = c - 48 := ⟨_, rfl⟩
        have hdw : IntKind.u8.wrap (.ofNat c - 48) = .ofNat d := by rw [hd]; exact wrap_u8s hc hA.1
        rw [dh hA.1 hA.2, ← hd] at st
        have st : numF false 0 l = numF false (n * 10 + d) (l.drop (i + 1)) := st
        rw [← hm] at st
        obtain ⟨m1, hm1⟩ : ∃ m1, m1 = m + d := ⟨_, rfl⟩
        have hdc : IntKind.u64.wrap (.ofNat d) = .ofNat d := wrap_u64 (by omega)
        have hm1w : IntKind.u64.wrap (.ofNat m + .ofNat d) = .ofNat m1 := by rw [hm1]; exact wrap_u64 (n := m + d) (by omega)
        rw [← hm1] at st
        refine And.intro (fun e => absurd e (by omega)) (fun _ => ?_)
        cbv
        refine And.intro (fun _ => ?_) (fun e => absurd e (by omega))
        cbv
        refine And.intro (fun _ => ?_) (fun e => absurd e (by omega))
        cbv
        refine raw_sub rfl rfl rfl hdw ?_
        cbv
        refine raw_conv rfl ui u8 (r := .ofNat 10) (by decide) ?_
        cbv
        refine And.intro (fun e => absurd e (by omega)) (fun _ => ?_)
        cbv
        refine And.intro (fun e => absurd e (by omega)) (fun _ => ?_)
        cbv
        refine raw_conv rfl ui u6 (r := .ofNat 10) (by decide) ?_
        cbv
        refine raw_mul rfl rfl rfl hmw ?_
        cbv
        refine raw_conv rfl u8 u6 hdc ?_
        cbv
        refine raw_add rfl rfl rfl hm1w ?_
        cbv
        refine And.intro (fun e => absurd e (by omega)) (fun _ => ?_)
        cbv
        refine And.intro (fun e => absurd e (by omega)) (fun _ => ?_)
        cbv
        exact ⟨hb, (i + 1, m1), Less.cons rfl (Less.cons rfl (Less.cons rfl (Less.cons rfl (Less.cons rfl (Less.cons rfl (Less.cons rfl (Less.cons rfl (Less.cons rfl (Less.nil _))))))))), rfl, ⟨hi, st.symm, (by show m1 < 16 ^ (i + 1); omega)⟩, (by show l.length - (i + 1) < l.length - i; omega)⟩
      obtain ⟨dl1, dl2, dl3⟩ := dl hA
      by_cases hB : 97 ≤ L ∧ L ≤ 122
      · obtain ⟨e0, he0⟩ : ∃ e, e = L - 97 := ⟨_, rfl⟩
        obtain ⟨d, hd⟩ : ∃ d, d = e0 + 10 := ⟨_, rfl⟩
        have hew : IntKind.u8.wrap (.ofNat L - 97) = .ofNat e0 := by rw [he0]; exact wrap_u8s hl8 hB.1
        have hdw : IntKind.u8.wrap (.ofNat e0 + 10) = .ofNat d := by rw [hd]; exact wrap_u8 (n := e0 + 10) (by omega)
        rw [dl3] at st
        have hk : ∀ h', K (uintV none) h' := by rw [st] at hk; exact hk
        refine And.intro (fun e => ?_) (fun e => ?_)
        all_goals cbv
        all_goals refine And.intro (fun h1 => ?_) (fun h1 => ?_)
        all_goals cbv
        all_goals try (refine And.intro (fun e => absurd e (by omega)) (fun _ => ?_); cbv)
        all_goals (refine .inl (n1 _ _ ?_); cbv)
        all_goals (refine And.intro (fun _ => ?_) (fun e => absurd e (by omega)); cbv)
        all_goals (refine .inl (n1 _ _ ?_); cbv)
        all_goals (refine And.intro (fun _ => ?_) (fun e => absurd e (by omega)); cbv)
        all_goals (refine .inl (n1 _ _ ?_); cbv)
        all_goals (refine raw_sub rfl rfl rfl hew ?_; cbv)
        all_goals (refine raw_add rfl rfl rfl hdw ?_; cbv)
        all_goals (refine raw_conv rfl ui u8 (r := .ofNat 10) (by decide) ?_; cbv)
        all_goals (refine And.intro (fun _ => ?_) (fun e => absurd e (by omega)); cbv)
        all_goals (refine raw_iface rfl e1 e2 ?_; cbv)
        all_goals exact ⟨_, rfl, hk _⟩
      · have hz : digitV false c = none := dl3
        rw [hz] at st
        have hk : ∀ h', K (uintV none) h' := by rw [st] at hk; exact hk
        refine And.intro (fun e => ?_) (fun e => ?_)
        all_goals cbv
        all_goals refine And.intro (fun h1 => ?_) (fun h1 => ?_)
        all_goals cbv
        all_goals try (refine And.intro (fun e => absurd e (by omega)) (fun _ => ?_); cbv)
        all_goals (refine .inl (n1 _ _ ?_); cbv)
        all_goals refine And.intro (fun h2 => ?_) (fun h2 => ?_)
        all_goals cbv
        all_goals try (refine .inl (n1 _ _ ?_); cbv; refine And.intro (fun e => absurd e (by omega)) (fun _ => ?_); cbv)
        all_goals (refine raw_iface rfl e1 e2 ?_; cbv)
        all_goals exact ⟨_, rfl, hk _⟩
    · have hi : i = l.length := by omega
      rw [hi, List.drop_eq_nil_of_le (Nat.le_refl _)] at i2
      have hk : ∀ h', K (uintV (some n)) h' := by rw [← i2] at hk; exact hk
      cbv
      refine And.intro (fun e => absurd e (by omega)) (fun _ => ?_)
      cbv
      exact ⟨_, rfl, hk _⟩
  · cbv
    refine And.intro (fun e => absurd e hne) (fun _ => ?_)
    cbv
    repeat (first | (refine And.intro (fun e => absurd e (by decide)) (fun _ => ?_); cbv) | (refine And.intro (fun _ => ?_) (fun e => absurd e (by decide)); cbv))
    refine raw_conv rfl ui uu (r := .ofNat 32) (by decide) ?_
    cbv
    refine raw_shl rfl rfl (by decide) (r := .ofNat 4294967296) (by decide) ?_
    cbv
    refine raw_sub rfl rfl rfl (r := .ofNat 4294967295) (by decide) ?_
    cbv
    refine hC _ _ _ _ _ _ _ _ _ _ rfl ?_
    cbv
    refine And.intro hL ?_
    cbv
    refine LoopP.on (fun x : Nat × Nat => [(101, .int .i64 (.ofNat x.1)), (13, .int .u64 (.ofNat x.2)), (99, .slice (some ⟨h.next, 0, none⟩) l.length (UNK + 1)), (100, .int .i64 (.ofNat l.length)), (1, .int .i64 (.ofNat 16)), (8, .bool false), (10, .int .u64 1152921504606846976), (11, .int .u64 (.ofNat 4294967295)), (12, .bool false)]) (fun _ => h.push (.cells (bytesV ⟨⟨l⟩⟩) (some 5) false 0))
      (fun x => x.1 ≤ l.length ∧ numF true x.2 (l.drop x.1) = numF true 0 l ∧ x.2 < 16 ^ x.1) (fun x => l.length - x.1) (0, 0) rfl (Less.cons rfl (Less.cons rfl (Less.cons rfl (Less.cons rfl (Less.cons rfl (Less.cons rfl (Less.cons rfl (Less.cons rfl (Less.cons rfl (Less.nil _)))))))))) ⟨Nat.zero_le _, by simp, by decide⟩ ?_
    rintro ⟨i, n⟩ ⟨i1, i2, i3⟩
    have i1 : i ≤ l.length := i1
    have i2 : numF true n (l.drop i) = numF true 0 l := i2
    have i3 : n < 16 ^ i := i3
    by_cases hi : i < l.length
    · have hM := hM h l i hi
      have st := numF_step (hex := true) (n := n) hi
      rw [i2] at st
      have hc : (l.getD i 0).toNat < 256 := (l.getD i 0).toNat_lt
      have dl := digLow ⟨_, hc⟩
      have dh := digHigh true (l.getD i 0).toNat
      have hp : 16 ^ (i + 1) = 16 ^ i * 16 := Nat.pow_succ ..
      have hq : 16 ^ i ≤ 16 ^ 6 := Nat.pow_le_pow_right (by decide) (by omega)
      have hn : n < 16777216 := by omega
      have hs : Nat.succ i = i + 1 := rfl
      have hb : Nat.le (Nat.add i 1) 4611686018427387904 := by show i + 1 ≤ _; omega
      obtain ⟨m, hm⟩ : ∃ m, m = n * 16 := ⟨_, rfl⟩
      have hmw : IntKind.u64.wrap (.ofNat n * 16) = .ofNat m := by rw [hm]; exact wrap_u64 (n := n * 16) (by omega)
      have hmb : m ≤ 16777216 * 16 := by omega
      clear hne h0
      generalize (l.getD i 0).toNat = c at hM st hc dl dh
      have dl : ¬ (48 ≤ c ∧ c ≤ 57) → ((97 ≤ lowN c ∧ lowN c ≤ 102) → digitV true c = some (lowN c - 97 + 10)) ∧ ((lowN c < 97 ∨ 102 < lowN c) → digitV true c = none) ∧ digitV false c = none := dl
      have n1 := fun h K hk => n1 c hc h K hk
      have hl8 : lowN c < 256 := by
        have := Nat.or_lt_two_pow (n := 8) (x := c) (y := 32) hc (by decide)
        exact this
      generalize lowN c = L at n1 dl hl8
      cbv
      refine And.intro (fun _ => ?_) (fun e => absurd e (by omega))
      cbv
      refine ⟨1, hZ, by assumption, ?_⟩
      rw [Nat.mul_one, show (({ block := h.2, off := 0 } : Addr).add i) = ⟨h.2, i, none⟩ by simp [Addr.add]; exact fun e => e.symm]
      cbv
      refine ⟨_, hM, ?_⟩
      cbv
      by_cases hA : 48 ≤ c ∧ c ≤ 57
      · obtain ⟨d, hd⟩ : ∃ d, d = c - 48 := ⟨_, rfl⟩
        have hdw : IntKind.u8.wrap (.ofNat c - 48) = .ofNat d := by rw [hd]; exact wrap_u8s hc hA.1
        rw [dh hA.1 hA.2, ← hd] at st
        have st : numF true 0 l = numF true (n * 16 + d) (l.drop (i + 1)) := st
        rw [← hm] at st
        obtain ⟨m1, hm1⟩ : ∃ m1, m1 = m + d := ⟨_, rfl⟩
        have hdc : IntKind.u64.wrap (.ofNat d) = .ofNat d := wrap_u64 (by omega)
        have hm1w : IntKind.u64.wrap (.ofNat m + .ofNat d) = .ofNat m1 := by rw [hm1]; exact wrap_u64 (n := m + d) (by omega)
        rw [← hm1] at st
        refine And.intro (fun e => absurd e (by omega)) (fun _ => ?_)
        cbv
        refine And.intro (fun _ => ?_) (fun e => absurd e (by omega))
        cbv
        refine And.intro (fun _ => ?_) (fun e => absurd e (by omega))
        cbv
        refine raw_sub rfl rfl rfl hdw ?_
        cbv
        refine raw_conv rfl ui u8 (r := .ofNat 16) (by decide) ?_
        cbv
        refine And.intro (fun e => absurd e (by omega)) (fun _ => ?_)
        cbv
        refine And.intro (fun e => absurd e (by omega)) (fun _ => ?_)
        cbv
        refine raw_conv rfl ui u6 (r := .ofNat 16) (by decide) ?_
        cbv
        refine raw_mul rfl rfl rfl hmw ?_
        cbv
        refine raw_conv rfl u8 u6 hdc ?_
        cbv
        refine raw_add rfl rfl rfl hm1w ?_
        cbv
        refine And.intro (fun e => absurd e (by omega)) (fun _ => ?_)
        cbv
        refine And.intro (fun e => absurd e (by omega)) (fun _ => ?_)
        cbv
        exact ⟨hb, (i + 1, m1), Less.cons rfl (Less.cons rfl (Less.cons rfl (Less.cons rfl (Less.cons rfl (Less.cons rfl (Less.cons rfl (Less.cons rfl (Less.cons rfl (Less.nil _))))))))), rfl, ⟨hi, st.symm, (by show m1 < 16 ^ (i + 1); omega)⟩, (by show l.length - (i + 1) < l.length - i; omega)⟩
      obtain ⟨dl1, dl2, dl3⟩ := dl hA
      by_cases hB : 97 ≤ L ∧ L ≤ 122
      · obtain ⟨e0, he0⟩ : ∃ e, e = L - 97 := ⟨_, rfl⟩
        obtain ⟨d, hd⟩ : ∃ d, d = e0 + 10 := ⟨_, rfl⟩
        have hew : IntKind.u8.wrap (.ofNat L - 97) = .ofNat e0 := by rw [he0]; exact wrap_u8s hl8 hB.1
        have hdw : IntKind.u8.wrap (.ofNat e0 + 10) = .ofNat d := by rw [hd]; exact wrap_u8 (n := e0 + 10) (by omega)
        by_cases hX : L ≤ 102
        · rw [dl1 ⟨hB.1, hX⟩, show L - 97 + 10 = d by omega] at st
          have st : numF true 0 l = numF true (n * 16 + d) (l.drop (i + 1)) := st
          rw [← hm] at st
          obtain ⟨m1, hm1⟩ : ∃ m1, m1 = m + d := ⟨_, rfl⟩
          have hdc : IntKind.u64.wrap (.ofNat d) = .ofNat d := wrap_u64 (by omega)
          have hm1w : IntKind.u64.wrap (.ofNat m + .ofNat d) = .ofNat m1 := by rw [hm1]; exact wrap_u64 (n := m + d) (by omega)
          rw [← hm1] at st
          refine And.intro (fun e => ?_) (fun e => ?_)
          all_goals cbv
          all_goals refine And.intro (fun h1 => ?_) (fun h1 => ?_)
          all_goals cbv
          all_goals try (refine And.intro (fun e => absurd e (by omega)) (fun _ => ?_); cbv)
          all_goals (refine .inl (n1 _ _ ?_); cbv)
          all_goals (refine And.intro (fun _ => ?_) (fun e => absurd e (by omega)); cbv)
          all_goals (refine .inl (n1 _ _ ?_); cbv)
          all_goals (refine And.intro (fun _ => ?_) (fun e => absurd e (by omega)); cbv)
          all_goals (refine .inl (n1 _ _ ?_); cbv)
          all_goals (refine raw_sub rfl rfl rfl hew ?_; cbv)
          all_goals (refine raw_add rfl rfl rfl hdw ?_; cbv)
          all_goals
            refine raw_conv rfl ui u8 (r := .ofNat 16) (by decide) ?_
            cbv
            refine And.intro (fun e => absurd e (by omega)) (fun _ => ?_)
            cbv
            refine And.intro (fun e => absurd e (by omega)) (fun _ => ?_)
            cbv
            refine raw_conv rfl ui u6 (r := .ofNat 16) (by decide) ?_
            cbv
            refine raw_mul rfl rfl rfl hmw ?_
            cbv
            refine raw_conv rfl u8 u6 hdc ?_
            cbv
            refine raw_add rfl rfl rfl hm1w ?_
            cbv
            refine And.intro (fun e => absurd e (by omega)) (fun _ => ?_)
            cbv
            refine And.intro (fun e => absurd e (by omega)) (fun _ => ?_)
            cbv
            exact ⟨hb, (i + 1, m1), Less.cons rfl (Less.cons rfl (Less.cons rfl (Less.cons rfl (Less.cons rfl (Less.cons rfl (Less.cons rfl (Less.cons rfl (Less.cons rfl (Less.nil _))))))))), rfl, ⟨hi, st.symm, (by show m1 < 16 ^ (i + 1); omega)⟩, (by show l.length - (i + 1) < l.length - i; omega)⟩
        · rw [dl2 (.inr (by omega))] at st
          have hk : ∀ h', K (uintV none) h' := by rw [st] at hk; exact hk
          refine And.intro (fun e => ?_) (fun e => ?_)
          all_goals cbv
          all_goals refine And.intro (fun h1 => ?_) (fun h1 => ?_)
          all_goals cbv
          all_goals try (refine And.intro (fun e => absurd e (by omega)) (fun _ => ?_); cbv)
          all_goals (refine .inl (n1 _ _ ?_); cbv)
          all_goals (refine And.intro (fun _ => ?_) (fun e => absurd e (by omega)); cbv)
          all_goals (refine .inl (n1 _ _ ?_); cbv)
          all_goals (refine And.intro (fun _ => ?_) (fun e => absurd e (by omega)); cbv)
          all_goals (refine .inl (n1 _ _ ?_); cbv)
          all_goals (refine raw_sub rfl rfl rfl hew ?_; cbv)
          all_goals (refine raw_add rfl rfl rfl hdw ?_; cbv)
          all_goals (refine raw_conv rfl ui u8 (r := .ofNat 16) (by decide) ?_; cbv)
          all_goals (refine And.intro (fun _ => ?_) (fun e => absurd e (by omega)); cbv)
          all_goals (refine raw_iface rfl e1 e2 ?_; cbv)
          all_goals exact ⟨_, rfl, hk _⟩
      · have hz : digitV true c = none := dl2 (by omega)
        rw [hz] at st
        have hk : ∀ h', K (uintV none) h' := by rw [st] at hk; exact hk
        refine And.intro (fun e => ?_) (fun e => ?_)
        all_goals cbv
        all_goals refine And.intro (fun h1 => ?_) (fun h1 => ?_)
        all_goals cbv
        all_goals try (refine And.intro (fun e => absurd e (by omega)) (fun _ => ?_); cbv)
        all_goals (refine .inl (n1 _ _ ?_); cbv)
        all_goals refine And.intro (fun h2 => ?_) (fun h2 => ?_)
        all_goals cbv
        all_goals try (refine .inl (n1 _ _ ?_); cbv; refine And.intro (fun e => absurd e (by omega)) (fun _ => ?_); cbv)
        all_goals (refine raw_iface rfl e1 e2 ?_; cbv)
        all_goals exact ⟨_, rfl, hk _⟩
    · have hi : i = l.length := by omega
      rw [hi, List.drop_eq_nil_of_le (Nat.le_refl _)] at i2
      have hk : ∀ h', K (uintV (some n)) h' := by rw [← i2] at hk; exact hk
      cbv
      refine And.intro (fun e => absurd e (by omega)) (fun _ => ?_)
      cbv
      exact ⟨_, rfl, hk _⟩
end
end Go.Proofs.YtknhcgdhfndooaaDoor.GEv
