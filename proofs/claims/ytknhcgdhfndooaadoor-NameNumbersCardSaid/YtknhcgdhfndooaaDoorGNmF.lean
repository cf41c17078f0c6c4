/- What stands between an & and a semicolon: 'meant' and 'entity', by symbolic runs. -/
import Derived.Test.YtknhcgdhfndooaaDoorGNmM
namespace Go.Proofs.YtknhcgdhfndooaaDoor.GEv
open Go
set_option linter.unusedSimpArgs false
set_option linter.unusedVariables false
theorem entity_lit : entity [97, 109, 112] = some [38] ∧ entity [108, 116] = some [60] ∧ entity [103, 116] = some [62] ∧ entity [113, 117, 111, 116] = some [34] ∧ entity [97, 112, 111, 115] = some [39] := by decide +kernel
def restE : List UInt8 → Option (List UInt8)
  | [] => none
  | c :: t => if c = 35 then refV t else none
theorem entity_rest {l : List UInt8} (h1 : ¬ l = [97, 109, 112]) (h2 : ¬ l = [108, 116]) (h3 : ¬ l = [103, 116]) (h4 : ¬ l = [113, 117, 111, 116]) (h5 : ¬ l = [97, 112, 111, 115]) : entity l = restE l := by
  unfold entity
  rw [if_neg h1, if_neg h2, if_neg h3, if_neg h4, if_neg h5]
  cases l <;> rfl
theorem runes_one (x : Int) : runesBytes [x] = Utf8.encode x := by
  show ByteArray.empty ++ Utf8.encode x = _
  exact ByteArray.empty_append
theorem runesU2 : EM.P.underlying 30 = some (.slice 21) := by kernel_rfl
theorem i32Zero : zero EM.P 21 = some (.int .i32 0) := by kernel_rfl
theorem i32Size : sizeOf EM.P 21 = some 1 := by kernel_rfl
theorem read_one (h : H) (v : Value) (e : Option TypeId) : (h.push (.cells [v] e true 0)).read h.next 0 1 = some [v] := by
  simp only [H.read, H.push, U.get_set, if_pos, cut]
  rfl
set_option maxRecDepth 100000
attribute [local cbv_opaque] isString isSlice isBoolT fOff iSize eqNil zero H.load H.store H.push H.dip H.put List.length List.getD Nat.add Nat.sub Nat.mul List.take List.drop lowN UInt8.toNat bytesV Utf8.encode encodeB sign
attribute [local cbv_eval] List.length_cons List.length_nil
section
variable {E : Env} (hE : E = EM)
include hE
theorem nMeant (l : List UInt8) (h : H) (K : Value → H → Prop) (hk : ∀ h', K (optV (entity l)) h') : CallP E 33 [.string ⟨⟨l⟩⟩] h K := by
  refine CallP.ofE hE rfl Tryd.func33 rfl (Nat.le_of_ble_eq_true rfl) ?_
  have n0 := fun h K hk => cutPre hE 35 l h K hk
  have n1 := fun l h K hk => nNumb hE l h K hk
  clear hE
  obtain ⟨e1, e2, e3, e4, e5⟩ := entity_lit
  cbv
  refine And.intro (fun h1 => ?_) (fun h1 => ?_)
  · have h1 : l = [97, 109, 112] := h1
    subst h1
    rw [e1] at hk
    cbv
    exact ⟨_, rfl, hk _⟩
  cbv
  refine And.intro (fun h2 => ?_) (fun h2 => ?_)
  · have h2 : l = [108, 116] := h2
    subst h2
    rw [e2] at hk
    cbv
    exact ⟨_, rfl, hk _⟩
  cbv
  refine And.intro (fun h3 => ?_) (fun h3 => ?_)
  · have h3 : l = [103, 116] := h3
    subst h3
    rw [e3] at hk
    cbv
    exact ⟨_, rfl, hk _⟩
  cbv
  refine And.intro (fun h4 => ?_) (fun h4 => ?_)
  · have h4 : l = [113, 117, 111, 116] := h4
    subst h4
    rw [e4] at hk
    cbv
    exact ⟨_, rfl, hk _⟩
  cbv
  refine And.intro (fun h5 => ?_) (fun h5 => ?_)
  · have h5 : l = [97, 112, 111, 115] := h5
    subst h5
    rw [e5] at hk
    cbv
    exact ⟨_, rfl, hk _⟩
  cbv
  rw [entity_rest h1 h2 h3 h4 h5] at hk
  cases l with
  | nil =>
    refine .inl (n0 _ _ ?_)
    cbv
    exact ⟨_, rfl, hk _⟩
  | cons c t =>
    by_cases hc : c = 35
    · subst hc
      have hk : ∀ h', K (optV (refV t)) h' := hk
      refine .inl (n0 _ _ ?_)
      cbv
      refine .inl (n1 _ _ _ fun h' => ?_)
      have hk := hk h'
      generalize refV t = r at hk ⊢
      cases r
      all_goals cbv
      all_goals exact ⟨_, rfl, hk⟩
    · have hk : ∀ h', K (optV none) h' := by
        intro h'
        have := hk h'
        simp only [restE, if_neg hc] at this
        exact this
      have n0 : ∀ (h : H) (K : Value → H → Prop), K (.tuple #[.string ⟨⟨c :: t⟩⟩, .bool false]) h → CallP E 45 [.string ⟨⟨c :: t⟩⟩, .string ⟨⟨[35]⟩⟩] h K := by
        intro h K hk
        refine n0 h K ?_
        unfold preV
        simp only [hc, decide_false]
        exact hk
      refine .inl (n0 _ _ ?_)
      cbv
      exact ⟨_, rfl, hk _⟩
omit hE in
theorem digitV_le (hex : Bool) (c : Nat) : ∀ d, digitV hex c = some d → d ≤ 15 ∧ (hex = false → d ≤ 9) := by
  intro d hd
  unfold digitV at hd
  split at hd
  · cases hd; omega
  split at hd
  · rename_i q; cases hd; exact ⟨by omega, fun e => by rw [e] at q; exact absurd q.1 (by decide)⟩
  split at hd
  · rename_i q; cases hd; exact ⟨by omega, fun e => by rw [e] at q; exact absurd q.1 (by decide)⟩
  cases hd
theorem rRef (l : List UInt8) (h : H) (K : Value → H → Prop) (hk : ∀ h', K (optV (refV l)) h') : CallP E 47 [.string ⟨⟨l⟩⟩] h K := by
  refine CallP.ofE hE rfl Tryd.func47 rfl (Nat.le_of_ble_eq_true rfl) ?_
  have hS : isString E.1 9 = true := by rw [hE]; exact stringT
  have uS : E.P.underlying 9 = some .string := by rw [hE]; exact stringU
  have ui : E.P.underlying 3 = some (.int .i64) := by rw [hE]; exact intU
  have t3 : E.P.underlying 21 = some (.int .i32) := by rw [hE]; exact i32U
  have r1 : E.P.underlying 30 = some (.slice 21) := by rw [hE]; exact runesU2
  have r2 : zero E.P 21 = some (.int .i32 0) := by rw [hE]; exact i32Zero
  have r3 : sizeOf E.P 21 = some 1 := by rw [hE]; exact i32Size
  have n1 := fun hex c hc h K hk => rDigit hE hex c hc h K hk
  have n2 := fun r h K hk => rChar hE r h K hk
  clear hE
  cases l with
  | nil =>
    have hk : ∀ h', K (optV none) h' := hk
    cbv
    refine And.intro (fun _ => ?_) (fun e => absurd rfl e)
    cbv
    refine And.intro hS ?_
    refine And.intro (fun _ => ?_) (fun e => absurd e (by decide))
    cbv
    exact ⟨_, rfl, hk _⟩
  | cons c s0 =>
  have lp : Nat.le 1 (Nat.add s0.length 1) := Nat.le_add_left _ _
  have lt : Nat.lt 0 (Nat.add s0.length 1) := Nat.succ_pos _
  have l1 : List.take (Nat.sub (Nat.add s0.length 1) 1) (List.drop 1 (c :: s0)) = s0 := by
    show List.take (s0.length + 1 - 1) s0 = s0
    simp
  have hg : (List.getD (c :: s0) 0 0).toNat = c.toNat := rfl
  by_cases hc : c = 120
  · have hk : ∀ h', K (optV (refD true s0)) h' := by
      have e : refV (c :: s0) = refD true s0 := by simp only [refV, if_pos hc]
      rw [e] at hk
      exact hk
    have hcn : c.toNat = 120 := by rw [hc]; rfl
    cbv
    refine And.intro (fun e => absurd e (List.cons_ne_nil _ _)) (fun _ => ?_)
    cbv
    refine And.intro hS (And.intro lt ?_)
    rw [hg, hcn]
    refine And.intro (fun _ => ?_) (fun e => absurd rfl e)
    cbv
    refine And.intro hS (And.intro lp (And.intro (Nat.le_refl _) ?_))
    rw [l1]
    cbv
    generalize s0 = s at hk ⊢
    by_cases h0 : s.length < 1
    · rw [refD_long (.inl h0)] at hk
      refine And.intro hS ?_
      refine And.intro (fun _ => ?_) (fun e => absurd e (by omega))
      cbv
      exact ⟨_, rfl, hk _⟩
    by_cases h7 : 7 < s.length
    · rw [refD_long (.inr h7)] at hk
      refine And.intro hS ?_
      refine And.intro (fun e => absurd e (by omega)) (fun _ => ?_)
      cbv
      refine And.intro hS ?_
      refine And.intro (fun _ => ?_) (fun e => absurd e (by omega))
      cbv
      exact ⟨_, rfl, hk _⟩
    refine And.intro hS ?_
    refine And.intro (fun e => absurd e (by omega)) (fun _ => ?_)
    cbv
    refine And.intro hS ?_
    refine And.intro (fun e => absurd e (by omega)) (fun _ => ?_)
    cbv
    refine LoopP.on (fun x : Nat × Nat => [(7, .int .i64 (.ofNat x.1)), (6, .int .i64 (.ofNat x.2)), (0, .string ⟨⟨s⟩⟩), (4, .int .i64 (.ofNat 16)), (5, .bool true)]) (fun _ => h)
      (fun x => x.1 ≤ s.length ∧ numF true x.2 (s.drop x.1) = numF true 0 s ∧ x.2 < 16 ^ x.1) (fun x => s.length - x.1) (0, 0) rfl (Less.cons rfl (Less.cons rfl (Less.cons rfl (Less.cons rfl (Less.cons rfl (Less.nil _)))))) ⟨Nat.zero_le _, by simp, by decide⟩ ?_
    rintro ⟨i, n⟩ ⟨i1, i2, i3⟩
    have i1 : i ≤ s.length := i1
    have i2 : numF true n (s.drop i) = numF true 0 s := i2
    have i3 : n < 16 ^ i := i3
    by_cases hi : i < s.length
    · have st := numF_step (hex := true) (n := n) hi
      rw [i2] at st
      have hc : (s.getD i 0).toNat < 256 := (s.getD i 0).toNat_lt
      have hp : 16 ^ (i + 1) = 16 ^ i * 16 := Nat.pow_succ ..
      have hq : 16 ^ i ≤ 16 ^ 6 := Nat.pow_le_pow_right (by decide) (by omega)
      have hn : n < 16777216 := by omega
      have hb : Nat.le (Nat.add i 1) 4611686018427387904 := by show i + 1 ≤ _; omega
      obtain ⟨m, hm⟩ : ∃ m, m = n * 16 := ⟨_, rfl⟩
      have hmw : IntKind.i64.wrap (.ofNat n * 16) = .ofNat m := by rw [hm]; exact wrap_i64 (n := n * 16) (by omega)
      have n1 := fun h K hk => n1 true (s.getD i 0).toNat hc h K hk
      have hle := digitV_le true (s.getD i 0).toNat
      unfold digI at n1
      generalize hcc : (s.getD i 0).toNat = c at st n1 hle
      generalize digitV true c = r at st n1 hle
      cases r with
      | some d =>
        have st : numF true 0 s = numF true (n * 16 + d) (s.drop (i + 1)) := st
        rw [← hm] at st
        have hd := hle d rfl
        have hd : d ≤ 15 ∧ True := ⟨hd.1, trivial⟩
        have hmd : Nat.le (Nat.add m d) 4611686018427387904 := by show m + d ≤ _; omega
        cbv
        refine And.intro hS ?_
        refine And.intro (fun _ => ?_) (fun e => absurd e (by omega))
        cbv
        refine And.intro hS (And.intro (by assumption) ?_)
        rw [hcc]
        refine .inl (n1 _ _ ?_)
        cbv
        refine And.intro (fun e => absurd e (Nat.not_lt_zero _)) (fun _ => ?_)
        cbv
        refine raw_mul rfl rfl rfl hmw ?_
        cbv
        refine And.intro hmd ?_
        refine And.intro hb ?_
        exact ⟨(i + 1, m + d), Less.cons rfl (Less.cons rfl (Less.cons rfl (Less.cons rfl (Less.cons rfl (Less.nil _))))), rfl, ⟨hi, st.symm, (by show m + d < 16 ^ (i + 1); omega)⟩, (by show s.length - (i + 1) < s.length - i; omega)⟩
      | none =>
        have hk : ∀ h', K (optV none) h' := by rw [refD_none st] at hk; exact hk
        cbv
        refine And.intro hS ?_
        refine And.intro (fun _ => ?_) (fun e => absurd e (by omega))
        cbv
        refine And.intro hS (And.intro (by assumption) ?_)
        rw [hcc]
        refine .inl (n1 _ _ ?_)
        cbv
        refine And.intro (fun e => ?_) (fun e => absurd e (by decide))
        cbv
        exact ⟨_, rfl, hk _⟩
    · have hi : i = s.length := by omega
      rw [hi, List.drop_eq_nil_of_le (Nat.le_refl _)] at i2
      have hn : numF true 0 s = some n := i2.symm
      have hlt := numF_small hn (by omega)
      rw [refD_some (by omega) (by omega) hn] at hk
      have n2 := fun h K hk => n2 (.ofNat n) h K hk
      have hsl := sign_le (n := n)
      generalize sign (.ofNat n) = b at hk n2 hsl
      cbv
      refine And.intro hS ?_
      refine And.intro (fun e => absurd e (by omega)) (fun _ => ?_)
      cbv
      by_cases hbig : 1114111 < n
      · have hk : ∀ h', K (optV none) h' := by
          cases b
          · exact hk
          · exact absurd (hsl rfl) (by omega)
        refine And.intro (fun _ => ?_) (fun e => absurd e (by omega))
        cbv
        exact ⟨_, rfl, hk _⟩
      refine And.intro (fun e => absurd e (by omega)) (fun _ => ?_)
      cbv
      refine raw_conv rfl ui t3 (wrap_i32 (by omega)) ?_
      cbv
      refine .inl (n2 _ _ ?_)
      cases b
      all_goals cbv
      · exact ⟨_, rfl, hk _⟩
      refine raw_conv rfl ui t3 (wrap_i32 (by omega)) ?_
      cbv
      refine raw_buildSlice rfl r1 r2 r3 (c := [.int .i32 (.ofNat n)]) (by decide) rfl ?_
      cbv
      refine raw_unrunes rfl r1 uS t3 (rs := [.ofNat n]) (read_one _ _ _) rfl ?_
      rw [runes_one]
      cbv
      exact ⟨_, rfl, eqv (hk _) (encV n)⟩
  · have hk : ∀ h', K (optV (refD false (c :: s0))) h' := by
      have e : refV (c :: s0) = refD false (c :: s0) := by simp only [refV, if_neg hc]
      rw [e] at hk
      exact hk
    have hcn : ¬ c.toNat = 120 := fun e => hc (UInt8.toNat_inj.1 e)
    cbv
    refine And.intro (fun e => absurd e (List.cons_ne_nil _ _)) (fun _ => ?_)
    cbv
    refine And.intro hS (And.intro lt ?_)
    rw [hg]
    refine And.intro (fun e => absurd e hcn) (fun _ => ?_)
    cbv
    clear l1 lp lt hg
    have hg : (Nat.add s0.length 1) = (c :: s0).length := rfl
    simp only [hg]
    generalize c :: s0 = s at hk ⊢
    by_cases h0 : s.length < 1
    · rw [refD_long (.inl h0)] at hk
      refine And.intro hS ?_
      refine And.intro (fun _ => ?_) (fun e => absurd e (by omega))
      cbv
      exact ⟨_, rfl, hk _⟩
    by_cases h7 : 7 < s.length
    · rw [refD_long (.inr h7)] at hk
      refine And.intro hS ?_
      refine And.intro (fun e => absurd e (by omega)) (fun _ => ?_)
      cbv
      refine And.intro hS ?_
      refine And.intro (fun _ => ?_) (fun e => absurd e (by omega))
      cbv
      exact ⟨_, rfl, hk _⟩
    refine And.intro hS ?_
    refine And.intro (fun e => absurd e (by omega)) (fun _ => ?_)
    cbv
    refine And.intro hS ?_
    refine And.intro (fun e => absurd e (by omega)) (fun _ => ?_)
    cbv
    refine LoopP.on (fun x : Nat × Nat => [(7, .int .i64 (.ofNat x.1)), (6, .int .i64 (.ofNat x.2)), (0, .string ⟨⟨s⟩⟩), (4, .int .i64 (.ofNat 10)), (5, .bool false)]) (fun _ => h)
      (fun x => x.1 ≤ s.length ∧ numF false x.2 (s.drop x.1) = numF false 0 s ∧ x.2 < 16 ^ x.1) (fun x => s.length - x.1) (0, 0) rfl (Less.cons rfl (Less.cons rfl (Less.cons rfl (Less.cons rfl (Less.cons rfl (Less.nil _)))))) ⟨Nat.zero_le _, by simp, by decide⟩ ?_
    rintro ⟨i, n⟩ ⟨i1, i2, i3⟩
    have i1 : i ≤ s.length := i1
    have i2 : numF false n (s.drop i) = numF false 0 s := i2
    have i3 : n < 16 ^ i := i3
    by_cases hi : i < s.length
    · have st := numF_step (hex := false) (n := n) hi
      rw [i2] at st
      have hc : (s.getD i 0).toNat < 256 := (s.getD i 0).toNat_lt
      have hp : 16 ^ (i + 1) = 16 ^ i * 16 := Nat.pow_succ ..
      have hq : 16 ^ i ≤ 16 ^ 6 := Nat.pow_le_pow_right (by decide) (by omega)
      have hn : n < 16777216 := by omega
      have hb : Nat.le (Nat.add i 1) 4611686018427387904 := by show i + 1 ≤ _; omega
      obtain ⟨m, hm⟩ : ∃ m, m = n * 10 := ⟨_, rfl⟩
      have hmw : IntKind.i64.wrap (.ofNat n * 10) = .ofNat m := by rw [hm]; exact wrap_i64 (n := n * 10) (by omega)
      have n1 := fun h K hk => n1 false (s.getD i 0).toNat hc h K hk
      have hle := digitV_le false (s.getD i 0).toNat
      unfold digI at n1
      generalize hcc : (s.getD i 0).toNat = c at st n1 hle
      generalize digitV false c = r at st n1 hle
      cases r with
      | some d =>
        have st : numF false 0 s = numF false (n * 10 + d) (s.drop (i + 1)) := st
        rw [← hm] at st
        have hd := hle d rfl
        have hd : d ≤ 15 ∧ d ≤ 9 := ⟨hd.1, hd.2 rfl⟩
        have hmd : Nat.le (Nat.add m d) 4611686018427387904 := by show m + d ≤ _; omega
        cbv
        refine And.intro hS ?_
        refine And.intro (fun _ => ?_) (fun e => absurd e (by omega))
        cbv
        refine And.intro hS (And.intro (by assumption) ?_)
        rw [hcc]
        refine .inl (n1 _ _ ?_)
        cbv
        refine And.intro (fun e => absurd e (Nat.not_lt_zero _)) (fun _ => ?_)
        cbv
        refine raw_mul rfl rfl rfl hmw ?_
        cbv
        refine And.intro hmd ?_
        refine And.intro hb ?_
        exact ⟨(i + 1, m + d), Less.cons rfl (Less.cons rfl (Less.cons rfl (Less.cons rfl (Less.cons rfl (Less.nil _))))), rfl, ⟨hi, st.symm, (by show m + d < 16 ^ (i + 1); omega)⟩, (by show s.length - (i + 1) < s.length - i; omega)⟩
      | none =>
        have hk : ∀ h', K (optV none) h' := by rw [refD_none st] at hk; exact hk
        cbv
        refine And.intro hS ?_
        refine And.intro (fun _ => ?_) (fun e => absurd e (by omega))
        cbv
        refine And.intro hS (And.intro (by assumption) ?_)
        rw [hcc]
        refine .inl (n1 _ _ ?_)
        cbv
        refine And.intro (fun e => ?_) (fun e => absurd e (by decide))
        cbv
        exact ⟨_, rfl, hk _⟩
    · have hi : i = s.length := by omega
      rw [hi, List.drop_eq_nil_of_le (Nat.le_refl _)] at i2
      have hn : numF false 0 s = some n := i2.symm
      have hlt := numF_small hn (by omega)
      rw [refD_some (by omega) (by omega) hn] at hk
      have n2 := fun h K hk => n2 (.ofNat n) h K hk
      have hsl := sign_le (n := n)
      generalize sign (.ofNat n) = b at hk n2 hsl
      cbv
      refine And.intro hS ?_
      refine And.intro (fun e => absurd e (by omega)) (fun _ => ?_)
      cbv
      by_cases hbig : 1114111 < n
      · have hk : ∀ h', K (optV none) h' := by
          cases b
          · exact hk
          · exact absurd (hsl rfl) (by omega)
        refine And.intro (fun _ => ?_) (fun e => absurd e (by omega))
        cbv
        exact ⟨_, rfl, hk _⟩
      refine And.intro (fun e => absurd e (by omega)) (fun _ => ?_)
      cbv
      refine raw_conv rfl ui t3 (wrap_i32 (by omega)) ?_
      cbv
      refine .inl (n2 _ _ ?_)
      cases b
      all_goals cbv
      · exact ⟨_, rfl, hk _⟩
      refine raw_conv rfl ui t3 (wrap_i32 (by omega)) ?_
      cbv
      refine raw_buildSlice rfl r1 r2 r3 (c := [.int .i32 (.ofNat n)]) (by decide) rfl ?_
      cbv
      refine raw_unrunes rfl r1 uS t3 (rs := [.ofNat n]) (read_one _ _ _) rfl ?_
      rw [runes_one]
      cbv
      exact ⟨_, rfl, eqv (hk _) (encV n)⟩
theorem rEntity (l : List UInt8) (h : H) (K : Value → H → Prop) (hk : ∀ h', K (optV (entity l)) h') : CallP E 36 [.string ⟨⟨l⟩⟩] h K := by
  refine CallP.ofE hE rfl Tryd.func36 rfl (Nat.le_of_ble_eq_true rfl) ?_
  have hS : isString E.1 9 = true := by rw [hE]; exact stringT
  have n1 := fun l h K hk => rRef hE l h K hk
  clear hE
  obtain ⟨e1, e2, e3, e4, e5⟩ := entity_lit
  cbv
  refine And.intro (fun h1 => ?_) (fun h1 => ?_)
  · have h1 : l = [97, 109, 112] := h1
    subst h1
    rw [e1] at hk
    cbv
    exact ⟨_, rfl, hk _⟩
  cbv
  refine And.intro (fun h2 => ?_) (fun h2 => ?_)
  · have h2 : l = [108, 116] := h2
    subst h2
    rw [e2] at hk
    cbv
    exact ⟨_, rfl, hk _⟩
  cbv
  refine And.intro (fun h3 => ?_) (fun h3 => ?_)
  · have h3 : l = [103, 116] := h3
    subst h3
    rw [e3] at hk
    cbv
    exact ⟨_, rfl, hk _⟩
  cbv
  refine And.intro (fun h4 => ?_) (fun h4 => ?_)
  · have h4 : l = [113, 117, 111, 116] := h4
    subst h4
    rw [e4] at hk
    cbv
    exact ⟨_, rfl, hk _⟩
  cbv
  refine And.intro (fun h5 => ?_) (fun h5 => ?_)
  · have h5 : l = [97, 112, 111, 115] := h5
    subst h5
    rw [e5] at hk
    cbv
    exact ⟨_, rfl, hk _⟩
  cbv
  rw [entity_rest h1 h2 h3 h4 h5] at hk
  clear h1 h2 h3 h4 h5
  cases l with
  | nil =>
    refine And.intro (fun _ => ?_) (fun e => absurd rfl e)
    cbv
    exact ⟨_, rfl, hk _⟩
  | cons c t =>
    have lp : Nat.le 1 (Nat.add t.length 1) := Nat.le_add_left _ _
    have lt : Nat.lt 0 (Nat.add t.length 1) := Nat.succ_pos _
    have l1 : List.take (Nat.sub (Nat.add t.length 1) 1) (List.drop 1 (c :: t)) = t := by
      show List.take (t.length + 1 - 1) t = t
      simp
    have hg : (List.getD (c :: t) 0 0).toNat = c.toNat := rfl
    refine And.intro (fun e => absurd e (List.cons_ne_nil _ _)) (fun _ => ?_)
    cbv
    refine And.intro hS (And.intro lt ?_)
    rw [hg]
    by_cases hc : c = 35
    · have hk : ∀ h', K (optV (refV t)) h' := by
        intro h'
        have := hk h'
        simp only [restE, if_pos hc] at this
        exact this
      have hcn : c.toNat = 35 := by rw [hc]; rfl
      rw [hcn]
      refine And.intro (fun _ => ?_) (fun e => absurd rfl e)
      cbv
      refine And.intro hS (And.intro lp (And.intro (Nat.le_refl _) ?_))
      rw [l1]
      refine .inl (n1 _ _ _ fun h' => ?_)
      have hk := hk h'
      generalize refV t = r at hk ⊢
      cases r
      all_goals cbv
      all_goals exact ⟨_, rfl, hk⟩
    · have hk : ∀ h', K (optV none) h' := by
        intro h'
        have := hk h'
        simp only [restE, if_neg hc] at this
        exact this
      have hcn : ¬ c.toNat = 35 := fun e => hc (UInt8.toNat_inj.1 e)
      refine And.intro (fun e => absurd e hcn) (fun _ => ?_)
      cbv
      exact ⟨_, rfl, hk _⟩
end
end Go.Proofs.YtknhcgdhfndooaaDoor.GEv
