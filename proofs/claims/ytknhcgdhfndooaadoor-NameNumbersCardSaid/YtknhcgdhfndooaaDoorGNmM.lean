/- What stands between an & and a semicolon, by symbolic runs. -/
import Derived.Test.YtknhcgdhfndooaaDoorGNmT
namespace Go.Proofs.YtknhcgdhfndooaaDoor.GEv
open Go
set_option linter.unusedSimpArgs false
set_option linter.unusedVariables false
/-- A text, or nothing. -/
def optV : Option (List UInt8) → Value
  | some x => .tuple #[.string ⟨⟨x⟩⟩, .bool true]
  | none => .tuple #[.string ⟨⟨[]⟩⟩, .bool false]
theorem errIU : ∃ ms, EM.P.underlying 48 = some (.interface ms) := by
  have h : (match EM.P.underlying 48 with | some (.interface _) => true | _ => false) = true := by kernel_rfl
  split at h
  · rename_i ms q; exact ⟨ms, q⟩
  · cases h
theorem numF_sign {hex : Bool} {c : UInt8} {l : List UInt8} (h : c.toNat = 43 ∨ c.toNat = 45) : numF hex 0 (c :: l) = none := by
  have : digitV hex c.toNat = none := by
    unfold digitV
    rw [if_neg (by omega), if_neg (by rintro ⟨_, x, y⟩; omega), if_neg (by rintro ⟨_, x, y⟩; omega)]
  simp only [numF, this]
theorem numF_bound {hex : Bool} : ∀ {l : List UInt8} {n m : Nat}, numF hex n l = some m → m < (n + 1) * 16 ^ l.length
  | [], n, m, h => by
    simp only [numF, Option.some.injEq] at h
    subst h
    simp
  | c :: l, n, m, h => by
    simp only [numF] at h
    split at h
    · rename_i d hd
      have hd16 : d ≤ 15 ∧ (hex = false → d ≤ 9) := by
        unfold digitV at hd
        split at hd
        · cases hd; omega
        split at hd
        · rename_i q; cases hd; exact ⟨by omega, fun e => by rw [e] at q; exact absurd q.1 (by decide)⟩
        split at hd
        · rename_i q; cases hd; exact ⟨by omega, fun e => by rw [e] at q; exact absurd q.1 (by decide)⟩
        cases hd
      have ih := numF_bound h
      have hb : n * baseV hex + d + 1 ≤ (n + 1) * 16 := by
        cases hex
        · have := hd16.2 rfl; show n * 10 + d + 1 ≤ _; omega
        · show n * 16 + d + 1 ≤ _; omega
      calc m < (n * baseV hex + d + 1) * 16 ^ l.length := ih
        _ ≤ ((n + 1) * 16) * 16 ^ l.length := Nat.mul_le_mul_right _ hb
        _ = (n + 1) * 16 ^ (l.length + 1) := by rw [Nat.pow_succ, Nat.mul_assoc, Nat.mul_comm 16]
        _ = (n + 1) * 16 ^ (c :: l).length := by rw [List.length_cons]
    · cases h
theorem numF_small {hex : Bool} {l : List UInt8} {m : Nat} (h : numF hex 0 l = some m) (hl : l.length ≤ 7) : m < 268435456 := by
  have h1 := numF_bound h
  have h2 : 16 ^ l.length ≤ 16 ^ 7 := Nat.pow_le_pow_right (by decide) hl
  omega
theorem sign_le {n : Nat} (h : sign (.ofNat n) = true) : n ≤ 1114111 := by
  simp [sign] at h
  omega
theorem refD_some {hex : Bool} {l : List UInt8} {n : Nat} (h0 : 1 ≤ l.length) (h7 : l.length ≤ 7) (hn : numF hex 0 l = some n) : refD hex l = match sign (.ofNat n) with
    | true => some (encodeB n)
    | false => none := by
  unfold refD
  rw [if_neg (by omega)]
  simp only [hn]
  cases hs : sign (.ofNat n) with
  | true => rw [if_pos ⟨sign_le hs, rfl⟩]
  | false => rw [if_neg (by rintro ⟨_, q⟩; cases q)]
theorem refD_none {hex : Bool} {l : List UInt8} (hn : numF hex 0 l = none) : refD hex l = none := by
  unfold refD
  split
  · rfl
  · simp only [hn]
theorem refD_long {hex : Bool} {l : List UInt8} (h : l.length < 1 ∨ 7 < l.length) : refD hex l = none := by
  unfold refD
  rw [if_pos h]
theorem encG (x : ByteArray) : tup [.string x, .bool true] = .tuple #[.string ⟨⟨x.data.toList⟩⟩, .bool true] := by
  cases x
  rfl
theorem encV (n : Nat) : tup [.string (Utf8.encode (.ofNat n)), .bool true] = optV (some (encodeB n)) := by
  rw [encG (Utf8.encode (.ofNat n))]
  have e : encodeB n = (Utf8.encode (.ofNat n)).data.toList := by rw [encodeB]
  rw [← e, optV]
set_option maxRecDepth 100000
attribute [local cbv_opaque] isString isSlice isBoolT fOff iSize eqNil zero H.load H.store H.push H.dip H.put List.length List.getD Nat.add Nat.sub Nat.mul List.take List.drop lowN UInt8.toNat bytesV Utf8.encode encodeB sign
attribute [local cbv_eval] List.length_cons List.length_nil
section
variable {E : Env} (hE : E = EM)
include hE
theorem nNumb (l : List UInt8) (h : H) (K : Value → H → Prop) (hk : ∀ h', K (optV (refV l)) h') : CallP E 46 [.string ⟨⟨l⟩⟩] h K := by
  refine CallP.ofE hE rfl Tryd.func46 rfl (Nat.le_of_ble_eq_true rfl) ?_
  have hS : isString E.1 9 = true := by rw [hE]; exact stringT
  have uS : E.P.underlying 9 = some .string := by rw [hE]; exact stringU
  have u6 : E.P.underlying 63 = some (.int .u64) := by rw [hE]; exact u64U
  have i3 : E.P.underlying 21 = some (.int .i32) := by rw [hE]; exact i32U
  have g2 : pureRun E.P (binOp .neq 48 .nilIface .nilIface) = some (.bool false) := by rw [hE]; exact nilNe.2
  have eN : ∀ a, eqNil E.P 48 (.iface 85 (.pointer (some a))) .nilIface = some false := by
    obtain ⟨ms, hu⟩ := errIU
    intro a
    rw [hE]
    simp only [eqNil, hu]
  have n0 := fun h K hk => cutPre hE 120 l h K hk
  have n1 := fun hex l h0 h7 h K hk1 hk2 => uOuter hE hex l h0 h7 h K hk1 hk2
  have n2 := fun r h K hk => nChar hE r h K hk
  clear hE
  cases l with
  | nil =>
    have hk : ∀ h', K (optV none) h' := hk
    cbv
    refine .inl (n0 _ _ ?_)
    cbv
    refine And.intro (fun _ => ?_) (fun e => absurd rfl e)
    cbv
    exact ⟨_, rfl, hk _⟩
  | cons c s0 =>
  by_cases hc : c = 120
  · have hk : ∀ h', K (optV (refD true s0)) h' := by
      have e : refV (c :: s0) = refD true s0 := by simp only [refV, if_pos hc]
      rw [e] at hk
      exact hk
    have n0 : ∀ (h : H) (K : Value → H → Prop), K (.tuple #[.string ⟨⟨s0⟩⟩, .bool true]) h → CallP E 45 [.string ⟨⟨c :: s0⟩⟩, .string ⟨⟨[120]⟩⟩] h K := by
      intro h K hk
      refine n0 h K ?_
      unfold preV
      simp only [hc, decide_true]
      exact hk
    cbv
    refine .inl (n0 _ _ ?_)
    clear n0
    generalize s0 = s at hk ⊢
    by_cases h0 : s.length < 1
    · rw [refD_long (.inl h0)] at hk
      obtain rfl : s = [] := List.length_eq_zero_iff.1 (by omega)
      cbv
      refine And.intro (fun _ => ?_) (fun e => absurd rfl e)
      cbv
      exact ⟨_, rfl, hk _⟩
    have hne : ¬ s = [] := by rintro rfl; exact h0 (by simp)
    by_cases h7 : 7 < s.length
    · rw [refD_long (.inr h7)] at hk
      cbv
      refine And.intro (fun e => absurd e hne) (fun _ => ?_)
      cbv
      refine And.intro hS ?_
      refine And.intro (fun _ => ?_) (fun e => absurd e (by omega))
      cbv
      exact ⟨_, rfl, hk _⟩
    have hp : 0 < s.length := by omega
    by_cases hpm : (s.getD 0 0).toNat = 43 ∨ (s.getD 0 0).toNat = 45
    · have hnum : numF true 0 s = none := by
        cases s with
        | nil => exact absurd rfl hne
        | cons c r => exact numF_sign hpm
      rw [refD_none hnum] at hk
      cbv
      refine And.intro (fun e => absurd e hne) (fun _ => ?_)
      cbv
      refine And.intro hS ?_
      refine And.intro (fun e => absurd e (by omega)) (fun _ => ?_)
      cbv
      refine And.intro hS (And.intro hp ?_)
      refine And.intro (fun e => ?_) (fun e => ?_)
      all_goals cbv
      · exact ⟨_, rfl, hk _⟩
      refine And.intro hS (And.intro hp ?_)
      refine And.intro (fun _ => ?_) (fun e => absurd e (by omega))
      cbv
      exact ⟨_, rfl, hk _⟩
    cbv
    refine And.intro (fun e => absurd e hne) (fun _ => ?_)
    cbv
    refine And.intro hS ?_
    refine And.intro (fun e => absurd e (by omega)) (fun _ => ?_)
    cbv
    refine And.intro hS (And.intro hp ?_)
    refine And.intro (fun e => absurd e (by omega)) (fun _ => ?_)
    cbv
    refine And.intro hS (And.intro hp ?_)
    refine And.intro (fun e => absurd e (by omega)) (fun _ => ?_)
    cbv
    refine .inl (n1 true s (by omega) (by omega) _ _ (fun n hn h' => ?_) (fun hn a h' => ?_))
    · have hlt := numF_small hn (by omega)
      rw [refD_some (by omega) (by omega) hn] at hk
      have n2 := fun h K hk => n2 (.ofNat n) h K hk
      generalize sign (.ofNat n) = b at hk n2
      cbv
      refine raw_eq rfl rfl rfl (fun _ _ _ _ q => by cases q) (fun _ _ q => by cases q) rfl g2 rfl ?_
      cbv
      refine raw_conv rfl u6 i3 (wrap_i32 (by omega)) ?_
      cbv
      refine .inl (n2 _ _ ?_)
      cases b
      all_goals cbv
      · exact ⟨_, rfl, hk _⟩
      refine raw_conv rfl u6 i3 (wrap_i32 (by omega)) ?_
      cbv
      refine raw_convS rfl i3 uS ?_
      cbv
      exact ⟨_, rfl, eqv (hk _) (encV n)⟩
    · rw [refD_none hn] at hk
      cbv
      refine ⟨_, eN a, ?_⟩
      cbv
      exact ⟨_, rfl, hk _⟩
  · have hk : ∀ h', K (optV (refD false (c :: s0))) h' := by
      have e : refV (c :: s0) = refD false (c :: s0) := by simp only [refV, if_neg hc]
      rw [e] at hk
      exact hk
    have n0 : ∀ (h : H) (K : Value → H → Prop), K (.tuple #[.string ⟨⟨c :: s0⟩⟩, .bool false]) h → CallP E 45 [.string ⟨⟨c :: s0⟩⟩, .string ⟨⟨[120]⟩⟩] h K := by
      intro h K hk
      refine n0 h K ?_
      unfold preV
      simp only [hc, decide_false]
      exact hk
    cbv
    refine .inl (n0 _ _ ?_)
    clear n0
    generalize c :: s0 = s at hk ⊢
    by_cases h0 : s.length < 1
    · rw [refD_long (.inl h0)] at hk
      obtain rfl : s = [] := List.length_eq_zero_iff.1 (by omega)
      cbv
      refine And.intro (fun _ => ?_) (fun e => absurd rfl e)
      cbv
      exact ⟨_, rfl, hk _⟩
    have hne : ¬ s = [] := by rintro rfl; exact h0 (by simp)
    by_cases h7 : 7 < s.length
    · rw [refD_long (.inr h7)] at hk
      cbv
      refine And.intro (fun e => absurd e hne) (fun _ => ?_)
      cbv
      refine And.intro hS ?_
      refine And.intro (fun _ => ?_) (fun e => absurd e (by omega))
      cbv
      exact ⟨_, rfl, hk _⟩
    have hp : 0 < s.length := by omega
    by_cases hpm : (s.getD 0 0).toNat = 43 ∨ (s.getD 0 0).toNat = 45
    · have hnum : numF false 0 s = none := by
        cases s with
        | nil => exact absurd rfl hne
        | cons c r => exact numF_sign hpm
      rw [refD_none hnum] at hk
      cbv
      refine And.intro (fun e => absurd e hne) (fun _ => ?_)
      cbv
      refine And.intro hS ?_
      refine And.intro (fun e => absurd e (by omega)) (fun _ => ?_)
      cbv
      refine And.intro hS (And.intro hp ?_)
      refine And.intro (fun e => ?_) (fun e => ?_)
      all_goals cbv
      · exact ⟨_, rfl, hk _⟩
      refine And.intro hS (And.intro hp ?_)
      refine And.intro (fun _ => ?_) (fun e => absurd e (by omega))
      cbv
      exact ⟨_, rfl, hk _⟩
    cbv
    refine And.intro (fun e => absurd e hne) (fun _ => ?_)
    cbv
    refine And.intro hS ?_
    refine And.intro (fun e => absurd e (by omega)) (fun _ => ?_)
    cbv
    refine And.intro hS (And.intro hp ?_)
    refine And.intro (fun e => absurd e (by omega)) (fun _ => ?_)
    cbv
    refine And.intro hS (And.intro hp ?_)
    refine And.intro (fun e => absurd e (by omega)) (fun _ => ?_)
    cbv
    refine .inl (n1 false s (by omega) (by omega) _ _ (fun n hn h' => ?_) (fun hn a h' => ?_))
    · have hlt := numF_small hn (by omega)
      rw [refD_some (by omega) (by omega) hn] at hk
      have n2 := fun h K hk => n2 (.ofNat n) h K hk
      generalize sign (.ofNat n) = b at hk n2
      cbv
      refine raw_eq rfl rfl rfl (fun _ _ _ _ q => by cases q) (fun _ _ q => by cases q) rfl g2 rfl ?_
      cbv
      refine raw_conv rfl u6 i3 (wrap_i32 (by omega)) ?_
      cbv
      refine .inl (n2 _ _ ?_)
      cases b
      all_goals cbv
      · exact ⟨_, rfl, hk _⟩
      refine raw_conv rfl u6 i3 (wrap_i32 (by omega)) ?_
      cbv
      refine raw_convS rfl i3 uS ?_
      cbv
      exact ⟨_, rfl, eqv (hk _) (encV n)⟩
    · rw [refD_none hn] at hk
      cbv
      refine ⟨_, eN a, ?_⟩
      cbv
      exact ⟨_, rfl, hk _⟩
end
end Go.Proofs.YtknhcgdhfndooaaDoor.GEv
