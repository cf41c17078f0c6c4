/- Numbers in texts, by symbolic runs: 'CutPrefix', 'strconv.ParseUint' at ten and sixteen. -/
import Derived.Test.YtknhcgdhfndooaaDoorGNmN
namespace Go.Proofs.YtknhcgdhfndooaaDoor.GEv
open Go
set_option linter.unusedSimpArgs false
set_option linter.unusedVariables false
/-- 'CutPrefix' by one byte. -/
def preV (c : UInt8) : List UInt8 → Value
  | [] => .tuple #[.string ⟨⟨[]⟩⟩, .bool false]
  | a :: t => match decide (a = c) with
    | true => .tuple #[.string ⟨⟨t⟩⟩, .bool true]
    | false => .tuple #[.string ⟨⟨a :: t⟩⟩, .bool false]
theorem intU : EM.P.underlying 3 = some (.int .i64) := by kernel_rfl
theorem uintU : EM.P.underlying 58 = some (.int .u64) := by kernel_rfl
theorem u64U : EM.P.underlying 63 = some (.int .u64) := by kernel_rfl
theorem u8U : EM.P.underlying 5 = some (.int .u8) := by kernel_rfl
theorem i32U : EM.P.underlying 21 = some (.int .i32) := by kernel_rfl
theorem errU : ∃ u, EM.P.underlying 83 = some u ∧ ∀ ms, u ≠ .interface ms := ⟨.int .i64, by kernel_rfl, fun ms h => by cases h⟩
theorem nerU : ∃ u, EM.P.underlying 85 = some u ∧ ∀ ms, u ≠ .interface ms := ⟨.pointer 90, by kernel_rfl, fun ms h => by cases h⟩
theorem wrap_u64 {n : Nat} (h : n < 18446744073709551616) : IntKind.u64.wrap (.ofNat n) = .ofNat n := by
  have e : (Int.ofNat n) % 18446744073709551616 = Int.ofNat n := Int.emod_eq_of_lt (Int.natCast_nonneg n) (Int.ofNat_lt.2 h)
  show (Int.ofNat n) % 18446744073709551616 = _
  exact e
theorem wrap_u8 {n : Nat} (h : n < 256) : IntKind.u8.wrap (.ofNat n) = .ofNat n := by
  have e : (Int.ofNat n) % 256 = Int.ofNat n := Int.emod_eq_of_lt (Int.natCast_nonneg n) (Int.ofNat_lt.2 h)
  show (Int.ofNat n) % 256 = _
  exact e
theorem wrap_i64 {n : Nat} (h : n < 9223372036854775808) : IntKind.i64.wrap (.ofNat n) = .ofNat n := by
  have e : (Int.ofNat n) % 18446744073709551616 = Int.ofNat n := Int.emod_eq_of_lt (Int.natCast_nonneg n) (Int.ofNat_lt.2 (show n < 18446744073709551616 by omega))
  unfold IntKind.wrap
  show (if (true && decide ((Int.ofNat n) % 18446744073709551616 ≥ 9223372036854775808)) = true then _ else (Int.ofNat n) % 18446744073709551616) = _
  rw [e, if_neg (by simp; omega)]
theorem wrap_i32 {n : Nat} (h : n < 2147483648) : IntKind.i32.wrap (.ofNat n) = .ofNat n := by
  have e : (Int.ofNat n) % 4294967296 = Int.ofNat n := Int.emod_eq_of_lt (Int.natCast_nonneg n) (Int.ofNat_lt.2 (show n < 4294967296 by omega))
  unfold IntKind.wrap
  show (if (true && decide ((Int.ofNat n) % 4294967296 ≥ 2147483648)) = true then _ else (Int.ofNat n) % 4294967296) = _
  rw [e, if_neg (by simp; omega)]
theorem wrap_u8s {m n : Nat} (h : m < 256) (hn : n ≤ m) : IntKind.u8.wrap (.ofNat m - .ofNat n) = .ofNat (m - n) := by
  show IntKind.u8.wrap ((m : Int) - (n : Int)) = _
  rw [← Int.ofNat_sub hn]
  exact wrap_u8 (by omega)
/-- A digit's number; -1. -/
def digI (hex : Bool) (c : Nat) : Int := match digitV hex c with
  | some d => .ofNat d
  | none => .negSucc 0
theorem eqv {K : Value → H → Prop} {h : H} {a b : Value} (hk : K a h) (e : b = a) : K b h := e ▸ hk
/-- 'lower' of a byte. -/
def lowN (c : Nat) : Nat := c ||| 32
theorem lowW : ∀ c : Fin 256, IntKind.u8.wrap ((BitVec.ofInt 8 (.ofNat c.val) ||| BitVec.ofInt 8 32).toNat : Int) = .ofNat (lowN c.val) := by decide +kernel
set_option maxRecDepth 100000
attribute [local cbv_opaque] isString isSlice isBoolT fOff iSize eqNil zero H.load H.store H.push H.dip H.put List.length List.getD Nat.add Nat.sub List.take List.drop lowN
attribute [local cbv_eval] List.length_cons List.length_nil
section
variable {E : Env} (hE : E = EM)
include hE
theorem hasPre (c : UInt8) (l : List UInt8) (h : H) (K : Value → H → Prop) (hk : K (.bool (match l with | [] => false | a :: _ => decide (a = c))) h) : CallP E 67 [.string ⟨⟨l⟩⟩, .string ⟨⟨[c]⟩⟩] h K := by
  refine CallP.ofE hE rfl Tryd.func67 rfl (Nat.le_of_ble_eq_true rfl) ?_
  have hS : isString E.1 9 = true := by rw [hE]; exact stringT
  clear hE
  cases l with
  | nil =>
    cbv
    refine And.intro hS (And.intro hS (And.intro (fun h => absurd h (by decide)) (fun _ => ?_)))
    cbv
    exact ⟨_, rfl, hk⟩
  | cons a t =>
    have h1 : 1 ≤ Nat.add t.length 1 := Nat.le_add_left _ _
    have hk : K (.bool (decide (a = c))) h := hk
    cbv
    refine And.intro hS (And.intro hS (And.intro (fun _ => ?_) (fun h => absurd h (by show ¬ (t.length + 1 < 1); omega))))
    cbv
    refine And.intro hS (And.intro hS (And.intro h1 (And.intro (fun h2 => ?_) (fun h2 => ?_))))
    all_goals cbv
    · refine ⟨_, rfl, eqb hk ?_⟩
      have h2 : [a] = [c] := h2
      simp only [List.cons.injEq, and_true] at h2
      simp [h2]
    · refine ⟨_, rfl, eqb hk ?_⟩
      have h2 : ¬ [a] = [c] := h2
      simp only [List.cons.injEq, and_true] at h2
      simp [h2]
theorem cutPre (c : UInt8) (l : List UInt8) (h : H) (K : Value → H → Prop) (hk : K (preV c l) h) : CallP E 45 [.string ⟨⟨l⟩⟩, .string ⟨⟨[c]⟩⟩] h K := by
  refine CallP.ofE hE rfl Tryd.func45 rfl (Nat.le_of_ble_eq_true rfl) ?_
  have n0 : ∀ (h : H) (K : Value → H → Prop), K (preV c l) h → CallP E 55 [.string ⟨⟨l⟩⟩, .string ⟨⟨[c]⟩⟩] h K := by
    intro h K hk
    refine CallP.ofE hE rfl Tryd.func55 rfl (Nat.le_of_ble_eq_true rfl) ?_
    have n1 := fun h K hk => hasPre hE c l h K hk
    have hS : isString E.1 9 = true := by rw [hE]; exact stringT
    clear hE
    cases l with
    | nil =>
      cbv
      refine .inl (n1 _ _ ?_)
      cbv
      exact ⟨_, rfl, hk⟩
    | cons a t =>
      simp only at n1
      have hk : K (match decide (a = c) with | true => .tuple #[.string ⟨⟨t⟩⟩, .bool true] | false => .tuple #[.string ⟨⟨a :: t⟩⟩, .bool false]) h := hk
      have h1 : Nat.le 1 (Nat.add t.length 1) := Nat.le_add_left _ _
      have l1 : List.take (Nat.sub (Nat.add t.length 1) 1) (List.drop 1 (a :: t)) = t := by
        show List.take (t.length + 1 - 1) t = t
        simp
      generalize decide (a = c) = b at n1 hk
      cases b
      · cbv
        refine .inl (n1 _ _ ?_)
        cbv
        exact ⟨_, rfl, hk⟩
      · cbv
        refine .inl (n1 _ _ ?_)
        cbv
        rw [l1]
        exact ⟨hS, hS, h1, Nat.le_refl _, _, rfl, hk⟩
  clear hE
  cases l with
  | nil =>
    cbv
    refine .inl (n0 _ _ ?_)
    cbv
    exact ⟨_, rfl, hk⟩
  | cons a t =>
    have hk : K (match decide (a = c) with | true => .tuple #[.string ⟨⟨t⟩⟩, .bool true] | false => .tuple #[.string ⟨⟨a :: t⟩⟩, .bool false]) h := hk
    have n0 : ∀ (h : H) (K : Value → H → Prop), K (match decide (a = c) with | true => .tuple #[.string ⟨⟨t⟩⟩, .bool true] | false => .tuple #[.string ⟨⟨a :: t⟩⟩, .bool false]) h → CallP E 55 [.string ⟨⟨a :: t⟩⟩, .string ⟨⟨[c]⟩⟩] h K := n0
    generalize decide (a = c) = b at n0 hk
    cases b
    all_goals cbv
    all_goals refine .inl (n0 _ _ ?_)
    all_goals cbv
    all_goals exact ⟨_, rfl, hk⟩
theorem lowC (c : Nat) (hc : c < 256) (h : H) (K : Value → H → Prop) (hk : K (.int .u8 (.ofNat (lowN c))) h) : CallP E 73 [.int .u8 (.ofNat c)] h K := by
  refine CallP.ofE hE rfl Tryd.func73 rfl (Nat.le_of_ble_eq_true rfl) ?_
  clear hE
  have hw := lowW ⟨c, hc⟩
  cbv
  refine raw_or rfl rfl hw ?_
  cbv
  exact ⟨_, rfl, hk⟩
theorem rDigit (hex : Bool) (c : Nat) (hc : c < 256) (h : H) (K : Value → H → Prop) (hk : K (.int .i64 (digI hex c)) h) : CallP E 57 [.int .u8 (.ofNat c), .bool hex] h K := by
  refine CallP.ofE hE rfl Tryd.func57 rfl (Nat.le_of_ble_eq_true rfl) ?_
  have u8 : E.P.underlying 5 = some (.int .u8) := by rw [hE]; exact u8U
  have ui : E.P.underlying 3 = some (.int .i64) := by rw [hE]; exact intU
  clear hE
  have d1 : 48 ≤ c → c ≤ 57 → digI hex c = .ofNat (c - 48) := by intro a b; simp [digI, digitV, a, b]
  have d0 : (c < 48 ∨ 57 < c) → (c < 97 ∨ 102 < c ∨ hex = false) → (c < 65 ∨ 70 < c ∨ hex = false) → digI hex c = .negSucc 0 := by
    intro a b d
    unfold digI digitV
    rw [if_neg (by omega), if_neg (by
      rintro ⟨e, x, y⟩
      rcases b with b | b | b
      · omega
      · omega
      · rw [b] at e; cases e), if_neg (by
      rintro ⟨e, x, y⟩
      rcases d with b | b | b
      · omega
      · omega
      · rw [b] at e; cases e)]
  have d2 : hex = true → 97 ≤ c → c ≤ 102 → digI hex c = .ofNat (c - 97 + 10) := by
    intro e a b
    unfold digI digitV
    rw [if_neg (by omega), if_pos ⟨e, a, b⟩]
  have d3 : hex = true → 65 ≤ c → c ≤ 70 → digI hex c = .ofNat (c - 65 + 10) := by
    intro e a b
    unfold digI digitV
    rw [if_neg (by omega), if_neg (by omega), if_pos ⟨e, a, b⟩]
  have hs : ∀ n, Nat.sub c n < 9223372036854775808 := fun n => Nat.lt_of_le_of_lt (Nat.sub_le c n) (by omega)
  have ha : ∀ n, Nat.le (Nat.add (Nat.sub c n) 10) 4611686018427387904 := fun n => by
    have := Nat.sub_le c n
    show c - n + 10 ≤ _
    omega
  generalize digI hex c = r at hk d0 d1 d2 d3
  cases hex
  all_goals cbv
  all_goals repeat' (refine And.intro (fun h1 => ?_) (fun h1 => ?_) <;> cbv)
  all_goals try (refine raw_sub rfl rfl rfl (wrap_u8s hc (by assumption)) ?_ <;> cbv)
  all_goals try (refine raw_conv rfl u8 ui (wrap_i64 (hs _)) ?_ <;> cbv)
  all_goals try (refine And.intro (ha _) ?_)
  all_goals refine ⟨_, rfl, ?_⟩
  all_goals first
    | (rw [d1 (by assumption) (by assumption)] at hk; exact hk)
    | (rw [d2 rfl (by assumption) (by assumption)] at hk; exact hk)
    | (rw [d3 rfl (by assumption) (by assumption)] at hk; exact hk)
    | (rw [d0 (by first | omega | simp) (by first | omega | simp) (by first | omega | simp)] at hk; exact hk)
    | skip
end
end Go.Proofs.YtknhcgdhfndooaaDoor.GEv
