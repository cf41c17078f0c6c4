/- 'NameNumbers', by a symbolic run: a sign by its number is it. -/
import Derived.Test.YtknhcgdhfndooaaDoorGNmK
namespace Go.Proofs.YtknhcgdhfndooaaDoor.GEv
open Go
open Go.RowKit (Below)
set_option linter.unusedSimpArgs false
set_option linter.unusedVariables false
/-- The signs of digits. -/
def digT : List UInt8 := [48, 49, 50, 51, 52, 53, 54, 55, 56, 57, 97, 66, 99, 68, 101, 70]
def digC (d : Nat) : UInt8 := digT.getD d 0
/-- A number in digits. -/
def digL (b : Nat) : Nat → Nat → List UInt8
  | 0, n => [digC n]
  | f + 1, n => if n < b then [digC n] else digL b f (n / b) ++ [digC (n % b)]
theorem digC_val : ∀ d : Fin 16, digitV true (digC d.val).toNat = some d.val ∧ (d.val < 10 → digitV false (digC d.val).toNat = some d.val) := by decide +kernel
theorem digC_hex {hex : Bool} {d : Nat} (h : d < baseV hex) : digitV hex (digC d).toNat = some d := by
  cases hex
  · have h : d < 10 := h
    exact (digC_val ⟨d, by omega⟩).2 h
  · exact (digC_val ⟨d, h⟩).1
theorem digT_ok : ∀ c ∈ digT, c.toNat < 128 ∧ sign (.ofNat c.toNat) = true ∧ c ≠ 59 ∧ c ≠ 120 := by decide +kernel
theorem digC_mem {d : Nat} (h : d < 16) : digC d ∈ digT := by
  unfold digC
  rw [List.getD_eq_getElem?_getD, List.getElem?_eq_getElem (show d < digT.length from h)]
  exact List.getElem_mem _
theorem baseV_le (hex : Bool) : 2 ≤ baseV hex ∧ baseV hex ≤ 16 := by cases hex <;> decide
theorem digL_mem {hex : Bool} : ∀ (f n : Nat), n ≤ f → ∀ c ∈ digL (baseV hex) f n, c ∈ digT
  | 0, n, h, c, hc => by
    have : n = 0 := by omega
    subst this
    simp only [digL, List.mem_singleton] at hc
    rw [hc]
    exact digC_mem (by decide)
  | f + 1, n, h, c, hc => by
    have hb := baseV_le hex
    simp only [digL] at hc
    split at hc
    · rw [List.mem_singleton.1 hc]
      exact digC_mem (by omega)
    · rename_i hn
      rcases List.mem_append.1 hc with hc | hc
      · have h1 : n / baseV hex < n := Nat.div_lt_self (by omega) (by omega)
        exact digL_mem f _ (by omega) c hc
      · rw [List.mem_singleton.1 hc]
        have := Nat.mod_lt n (show 0 < baseV hex by omega)
        exact digC_mem (by omega)
theorem numF_append {hex : Bool} : ∀ (l : List UInt8) (m n : Nat) (c : UInt8) (d : Nat), numF hex m l = some n → digitV hex c.toNat = some d → numF hex m (l ++ [c]) = some (n * baseV hex + d)
  | [], m, n, c, d, h, hd => by
    simp only [numF, Option.some.injEq] at h
    subst h
    simp only [List.nil_append, numF, hd]
  | x :: l, m, n, c, d, h, hd => by
    simp only [numF] at h
    split at h
    · rename_i e he
      simp only [List.cons_append, numF, he]
      exact numF_append l _ n c d h hd
    · cases h
theorem digL_num {hex : Bool} : ∀ (f n : Nat), n ≤ f → numF hex 0 (digL (baseV hex) f n) = some n
  | 0, n, h => by
    have : n = 0 := by omega
    subst this
    have hb := baseV_le hex
    simp only [digL, numF, digC_hex (hex := hex) (d := 0) (by omega), Nat.zero_mul, Nat.zero_add]
  | f + 1, n, h => by
    have hb := baseV_le hex
    simp only [digL]
    split
    · rename_i hn
      simp only [numF, digC_hex hn, Nat.zero_mul, Nat.zero_add]
    · rename_i hn
      have h1 : n / baseV hex < n := Nat.div_lt_self (by omega) (by omega)
      rw [numF_append _ 0 (n / baseV hex) _ (n % baseV hex) (digL_num f _ (by omega)) (digC_hex (Nat.mod_lt _ (by omega)))]
      rw [Nat.div_add_mod' n (baseV hex)]
theorem digL_len {b : Nat} : ∀ (f n : Nat), 1 ≤ (digL b f n).length
  | 0, n => Nat.le_refl _
  | f + 1, n => by
    simp only [digL]
    split
    · exact Nat.le_refl _
    · simp
theorem digL_small {hex : Bool} : ∀ (k f n : Nat), n < 2 ^ k → (digL (baseV hex) f n).length ≤ k + 1
  | k, 0, n, h => by simp [digL]
  | 0, f + 1, n, h => by
    have hb := baseV_le hex
    simp only [digL]
    rw [if_pos (by simp at h; omega)]
    simp
  | k + 1, f + 1, n, h => by
    have hb := baseV_le hex
    simp only [digL]
    split
    · simp
    · have h1 : n / baseV hex ≤ n / 2 := Nat.div_le_div_left (by omega) (by decide)
      have h2 : n / 2 < 2 ^ k := by rw [Nat.pow_succ] at h; omega
      have := digL_small (hex := hex) k f (n / baseV hex) (by omega)
      simp
      omega
theorem numF_noughts {hex : Bool} (l : List UInt8) : ∀ k, numF hex 0 (List.replicate k 48 ++ l) = numF hex 0 l
  | 0 => rfl
  | k + 1 => by
    have h0 : digitV hex (48 : UInt8).toNat = some 0 := by cases hex <;> decide
    simp only [List.replicate_succ, List.cons_append, numF, h0, Nat.zero_mul, Nat.zero_add]
    exact numF_noughts l k
theorem noughts_mem {hex : Bool} {n k : Nat} : ∀ c ∈ List.replicate k 48 ++ digL (baseV hex) n n, c ∈ digT := by
  intro c hc
  rcases List.mem_append.1 hc with hc | hc
  · rw [(List.mem_replicate.1 hc).2]; decide
  · exact digL_mem n n (Nat.le_refl _) c hc
theorem unesc_ref {w : List UInt8} (hw : (59 : UInt8) ∉ w) (hs : ∀ c ∈ w, c.toNat < 128 ∧ sign (.ofNat c.toNat) = true) : unescape (38 :: 35 :: (w ++ [59])) = refV w := by
  have h1 : signs (38 :: 35 :: (w ++ [59])) = true := by
    refine signs_ascii fun c hc => ?_
    simp only [List.mem_cons, List.mem_append, List.not_mem_nil, or_false] at hc
    rcases hc with rfl | rfl | hc | rfl
    · decide
    · decide
    · exact hs c hc
    · decide
  unfold unescape
  rw [h1]
  show unesc (38 :: ((35 :: w) ++ 59 :: [])) = _
  have h59 : (59 : UInt8) ∉ 35 :: w := by
    intro h
    cases h with
    | tail _ h => exact hw h
  have he : entity (35 :: w) = refV w := by
    rw [entity_rest (by simp) (by simp) (by simp) (by simp) (by simp)]
    rfl
  rw [unesc_amp _ _ h59, he, unesc_nil]
  cases refV w <;> simp
theorem ref_dec {w : List UInt8} (hw : ∀ c ∈ w, c ≠ 120) (h0 : 1 ≤ w.length) : refV w = refD false w := by
  cases w with
  | nil => simp at h0
  | cons c t => simp only [refV, if_neg (hw c (List.mem_cons_self ..))]
theorem append_nilE {α : Type} (l : List α) : List.append [] l = l := rfl
theorem append_consE {α : Type} (a : α) (l m : List α) : List.append (a :: l) m = a :: List.append l m := rfl
section raws
variable {E : Env} {l : L} {h : H} {dst : Option Nat} {ty pos after guard} {K : Value → H → Prop}
theorem raw_quo {t : TypeId} {yt} {x y : Operand} {k : IntKind} {a b r : Int} (hx : evL l x = some (.int k a)) (hy : evL l y = some (.int k b)) (hb : b ≠ 0) (hw : k.wrap (a.tdiv b) = r) (hk : K (.int k r) h) :
    RawP E l h ⟨dst, .binOp .quo t x y yt, ty, pos, after, guard⟩ K :=
  raw_bin hx hy rfl (by cases k <;> rfl) rfl (v := .int k r) (by subst hw; simp [binOp, Op.intDiv, if_neg hb, pureRun, bind, pure, Sem.bind]) rfl hk
theorem raw_rem {t : TypeId} {yt} {x y : Operand} {k : IntKind} {a b r : Int} (hx : evL l x = some (.int k a)) (hy : evL l y = some (.int k b)) (hb : b ≠ 0) (hw : a.tmod b = r) (hk : K (.int k r) h) :
    RawP E l h ⟨dst, .binOp .rem t x y yt, ty, pos, after, guard⟩ K :=
  raw_bin hx hy rfl (by cases k <;> rfl) rfl (v := .int k r) (by subst hw; simp [binOp, Op.intDiv, if_neg hb, pureRun, bind, pure, Sem.bind]) rfl hk
end raws
theorem dip_top2 (h : H) : (⟨h.m, h.next, top h.next⟩ : H).dip = ⟨h.m, h.next, top h.next⟩ := by simp [H.dip]
set_option maxRecDepth 100000
attribute [local cbv_opaque] isString isSlice isBoolT fOff iSize eqNil zero H.load H.store H.push H.dip H.put List.length List.getD Nat.add Nat.sub List.take List.drop UInt8.toNat isName escape top List.append Utf8.encode encodeB sign digL
attribute [local cbv_eval] List.length_cons List.length_nil append_nilE append_consE
section
variable {E : Env} (hE : E = EM3)
include hE
theorem digitsLt10 (n : Nat) (hlt : n < 10) (h : H) (K : Value → H → Prop) (hk : K (.string ⟨⟨[digC n]⟩⟩) h) : CallP E 18 [.int .i64 (.ofNat n), .int .i64 (.ofNat 10)] h K := by
  refine CallP.ofE hE rfl Tryd.func18 rfl (Nat.le_of_ble_eq_true rfl) ?_
  have hS : isString E.1 9 = true := by rw [hE]; exact stringT
  clear hE
  have ht : List.take (Nat.sub (Nat.add n 1) n) (List.drop n digT) = [digC n] := take_one (l := digT) (show n < 16 by omega)
  have hb : Nat.le (Nat.add n 1) 4611686018427387904 := by show n + 1 ≤ _; omega
  have h1 : Nat.le n (Nat.add n 1) := Nat.le_succ n
  have h2 : Nat.le (Nat.add n 1) 16 := by show n + 1 ≤ 16; omega
  unfold digT at ht
  cbv
  refine And.intro (fun _ => ?_) (fun e => absurd hlt (Nat.not_lt.2 e))
  cbv
  refine And.intro hb (And.intro hS (And.intro h1 (And.intro h2 ?_)))
  rw [ht]
  exact ⟨_, rfl, hk⟩
theorem digitsGe10 (n q r : Nat) (dl : List UInt8) (hlt : ¬ n < 10) (hq : IntKind.i64.wrap ((Int.ofNat n).tdiv (Int.ofNat 10)) = .ofNat q) (hr : (Int.ofNat n).tmod (Int.ofNat 10) = .ofNat r) (hm : r < 10) (hln : dl.length ≤ 31)
    (n1 : ∀ (h : H) (K : Value → H → Prop), (∀ h', h' = h ∨ h' = h.dip → K (.string ⟨⟨dl⟩⟩) h') → CallP E 18 [.int .i64 (.ofNat q), .int .i64 (.ofNat 10)] h K)
    (h : H) (K : Value → H → Prop) (hk : K (.string ⟨⟨dl ++ [digC r]⟩⟩) h.dip) : CallP E 18 [.int .i64 (.ofNat n), .int .i64 (.ofNat 10)] h K := by
  refine CallP.ofE hE rfl Tryd.func18 rfl (Nat.le_of_ble_eq_true rfl) ?_
  have hS : isString E.1 9 = true := by rw [hE]; exact stringT
  clear hE
  have ht : List.take (Nat.sub (Nat.add r 1) r) (List.drop r digT) = [digC r] := take_one (l := digT) (show r < 16 by omega)
  unfold digT at ht
  have hb : Nat.le (Nat.add r 1) 4611686018427387904 := by show r + 1 ≤ _; omega
  have h1 : Nat.le r (Nat.add r 1) := Nat.le_succ r
  have h2 : Nat.le (Nat.add r 1) 16 := by show r + 1 ≤ 16; omega
  have h3 : Nat.le (Nat.add dl.length (Nat.add 0 1)) 4611686018427387904 := by show dl.length + 1 ≤ _; omega
  cbv
  refine And.intro (fun e => absurd e hlt) (fun _ => ?_)
  cbv
  refine raw_quo rfl rfl (by decide) hq ?_
  cbv
  refine .inl (n1 _ _ fun h' hh => ?_)
  have hh : h' = ⟨h.m, h.next, top h.next⟩ := by
    rcases hh with rfl | rfl
    · rfl
    · exact dip_top2 h
  subst hh
  refine ⟨rfl, ?_⟩
  cbv
  refine raw_rem rfl rfl (by decide) hr ?_
  cbv
  refine raw_rem rfl rfl (by decide) hr ?_
  cbv
  refine And.intro hb (And.intro hS (And.intro h1 (And.intro h2 ?_)))
  rw [ht]
  refine And.intro h3 ?_
  exact ⟨_, rfl, hk⟩
theorem digits10 : ∀ (f n : Nat), n ≤ f → n ≤ 1000000000 → ∀ (h : H) (K : Value → H → Prop), (∀ h', h' = h ∨ h' = h.dip → K (.string ⟨⟨digL 10 f n⟩⟩) h') → CallP E 18 [.int .i64 (.ofNat n), .int .i64 (.ofNat 10)] h K := by
  intro f
  induction f with
  | zero =>
    intro n hf hn h K hk
    have e : digL 10 0 n = [digC n] := by rw [digL]
    rw [e] at hk
    exact digitsLt10 hE n (by omega) h K (hk _ (.inl rfl))
  | succ f ih =>
    intro n hf hn h K hk
    by_cases hlt : n < 10
    · have e : digL 10 (f + 1) n = [digC n] := by simp only [digL, if_pos hlt]
      rw [e] at hk
      exact digitsLt10 hE n hlt h K (hk _ (.inl rfl))
    · have e : digL 10 (f + 1) n = digL 10 f (n / 10) ++ [digC (n % 10)] := by simp only [digL, if_neg hlt]
      rw [e] at hk
      have hln : (digL 10 f (n / 10)).length ≤ 31 := digL_small (hex := false) 30 f (n / 10) (by omega)
      exact digitsGe10 hE n (n / 10) (n % 10) (digL 10 f (n / 10)) hlt (wrap_i64 (n := n / 10) (by omega)) rfl (Nat.mod_lt _ (by decide)) hln (fun h K hk => ih (n / 10) (by omega) (by omega) h K hk) h K (hk _ (.inr rfl))
theorem digitsLt16 (n : Nat) (hlt : n < 16) (h : H) (K : Value → H → Prop) (hk : K (.string ⟨⟨[digC n]⟩⟩) h) : CallP E 18 [.int .i64 (.ofNat n), .int .i64 (.ofNat 16)] h K := by
  refine CallP.ofE hE rfl Tryd.func18 rfl (Nat.le_of_ble_eq_true rfl) ?_
  have hS : isString E.1 9 = true := by rw [hE]; exact stringT
  clear hE
  have ht : List.take (Nat.sub (Nat.add n 1) n) (List.drop n digT) = [digC n] := take_one (l := digT) (show n < 16 by omega)
  have hb : Nat.le (Nat.add n 1) 4611686018427387904 := by show n + 1 ≤ _; omega
  have h1 : Nat.le n (Nat.add n 1) := Nat.le_succ n
  have h2 : Nat.le (Nat.add n 1) 16 := by show n + 1 ≤ 16; omega
  unfold digT at ht
  cbv
  refine And.intro (fun _ => ?_) (fun e => absurd hlt (Nat.not_lt.2 e))
  cbv
  refine And.intro hb (And.intro hS (And.intro h1 (And.intro h2 ?_)))
  rw [ht]
  exact ⟨_, rfl, hk⟩
theorem digitsGe16 (n q r : Nat) (dl : List UInt8) (hlt : ¬ n < 16) (hq : IntKind.i64.wrap ((Int.ofNat n).tdiv (Int.ofNat 16)) = .ofNat q) (hr : (Int.ofNat n).tmod (Int.ofNat 16) = .ofNat r) (hm : r < 16) (hln : dl.length ≤ 31)
    (n1 : ∀ (h : H) (K : Value → H → Prop), (∀ h', h' = h ∨ h' = h.dip → K (.string ⟨⟨dl⟩⟩) h') → CallP E 18 [.int .i64 (.ofNat q), .int .i64 (.ofNat 16)] h K)
    (h : H) (K : Value → H → Prop) (hk : K (.string ⟨⟨dl ++ [digC r]⟩⟩) h.dip) : CallP E 18 [.int .i64 (.ofNat n), .int .i64 (.ofNat 16)] h K := by
  refine CallP.ofE hE rfl Tryd.func18 rfl (Nat.le_of_ble_eq_true rfl) ?_
  have hS : isString E.1 9 = true := by rw [hE]; exact stringT
  clear hE
  have ht : List.take (Nat.sub (Nat.add r 1) r) (List.drop r digT) = [digC r] := take_one (l := digT) (show r < 16 by omega)
  unfold digT at ht
  have hb : Nat.le (Nat.add r 1) 4611686018427387904 := by show r + 1 ≤ _; omega
  have h1 : Nat.le r (Nat.add r 1) := Nat.le_succ r
  have h2 : Nat.le (Nat.add r 1) 16 := by show r + 1 ≤ 16; omega
  have h3 : Nat.le (Nat.add dl.length (Nat.add 0 1)) 4611686018427387904 := by show dl.length + 1 ≤ _; omega
  cbv
  refine And.intro (fun e => absurd e hlt) (fun _ => ?_)
  cbv
  refine raw_quo rfl rfl (by decide) hq ?_
  cbv
  refine .inl (n1 _ _ fun h' hh => ?_)
  have hh : h' = ⟨h.m, h.next, top h.next⟩ := by
    rcases hh with rfl | rfl
    · rfl
    · exact dip_top2 h
  subst hh
  refine ⟨rfl, ?_⟩
  cbv
  refine raw_rem rfl rfl (by decide) hr ?_
  cbv
  refine raw_rem rfl rfl (by decide) hr ?_
  cbv
  refine And.intro hb (And.intro hS (And.intro h1 (And.intro h2 ?_)))
  rw [ht]
  refine And.intro h3 ?_
  exact ⟨_, rfl, hk⟩
theorem digits16 : ∀ (f n : Nat), n ≤ f → n ≤ 1000000000 → ∀ (h : H) (K : Value → H → Prop), (∀ h', h' = h ∨ h' = h.dip → K (.string ⟨⟨digL 16 f n⟩⟩) h') → CallP E 18 [.int .i64 (.ofNat n), .int .i64 (.ofNat 16)] h K := by
  intro f
  induction f with
  | zero =>
    intro n hf hn h K hk
    have e : digL 16 0 n = [digC n] := by rw [digL]
    rw [e] at hk
    exact digitsLt16 hE n (by omega) h K (hk _ (.inl rfl))
  | succ f ih =>
    intro n hf hn h K hk
    by_cases hlt : n < 16
    · have e : digL 16 (f + 1) n = [digC n] := by simp only [digL, if_pos hlt]
      rw [e] at hk
      exact digitsLt16 hE n hlt h K (hk _ (.inl rfl))
    · have e : digL 16 (f + 1) n = digL 16 f (n / 16) ++ [digC (n % 16)] := by simp only [digL, if_neg hlt]
      rw [e] at hk
      have hln : (digL 16 f (n / 16)).length ≤ 31 := digL_small (hex := true) 30 f (n / 16) (by omega)
      exact digitsGe16 hE n (n / 16) (n % 16) (digL 16 f (n / 16)) hlt (wrap_i64 (n := n / 16) (by omega)) rfl (Nat.mod_lt _ (by decide)) hln (fun h K hk => ih (n / 16) (by omega) (by omega) h K hk) h K (hk _ (.inr rfl))
end
end Go.Proofs.YtknhcgdhfndooaaDoor.GEv
