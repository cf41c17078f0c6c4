/- Names and signs, in plain Lean: what chapter 1 says of texts (lists of bytes). -/
import Derived.Test.YtknhcgdhfndooaaDoorGNmI
import Derived.Lib.TrimUEq
import Derived.Lib.TrimAscii
import Derived.Lib.MapLaws
import Derived.Lib.FieldsU
namespace Go.Proofs.YtknhcgdhfndooaaDoor.GEv
open Go
set_option linter.unusedSimpArgs false
set_option linter.unusedVariables false
/-! ### the runes of a text, by lists -/
def runesF : Nat → List UInt8 → List Nat
  | 0, _ => []
  | n + 1, l => if l = [] then [] else (Lib.decodeL l).1 :: runesF n (l.drop (Lib.decodeL l).2)
theorem runesP_F (l : List UInt8) : ∀ b i, runesP ⟨⟨l⟩⟩ b i = runesF b (l.drop i)
  | 0, i => rfl
  | b + 1, i => by
    have hd : Lib.decodeL (l.drop i) = Utf8.decode ⟨⟨l⟩⟩ i := Lib.decodeL_drop ⟨⟨l⟩⟩ i
    have hs : (⟨⟨l⟩⟩ : ByteArray).size = l.length := rfl
    unfold runesP runesF
    by_cases hi : i < l.length
    · rw [hs, if_pos hi, if_neg (fun e => by have := congrArg List.length e; rw [List.length_drop] at this; simp only [List.length_nil] at this; omega), hd, runesP_F l b, List.drop_drop]
    · rw [hs, if_neg hi, if_pos (List.drop_eq_nil_of_le (by omega))]
theorem runesF_more : ∀ (n m : Nat) (l : List UInt8), l.length ≤ n → l.length ≤ m → runesF n l = runesF m l
  | 0, m, l, h1, h2 => by
    have : l = [] := List.length_eq_zero_iff.1 (by omega)
    subst this
    cases m <;> rfl
  | n + 1, 0, l, h1, h2 => by
    have : l = [] := List.length_eq_zero_iff.1 (by omega)
    subst this
    rfl
  | n + 1, m + 1, l, h1, h2 => by
    simp only [runesF]
    split
    · rfl
    · rename_i hne
      have hw := Lib.decodeL_width l
      have hl : 0 < l.length := List.length_pos_iff.2 hne
      rw [runesF_more n m (l.drop (Lib.decodeL l).2) (by rw [List.length_drop]; omega) (by rw [List.length_drop]; omega)]
theorem runesL_F (l : List UInt8) : runesL l = runesF l.length l := by
  unfold runesL
  rw [runesP_F, List.drop_zero]
theorem runesL_step (l : List UInt8) (hne : l ≠ []) : runesL l = (Lib.decodeL l).1 :: runesL (l.drop (Lib.decodeL l).2) := by
  have hw := Lib.decodeL_width l
  have hl : 0 < l.length := List.length_pos_iff.2 hne
  obtain ⟨n, hn⟩ : ∃ n, l.length = n + 1 := ⟨l.length - 1, by omega⟩
  rw [runesL_F, runesL_F, hn]
  show (if l = [] then [] else _) = _
  rw [if_neg hne, runesF_more n (l.drop (Lib.decodeL l).2).length _ (by rw [List.length_drop]; omega) (Nat.le_refl _)]
theorem signs_nil : signs [] = true := by rfl
/-- The bytes at the head of a text are no rune's. -/
def badL (l : List UInt8) : Prop := (Lib.decodeL l).1 = 65533 ∧ (Lib.decodeL l).2 = 1
theorem signs_bad (l : List UInt8) (hne : l ≠ []) (hb : badL l) : signs l = false := by
  unfold signs
  unfold badL at hb
  rw [Lib.validD_step l hne, if_pos hb]
  rfl
theorem signs_step (l : List UInt8) (hne : l ≠ []) (hb : ¬ badL l) : signs l = (sign (.ofNat (Lib.decodeL l).1) && signs (l.drop (Lib.decodeL l).2)) := by
  unfold signs
  unfold badL at hb
  rw [Lib.validD_step l hne, runesL_step l hne, if_neg hb, List.all_cons]
  cases Lib.validD (l.drop (Lib.decodeL l).2) <;> cases sign (.ofNat (Lib.decodeL l).1) <;> simp
theorem decodeN_same (n m b0 b1 b2 b3 c1 c2 c3 : Nat) (hv : ¬ ((Lib.decodeN n b0 b1 b2 b3).1 = 65533 ∧ (Lib.decodeN n b0 b1 b2 b3).2 = 1)) (hn : (Lib.decodeN n b0 b1 b2 b3).2 ≤ m) (h1 : 1 < (Lib.decodeN n b0 b1 b2 b3).2 → c1 = b1) (h2 : 2 < (Lib.decodeN n b0 b1 b2 b3).2 → c2 = b2) (h3 : 3 < (Lib.decodeN n b0 b1 b2 b3).2 → c3 = b3) :
    Lib.decodeN m b0 c1 c2 c3 = Lib.decodeN n b0 b1 b2 b3 := by
  rcases Lib.decodeN_shape n b0 b1 b2 b3 with ⟨q, e⟩ | ⟨q1, q2, q3, q4, e⟩ | ⟨q1, q2, q3, q4, q5, q6, e⟩ | ⟨q1, q2, q3, q4, q5, q6, q7, e⟩ | e
  · rw [e]; unfold Lib.decodeN; rw [if_pos q]
  · rw [e] at hn h1 h2 h3 ⊢
    have := h1 (show 1 < 2 by decide); subst this
    have hn : 2 ≤ m := hn
    unfold Lib.decodeN
    rw [if_neg (by omega), if_pos ⟨q1, by omega, q3⟩, if_pos q4]
  · rw [e] at hn h1 h2 h3 ⊢
    have := h1 (show 1 < 3 by decide); subst this
    have := h2 (show 2 < 3 by decide); subst this
    have hn : 3 ≤ m := hn
    unfold Lib.decodeN
    rw [if_neg (by omega), if_neg (by omega), if_pos ⟨q1, ⟨by omega, q3⟩, by omega, q4⟩, if_pos ⟨q5, by omega⟩]
  · rw [e] at hn h1 h2 h3 ⊢
    have := h1 (show 1 < 4 by decide); subst this
    have := h2 (show 2 < 4 by decide); subst this
    have := h3 (show 3 < 4 by decide); subst this
    have hn : 4 ≤ m := hn
    unfold Lib.decodeN
    rw [if_neg (by omega), if_neg (by omega), if_neg (by omega), if_pos ⟨q1, ⟨by omega, q3⟩, ⟨by omega, q4⟩, by omega, q5⟩, if_pos ⟨q6, by omega⟩]
  · exact absurd (by rw [e]; exact ⟨rfl, rfl⟩) hv
/-- What is decoded hangs on as many bytes as it takes. -/
theorem decodeL_take (l t : List UInt8) (hne : l ≠ []) (hg : ¬ badL l) : Lib.decodeL (l.take (Lib.decodeL l).2 ++ t) = Lib.decodeL l := by
  have hw := Lib.decodeL_width l
  have hle := Lib.decodeL_le l hne
  have key : ∀ k, k < (Lib.decodeL l).2 → (l.take (Lib.decodeL l).2 ++ t).getD k 0 = l.getD k 0 := by
    intro k hk
    rw [List.getD_eq_getElem?_getD, List.getD_eq_getElem?_getD, List.getElem?_append_left (by rw [List.length_take]; omega), List.getElem?_take_of_lt hk]
  have h0 := key 0 (by omega)
  have h1 := key 1
  have h2 := key 2
  have h3 := key 3
  have hlen : (Lib.decodeL l).2 ≤ (l.take (Lib.decodeL l).2 ++ t).length := by rw [List.length_append, List.length_take]; omega
  unfold badL at hg
  clear key
  generalize l.take (Lib.decodeL l).2 ++ t = x at h0 h1 h2 h3 hlen ⊢
  rw [Lib.decodeL_N x, Lib.decodeL_N l, h0]
  rw [Lib.decodeL_N l] at hg h1 h2 h3 hlen
  exact decodeN_same _ _ _ _ _ _ _ _ _ hg hlen (fun h => by rw [h1 h]) (fun h => by rw [h2 h]) (fun h => by rw [h3 h])
theorem signs_take (l t : List UInt8) (hne : l ≠ []) (hg : ¬ badL l) : signs (l.take (Lib.decodeL l).2 ++ t) = (sign (.ofNat (Lib.decodeL l).1) && signs t) := by
  have hw := Lib.decodeL_width l
  have hle := Lib.decodeL_le l hne
  have hd := decodeL_take l t hne hg
  have hn : l.take (Lib.decodeL l).2 ++ t ≠ [] := by
    intro e
    have := congrArg List.length e
    rw [List.length_append, List.length_take] at this
    simp only [List.length_nil] at this
    omega
  rw [signs_step _ hn (by unfold badL; rw [hd]; exact hg), hd, List.drop_append, List.drop_eq_nil_of_le (by rw [List.length_take]; omega), List.length_take, show (Lib.decodeL l).2 - min (Lib.decodeL l).2 l.length = 0 by omega, List.drop_zero, List.nil_append]
theorem signs_append : ∀ (n : Nat) (a b : List UInt8), a.length ≤ n → signs a = true → signs (a ++ b) = signs b
  | 0, a, b, hn, h => by
    have : a = [] := List.length_eq_zero_iff.1 (by omega)
    subst this
    rfl
  | n + 1, a, b, hn, h => by
    by_cases hne : a = []
    · subst hne; rfl
    by_cases hb : badL a
    · rw [signs_bad a hne hb] at h; cases h
    have hw := Lib.decodeL_width a
    have hl : 0 < a.length := List.length_pos_iff.2 hne
    rw [signs_step a hne hb, Bool.and_eq_true] at h
    have e : a ++ b = a.take (Lib.decodeL a).2 ++ (a.drop (Lib.decodeL a).2 ++ b) := by rw [← List.append_assoc, List.take_append_drop]
    rw [e, signs_take a _ hne hb, h.1, Bool.true_and]
    exact signs_append n _ b (by rw [List.length_drop]; omega) h.2
theorem signs_join {a b : List UInt8} (h : signs a = true) : signs (a ++ b) = signs b := signs_append _ a b (Nat.le_refl _) h
theorem ascii_dec (b : UInt8) (t : List UInt8) (h : b.toNat < 128) : Lib.decodeL (b :: t) = (b.toNat, 1) := Lib.decodeL_ascii b t h
theorem ascii_good (b : UInt8) (t : List UInt8) (h : b.toNat < 128) : ¬ badL (b :: t) := by
  unfold badL
  rw [ascii_dec b t h]
  rintro ⟨q, _⟩
  have q : b.toNat = 65533 := q
  omega
theorem signs_cons (b : UInt8) (t : List UInt8) (h : b.toNat < 128) : signs (b :: t) = (sign (.ofNat b.toNat) && signs t) := by
  rw [signs_step _ (by simp) (ascii_good b t h), ascii_dec b t h]
  rfl
theorem signs_ascii : ∀ {l : List UInt8}, (∀ b ∈ l, b.toNat < 128 ∧ sign (.ofNat b.toNat) = true) → signs l = true
  | [], _ => signs_nil
  | b :: l, h => by
    rw [signs_cons b l (h b (List.mem_cons_self ..)).1, (h b (List.mem_cons_self ..)).2, signs_ascii (fun c hc => h c (List.mem_cons_of_mem _ hc))]
    rfl
theorem signs_one (c : UInt8) (hc : 128 ≤ c.toNat) : signs [c] = false := by
  refine signs_bad [c] (by simp) ?_
  have h := c.toNat_lt
  unfold badL
  rw [Lib.decodeL_N]
  show (Lib.decodeN 1 c.toNat 0 0 0).1 = 65533 ∧ (Lib.decodeN 1 c.toNat 0 0 0).2 = 1
  unfold Lib.decodeN
  rw [if_neg (by omega), if_neg (by omega), if_neg (by omega), if_neg (by omega)]
  exact ⟨rfl, rfl⟩
/-! ### written texts -/
theorem esc_high (a : Bool) (c : UInt8) (hc : 128 ≤ c.toNat) : esc a c = [c] := by
  rw [esc_nat, if_neg (by omega), if_neg (by omega), if_neg (by omega), if_neg (by omega), if_neg (by omega), if_neg (by omega), if_neg (by omega)]
theorem escape_high (a : Bool) : ∀ l : List UInt8, (∀ c ∈ l, 128 ≤ c.toNat) → escape a l = l
  | [], _ => rfl
  | c :: l, h => by
    have h1 := escape_high a l (fun d hd => h d (List.mem_cons_of_mem _ hd))
    unfold escape at h1 ⊢
    rw [List.flatMap_cons, esc_high a c (h c (List.mem_cons_self ..)), h1]
    rfl
theorem escape_append (a : Bool) (s t : List UInt8) : escape a (s ++ t) = escape a s ++ escape a t := by simp [escape]
theorem decodeN_conts (n b0 b1 b2 b3 : Nat) :
    (2 ≤ (Lib.decodeN n b0 b1 b2 b3).2 → b1 / 64 = 2) ∧ (3 ≤ (Lib.decodeN n b0 b1 b2 b3).2 → b2 / 64 = 2) ∧ (4 ≤ (Lib.decodeN n b0 b1 b2 b3).2 → b3 / 64 = 2) ∧ (Lib.decodeN n b0 b1 b2 b3).2 ≤ 4 := by
  unfold Lib.decodeN
  repeat' split
  all_goals (simp only; omega)
theorem head_high (l : List UInt8) (hne : l ≠ []) (hg : ¬ badL l) (h0 : 128 ≤ (l.getD 0 0).toNat) : ∀ c ∈ l.take (Lib.decodeL l).2, 128 ≤ c.toNat := by
  have hle := Lib.decodeL_le l hne
  intro c hc
  obtain ⟨k, hk, rfl⟩ := List.getElem_of_mem hc
  rw [List.length_take] at hk
  have e : (l.take (Lib.decodeL l).2)[k] = l.getD k 0 := by
    rw [List.getElem_take, List.getD_eq_getElem?_getD, List.getElem?_eq_getElem (by omega)]
    rfl
  rw [e]
  have hk : k < (Lib.decodeL l).2 := by omega
  have hc := decodeN_conts l.length (l.getD 0 0).toNat (l.getD 1 0).toNat (l.getD 2 0).toNat (l.getD 3 0).toNat
  rw [← Lib.decodeL_N] at hc
  obtain ⟨c2, c3, c4, c5⟩ := hc
  rcases k with _ | _ | _ | _ | k
  · exact h0
  · have := c2 (by omega); show 128 ≤ (l.getD 1 0).toNat; omega
  · have := c3 (by omega); show 128 ≤ (l.getD 2 0).toNat; omega
  · have := c4 (by omega); show 128 ≤ (l.getD 3 0).toNat; omega
  · omega
theorem signs_esc (a : Bool) (c : UInt8) (hc : c.toNat < 128) (hs : sign (.ofNat c.toNat) = true) : signs (esc a c) = true := by
  have h1 : signs [c] = true := by rw [signs_cons c [] hc, hs]; rfl
  have h2 : ∀ l : List UInt8, (l.all fun b => decide (b.toNat < 128) && sign (.ofNat b.toNat)) = true → signs l = true := by
    intro l h
    refine signs_ascii fun b hb => ?_
    have := List.all_eq_true.1 h b hb
    simpa using this
  unfold esc
  repeat' split
  all_goals first | exact h1 | exact h2 _ (by decide)
theorem signs_escape (a : Bool) : ∀ (n : Nat) (s : List UInt8), s.length ≤ n → signs s = true → signs (escape a s) = true
  | 0, s, hn, h => by
    have : s = [] := List.length_eq_zero_iff.1 (by omega)
    subst this
    exact signs_nil
  | n + 1, s, hn, h => by
    by_cases hne : s = []
    · subst hne; exact signs_nil
    by_cases hb : badL s
    · rw [signs_bad s hne hb] at h; cases h
    have hw := Lib.decodeL_width s
    have hl : 0 < s.length := List.length_pos_iff.2 hne
    have hq := h
    rw [signs_step s hne hb, Bool.and_eq_true] at h
    have ih := signs_escape a n (s.drop (Lib.decodeL s).2) (by rw [List.length_drop]; omega) h.2
    by_cases h0 : 128 ≤ (s.getD 0 0).toNat
    · have e : escape a s = s.take (Lib.decodeL s).2 ++ escape a (s.drop (Lib.decodeL s).2) := by
        have q := escape_append a (s.take (Lib.decodeL s).2) (s.drop (Lib.decodeL s).2)
        rw [List.take_append_drop, escape_high a (s.take (Lib.decodeL s).2) (head_high s hne hb h0)] at q
        exact q
      rw [e, signs_take s _ hne hb, h.1, ih]
      rfl
    · cases s with
      | nil => exact absurd rfl hne
      | cons c t =>
        have hc : c.toNat < 128 := by
          have : ((c :: t).getD 0 0) = c := rfl
          rw [this] at h0
          omega
        rw [ascii_dec c t hc] at h ih
        have e : escape a (c :: t) = esc a c ++ escape a t := List.flatMap_cons ..
        rw [e, signs_join (signs_esc a c hc h.1)]
        exact ih
theorem signs_esc_of {a : Bool} {s : List UInt8} (h : signs s = true) : signs (escape a s) = true := signs_escape a _ s (Nat.le_refl _) h
/-! ### what a text stands for -/
def digitV (hex : Bool) (c : Nat) : Option Nat :=
  if 48 ≤ c ∧ c ≤ 57 then some (c - 48) else if hex = true ∧ 97 ≤ c ∧ c ≤ 102 then some (c - 97 + 10) else if hex = true ∧ 65 ≤ c ∧ c ≤ 70 then some (c - 65 + 10) else none
def baseV : Bool → Nat
  | true => 16
  | false => 10
def numF (hex : Bool) : Nat → List UInt8 → Option Nat
  | n, [] => some n
  | n, c :: l => match digitV hex c.toNat with
    | some d => numF hex (n * baseV hex + d) l
    | none => none
def encodeB (n : Nat) : List UInt8 := (Utf8.encode (.ofNat n)).data.toList
def refD (hex : Bool) (l : List UInt8) : Option (List UInt8) :=
  if l.length < 1 ∨ 7 < l.length then none else match numF hex 0 l with
    | some n => if n ≤ 1114111 ∧ sign (.ofNat n) = true then some (encodeB n) else none
    | none => none
def refV (l : List UInt8) : Option (List UInt8) := match l with
  | [] => none
  | c :: t => if c = 120 then refD true t else refD false (c :: t)
def entity (l : List UInt8) : Option (List UInt8) :=
  if l = [97, 109, 112] then some [38] else if l = [108, 116] then some [60] else if l = [103, 116] then some [62] else if l = [113, 117, 111, 116] then some [34] else if l = [97, 112, 111, 115] then some [39] else
  match l with
  | [] => none
  | c :: t => if c = 35 then refV t else none
def unescF : Nat → List UInt8 → Option (List UInt8)
  | 0, _ => some []
  | _ + 1, [] => some []
  | n + 1, a :: l => if a = 38 then (match cutB 59 l with
      | none => none
      | some (w, b) => match entity w with
        | none => none
        | some x => (unescF n b).map (x ++ ·))
    else (unescF n l).map (a :: ·)
def unesc (l : List UInt8) : Option (List UInt8) := unescF l.length l
def unescape (l : List UInt8) : Option (List UInt8) := match signs l with
  | true => unesc l
  | false => none
theorem unescF_more : ∀ (n m : Nat) (l : List UInt8), l.length ≤ n → l.length ≤ m → unescF n l = unescF m l
  | 0, m, l, h1, h2 => by
    have : l = [] := List.length_eq_zero_iff.1 (by omega)
    subst this
    cases m <;> rfl
  | n + 1, 0, l, h1, h2 => by
    have : l = [] := List.length_eq_zero_iff.1 (by omega)
    subst this
    rfl
  | n + 1, m + 1, [], h1, h2 => rfl
  | n + 1, m + 1, a :: l, h1, h2 => by
    simp only [List.length_cons] at h1 h2
    simp only [unescF]
    split
    · cases hc : cutB 59 l with
      | none => rfl
      | some p =>
        obtain ⟨w, b⟩ := p
        obtain ⟨e, _⟩ := cutB_some hc
        have : b.length ≤ l.length := by rw [e]; simp; omega
        simp only
        rw [unescF_more n m b (by omega) (by omega)]
    · rw [unescF_more n m l (by omega) (by omega)]
theorem unesc_nil : unesc [] = some [] := rfl
theorem unesc_other (a : UInt8) (l : List UInt8) (ha : a ≠ 38) : unesc (a :: l) = (unesc l).map (a :: ·) := by
  unfold unesc
  simp only [List.length_cons, unescF, if_neg ha]
theorem unesc_ampN (l : List UInt8) (h : cutB 59 l = none) : unesc (38 :: l) = none := by
  unfold unesc
  simp only [List.length_cons, unescF, if_pos, h]
theorem unesc_ampS (l w b : List UInt8) (h : cutB 59 l = some (w, b)) : unesc (38 :: l) = match entity w with
    | none => none
    | some x => (unesc b).map (x ++ ·) := by
  obtain ⟨e, _⟩ := cutB_some h
  unfold unesc
  simp only [List.length_cons, unescF, if_pos, h]
  rw [unescF_more l.length b.length b (by rw [e]; simp; omega) (Nat.le_refl _)]
theorem unesc_amp (w b : List UInt8) (hw : (59 : UInt8) ∉ w) : unesc (38 :: (w ++ 59 :: b)) = match entity w with
    | none => none
    | some x => (unesc b).map (x ++ ·) := unesc_ampS _ _ _ (cutB_of hw)
theorem unesc_pre : ∀ (p t : List UInt8), (38 : UInt8) ∉ p → unesc (p ++ t) = (unesc t).map (p ++ ·)
  | [], t, _ => by simp
  | a :: p, t, h => by
    simp only [List.mem_cons, not_or] at h
    rw [List.cons_append, unesc_other _ _ (fun e => h.1 e.symm), unesc_pre p t h.2, Option.map_map]
    rfl
theorem unesc_plain (p : List UInt8) (h : (38 : UInt8) ∉ p) : unesc p = some p := by
  have := unesc_pre p [] h
  rw [List.append_nil, unesc_nil] at this
  rw [this]
  simp
theorem entity_esc : (entity [97, 109, 112] = some [38] ∧ entity [108, 116] = some [60] ∧ entity [103, 116] = some [62] ∧ entity [113, 117, 111, 116] = some [34]) ∧
    entity [35, 57] = some [9] ∧ entity [35, 49, 48] = some [10] ∧ entity [35, 49, 51] = some [13] := by decide +kernel
theorem unesc_esc (attr : Bool) (c : UInt8) (t : List UInt8) : unesc (esc attr c ++ t) = (unesc t).map (c :: ·) := by
  obtain ⟨⟨e1, e2, e3, e4⟩, e5, e6, e7⟩ := entity_esc
  have go : ∀ (w : List UInt8), (59 : UInt8) ∉ w → entity w = some [c] → unesc ((38 :: (w ++ [59])) ++ t) = (unesc t).map (c :: ·) := by
    intro w hw he
    rw [show (38 :: (w ++ [59])) ++ t = 38 :: (w ++ 59 :: t) by simp, unesc_amp _ _ hw, he]
    rfl
  unfold esc
  by_cases h1 : c = 38
  · rw [if_pos h1]; subst h1; exact go [97, 109, 112] (by decide) e1
  rw [if_neg h1]
  by_cases h2 : c = 60
  · rw [if_pos h2]; subst h2; exact go [108, 116] (by decide) e2
  rw [if_neg h2]
  by_cases h3 : c = 62
  · rw [if_pos h3]; subst h3; exact go [103, 116] (by decide) e3
  rw [if_neg h3]
  by_cases h4 : c = 34 ∧ attr = true
  · rw [if_pos h4]; obtain ⟨h4, _⟩ := h4; subst h4; exact go [113, 117, 111, 116] (by decide) e4
  rw [if_neg h4]
  by_cases h5 : c = 9 ∧ attr = true
  · rw [if_pos h5]; obtain ⟨h5, _⟩ := h5; subst h5; exact go [35, 57] (by decide) e5
  rw [if_neg h5]
  by_cases h6 : c = 10 ∧ attr = true
  · rw [if_pos h6]; obtain ⟨h6, _⟩ := h6; subst h6; exact go [35, 49, 48] (by decide) e6
  rw [if_neg h6]
  by_cases h7 : c = 13 ∧ attr = true
  · rw [if_pos h7]; obtain ⟨h7, _⟩ := h7; subst h7; exact go [35, 49, 51] (by decide) e7
  rw [if_neg h7]
  exact unesc_other _ _ h1
theorem unesc_escape (attr : Bool) : ∀ (s t : List UInt8), unesc (escape attr s ++ t) = (unesc t).map (s ++ ·)
  | [], t => by simp [escape]
  | c :: s, t => by
    have : escape attr (c :: s) ++ t = esc attr c ++ (escape attr s ++ t) := by simp [escape, List.append_assoc]
    rw [this, unesc_esc, unesc_escape attr s t, Option.map_map]
    rfl
theorem unescape_escape (attr : Bool) (s : List UInt8) (h : signs s = true) : unescape (escape attr s) = some s := by
  have := unesc_escape attr s []
  rw [List.append_nil, unesc_nil] at this
  unfold unescape
  rw [signs_esc_of h, this]
  simp
end Go.Proofs.YtknhcgdhfndooaaDoor.GEv
