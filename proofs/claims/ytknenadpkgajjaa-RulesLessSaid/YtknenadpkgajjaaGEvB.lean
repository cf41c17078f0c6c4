/- The evaluator's soundness, first part: how its values and its memory stand to the model's. -/
import Derived.Test.YtknenadpkgajjaaGEvA
import Derived.Laws.Cells
import Derived.KernelRfl
namespace Go.Proofs.Ytknenadpkgajjaa.GEv
open Go
set_option linter.unusedSimpArgs false
set_option linter.unusedVariables false

namespace T0
variable {α : Type}
theorem get_zero (t : T0 α) : t.get 0 = t.val := by cases t <;> rfl
theorem lft_node (v : Option α) (l r : T0 α) : (node v l r).lft = l := rfl
theorem rgt_node (v : Option α) (l r : T0 α) : (node v l r).rgt = r := rfl
theorem get_succ (t : T0 α) (k : Nat) : t.get (k + 1) = if k % 2 = 0 then t.lft.get (k / 2) else t.rgt.get (k / 2) := by
  cases t with
  | nil => simp only [lft, rgt, get, ite_self]
  | node v l r =>
    simp only [get, lft_node, rgt_node]
    cases h : k % 2 with
    | zero => simp
    | succ j => simp
theorem get_setF : ∀ (f : Nat) (t : T0 α) (n : Nat) (x : Option α) (m : Nat), n < f → (setF f t n x).get m = if m = n then x else t.get m
  | 0, t, n, x, m, h => by omega
  | f + 1, t, 0, x, m, h => by
    cases m with
    | zero => simp [setF, get]
    | succ k => rw [get_succ, get_succ]; simp [setF, lft_node, rgt_node]
  | f + 1, t, p + 1, x, m, h => by
    have hs : setF (f + 1) t (p + 1) x = if p % 2 = 0 then node t.val (setF f t.lft (p / 2) x) t.rgt else node t.val t.lft (setF f t.rgt (p / 2) x) := by
      simp only [setF]
      cases h : p % 2 with
      | zero => simp
      | succ j => simp
    rw [hs]
    cases m with
    | zero => rw [get_zero, get_zero]; split <;> simp [val]
    | succ k =>
      rw [get_succ, get_succ]
      by_cases hp : p % 2 = 0
      · simp only [hp, if_true, lft_node, rgt_node]
        rw [get_setF f t.lft (p / 2) x (k / 2) (by omega)]
        by_cases hk : k % 2 = 0
        · simp only [hk, if_true]
          by_cases e : k = p
          · subst e; simp
          · rw [if_neg (by omega), if_neg (by omega)]
        · simp only [hk, if_false]
          rw [if_neg (by omega)]
      · simp only [hp, if_false, lft_node, rgt_node]
        rw [get_setF f t.rgt (p / 2) x (k / 2) (by omega)]
        by_cases hk : k % 2 = 0
        · simp only [hk, if_true]
          rw [if_neg (by omega)]
        · simp only [hk, if_false]
          by_cases e : k = p
          · subst e; simp
          · rw [if_neg (by omega), if_neg (by omega)]
theorem get_set (t : T0 α) (n : Nat) (x : Option α) (m : Nat) : (t.set n x).get m = if m = n then x else t.get m := get_setF _ t n x m (by omega)
end T0


namespace N4
variable {α β : Type}
theorem sel_put (t : N4 β) (n m : Nat) (v : β) (hn : n < 4) (hm : m < 4) : sel (put t n v) m = if m = n then v else sel t m := by
  obtain ⟨a, b, c, e⟩ := t
  match n, m, hn, hm with
  | 0, 0, _, _ | 0, 1, _, _ | 0, 2, _, _ | 0, 3, _, _ | 1, 0, _, _ | 1, 1, _, _ | 1, 2, _, _ | 1, 3, _, _ => rfl
  | 2, 0, _, _ | 2, 1, _, _ | 2, 2, _, _ | 2, 3, _, _ | 3, 0, _, _ | 3, 1, _, _ | 3, 2, _, _ | 3, 3, _, _ => rfl
theorem sel_all (v : β) (n : Nat) : sel (all v) n = v := by
  unfold sel all
  cases Nat.ble 2 n <;> cases Nat.ble 3 n <;> cases Nat.ble 1 n <;> rfl
theorem g1_s1 (t : M1 α) (n m : Nat) (x : Option α) (hn : n < 4) (hm : m < 4) : g1 (s1 t n x) m = if m = n then x else g1 t m := sel_put t n m x hn hm
theorem g2_s2 (t : M2 α) (n m : Nat) (x : Option α) (hn : n < 16) (hm : m < 16) : g2 (s2 t n x) m = if m = n then x else g2 t m := by
  have h1 : Nat.div n 4 = n / 4 := rfl
  have h2 : Nat.mod n 4 = n % 4 := rfl
  have h3 : Nat.div m 4 = m / 4 := rfl
  have h4 : Nat.mod m 4 = m % 4 := rfl
  unfold g2 s2
  rw [h1, h2, h3, h4, sel_put _ _ _ _ (by omega) (by omega)]
  by_cases e : m / 4 = n / 4
  · rw [if_pos e, g1_s1 _ _ _ _ (by omega) (by omega), e]
    by_cases e2 : m % 4 = n % 4
    · rw [if_pos e2, if_pos (by omega)]
    · rw [if_neg e2, if_neg (by omega)]
  · rw [if_neg e, if_neg (by omega)]
theorem g3_s3 (t : M3 α) (n m : Nat) (x : Option α) (hn : n < 64) (hm : m < 64) : g3 (s3 t n x) m = if m = n then x else g3 t m := by
  have h1 : Nat.div n 16 = n / 16 := rfl
  have h2 : Nat.mod n 16 = n % 16 := rfl
  have h3 : Nat.div m 16 = m / 16 := rfl
  have h4 : Nat.mod m 16 = m % 16 := rfl
  unfold g3 s3
  rw [h1, h2, h3, h4, sel_put _ _ _ _ (by omega) (by omega)]
  by_cases e : m / 16 = n / 16
  · rw [if_pos e, g2_s2 _ _ _ _ (by omega) (by omega), e]
    by_cases e2 : m % 16 = n % 16
    · rw [if_pos e2, if_pos (by omega)]
    · rw [if_neg e2, if_neg (by omega)]
  · rw [if_neg e, if_neg (by omega)]
theorem g4_s4 (t : M4 α) (n m : Nat) (x : Option α) (hn : n < 256) (hm : m < 256) : g4 (s4 t n x) m = if m = n then x else g4 t m := by
  have h1 : Nat.div n 64 = n / 64 := rfl
  have h2 : Nat.mod n 64 = n % 64 := rfl
  have h3 : Nat.div m 64 = m / 64 := rfl
  have h4 : Nat.mod m 64 = m % 64 := rfl
  unfold g4 s4
  rw [h1, h2, h3, h4, sel_put _ _ _ _ (by omega) (by omega)]
  by_cases e : m / 64 = n / 64
  · rw [if_pos e, g3_s3 _ _ _ _ (by omega) (by omega), e]
    by_cases e2 : m % 64 = n % 64
    · rw [if_pos e2, if_pos (by omega)]
    · rw [if_neg e2, if_neg (by omega)]
  · rw [if_neg e, if_neg (by omega)]
theorem g5_s5 (t : M5 α) (n m : Nat) (x : Option α) (hn : n < 1024) (hm : m < 1024) : g5 (s5 t n x) m = if m = n then x else g5 t m := by
  have h1 : Nat.div n 256 = n / 256 := rfl
  have h2 : Nat.mod n 256 = n % 256 := rfl
  have h3 : Nat.div m 256 = m / 256 := rfl
  have h4 : Nat.mod m 256 = m % 256 := rfl
  unfold g5 s5
  rw [h1, h2, h3, h4, sel_put _ _ _ _ (by omega) (by omega)]
  by_cases e : m / 256 = n / 256
  · rw [if_pos e, g4_s4 _ _ _ _ (by omega) (by omega), e]
    by_cases e2 : m % 256 = n % 256
    · rw [if_pos e2, if_pos (by omega)]
    · rw [if_neg e2, if_neg (by omega)]
  · rw [if_neg e, if_neg (by omega)]
theorem g6_s6 (t : M6 α) (n m : Nat) (x : Option α) (hn : n < 4096) (hm : m < 4096) : g6 (s6 t n x) m = if m = n then x else g6 t m := by
  have h1 : Nat.div n 1024 = n / 1024 := rfl
  have h2 : Nat.mod n 1024 = n % 1024 := rfl
  have h3 : Nat.div m 1024 = m / 1024 := rfl
  have h4 : Nat.mod m 1024 = m % 1024 := rfl
  unfold g6 s6
  rw [h1, h2, h3, h4, sel_put _ _ _ _ (by omega) (by omega)]
  by_cases e : m / 1024 = n / 1024
  · rw [if_pos e, g5_s5 _ _ _ _ (by omega) (by omega), e]
    by_cases e2 : m % 1024 = n % 1024
    · rw [if_pos e2, if_pos (by omega)]
    · rw [if_neg e2, if_neg (by omega)]
  · rw [if_neg e, if_neg (by omega)]
theorem g7_s7 (t : M7 α) (n m : Nat) (x : Option α) (hn : n < 16384) (hm : m < 16384) : g7 (s7 t n x) m = if m = n then x else g7 t m := by
  have h1 : Nat.div n 4096 = n / 4096 := rfl
  have h2 : Nat.mod n 4096 = n % 4096 := rfl
  have h3 : Nat.div m 4096 = m / 4096 := rfl
  have h4 : Nat.mod m 4096 = m % 4096 := rfl
  unfold g7 s7
  rw [h1, h2, h3, h4, sel_put _ _ _ _ (by omega) (by omega)]
  by_cases e : m / 4096 = n / 4096
  · rw [if_pos e, g6_s6 _ _ _ _ (by omega) (by omega), e]
    by_cases e2 : m % 4096 = n % 4096
    · rw [if_pos e2, if_pos (by omega)]
    · rw [if_neg e2, if_neg (by omega)]
  · rw [if_neg e, if_neg (by omega)]
end N4
theorem blt_spec (n k : Nat) : Nat.blt n k = decide (n < k) := by
  cases h : Nat.blt n k with
  | true => exact (decide_eq_true (by rw [← Nat.blt_eq]; exact h)).symm
  | false => exact (decide_eq_false fun q => by rw [← Nat.blt_eq] at q; rw [q] at h; cases h).symm
namespace T
variable {α : Type}
theorem get_nil (n : Nat) : (nil : T α).get n = none := by
  unfold get nil
  cases Nat.blt n 256 with
  | true => simp only [cond_true, N4.g4, N4.g3, N4.g2, N4.g1, N4.sel_all]
  | false => rfl
theorem get_set (t : T α) (n : Nat) (x : Option α) (m : Nat) : (t.set n x).get m = if m = n then x else t.get m := by
  unfold get set
  rw [blt_spec, blt_spec]
  by_cases hn : n < 256
  · by_cases hm : m < 256
    · simp only [hn, hm, decide_true, cond_true]
      exact N4.g4_s4 _ _ _ _ hn hm
    · simp only [hn, hm, decide_true, decide_false, cond_true, cond_false]
      rw [if_neg (by omega)]
  · by_cases hm : m < 256
    · simp only [hn, hm, decide_true, decide_false, cond_true, cond_false]
      rw [if_neg (by omega)]
    · simp only [hn, hm, decide_false, cond_false]
      exact T0.get_set _ _ _ _
end T
namespace U
variable {α : Type}
theorem get_nil (n : Nat) : (nil : U α).get n = none := by
  unfold get nil
  cases Nat.blt n 16384 with
  | true => simp only [cond_true, N4.g7, N4.g6, N4.g5, N4.g4, N4.g3, N4.g2, N4.g1, N4.sel_all]
  | false => rfl
theorem get_set (t : U α) (n : Nat) (x : Option α) (m : Nat) : (t.set n x).get m = if m = n then x else t.get m := by
  unfold get set
  rw [blt_spec, blt_spec]
  by_cases hn : n < 16384
  · by_cases hm : m < 16384
    · simp only [hn, hm, decide_true, cond_true]
      exact N4.g7_s7 _ _ _ _ hn hm
    · simp only [hn, hm, decide_true, decide_false, cond_true, cond_false]
      rw [if_neg (by omega)]
  · by_cases hm : m < 16384
    · simp only [hn, hm, decide_true, decide_false, cond_true, cond_false]
      rw [if_neg (by omega)]
    · simp only [hn, hm, decide_false, cond_false]
      exact T0.get_set _ _ _ _
end U

/-! ### blocks and values -/
abbrev Ren := Nat → Option (Nat × Nat × Nat)
def Sub (ρ ρ' : Ren) : Prop := ∀ b x, ρ b = some x → ρ' b = some x
theorem Sub.refl (ρ : Ren) : Sub ρ ρ := fun _ _ h => h
theorem Sub.trans {a b c : Ren} (h : Sub a b) (k : Sub b c) : Sub a c := fun x y e => k x y (h x y e)

def AR (ρ : Ren) (a a' : Addr) : Prop := a.spot = none ∧ ∃ c s z, ρ a.block = some (c, s, z) ∧ a' = ⟨c, s + a.off, none⟩
def SR (ρ : Ren) (a : Addr) (len cap : Nat) (a' : Addr) (cap' : Nat) : Prop :=
  a.spot = none ∧ ((len = 0 ∧ cap' = 0) ∨ a'.spot = none) ∧ len ≤ cap' ∧ (cap < UNK → cap' = cap) ∧
    ((∃ c s z, ρ a.block = some (c, s, z) ∧ a'.block = c ∧ a'.off = s + a.off ∧ (UNK ≤ cap → s + a.off + cap' * (cap - UNK) = z)) ∨ (len = 0 ∧ cap' = 0))

inductive VR (ρ : Ren) : Value → Value → Prop
  | any {v' : Value} (h : odd v' = true) : VR ρ (.chan (some 0)) v'
  | bool (b : Bool) : VR ρ (.bool b) (.bool b)
  | int (k : IntKind) (n : Int) : VR ρ (.int k n) (.int k n)
  | string (s : ByteArray) : VR ρ (.string s) (.string s)
  | pnil : VR ρ (.pointer none) (.pointer none)
  | ptr {a a' : Addr} (h : AR ρ a a') : VR ρ (.pointer (some a)) (.pointer (some a'))
  | snil (l c : Nat) : VR ρ (.slice none l c) (.slice none l c)
  | slice {a a' : Addr} {l c c' : Nat} (h : SR ρ a l c a' c') : VR ρ (.slice (some a) l c) (.slice (some a') l c')
  | mnil : VR ρ (.map none) (.map none)
  | map {r c s z : Nat} (h : ρ r = some (c, s, z)) : VR ρ (.map (some r)) (.map (some c))
  | fnil : VR ρ .nilFunc .nilFunc
  | func {fn : Fn} {f f' c c' : Array Value} (hf : f.size = f'.size) (hc : c.size = c'.size)
      (h : ∀ (i : Nat) (v v' : Value), f[i]? = some v → f'[i]? = some v' → VR ρ v v') (h' : ∀ (i : Nat) (v v' : Value), c[i]? = some v → c'[i]? = some v' → VR ρ v v') : VR ρ (.func fn f c) (.func fn f' c')
  | inil : VR ρ .nilIface .nilIface
  | iface {t : TypeId} {v v' : Value} (h : VR ρ v v') : VR ρ (.iface t v) (.iface t v')
  | agg {a a' : Array Value} (hs : a.size = a'.size) (h : ∀ (i : Nat) (v v' : Value), a[i]? = some v → a'[i]? = some v' → VR ρ v v') : VR ρ (.agg a) (.agg a')
  | tuple {a a' : Array Value} (hs : a.size = a'.size) (h : ∀ (i : Nat) (v v' : Value), a[i]? = some v → a'[i]? = some v' → VR ρ v v') : VR ρ (.tuple a) (.tuple a')

theorem AR.mono {ρ ρ' : Ren} (hs : Sub ρ ρ') {a a' : Addr} (h : AR ρ a a') : AR ρ' a a' :=
  let ⟨h1, c, s, z, h2, h3⟩ := h
  ⟨h1, c, s, z, hs _ _ h2, h3⟩
theorem SR.mono {ρ ρ' : Ren} (hs : Sub ρ ρ') {a a' : Addr} {l c c' : Nat} (h : SR ρ a l c a' c') : SR ρ' a l c a' c' :=
  let ⟨h1, h2, h3, h4, h7⟩ := h
  ⟨h1, h2, h3, h4, h7.imp (fun ⟨c, s, z, h5, h6⟩ => ⟨c, s, z, hs _ _ h5, h6⟩) id⟩
theorem VR.mono {ρ ρ' : Ren} (hs : Sub ρ ρ') {v v' : Value} (h : VR ρ v v') : VR ρ' v v' := by
  induction h with
  | any h => exact .any h
  | bool b => exact .bool b
  | int k n => exact .int k n
  | string s => exact .string s
  | pnil => exact .pnil
  | ptr h => exact .ptr (h.mono hs)
  | snil l c => exact .snil l c
  | slice h => exact .slice (h.mono hs)
  | mnil => exact .mnil
  | map h => exact .map (hs _ _ h)
  | fnil => exact .fnil
  | func hf hc _ _ ih ih' => exact .func hf hc ih ih'
  | inil => exact .inil
  | iface _ ih => exact .iface ih
  | agg h _ ih => exact .agg h ih
  | tuple h _ ih => exact .tuple h ih
theorem AR.add {ρ : Ren} {a a' : Addr} (h : AR ρ a a') (n : Nat) : AR ρ (a.add n) (a'.add n) := by
  obtain ⟨h1, c, s, z, h2, rfl⟩ := h
  unfold Addr.add
  by_cases e : n = 0
  · simp only [e, if_true]; exact ⟨h1, c, s, z, h2, rfl⟩
  · simp only [e, if_false]; exact ⟨rfl, c, s, z, h2, by simp [Nat.add_assoc]⟩
theorem Addr.add_block (a : Addr) (n : Nat) : (a.add n).block = a.block := by unfold Addr.add; split <;> rfl
theorem Addr.add_off (a : Addr) (n : Nat) : (a.add n).off = a.off + n := by
  unfold Addr.add
  split
  · omega
  · rfl
theorem Addr.add_spot (a : Addr) (n : Nat) (h : a.spot = none) : (a.add n).spot = none := by
  unfold Addr.add
  split
  · exact h
  · rfl

/-! ### lists of values -/
def VRL (ρ : Ren) (l l' : List Value) : Prop := l.length = l'.length ∧ ∀ (i : Nat) (v v' : Value), l[i]? = some v → l'[i]? = some v' → VR ρ v v'
theorem VRL.nil (ρ : Ren) : VRL ρ [] [] := ⟨rfl, fun i v v' h => by simp at h⟩
theorem VRL.cons {ρ : Ren} {v v' : Value} {l l' : List Value} (h : VR ρ v v') (hl : VRL ρ l l') : VRL ρ (v :: l) (v' :: l') := by
  refine ⟨by simp [hl.1], fun i a b ha hb => ?_⟩
  cases i with
  | zero => simp at ha hb; subst ha; subst hb; exact h
  | succ i => simp at ha hb; exact hl.2 i a b ha hb
theorem VRL.uncons {ρ : Ren} {v : Value} {l m : List Value} (h : VRL ρ (v :: l) m) : ∃ v' l', m = v' :: l' ∧ VR ρ v v' ∧ VRL ρ l l' := by
  obtain ⟨h1, h2⟩ := h
  cases m with
  | nil => simp at h1
  | cons v' l' => exact ⟨v', l', rfl, h2 0 v v' rfl rfl, by simpa using h1, fun i a b ha hb => h2 (i + 1) a b (by simpa using ha) (by simpa using hb)⟩
theorem VRL.eq_nil {ρ : Ren} {m : List Value} (h : VRL ρ [] m) : m = [] := by
  cases m with
  | nil => rfl
  | cons _ _ => have := h.1; simp at this
theorem VRL.mono {ρ ρ' : Ren} (hs : Sub ρ ρ') {l l' : List Value} (h : VRL ρ l l') : VRL ρ' l l' := ⟨h.1, fun i v v' a b => (h.2 i v v' a b).mono hs⟩
theorem VRL.append {ρ : Ren} : ∀ {l l' m m' : List Value}, VRL ρ l l' → VRL ρ m m' → VRL ρ (l ++ m) (l' ++ m')
  | [], l', m, m', h, k => by rw [h.eq_nil]; exact k
  | v :: l, l', m, m', h, k => by
    obtain ⟨v', l'', rfl, hv, hl⟩ := h.uncons
    exact (hl.append k).cons hv
theorem VRL.take {ρ : Ren} : ∀ {l l' : List Value} (n : Nat), VRL ρ l l' → VRL ρ (l.take n) (l'.take n)
  | [], l', n, h => by rw [h.eq_nil]; simpa using VRL.nil ρ
  | v :: l, l', 0, h => by simpa using VRL.nil ρ
  | v :: l, l', n + 1, h => by
    obtain ⟨v', l'', rfl, hv, hl⟩ := h.uncons
    simpa using (hl.take n).cons hv
theorem VRL.drop {ρ : Ren} : ∀ {l l' : List Value} (n : Nat), VRL ρ l l' → VRL ρ (l.drop n) (l'.drop n)
  | [], l', n, h => by rw [h.eq_nil]; simpa using VRL.nil ρ
  | v :: l, l', 0, h => by simpa using h
  | v :: l, l', n + 1, h => by
    obtain ⟨v', l'', rfl, hv, hl⟩ := h.uncons
    simpa using hl.drop n
theorem VRL.get {ρ : Ren} {l l' : List Value} (h : VRL ρ l l') {i : Nat} {v : Value} (hi : l[i]? = some v) : ∃ v', l'[i]? = some v' ∧ VR ρ v v' := by
  have hlt : i < l.length := by
    rcases Nat.lt_or_ge i l.length with h | h
    · exact h
    · rw [List.getElem?_eq_none h] at hi; cases hi
  have hlt' : i < l'.length := h.1 ▸ hlt
  exact ⟨l'[i], List.getElem?_eq_getElem hlt', h.2 i v _ hi (List.getElem?_eq_getElem hlt')⟩
theorem VRL.over {ρ : Ren} {l l' n n' : List Value} (h : VRL ρ l l') (hn : VRL ρ n n') (off : Nat) : VRL ρ (over l off n) (over l' off n') := by
  unfold GEv.over
  rw [← hn.1]
  exact ((h.take _).append hn).append (h.drop _)
theorem VRL.rep {ρ : Ren} {z z' : List Value} (h : VRL ρ z z') : ∀ n, VRL ρ (rep z n) (rep z' n)
  | 0 => VRL.nil ρ
  | n + 1 => h.append (h.rep n)
theorem VRL.ofA {ρ : Ren} {a a' : Array Value} (hs : a.size = a'.size) (h : ∀ (i : Nat) (v v' : Value), a[i]? = some v → a'[i]? = some v' → VR ρ v v') : VRL ρ a.toList a'.toList :=
  ⟨by simpa using hs, fun i v v' x y => h i v v' (by simpa using x) (by simpa using y)⟩
theorem VRL.toA {ρ : Ren} {a a' : Array Value} (h : VRL ρ a.toList a'.toList) : a.size = a'.size ∧ ∀ (i : Nat) (v v' : Value), a[i]? = some v → a'[i]? = some v' → VR ρ v v' :=
  ⟨by simpa using h.1, fun i v v' x y => h.2 i v v' (by simpa using x) (by simpa using y)⟩
theorem VRL.agg {ρ : Ren} {l l' : List Value} (h : VRL ρ l l') : VR ρ (.agg l.toArray) (.agg l'.toArray) :=
  let ⟨a, b⟩ := VRL.toA (a := l.toArray) (a' := l'.toArray) (by simpa using h)
  .agg a b
theorem VRL.tuple {ρ : Ren} {l l' : List Value} (h : VRL ρ l l') : VR ρ (.tuple l.toArray) (.tuple l'.toArray) :=
  let ⟨a, b⟩ := VRL.toA (a := l.toArray) (a' := l'.toArray) (by simpa using h)
  .tuple a b
theorem VR.one {ρ : Ren} {v v' : Value} (h : VR ρ v v') : one v' = one v := by
  cases h with
  | any h => cases v' <;> first | rfl | cases h
  | _ => rfl
theorem VRL.one {ρ : Ren} : ∀ {l l' : List Value}, VRL ρ l l' → l'.all GEv.one = l.all GEv.one
  | [], l', h => by rw [h.eq_nil]
  | v :: l, l', h => by
    obtain ⟨v', l'', rfl, hv, hl⟩ := h.uncons
    simp [hv.one, hl.one]
theorem one_cells {v : Value} (h : odd v = true) : v.cells = #[v] := by cases v <;> first | rfl | (cases h; done)
theorem VR.cells {ρ : Ren} {v v' : Value} (h : VR ρ v v') : VRL ρ v.cells.toList v'.cells.toList := by
  cases h with
  | agg hs h => exact VRL.ofA hs h
  | any h => rw [one_cells h]; exact (VRL.nil ρ).cons (.any h)
  | bool b => exact (VRL.nil ρ).cons (.bool b)
  | int k n => exact (VRL.nil ρ).cons (.int k n)
  | string s => exact (VRL.nil ρ).cons (.string s)
  | pnil => exact (VRL.nil ρ).cons .pnil
  | ptr h => exact (VRL.nil ρ).cons (.ptr h)
  | snil l c => exact (VRL.nil ρ).cons (.snil l c)
  | slice h => exact (VRL.nil ρ).cons (.slice h)
  | mnil => exact (VRL.nil ρ).cons .mnil
  | map h => exact (VRL.nil ρ).cons (.map h)
  | fnil => exact (VRL.nil ρ).cons .fnil
  | func a b c d => exact (VRL.nil ρ).cons (.func a b c d)
  | inil => exact (VRL.nil ρ).cons .inil
  | iface h => exact (VRL.nil ρ).cons (.iface h)
  | tuple a b => exact (VRL.nil ρ).cons (.tuple a b)

/-! ### values that bear no block -/
theorem flat_eq {ρ : Ren} {v v' : Value} (hf : flat v = true) (h : VR ρ v v') : v' = v := by
  cases h <;> first | rfl | (simp [flat] at hf)
theorem list_eq {ρ : Ren} {p : Value → Bool} (hp : ∀ v v', p v = true → VR ρ v v' → v' = v) : ∀ {l l' : List Value}, l.all p = true → VRL ρ l l' → l' = l
  | [], l', _, h => h.eq_nil
  | v :: l, l', hl, h => by
    obtain ⟨v', l'', rfl, hv, hl'⟩ := h.uncons
    simp only [List.all_cons, Bool.and_eq_true] at hl
    rw [hp v v' hl.1 hv, list_eq hp hl.2 hl']
theorem flat1_eq {ρ : Ren} {v v' : Value} (hf : flat1 v = true) (h : VR ρ v v') : v' = v := by
  cases h with
  | agg hs h =>
    rename_i a a'
    have := list_eq (fun v v' => flat_eq) hf (VRL.ofA hs h)
    rw [Array.toList_inj.1 this]
  | iface h => rw [flat_eq hf h]
  | _ => first | rfl | (simp [flat1, flat] at hf)
theorem flat2_eq {ρ : Ren} {v v' : Value} (hf : flat2 v = true) (h : VR ρ v v') : v' = v := by
  cases h with
  | tuple hs h =>
    have := list_eq (fun v v' => flat1_eq) hf (VRL.ofA hs h)
    rw [Array.toList_inj.1 this]
  | func a b h h' =>
    simp only [flat2, Bool.and_eq_true] at hf
    have e := list_eq (fun v v' => flat1_eq) hf.1 (VRL.ofA a h)
    have e' := list_eq (fun v v' => flat1_eq) hf.2 (VRL.ofA b h')
    rw [Array.toList_inj.1 e, Array.toList_inj.1 e']
  | agg a b => exact flat1_eq (by simpa [flat2] using hf) (.agg a b)
  | iface h => exact flat1_eq (by simpa [flat2] using hf) (.iface h)
  | _ => first | rfl | (simp [flat2, flat1, flat] at hf)
theorem VR.flat (ρ : Ren) {v : Value} (h : flat v = true) : VR ρ v v := by
  match v, h with
  | .bool b, _ => exact .bool b
  | .int k n, _ => exact .int k n
  | .string s, _ => exact .string s
  | .pointer none, _ => exact .pnil
  | .slice none l c, _ => exact .snil l c
  | .map none, _ => exact .mnil
  | .nilFunc, _ => exact .fnil
  | .nilIface, _ => exact .inil
theorem list_refl {ρ : Ren} {p : Value → Bool} (hp : ∀ v, p v = true → VR ρ v v) : ∀ {l : List Value}, l.all p = true → VRL ρ l l
  | [], _ => VRL.nil ρ
  | v :: l, h => by
    simp only [List.all_cons, Bool.and_eq_true] at h
    exact (list_refl hp h.2).cons (hp v h.1)
theorem VR.flat1 (ρ : Ren) {v : Value} (h : flat1 v = true) : VR ρ v v := by
  match v, h with
  | .agg a, h => have := VRL.toA (list_refl (fun v => VR.flat ρ) h); exact .agg this.1 this.2
  | .iface t v, h => exact .iface (VR.flat ρ h)
  | .bool b, _ => exact .bool b
  | .int k n, _ => exact .int k n
  | .string s, _ => exact .string s
  | .pointer none, _ => exact .pnil
  | .slice none l c, _ => exact .snil l c
  | .map none, _ => exact .mnil
  | .nilFunc, _ => exact .fnil
  | .nilIface, _ => exact .inil
theorem VR.flat2 (ρ : Ren) {v : Value} (h : flat2 v = true) : VR ρ v v := by
  match v, h with
  | .tuple a, h => have := VRL.toA (list_refl (fun v => VR.flat1 ρ) h); exact .tuple this.1 this.2
  | .func fn f c, h =>
    simp only [GEv.flat2, Bool.and_eq_true] at h
    have e := VRL.toA (list_refl (fun v => VR.flat1 ρ) h.1)
    have e' := VRL.toA (list_refl (fun v => VR.flat1 ρ) h.2)
    exact .func e.1 e'.1 e.2 e'.2
  | .agg a, h => exact VR.flat1 ρ h
  | .iface t v, h => exact VR.flat1 ρ h
  | .bool b, _ => exact .bool b
  | .int k n, _ => exact .int k n
  | .string s, _ => exact .string s
  | .pointer none, _ => exact .pnil
  | .slice none l c, _ => exact .snil l c
  | .map none, _ => exact .mnil
  | .nilFunc, _ => exact .fnil
  | .nilIface, _ => exact .inil
theorem VR.undef (ρ : Ren) : VR ρ undef undef := .tuple rfl fun i v v' h => by simp at h

theorem cut_eq {l r : List Value} {off n : Nat} (h : cut l off n = some r) : off + n ≤ l.length ∧ r = (l.drop off).take n := by
  unfold cut at h
  split at h
  · exact ⟨‹_›, by simpa using h.symm⟩
  · cases h
theorem cut_length {l r : List Value} {off n : Nat} (h : cut l off n = some r) : r.length = n := by
  obtain ⟨h1, rfl⟩ := cut_eq h
  simp; omega
theorem VRL.cut {ρ : Ren} {l l' r : List Value} {off n : Nat} (h : VRL ρ l l') (hc : GEv.cut l off n = some r) : ∃ r', GEv.cut l' off n = some r' ∧ VRL ρ r r' := by
  obtain ⟨h1, rfl⟩ := cut_eq hc
  refine ⟨(l'.drop off).take n, ?_, (h.drop off).take n⟩
  unfold GEv.cut
  rw [if_pos (by rw [← h.1]; exact h1)]
theorem over_length {l n : List Value} {off : Nat} (h : off + n.length ≤ l.length) : (over l off n).length = l.length := by
  unfold over; simp; omega
theorem over_nil (l : List Value) (off : Nat) : over l off [] = l := by unfold over; simp
end Go.Proofs.Ytknenadpkgajjaa.GEv
