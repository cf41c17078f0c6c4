/- A map of texts to texts that the call owns, told as a row of pairs (the latest first): made, cloned, asked, written. No program's number stands here. -/
import Derived.Test.YtlbcnklieefhmaaWKept
import Derived.Maps.Own
import Derived.Maps.OwnSet
import Derived.Maps.StringElems
import Derived.Shelf.SlMaps.Clone
import Derived.StringKeys
namespace Go.Proofs.Ytlbcnklieefhmaa.GMap
open Go.RowKit Go.Maps Go.WideMaps

set_option linter.unusedVariables false
def same (a b : ByteArray) : Bool := decide (a.data.toList = b.data.toList)
theorem same_true {a b : ByteArray} (h : a.data.toList = b.data.toList) : same a b = true := decide_eq_true h
theorem same_false {a b : ByteArray} (h : a.data.toList ≠ b.data.toList) : same a b = false := decide_eq_false h
/-- what a row of pairs says of a key: the latest one counts. -/
def lk : List (ByteArray × ByteArray) → ByteArray → Option ByteArray
  | [], _ => none
  | p :: K, s => if same p.1 s = true then some p.2 else lk K s
theorem lk_hit (K : List (ByteArray × ByteArray)) (s v s' : ByteArray) (h : s.data.toList = s'.data.toList) : lk ((s, v) :: K) s' = some v := by
  show (if same s s' = true then some v else lk K s') = some v
  rw [if_pos (same_true h)]
theorem lk_other (K : List (ByteArray × ByteArray)) (s v s' : ByteArray) (h : s.data.toList ≠ s'.data.toList) : lk ((s, v) :: K) s' = lk K s' := by
  show (if same s s' = true then some v else lk K s') = lk K s'
  rw [if_neg (by rw [same_false h]; decide)]

structure MapSS (P : Program) (k e : TypeId) (w : World) (b : Nat) (K : List (ByteArray × ByteArray)) : Prop where
  mk :: (out : ∃ D : DataW Unit, w.ownsMap P k (plainElem P e) b K.length D ∧ Maps.IsMap D ∧
    ∀ s : ByteArray, s.size ≤ maxLen → (∀ zd, D.atKey (.string s.data.toList) zd = (match lk K s with | some v => .lit (.string v.data.toList) | none => zd)) ∧ Maps.has D (.string s.data.toList) = (lk K s).isSome)

variable {P : Program} {k e : TypeId} {w : World} {b : Nat} {K : List (ByteArray × ByteArray)}

theorem MapSS.lt (h : MapSS P k e w b K) : b < w.heap.size := by
  obtain ⟨D, h1, _⟩ := h.out
  exact h1.lt
theorem MapSS.kept {w' : World} {row : Option Nat} (h : MapSS P k e w b K) (hg : w.grownBy w' row) (hne : some b ≠ row) : MapSS P k e w' b K := by
  obtain ⟨D, h1, h2⟩ := h.out
  exact ⟨⟨D, h1.kept hg hne, h2⟩⟩
theorem MapSS.alloc (h : MapSS P k e w b K) (o : Obj) : MapSS P k e (w.alloc o) b K := by
  obtain ⟨D, h1, h2⟩ := h.out
  exact ⟨⟨D, h1.alloc o, h2⟩⟩
theorem MapSS.drewN (h : MapSS P k e w b K) (n : Nat) : MapSS P k e (w.drewN n) b K := ⟨h.out⟩
theorem MapSS.drew (h : MapSS P k e w b K) : MapSS P k e w.drew b K := ⟨h.out⟩
theorem MapSS.setCell (h : MapSS P k e w b K) {a : Addr} (ha : b ≠ a.block) (u : Value) : MapSS P k e (w.setCell a u) b K := by
  obtain ⟨D, h1, h2⟩ := h.out
  exact ⟨⟨D, h1.setCell ha u, h2⟩⟩
theorem MapSS.block {w' : World} (h : MapSS P k e w b K) (hb : w'.heap[b]? = w.heap[b]?) : MapSS P k e w' b K := by
  obtain ⟨D, ⟨es, clock, hh, F, hs, hD⟩, h2⟩ := h.out
  exact ⟨⟨D, ⟨es, clock, hb.trans hh, F, hs, hD⟩, h2⟩⟩
theorem MapSS.below {w' : World} (h : MapSS P k e w b K) (hb : Below w.heap.size w w') : MapSS P k e w' b K := h.block (hb.block b h.lt)
theorem MapSS.ne (h : MapSS P k e w b K) {g : Nat} {cs : Array Value} {t : TypeId} {q : Nat × Nat} (hg : w.heap[g]? = some (.cells cs t q)) : g ≠ b := by
  rintro rfl
  obtain ⟨D, ⟨es, clock, hh, _⟩, _⟩ := h.out
  rw [hg] at hh
  cases hh
theorem MapSS.made (w : World) : MapSS P k e (w.alloc (.map #[] 0)) w.heap.size [] :=
  ⟨⟨.map [], World.ownsMap_made w P k (plainElem P e), Maps.isMap_empty, fun s _ => ⟨fun zd => rfl, rfl⟩⟩⟩

/-- what the row says is what the datum says, behind a store. -/
theorem says_put {D : DataW Unit} (hk : P.underlying k = some .string) (hD : Maps.IsMap D) (s v : ByteArray)
    (h : ∀ s : ByteArray, s.size ≤ maxLen → (∀ zd, D.atKey (.string s.data.toList) zd = (match lk K s with | some v => .lit (.string v.data.toList) | none => zd)) ∧ Maps.has D (.string s.data.toList) = (lk K s).isSome) :
    ∀ s' : ByteArray, s'.size ≤ maxLen → (∀ zd, (D.put (.string s.data.toList) (.lit (.string v.data.toList))).atKey (.string s'.data.toList) zd = (match lk ((s, v) :: K) s' with | some v => .lit (.string v.data.toList) | none => zd)) ∧ Maps.has (D.put (.string s.data.toList) (.lit (.string v.data.toList))) (.string s'.data.toList) = (lk ((s, v) :: K) s').isSome := by
  intro s' hs'
  have hkey : WideAt.IsKeyLit (.string s.data.toList : Lit) := by trivial
  by_cases e : s.data.toList = s'.data.toList
  · have e2 : lk ((s, v) :: K) s' = some v := lk_hit K s v s' e
    rw [e2, ← e]
    exact ⟨fun zd => Maps.atKey_put_same hD hkey _ _, by rw [Maps.has_put_same hD hkey]; rfl⟩
  · have hne : (Lit.string s'.data.toList : Lit) ≠ .string s.data.toList := fun h => e (by injection h with h; exact h.symm)
    rw [lk_other K s v s' e]
    exact ⟨fun zd => by rw [Maps.atKey_put_other hne]; exact (h s' hs').1 zd, by rw [Maps.has_put_other hne]; exact (h s' hs').2⟩

section
variable {ops : Array Oper} {rest : List Oper} {o : Oper} {a : Act} {Q : Exit → Act → World → Prop}
theorem wp_update (hg : o.guard = none) (m x v : Operand) (t : TypeId) (hop : o.op = Op.mapUpdate t m x v) (ht : P.underlying t = some (.map k e)) (hk : P.underlying k = some .string) (he : P.underlying e = some .string)
    (H : MapSS P k e w b K) (hm : a.eval m = .map (some b)) (s u : ByteArray) (hx : a.eval x = .string s) (hv : a.eval v = .string u) (hs : s.size ≤ maxLen) (hu : u.size ≤ maxLen) (hn : K.length < maxLen)
    (hK : ∀ w', MapSS P k e w' b ((s, u) :: K) → w.grownBy w' (some b) → wpList P ops Q rest (a.put o.dst undef) w') :
    wpList P ops Q (o :: rest) a w := by
  obtain ⟨D, h1, hD, h2⟩ := H.out
  refine wpList_mapUpdate_own w hg m x v t hop k e (string_keyed hk) ht (plainElem P e) b K.length D hm h1 hn (.string s) (.string u) (.string s.data.toList) hx hv (keyOf_string_mk hk hs) (.lit (.string u.data.toList)) [] (plainElem_string he hu) ?_
  intro w' h3 h4
  exact hK w' ⟨⟨_, h3, hD.put _ _, says_put hk hD s u h2⟩⟩ h4
theorem MapSS.run_update (t : TypeId) (ht : P.underlying t = some (.map k e)) (hk : P.underlying k = some .string) (he : P.underlying e = some .string) (H : MapSS P k e w b K) (s u : ByteArray) (hs : s.size ≤ maxLen) (hu : u.size ≤ maxLen) (hn : K.length < maxLen) :
    ∃ w', (Instr.mapUpdate t (.map (some b)) (.string s) (.string u)).run P w = .ok () w' ∧ MapSS P k e w' b ((s, u) :: K) ∧ w.grownBy w' (some b) := by
  obtain ⟨D, h1, hD, h2⟩ := H.out
  obtain ⟨w', hrun, r1, r2⟩ := h1.update (string_keyed hk) ht hn (keyOf_string_mk hk hs) (plainElem_string he hu)
  exact ⟨w', hrun, ⟨⟨_, r1, hD.put _ _, says_put hk hD s u h2⟩⟩, r2⟩
theorem wp_lookup (hg : o.guard = none) (m x : Operand) (t : TypeId) (hop : o.op = Op.lookup t m x true) (ht : P.underlying t = some (.map k e)) (hk : P.underlying k = some .string) (he : P.underlying e = some .string)
    (hz : (zeroValue e).run P w = .ok (.string ⟨#[]⟩) w) (H : MapSS P k e w b K) (hm : a.eval m = .map (some b)) (s : ByteArray) (hx : a.eval x = .string s) (hs : s.size ≤ maxLen)
    (hK : wpList P ops Q rest (a.put o.dst (.tuple #[.string ((lk K s).getD ⟨#[]⟩), .bool (lk K s).isSome])) w) :
    wpList P ops Q (o :: rest) a w := by
  obtain ⟨D, h1, hD, h2⟩ := H.out
  refine wpList_lookup_own_ok w hg m x t hop k e (string_keyed hk) ht (plainElem P e) hz (.lit (.string [])) [] (plainElem_string he (by decide)) b K.length D hm h1 (.string s) (.string s.data.toList) hx (keyOf_string_mk hk hs) ?_
  intro v ps hv
  obtain ⟨u, rfl, hu, _⟩ := plainElem_string_inv he hv
  rw [(h2 s hs).2]
  have e1 := congrArg Prod.fst hu
  have e1 : D.atKey (.string s.data.toList) (.lit (.string [])) = .lit (.string u.data.toList) := e1
  rw [(h2 s hs).1] at e1
  have e2 : u = (lk K s).getD ⟨#[]⟩ := by
    cases hl : lk K s with
    | none => rw [hl] at e1; injection e1 with e1; injection e1 with e1; obtain ⟨⟨l⟩⟩ := u; simp at e1; subst e1; rfl
    | some y => rw [hl] at e1; injection e1 with e1; injection e1 with e1; obtain ⟨⟨l⟩⟩ := u; obtain ⟨⟨l'⟩⟩ := y; simp at e1; subst e1; rfl
  rw [← e2] at hK
  exact hK
end
end Go.Proofs.Ytlbcnklieefhmaa.GMap
