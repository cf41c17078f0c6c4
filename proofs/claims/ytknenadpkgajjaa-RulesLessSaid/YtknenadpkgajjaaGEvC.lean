/- The evaluator's soundness, second part: its memory and the model's; what a step may turn. -/
import Derived.Test.YtknenadpkgajjaaGEvB
namespace Go.Proofs.Ytknenadpkgajjaa.GEv
open Go
set_option linter.unusedSimpArgs false
set_option linter.unusedVariables false

/-! ### maps -/
def ER (ρ : Ren) (e e' : MapEntry) : Prop := flat1 e.key = true ∧ e'.key = e.key ∧ e'.born = e.born ∧ VR ρ e.val e'.val
def ERL (ρ : Ren) (l l' : List MapEntry) : Prop := l.length = l'.length ∧ ∀ (i : Nat) (e e' : MapEntry), l[i]? = some e → l'[i]? = some e' → ER ρ e e'
theorem ER.mono {ρ ρ' : Ren} (hs : Sub ρ ρ') {e e' : MapEntry} (h : ER ρ e e') : ER ρ' e e' := ⟨h.1, h.2.1, h.2.2.1, h.2.2.2.mono hs⟩
theorem ERL.mono {ρ ρ' : Ren} (hs : Sub ρ ρ') {l l' : List MapEntry} (h : ERL ρ l l') : ERL ρ' l l' := ⟨h.1, fun i e e' a b => (h.2 i e e' a b).mono hs⟩
theorem ERL.nil (ρ : Ren) : ERL ρ [] [] := ⟨rfl, fun i e e' h => by simp at h⟩
theorem ERL.cons {ρ : Ren} {e e' : MapEntry} {l l' : List MapEntry} (h : ER ρ e e') (hl : ERL ρ l l') : ERL ρ (e :: l) (e' :: l') := by
  refine ⟨by simp [hl.1], fun i a b ha hb => ?_⟩
  cases i with
  | zero => simp at ha hb; subst ha; subst hb; exact h
  | succ i => simp at ha hb; exact hl.2 i a b ha hb
theorem ERL.uncons {ρ : Ren} {e : MapEntry} {l m : List MapEntry} (h : ERL ρ (e :: l) m) : ∃ e' l', m = e' :: l' ∧ ER ρ e e' ∧ ERL ρ l l' := by
  obtain ⟨h1, h2⟩ := h
  cases m with
  | nil => simp at h1
  | cons e' l' => exact ⟨e', l', rfl, h2 0 e e' rfl rfl, by simpa using h1, fun i a b ha hb => h2 (i + 1) a b (by simpa using ha) (by simpa using hb)⟩
theorem ERL.eq_nil {ρ : Ren} {m : List MapEntry} (h : ERL ρ [] m) : m = [] := by
  cases m with
  | nil => rfl
  | cons _ _ => have := h.1; simp at this
theorem ERL.append {ρ : Ren} : ∀ {l l' m m' : List MapEntry}, ERL ρ l l' → ERL ρ m m' → ERL ρ (l ++ m) (l' ++ m')
  | [], l', m, m', h, k => by rw [h.eq_nil]; exact k
  | v :: l, l', m, m', h, k => by
    obtain ⟨v', l'', rfl, hv, hl⟩ := h.uncons
    exact (hl.append k).cons hv

/-! ### a block -/
def MatchC (ρ : Ren) (c : List Value) (el : Option TypeId) (full : Bool) (fz : Nat) (o : Obj) (s z : Nat) : Prop :=
  ∃ (c' : Array Value) (e : TypeId) (f : Nat × Nat), o = .cells c' e f ∧ c'.size = z ∧ (∀ e', el = some e' → e = e') ∧ s + c.length ≤ z ∧ (full = true → s = 0 ∧ c.length = z) ∧
    (∀ i, f.1 ≤ s + i → s + i < f.2 → s + i < z → i < fz) ∧ VRL ρ c ((c'.toList.drop s).take c.length)
def Match (ρ : Ren) : AObj → Obj → Nat → Nat → Prop
  | .cells c el full fz, o, s, z => MatchC ρ c el full fz o s z
  | .map es clock, o, _, _ => ∃ es' : Array MapEntry, o = .map es' clock ∧ ERL ρ es es'.toList
  | .iter str pos, o, s, _ => o = .stringIter str pos ∧ s = 0
theorem Match.mono {ρ ρ' : Ren} (hs : Sub ρ ρ') {a : AObj} {o : Obj} {s z : Nat} (h : Match ρ a o s z) : Match ρ' a o s z := by
  cases a with
  | cells c el full fz =>
    obtain ⟨c', e, f, h1, h2, h3, h4, h5, h6, h7⟩ := h
    exact ⟨c', e, f, h1, h2, h3, h4, h5, h6, h7.mono hs⟩
  | map es clock =>
    obtain ⟨es', h1, h2⟩ := h
    exact ⟨es', h1, h2.mono hs⟩
  | iter str pos => exact h

/-! ### the memory -/
structure GOK (ρ : Ren) (w : World) : Prop where
  wok : WOK w
  size : GN ≤ w.heap.size
  hi : ∀ b c s z, ρ b = some (c, s, z) → GN ≤ c
theorem GOK.sub {ρ ρ' : Ren} {w : World} (hs : Sub ρ ρ') (g : GOK ρ' w) : GOK ρ w := ⟨g.wok, g.size, fun b c s z e => g.hi b c s z (hs _ _ e)⟩
theorem GOK.heap {ρ : Ren} {w w' : World} (g : GOK ρ w) (hsz : w.heap.size ≤ w'.heap.size) (hf : ∀ c, c < GN → w'.heap[c]? = w.heap[c]?) : GOK ρ w' := ⟨g.wok.frame hf, Nat.le_trans g.size hsz, g.hi⟩
structure Rel (ρ : Ren) (h : H) (w : World) : Prop where
  wf : ∀ b, h.next ≤ b → h.m.get b = none
  dom : ∀ b c s z, ρ b = some (c, s, z) → c < w.heap.size
  ok : ∀ b obj c s z, h.m.get b = some obj → ρ b = some (c, s, z) → ∃ o, w.heap[c]? = some o ∧ Match ρ obj o s z
  inj : ∀ b b' c c' s s' z z', b ≠ b' → ρ b = some (c, s, z) → ρ b' = some (c', s', z') → h.m.get b ≠ none → h.m.get b' ≠ none → c ≠ c'
  glob : GOK ρ w

structure Ext (ρ ρ' : Ren) (h h' : H) (w w' : World) : Prop where
  sub : Sub ρ ρ'
  new : ∀ b c s z, ρ' b = some (c, s, z) → ρ b = some (c, s, z) ∨
    (h.next ≤ b ∧ b < h'.next ∧ (w.heap.size ≤ c ∨ ∃ b0 s0 z0, h'.low ≤ b0 ∧ b0 < h.next ∧ h.m.get b0 ≠ none ∧ ρ b0 = some (c, s0, z0)))
  next : h.next ≤ h'.next
  low : h'.low ≤ h.low
  size : w.heap.size ≤ w'.heap.size
  os : w'.os = w.os
  tape : w'.tape = w.tape
  output : w'.output = w.output
  frame : ∀ c, c < w.heap.size → (∀ b c' s z, h'.low ≤ b → b < h.next → h.m.get b ≠ none → ρ b = some (c', s, z) → c' ≠ c) → w'.heap[c]? = w.heap[c]?
  keep : ∀ b, b < h.next → b < h'.low → h'.m.get b = h.m.get b
  dead : ∀ b, b < h.next → h.m.get b = none → h'.m.get b = none

theorem Ext.refl (ρ : Ren) (h : H) (w : World) : Ext ρ ρ h h w w :=
  ⟨Sub.refl ρ, fun _ _ _ _ e => .inl e, Nat.le_refl _, Nat.le_refl _, Nat.le_refl _, rfl, rfl, rfl, fun _ _ _ => rfl, fun _ _ _ => rfl, fun _ _ e => e⟩
/-- Another count of draws. -/
theorem Rel.world {ρ : Ren} {h : H} {w w' : World} (hR : Rel ρ h w) (hh : w'.heap = w.heap) : Rel ρ h w' :=
  ⟨hR.wf, fun b c s z e => by rw [hh]; exact hR.dom b c s z e, fun b obj c s z e e' => by rw [hh]; exact hR.ok b obj c s z e e', hR.inj, hR.glob.heap (by rw [hh]; exact Nat.le_refl _) (fun c _ => by rw [hh])⟩
theorem Ext.world {ρ : Ren} {h : H} {w w' : World} (hh : w'.heap = w.heap) (ho : w'.os = w.os) (ht : w'.tape = w.tape) (hp : w'.output = w.output) : Ext ρ ρ h h w w' :=
  ⟨Sub.refl ρ, fun _ _ _ _ e => .inl e, Nat.le_refl _, Nat.le_refl _, by rw [hh]; exact Nat.le_refl _, ho, ht, hp, fun _ _ _ => by rw [hh], fun _ _ _ => rfl, fun _ _ e => e⟩
theorem Rel.lowTo {ρ : Ren} {h : H} {w : World} (hR : Rel ρ h w) (n : Nat) : Rel ρ { h with low := n } w := ⟨hR.wf, hR.dom, hR.ok, hR.inj, hR.glob⟩

/-- These numbers are not taken. -/
def Fr (ρ : Ren) (n m : Nat) : Prop := ∀ b, n ≤ b → b < m → ρ b = none
theorem Fr.sub {ρ : Ren} {n m n' m' : Nat} (h : Fr ρ n m) (h1 : n ≤ n') (h2 : m' ≤ m) : Fr ρ n' m' := fun b p q => h b (Nat.le_trans h1 p) (Nat.lt_of_lt_of_le q h2)
theorem Ext.fr {ρ ρ1 : Ren} {h h1 : H} {w w1 : World} {m : Nat} (a : Ext ρ ρ1 h h1 w w1) (hF : Fr ρ h.next m) : Fr ρ1 h1.next m := by
  intro b p q
  cases e : ρ1 b with
  | none => rfl
  | some x =>
    obtain ⟨c, s, z⟩ := x
    rcases a.new b c s z e with e0 | ⟨_, hn, _⟩
    · rw [hF b (Nat.le_trans a.next p) q] at e0; cases e0
    · omega
theorem Ext.trans {ρ ρ1 ρ2 : Ren} {h h1 h2 : H} {w w1 w2 : World} (hF : Fr ρ h.next h2.next) (hR1 : Rel ρ1 h1 w1) (a : Ext ρ ρ1 h h1 w w1) (b : Ext ρ1 ρ2 h1 h2 w1 w2) : Ext ρ ρ2 h h2 w w2 := by
  have live : ∀ x, x < h.next → h1.m.get x ≠ none → h.m.get x ≠ none := fun x hx hl e => hl (a.dead x hx e)
  have back : ∀ x c s z, h2.low ≤ x → h1.m.get x ≠ none → ρ1 x = some (c, s, z) → w.heap.size ≤ c ∨ ∃ b0 s0 z0, h2.low ≤ b0 ∧ b0 < h.next ∧ h.m.get b0 ≠ none ∧ ρ b0 = some (c, s0, z0) := by
    intro x c s z hl hx e
    rcases a.new x c s z e with e0 | ⟨hn, _, hc⟩
    · have hlt1 : x < h1.next := by
        rcases Nat.lt_or_ge x h1.next with q | q
        · exact q
        · exact absurd (hR1.wf x q) hx
      have hlt : x < h.next := by
        rcases Nat.lt_or_ge x h.next with q | q
        · exact q
        · rw [hF x q (Nat.lt_of_lt_of_le hlt1 b.next)] at e0; cases e0
      exact .inr ⟨x, s, z, hl, hlt, live x hlt hx, e0⟩
    · rcases hc with hc | ⟨b0, s0, z0, q1, q2, q3, q4⟩
      · exact .inl hc
      · exact .inr ⟨b0, s0, z0, Nat.le_trans b.low q1, q2, q3, q4⟩
  refine ⟨a.sub.trans b.sub, ?_, Nat.le_trans a.next b.next, Nat.le_trans b.low a.low, Nat.le_trans a.size b.size, b.os.trans a.os, b.tape.trans a.tape, b.output.trans a.output, ?_, ?_, ?_⟩
  · intro x c s z e
    rcases b.new x c s z e with e1 | ⟨hn, hn2, hc⟩
    · rcases a.new x c s z e1 with e0 | ⟨hn, hn2, hc⟩
      · exact .inl e0
      · refine .inr ⟨hn, Nat.lt_of_lt_of_le hn2 b.next, ?_⟩
        rcases hc with hc | ⟨b0, s0, z0, h1, h2, h3, h4⟩
        · exact .inl hc
        · exact .inr ⟨b0, s0, z0, Nat.le_trans b.low h1, h2, h3, h4⟩
    · refine .inr ⟨Nat.le_trans a.next hn, hn2, ?_⟩
      rcases hc with hc | ⟨b0, s0, z0, h1', h2', h3, h4⟩
      · exact .inl (Nat.le_trans a.size hc)
      · exact back b0 c s0 z0 h1' h3 h4
  · intro c hc hno
    rw [b.frame c (Nat.lt_of_lt_of_le hc a.size) ?_, a.frame c hc fun x c' s z hl hx hv e => hno x c' s z (Nat.le_trans b.low hl) hx hv e]
    intro x c' s z hl hx hv e
    rcases back x c' s z hl hv e with hc' | ⟨b0, s0, z0, q1, q2, q3, q4⟩
    · omega
    · exact hno b0 c' s0 z0 q1 q2 q3 q4
  · intro x hx hl
    rw [b.keep x (Nat.lt_of_lt_of_le hx a.next) hl, a.keep x hx (Nat.lt_of_lt_of_le hl b.low)]
  · intro x hx e
    exact b.dead x (Nat.lt_of_lt_of_le hx a.next) (a.dead x hx e)

/-! ### steps -/
theorem GOK.upd {ρ : Ren} {w w' : World} (g : GOK ρ w) {b c s z : Nat} (hb : ρ b = some (c, s, z)) (hk : ∀ k, k ≠ c → w'.heap[k]? = w.heap[k]?) (hsz : w'.heap.size = w.heap.size) : GOK ρ w' :=
  g.heap (by omega) fun k hk' => hk k fun e => by have := g.hi b c s z hb; omega
def rput (ρ : Ren) (b : Nat) (x : Nat × Nat × Nat) : Ren := fun k => if k = b then some x else ρ k
theorem rput_self (ρ : Ren) (b : Nat) (x : Nat × Nat × Nat) : rput ρ b x b = some x := by simp [rput]
theorem rput_ne (ρ : Ren) {b k : Nat} (x : Nat × Nat × Nat) (h : k ≠ b) : rput ρ b x k = ρ k := by simp [rput, h]
theorem sub_rput {ρ : Ren} {b : Nat} (x : Nat × Nat × Nat) (h : ρ b = none) : Sub ρ (rput ρ b x) := by
  intro k y e
  unfold rput
  split
  · rename_i hk; subst hk; rw [h] at e; cases e
  · exact e
theorem put_get (h : H) (b : Nat) (o : Option AObj) (k : Nat) : (h.put b o).m.get k = if k = b then o else h.m.get k := U.get_set _ _ _ _
theorem push_get (h : H) (o : AObj) (k : Nat) : (h.push o).m.get k = if k = h.next then some o else h.m.get k := U.get_set _ _ _ _
theorem put_next (h : H) (b : Nat) (o : Option AObj) : (h.put b o).next = h.next := rfl
theorem put_low (h : H) (b : Nat) (o : Option AObj) : (h.put b o).low = if b < h.low then b else h.low := rfl
theorem put_low_le (h : H) (b : Nat) (o : Option AObj) : (h.put b o).low ≤ b ∧ (h.put b o).low ≤ h.low := by
  rw [put_low]; split <;> omega
theorem push_next (h : H) (o : AObj) : (h.push o).next = h.next + 1 := rfl
theorem push_low (h : H) (o : AObj) : (h.push o).low = h.low := rfl

theorem GOK.push {ρ : Ren} {w w' : World} {o : Obj} (g : GOK ρ w) (b s z : Nat) (hh : w'.heap = w.heap.push o) : GOK (rput ρ b (w.heap.size, s, z)) w' := by
  have := g.size
  refine ⟨g.wok.frame fun c hc => by rw [hh, Array.getElem?_push, if_neg (by omega)], by rw [hh]; simp; omega, fun k c s' z' e => ?_⟩
  by_cases q : k = b
  · subst q; rw [rput_self] at e; simp only [Option.some.injEq, Prod.mk.injEq] at e; omega
  · rw [rput_ne _ _ q] at e; exact g.hi k c s' z' e
theorem GOK.put {ρ : Ren} {w : World} (g : GOK ρ w) {b0 c s z : Nat} (hb : ρ b0 = some (c, s, z)) (b s2 z2 : Nat) : GOK (rput ρ b (c, s2, z2)) w := by
  refine ⟨g.wok, g.size, fun k c' s' z' e => ?_⟩
  by_cases q : k = b
  · subst q; rw [rput_self] at e; simp only [Option.some.injEq, Prod.mk.injEq] at e; rw [← e.1]; exact g.hi b0 c s z hb
  · rw [rput_ne _ _ q] at e; exact g.hi k c' s' z' e
/-- A new block. -/
theorem Rel.push {ρ : Ren} {h : H} {w w' : World} (hR : Rel ρ h w) (hf : ρ h.next = none) (obj : AObj) (o : Obj) (s z : Nat) (hm : Match ρ obj o s z)
    (hh : w'.heap = w.heap.push o) (ho : w'.os = w.os) (ht : w'.tape = w.tape) (hp : w'.output = w.output) :
    Rel (rput ρ h.next (w.heap.size, s, z)) (h.push obj) w' ∧ Ext ρ (rput ρ h.next (w.heap.size, s, z)) h (h.push obj) w w' := by
  have hs := sub_rput (w.heap.size, s, z) hf
  have hold : ∀ c, c < w.heap.size → w'.heap[c]? = w.heap[c]? := fun c hc => by rw [hh, Array.getElem?_push, if_neg (by omega)]
  have hsz : w'.heap.size = w.heap.size + 1 := by rw [hh]; simp
  refine ⟨⟨?_, ?_, ?_, ?_, hR.glob.push _ _ _ hh⟩, ⟨hs, ?_, by rw [push_next]; omega, Nat.le_refl _, by omega, ho, ht, hp, fun c hc _ => hold c hc, ?_, ?_⟩⟩
  · intro b hb
    rw [push_next] at hb
    rw [push_get, if_neg (by omega)]
    exact hR.wf b (by omega)
  · intro b c s' z' e
    rw [hsz]
    by_cases hb : b = h.next
    · subst hb; rw [rput_self] at e; simp at e; omega
    · rw [rput_ne _ _ hb] at e
      have := hR.dom b c s' z' e
      omega
  · intro b obj' c s' z' hg e
    rw [push_get] at hg
    by_cases hb : b = h.next
    · subst hb
      rw [rput_self] at e
      simp only [Option.some.injEq, Prod.mk.injEq] at e
      obtain ⟨rfl, rfl, rfl⟩ := e
      rw [if_pos rfl] at hg
      cases hg
      exact ⟨o, by rw [hh]; simp, hm.mono hs⟩
    · rw [if_neg hb] at hg
      rw [rput_ne _ _ hb] at e
      obtain ⟨o', h1, h2⟩ := hR.ok b obj' c s' z' hg e
      exact ⟨o', by rw [hold c (hR.dom b c s' z' e)]; exact h1, h2.mono hs⟩
  · intro b b' c c' s1 s2 z1 z2 hne e e' hl hl'
    rw [push_get] at hl hl'
    by_cases hb : b = h.next
    · have hb' : b' ≠ h.next := fun x => hne (hb.trans x.symm)
      subst hb
      rw [rput_self] at e
      rw [rput_ne _ _ hb'] at e'
      have := (hR.dom b' c' s2 z2 e')
      simp only [Option.some.injEq, Prod.mk.injEq] at e
      omega
    · rw [rput_ne _ _ hb] at e
      rw [if_neg hb] at hl
      by_cases hb' : b' = h.next
      · subst hb'
        rw [rput_self] at e'
        have := (hR.dom b c s1 z1 e)
        simp only [Option.some.injEq, Prod.mk.injEq] at e'
        omega
      · rw [rput_ne _ _ hb'] at e'
        rw [if_neg hb'] at hl'
        exact hR.inj b b' c c' s1 s2 z1 z2 hne e e' hl hl'
  · intro b c s' z' e
    by_cases hb : b = h.next
    · subst hb
      rw [rput_self] at e
      simp only [Option.some.injEq, Prod.mk.injEq] at e
      exact .inr ⟨Nat.le_refl _, by rw [push_next]; omega, .inl (by omega)⟩
    · rw [rput_ne _ _ hb] at e
      exact .inl e
  · intro b hb _
    rw [push_get, if_neg (by omega)]
  · intro b hb e
    rw [push_get, if_neg (by omega)]; exact e

/-- A block is written (one that is there and known). -/
theorem Rel.upd {ρ : Ren} {h : H} {w w' : World} (hR : Rel ρ h w) {b c s z : Nat} (obj : AObj) (o : Obj) (hl : h.m.get b ≠ none) (hb : ρ b = some (c, s, z))
    (hm : Match ρ obj o s z) (hc : w'.heap[c]? = some o) (hk : ∀ k, k ≠ c → w'.heap[k]? = w.heap[k]?) (hsz : w'.heap.size = w.heap.size)
    (ho : w'.os = w.os) (ht : w'.tape = w.tape) (hp : w'.output = w.output) :
    Rel ρ (h.put b (some obj)) w' ∧ Ext ρ ρ h (h.put b (some obj)) w w' := by
  have hlt : b < h.next := by
    rcases Nat.lt_or_ge b h.next with q | q
    · exact q
    · exact absurd (hR.wf b q) hl
  refine ⟨⟨?_, ?_, ?_, ?_, hR.glob.upd hb hk hsz⟩, ⟨Sub.refl ρ, fun _ _ _ _ e => .inl e, Nat.le_refl _, (put_low_le _ _ _).2, by omega, ho, ht, hp, ?_, ?_, ?_⟩⟩
  · intro k hk'
    rw [put_next] at hk'
    rw [put_get, if_neg (by omega)]
    exact hR.wf k hk'
  · intro k c' s' z' e
    rw [hsz]
    exact hR.dom k c' s' z' e
  · intro k obj' c' s' z' hg e
    rw [put_get] at hg
    by_cases hkb : k = b
    · subst hkb
      rw [if_pos rfl] at hg
      cases hg
      rw [hb] at e
      simp only [Option.some.injEq, Prod.mk.injEq] at e
      obtain ⟨rfl, rfl, rfl⟩ := e
      exact ⟨o, hc, hm⟩
    · rw [if_neg hkb] at hg
      obtain ⟨o', h1, h2⟩ := hR.ok k obj' c' s' z' hg e
      have hne := hR.inj k b c' c s' s z' z hkb e hb (by rw [hg]; simp) hl
      exact ⟨o', by rw [hk c' hne]; exact h1, h2⟩
  · intro k k' c1 c2 s1 s2 z1 z2 hne e e' hl1 hl2
    refine hR.inj k k' c1 c2 s1 s2 z1 z2 hne e e' ?_ ?_
    · rw [put_get] at hl1
      split at hl1
      · rename_i q; rw [q]; exact hl
      · exact hl1
    · rw [put_get] at hl2
      split at hl2
      · rename_i q; rw [q]; exact hl
      · exact hl2
  · intro k hk' hno
    refine hk k fun e => ?_
    exact hno b c s z (put_low_le _ _ _).1 hlt hl hb e.symm
  · intro k hk' hlow
    rw [put_get, if_neg (by have := (put_low_le h b (some obj)).1; omega)]
  · intro k hk' e
    rw [put_get]
    split
    · rename_i q; subst q; exact absurd e hl
    · exact e

/-- A block that is not to be looked at any more. -/
theorem Rel.kill {ρ : Ren} {h : H} {w : World} (hR : Rel ρ h w) (b : Nat) : Rel ρ (h.put b none) w ∧ Ext ρ ρ h (h.put b none) w w := by
  refine ⟨⟨?_, hR.dom, ?_, ?_, hR.glob⟩, ⟨Sub.refl ρ, fun _ _ _ _ e => .inl e, Nat.le_refl _, (put_low_le _ _ _).2, Nat.le_refl _, rfl, rfl, rfl, fun _ _ _ => rfl, ?_, ?_⟩⟩
  · intro k hk
    rw [put_get]
    split
    · rfl
    · exact hR.wf k hk
  · intro k obj c s z hg e
    rw [put_get] at hg
    split at hg
    · cases hg
    · exact hR.ok k obj c s z hg e
  · intro k k' c1 c2 s1 s2 z1 z2 hne e e' hl1 hl2
    refine hR.inj k k' c1 c2 s1 s2 z1 z2 hne e e' ?_ ?_
    · rw [put_get] at hl1; split at hl1
      · exact absurd rfl hl1
      · exact hl1
    · rw [put_get] at hl2; split at hl2
      · exact absurd rfl hl2
      · exact hl2
  · intro k hk hlow
    rw [put_get, if_neg (by have := (put_low_le h b none).1; omega)]
  · intro k hk e
    rw [put_get]
    split
    · rfl
    · exact e

/-- A block turns and is not to be looked at any more. -/
theorem Rel.dead {ρ : Ren} {h : H} {w w' : World} (hR : Rel ρ h w) {b c s z : Nat} (hl : h.m.get b ≠ none) (hb : ρ b = some (c, s, z))
    (hk : ∀ k, k ≠ c → w'.heap[k]? = w.heap[k]?) (hsz : w'.heap.size = w.heap.size) (ho : w'.os = w.os) (ht : w'.tape = w.tape) (hp : w'.output = w.output) :
    Rel ρ (h.put b none) w' ∧ Ext ρ ρ h (h.put b none) w w' := by
  have hlt : b < h.next := by
    rcases Nat.lt_or_ge b h.next with q | q
    · exact q
    · exact absurd (hR.wf b q) hl
  obtain ⟨r, x⟩ := hR.kill b
  refine ⟨⟨r.wf, fun k c' s' z' e => by rw [hsz]; exact hR.dom k c' s' z' e, fun k obj c' s' z' hg e => ?_, r.inj, hR.glob.upd hb hk hsz⟩, ⟨x.sub, x.new, x.next, x.low, by omega, ho, ht, hp, fun k hk' hno => ?_, x.keep, x.dead⟩⟩
  · rw [put_get] at hg
    split at hg
    · cases hg
    · rename_i q
      obtain ⟨o', h1, h2⟩ := hR.ok k obj c' s' z' hg e
      have hne := hR.inj k b c' c s' s z' z q e hb (by rw [hg]; simp) hl
      exact ⟨o', by rw [hk c' hne]; exact h1, h2⟩
  · exact hk k fun e => hno b c s z (put_low_le _ _ _).1 hlt hl hb e.symm

/-- A block gives its place to a new one. -/
theorem Rel.share {ρ : Ren} {h : H} {w w' : World} (hR : Rel ρ h w) (hf : ρ h.next = none) {b c s z : Nat} (obj : AObj) (o : Obj) (s2 : Nat) (hl : h.m.get b ≠ none) (hb : ρ b = some (c, s, z))
    (hm : Match ρ obj o s2 z) (hc : w'.heap[c]? = some o) (hk : ∀ k, k ≠ c → w'.heap[k]? = w.heap[k]?) (hsz : w'.heap.size = w.heap.size)
    (ho : w'.os = w.os) (ht : w'.tape = w.tape) (hp : w'.output = w.output) :
    Rel (rput ρ h.next (c, s2, z)) ((h.put b none).push obj) w' ∧ Ext ρ (rput ρ h.next (c, s2, z)) h ((h.put b none).push obj) w w' := by
  have hd := hR.dom b c s z hb
  have hlt : b < h.next := by
    rcases Nat.lt_or_ge b h.next with q | q
    · exact q
    · exact absurd (hR.wf b q) hl
  have hs := sub_rput (c, s2, z) hf
  have hnx : (h.put b none).next = h.next := rfl
  have hget : ∀ k, ((h.put b none).push obj).m.get k = if k = h.next then some obj else if k = b then none else h.m.get k := fun k => by
    rw [push_get, put_get, hnx]
  refine ⟨⟨?_, ?_, ?_, ?_, (hR.glob.upd hb hk hsz).put hb _ _ _⟩, ⟨hs, ?_, by rw [push_next, hnx]; omega, (put_low_le h b none).2, by omega, ho, ht, hp, ?_, ?_, ?_⟩⟩
  · intro k hk'
    rw [push_next, hnx] at hk'
    rw [hget, if_neg (by omega), if_neg (by omega)]
    exact hR.wf k (by omega)
  · intro k c' s' z' e
    rw [hsz]
    by_cases q : k = h.next
    · subst q; rw [rput_self] at e; simp only [Option.some.injEq, Prod.mk.injEq] at e; omega
    · rw [rput_ne _ _ q] at e
      have := hR.dom k c' s' z' e
      omega
  · intro k obj' c' s' z' hg e
    rw [hget] at hg
    by_cases q : k = h.next
    · subst q
      rw [if_pos rfl] at hg
      cases hg
      rw [rput_self] at e
      simp only [Option.some.injEq, Prod.mk.injEq] at e
      obtain ⟨rfl, rfl, rfl⟩ := e
      exact ⟨o, hc, hm.mono hs⟩
    · rw [if_neg q] at hg
      rw [rput_ne _ _ q] at e
      by_cases q' : k = b
      · rw [if_pos q'] at hg; cases hg
      · rw [if_neg q'] at hg
        obtain ⟨o', h1, h2⟩ := hR.ok k obj' c' s' z' hg e
        have hne := hR.inj k b c' c s' s z' z q' e hb (by rw [hg]; simp) hl
        exact ⟨o', by rw [hk c' hne]; exact h1, h2.mono hs⟩
  · intro k k' c1 c2 s1 s3 z1 z3 hne e e' hl1 hl2
    rw [hget] at hl1 hl2
    by_cases q : k = h.next
    · have q2 : k' ≠ h.next := fun x => hne (q.trans x.symm)
      subst q
      rw [rput_self] at e
      rw [rput_ne _ _ q2] at e'
      rw [if_neg q2] at hl2
      simp only [Option.some.injEq, Prod.mk.injEq] at e
      by_cases q3 : k' = b
      · rw [if_pos q3] at hl2; exact absurd rfl hl2
      · rw [if_neg q3] at hl2
        have := hR.inj k' b c2 c s3 s z3 z q3 e' hb hl2 hl
        rw [← e.1]; exact fun x => this x.symm
    · rw [rput_ne _ _ q] at e
      rw [if_neg q] at hl1
      by_cases q1 : k = b
      · rw [if_pos q1] at hl1; exact absurd rfl hl1
      · rw [if_neg q1] at hl1
        by_cases q2 : k' = h.next
        · subst q2
          rw [rput_self] at e'
          simp only [Option.some.injEq, Prod.mk.injEq] at e'
          have := hR.inj k b c1 c s1 s z1 z q1 e hb hl1 hl
          rw [← e'.1]; exact this
        · rw [rput_ne _ _ q2] at e'
          rw [if_neg q2] at hl2
          by_cases q3 : k' = b
          · rw [if_pos q3] at hl2; exact absurd rfl hl2
          · rw [if_neg q3] at hl2
            exact hR.inj k k' c1 c2 s1 s3 z1 z3 hne e e' hl1 hl2
  · intro k c' s' z' e
    by_cases q : k = h.next
    · subst q
      rw [rput_self] at e
      simp only [Option.some.injEq, Prod.mk.injEq] at e
      exact .inr ⟨Nat.le_refl _, by rw [push_next, hnx]; omega, .inr ⟨b, s, z, by rw [push_low]; exact (put_low_le h b none).1, hlt, hl, by rw [hb]; simp [e.1]⟩⟩
    · rw [rput_ne _ _ q] at e
      exact .inl e
  · intro k hk' hno
    refine hk k fun e => ?_
    exact hno b c s z (by rw [push_low]; exact (put_low_le h b none).1) hlt hl hb e.symm
  · intro k hk' hlow
    rw [push_low] at hlow
    rw [hget, if_neg (by omega), if_neg (by have := (put_low_le h b none).1; omega)]
  · intro k hk' e
    rw [hget, if_neg (by omega)]
    split
    · rfl
    · exact e
end Go.Proofs.Ytknenadpkgajjaa.GEv
