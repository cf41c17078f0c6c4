import Derived.Test.YtfgemjpoiconbaaGreatDoorGXmpA
import Derived.Test.YtfgemjpoiconbaaGreatDoorGXmzG
import Derived.Test.YtfgemjpoiconbaaGreatDoorGXmzK
/- Elements of many attributes, as both readers read them: plain laws. -/
namespace Go.Proofs.YtfgemjpoiconbaaGreatDoor.GEv
open Go
set_option linter.unusedSimpArgs false
set_option linter.unusedVariables false
/-- Wrong, so and there. -/
structure Wr (st : Rd) (e p : Nat) : Prop where
  err : st.err = e
  out : st.out = p
  ne : e ≠ 0
theorem Wr.fail {st : Rd} {e p : Nat} (h : Wr st e p) (a b : Nat) : failS a b st = st := by simp [failS, h.err, h.ne]
theorem Wr.rest {s : Bs} {st : Rd} {e p : Nat} (h : Wr st e p) : restS s st = [] := by simp [restS, h.err, h.ne]
theorem Wr.go {st : Rd} {e p : Nat} (h : Wr st e p) (n : Nat) : Wr (goS n st) e p := ⟨h.err, h.out, h.ne⟩
theorem Wr.blanks {s : Bs} {st : Rd} {e p : Nat} (h : Wr st e p) : blanksN s st = 0 := by
  unfold blanksN
  rw [h.rest]
  rfl
theorem Wr.is {s q : Bs} {st : Rd} {e p : Nat} (h : Wr st e p) (hq : q ≠ []) : isS s q st = (false, st) := by
  unfold isS
  rw [h.rest, List.take_nil, if_neg (fun e => hq e.symm)]
theorem Wr.must {s q : Bs} {st : Rd} {e p : Nat} (h : Wr st e p) (hq : q ≠ []) : mustS s q st = st := by
  unfold mustS
  rw [h.is hq]
  exact h.fail _ _
theorem Wr.value {s : Bs} {st : Rd} {e p : Nat} (h : Wr st e p) : valueS s st = ([], st) := by
  unfold valueS
  rw [h.rest]
  simp only [valueV, h.fail]
theorem Wr.attrs {s : Bs} {st : Rd} {e p : Nat} (h : Wr st e p) (f : Nat) (l : List (Bs × Bs)) : attrsS s (f + 1) l st = some (l, goS 0 st) := by
  unfold attrsS
  simp only [h.blanks, if_true]
theorem Wr.has {s q : Bs} {st : Rd} {e p : Nat} (h : Wr st e p) : hasR s q st = false := by simp [hasR, h.err, h.ne]
theorem At.wr {s x : Bs} {st : Rd} (h : At s st x) (a e : Nat) (he : e ≠ 0) : Wr (failS a e st) e a := by
  simp only [failS, h.err, if_true]
  exact ⟨rfl, rfl, he⟩
/-! ### the reference -/
theorem At.has {s q x : Bs} {st : Rd} (h : At s st (q ++ x)) : hasR s q st = true := by
  unfold hasR
  rw [h.err, h.eq, List.take_left]
  simp
theorem At.hasnt {s q x : Bs} {st : Rd} (h : At s st x) (hp : x.take q.length ≠ q) : hasR s q st = false := by
  unfold hasR
  rw [h.eq]
  simp [hp]
theorem At.qualR {s n x : Bs} {st : Rd} (h : At s st (n ++ x)) (hq : isQual n = true) (hx : x.takeWhile signB = []) : qualR s st = (n, goS n.length st) := by
  unfold GEv.qualR
  rw [h.eq, takeWhile_app (isQual_parts hq).1 hx]
  simp only [hq, if_true]
theorem Wr.tag {s : Bs} {st : Rd} {e p : Nat} (h : Wr st e p) (f : Nat) (l : List (Bs × Bs)) : tagR s (f + 1) l st = some (l, st) := by
  unfold tagR
  rw [if_pos (by rw [h.err]; exact h.ne)]
end Go.Proofs.YtfgemjpoiconbaaGreatDoor.GEv

/- Elements that stand deep, and many of them, as both readers read them: plain laws. -/
namespace Go.Proofs.YtfgemjpoiconbaaGreatDoor.GEv
open Go
set_option linter.unusedSimpArgs false
set_option linter.unusedVariables false
abbrev aT : Bs := [60, 97, 62]
abbrev bT : Bs := [60, 98, 47, 62]
abbrev cT : Bs := [60, 47, 97, 62]
def bsT : Nat → Bs
  | 0 => []
  | w + 1 => bT ++ bsT w
def con : Nat → Nat → Bs
  | 0, w => bsT w
  | k + 1, w => aT ++ (con k w ++ cT)
/-- Where too many, or too deep, are told. -/
def ksOut (d : Nat) : Nat → Nat → Nat → Option Nat
  | _, _, 0 => none
  | e, a, w + 1 => if 12 ≤ d ∨ 400 < e + 1 then some a else ksOut d (e + 1) (a + 4) w
def coOut : Nat → Nat → Nat → Nat → Nat → Option Nat
  | 0, d, e, a, w => ksOut d e a w
  | k + 1, d, e, a, w => if 12 ≤ d ∨ 400 < e + 1 then some a else coOut k (d + 1) (e + 1) (a + 3) w
theorem ksOut_none (d : Nat) : ∀ (w e a : Nat), ksOut d e a w = none ↔ w = 0 ∨ (d < 12 ∧ e + w ≤ 400)
  | 0, e, a => by simp [ksOut]
  | w + 1, e, a => by
    have ih := ksOut_none d w (e + 1) (a + 4)
    unfold ksOut
    split
    · rename_i h
      refine ⟨fun q => (by cases q), fun q => ?_⟩
      exfalso
      omega
    · rename_i h
      rw [ih]
      omega
theorem coOut_none : ∀ (k d e a w : Nat), coOut k d e a w = none ↔ (k = 0 ∨ d + k ≤ 12) ∧ (e + k + w ≤ 400 ∨ (k = 0 ∧ w = 0)) ∧ (w = 0 ∨ d + k < 12)
  | 0, d, e, a, w => by
    rw [show coOut 0 d e a w = ksOut d e a w from rfl, ksOut_none]
    omega
  | k + 1, d, e, a, w => by
    have ih := coOut_none k (d + 1) (e + 1) (a + 3) w
    unfold coOut
    split
    · rename_i h
      refine ⟨fun q => (by cases q), fun q => ?_⟩
      exfalso
      omega
    · rename_i h
      rw [ih]
      omega
/-- What has become of a state: so far, so many; or wrong there. -/
def FinS (st st' : Rd) (len n : Nat) : Option Nat → Prop
  | none => st' = { at' := st.at' + len, elems := st.elems + n, err := st.err, out := st.out }
  | some p => Wr st' 4 p
/-! ### package xml -/
abbrev one1 (st : Rd) (n : Nat) : Rd := { at' := st.at' + n, elems := st.elems + 1, err := st.err, out := st.out }
theorem At.adv {s u x : Bs} {st : Rd} (h : At s st (u ++ x)) (k : Nat) : At s { at' := st.at' + u.length, elems := k, err := st.err, out := st.out } x := h.go.elems k
theorem xBail {s Z : Bs} {st : Rd} {d f : Nat} (h : At s st (60 :: Z)) (hb : 12 ≤ d ∨ 400 < st.elems + 1) : elementS s (f + 1) d st = some (.mk [] [] [] st.at', failS st.at' 4 { st with elems := st.elems + 1 }) := by
  unfold elementS
  simp only
  rw [h.rest, if_pos (show List.take 1 (60 :: Z) = [60] from rfl), if_pos hb]
theorem xLeaf {s Y : Bs} {st : Rd} {d f : Nat} (h : At s st (bT ++ Y)) (hb : ¬ (12 ≤ d ∨ 400 < st.elems + 1)) : elementS s (f + 2) d st = some (.mk [98] [] [] st.at', one1 st 4) := by
  have h1 : At s (goS 1 { st with elems := st.elems + 1 }) ([98] ++ ([47, 62] ++ Y)) := (At.elems (st := st) h _).go (u := [60])
  have q1 := h1.qual (n := [98]) (by decide) rfl
  have h2 := h1.go
  have q2 := h2.noBlanks rfl
  have h3 : At s (goS 0 (goS ([98] : Bs).length (goS 1 { st with elems := st.elems + 1 }))) ([47, 62] ++ Y) := h2
  have q3 := h3.is
  unfold elementS
  simp only
  rw [h.rest, if_pos (show List.take 1 (bT ++ Y) = [60] from rfl), if_neg hb]
  simp only [q1]
  rw [show attrsS s (f + 1) [] (goS ([98] : Bs).length (goS 1 { st with elems := st.elems + 1 })) = some ([], goS 0 (goS ([98] : Bs).length (goS 1 { st with elems := st.elems + 1 }))) by
    unfold attrsS
    simp only [q2, if_true]]
  simp only [q3]
  rfl
theorem xOpen {s Z : Bs} {st : Rd} {d f : Nat} (h : At s st (aT ++ Z)) (hb : ¬ (12 ≤ d ∨ 400 < st.elems + 1)) : elementS s (f + 2) d st = (kidsS s (f + 1) [97] (d + 1) [] (one1 st 3)).map fun p => (.mk [97] [] p.1 st.at', p.2) := by
  have h1 : At s (goS 1 { st with elems := st.elems + 1 }) ([97] ++ ([62] ++ Z)) := (At.elems (st := st) h _).go (u := [60])
  have q1 := h1.qual (n := [97]) (by decide) rfl
  have h2 := h1.go
  have q2 := h2.noBlanks rfl
  have h3 : At s (goS 0 (goS ([97] : Bs).length (goS 1 { st with elems := st.elems + 1 }))) ([62] ++ Z) := h2
  have q3 := h3.isnt (p := [47, 62]) (by simp)
  have q4 := h3.must
  unfold elementS
  simp only
  rw [h.rest, if_pos (show List.take 1 (aT ++ Z) = [60] from rfl), if_neg hb]
  simp only [q1]
  rw [show attrsS s (f + 1) [] (goS ([97] : Bs).length (goS 1 { st with elems := st.elems + 1 })) = some ([], goS 0 (goS ([97] : Bs).length (goS 1 { st with elems := st.elems + 1 }))) by
    unfold attrsS
    simp only [q2, if_true]]
  simp only [q3, q4]
  have e : goS ([62] : Bs).length (goS 0 (goS ([97] : Bs).length (goS 1 { st with elems := st.elems + 1 }))) = one1 st 3 := rfl
  rw [e]
  cases kidsS s (f + 1) [97] (d + 1) [] (one1 st 3) <;> rfl
theorem xEnd {s Y : Bs} {st : Rd} {d f : Nat} {l : List El} (h : At s st (cT ++ Y)) : kidsS s (f + 2) [97] d l st = some (l, goS 4 st) := by
  have q1 : remarksS s (f + 1) st = some st := fill_nil h (stop_of (by decide)) (by omega)
  have q2 := At.is (p := [60, 47]) (x := [97, 62] ++ Y) h
  have h2 : At s (goS ([60, 47] : Bs).length st) ([97] ++ ([62] ++ Y)) := At.go (u := [60, 47]) h
  have q3 := h2.qual (n := [97]) (by decide) rfl
  have h3 := h2.go
  have q4 := h3.noBlanks rfl
  have h4 : At s (goS 0 (goS ([97] : Bs).length (goS ([60, 47] : Bs).length st))) ([62] ++ Y) := h3
  have q5 := h4.must
  unfold kidsS
  rw [if_neg (fun q => q h.err)]
  simp only [q1, q2, q3, if_true, q4, q5]
  rfl
theorem xStep {s Z : Bs} {c : UInt8} {st : Rd} {n : Bs} {d f : Nat} {l : List El} (h : At s st (60 :: c :: Z)) (h1 : c ≠ 33) (h2 : c ≠ 47) : kidsS s (f + 2) n d l st = (match elementS s (f + 1) d st with
    | some (e, st) => kidsS s (f + 1) n d (l ++ [e]) st
    | none => none) := by
  have q1 : remarksS s (f + 1) st = some st := fill_nil h (stop_of h1) (by omega)
  have q2 := At.isnt (p := [60, 47]) h (by simp [h2])
  conv => lhs; unfold kidsS
  rw [if_neg (fun q => q h.err)]
  simp only [q1, q2]
  cases elementS s (f + 1) d st <;> rfl
theorem xWrong {s : Bs} {st : Rd} {n : Bs} {d f p : Nat} {l : List El} (h : Wr st 4 p) : kidsS s (f + 1) n d l st = some (l, st) := by
  unfold kidsS
  rw [if_pos (by rw [h.err]; decide)]
/-! ### the reference -/
theorem rBail {s Z : Bs} {st : Rd} {d f : Nat} (h : At s st (60 :: Z)) (hb : 12 ≤ d ∨ 400 < st.elems + 1) : elK s (f + 1) d st = some (failS st.at' 4 { st with elems := st.elems + 1 }) := by
  unfold elK
  rw [At.has (q := [60]) (x := Z) h]
  rw [if_neg (by decide), if_pos hb]
theorem rLeaf {s Y : Bs} {st : Rd} {d f : Nat} (h : At s st (bT ++ Y)) (hb : ¬ (12 ≤ d ∨ 400 < st.elems + 1)) : elK s (f + 1) d st = some (one1 st 4) := by
  have h1 : At s (goS 1 { st with elems := st.elems + 1 }) ([98] ++ ([47, 62] ++ Y)) := (At.elems (st := st) h _).go (u := [60])
  have q1 := h1.qualR (n := [98]) (by decide) rfl
  have h2 := h1.go
  have q2 := h2.noBlanks rfl
  have h3 : At s (goS 0 (goS ([98] : Bs).length (goS 1 { st with elems := st.elems + 1 }))) ([47, 62] ++ Y) := h2
  have q3 := h3.has
  unfold elK
  rw [At.has (q := [60]) (x := [98, 47, 62] ++ Y) h]
  rw [if_neg (by decide), if_neg hb]
  rw [q1]
  simp only
  rw [if_neg (fun q => q h2.err), q2, q3, if_pos rfl]
  rfl
theorem rOpen {s Z : Bs} {st : Rd} {d f : Nat} (h : At s st (aT ++ Z)) (hb : ¬ (12 ≤ d ∨ 400 < st.elems + 1)) : elK s (f + 1) d st = kidsK s f [97] d (one1 st 3) := by
  have h1 : At s (goS 1 { st with elems := st.elems + 1 }) ([97] ++ ([62] ++ Z)) := (At.elems (st := st) h _).go (u := [60])
  have q1 := h1.qualR (n := [97]) (by decide) rfl
  have h2 := h1.go
  have q2 := h2.noBlanks rfl
  have h3 : At s (goS 0 (goS ([97] : Bs).length (goS 1 { st with elems := st.elems + 1 }))) ([62] ++ Z) := h2
  have q3 := h3.hasnt (q := [47, 62]) (by simp)
  have q4 := h3.has
  unfold elK
  rw [At.has (q := [60]) (x := [97, 62] ++ Z) h]
  rw [if_neg (by decide), if_neg hb]
  rw [q1]
  simp only
  rw [if_neg (fun q => q h2.err), q2, q3, if_neg (by decide), q4, if_pos rfl]
  rfl
theorem misc_nil {s x : Bs} {st : Rd} (h : At s st x) (hx : Stop x) : miscR s st = some st := by
  have q1 := h.noBlanks hx.1
  have h0 : At s (goS 0 st) x := h
  have q2 := h0.hasnt (q := [60, 33, 45, 45]) hx.2
  unfold miscR
  simp only [q1, q2, Bool.false_eq_true, if_false]
  rfl
theorem rEndT {s Y : Bs} {st : Rd} {d f : Nat} (h : At s st (cT ++ Y)) : kidsK s (f + 1) [97] d st = some (goS 4 st) := by
  have q1 := misc_nil h (stop_of (by decide))
  have q2 := At.has (q := [60, 47]) (x := [97, 62] ++ Y) h
  have h2 : At s (goS 2 st) ([97] ++ ([62] ++ Y)) := At.go (u := [60, 47]) h
  have q3 := h2.qualR (n := [97]) (by decide) rfl
  have h3 := h2.go
  have q4 := h3.noBlanks rfl
  have h4 : At s (goS 0 (goS ([97] : Bs).length (goS 2 st))) ([62] ++ Y) := h3
  have q5 := h4.has
  unfold kidsK
  rw [if_neg (fun q => q h.err)]
  simp only [q1, q2, if_true]
  unfold endK
  rw [q3]
  simp only [h3.err, q4, q5, and_self, if_true]
  rfl
theorem rStep {s Z : Bs} {c : UInt8} {st : Rd} {n : Bs} {d f : Nat} (h : At s st (60 :: c :: Z)) (h1 : c ≠ 33) (h2 : c ≠ 47) : kidsK s (f + 1) n d st = (match elK s f (d + 1) st with
    | some st2 => kidsK s f n d st2
    | none => none) := by
  have q1 := misc_nil h (stop_of h1)
  have q2 := At.hasnt (q := [60, 47]) h (by simp [h2])
  have q3 := At.has (q := [60]) (x := c :: Z) h
  conv => lhs; unfold kidsK
  rw [if_neg (fun q => q h.err)]
  simp only [q1, q2, q3, Bool.false_eq_true, if_false, if_true]
  cases elK s f (d + 1) st <;> rfl
theorem rWrong {s : Bs} {st : Rd} {n : Bs} {d f p : Nat} (h : Wr st 4 p) : kidsK s (f + 1) n d st = some st := by
  unfold kidsK
  rw [if_pos (by rw [h.err]; decide)]
/-! ### both -/
theorem failW {s x : Bs} {st : Rd} (h : At s st x) (n : Nat) : Wr (failS st.at' 4 { st with elems := n }) 4 st.at' := (h.elems n).wr st.at' 4 (by decide)
theorem bothB : ∀ (w : Nat) (s Y : Bs) (st : Rd) (d f : Nat) (l : List El), At s st (bsT w ++ (cT ++ Y)) → w + 3 ≤ f →
    ∃ l' s1 s2, kidsS s f [97] (d + 1) l st = some (l', s1) ∧ kidsK s f [97] d st = some s2 ∧ FinS st s1 (4 * w + 4) w (ksOut (d + 1) st.elems st.at' w) ∧ FinS st s2 (4 * w + 4) w (ksOut (d + 1) st.elems st.at' w)
  | 0, s, Y, st, d, f, l, h, hf => by
    obtain ⟨f, rfl⟩ : ∃ g, f = g + 2 := ⟨f - 2, by omega⟩
    exact ⟨l, goS 4 st, goS 4 st, xEnd h, rEndT h, rfl, rfl⟩
  | w + 1, s, Y, st, d, f, l, h, hf => by
    obtain ⟨f, rfl⟩ : ∃ g, f = g + 3 := ⟨f - 3, by omega⟩
    have h0 : At s st (bT ++ (bsT w ++ (cT ++ Y))) := by
      have e : bsT (w + 1) ++ (cT ++ Y) = bT ++ (bsT w ++ (cT ++ Y)) := by simp only [bsT, List.append_assoc]
      rwa [e] at h
    have hx := xStep (n := [97]) (d := d + 1) (f := f + 1) (l := l) (c := 98) h0 (by decide) (by decide)
    have hr := rStep (n := [97]) (d := d) (f := f + 2) (c := 98) h0 (by decide) (by decide)
    by_cases hb : 12 ≤ d + 1 ∨ 400 < st.elems + 1
    · have hw := failW h0 (st.elems + 1)
      refine ⟨_, _, _, by rw [hx, xBail h0 hb]; exact xWrong hw, by rw [hr, rBail h0 hb]; exact rWrong hw, ?_, ?_⟩
      · rw [ksOut, if_pos hb]; exact hw
      · rw [ksOut, if_pos hb]; exact hw
    · have h1 : At s (one1 st 4) (bsT w ++ (cT ++ Y)) := h0.adv (u := bT) (st.elems + 1)
      obtain ⟨l', s1, s2, p1, p2, p3, p4⟩ := bothB w s Y (one1 st 4) d (f + 2) (l ++ [.mk [98] [] [] st.at']) h1 (by omega)
      refine ⟨l', s1, s2, by rw [hx, xLeaf h0 hb]; exact p1, by rw [hr, rLeaf h0 hb]; exact p2, ?_, ?_⟩
      · rw [ksOut, if_neg hb]
        revert p3
        show FinS (one1 st 4) s1 (4 * w + 4) w (ksOut (d + 1) (st.elems + 1) (st.at' + 4) w) → _
        cases ksOut (d + 1) (st.elems + 1) (st.at' + 4) w with
        | none =>
          intro p
          have p : s1 = _ := p
          rw [p]
          show (⟨st.at' + 4 + (4 * w + 4), st.elems + 1 + w, st.err, st.out⟩ : Rd) = ⟨st.at' + (4 * (w + 1) + 4), st.elems + (w + 1), st.err, st.out⟩
          congr 1 <;> omega
        | some q => exact fun p => p
      · rw [ksOut, if_neg hb]
        revert p4
        show FinS (one1 st 4) s2 (4 * w + 4) w (ksOut (d + 1) (st.elems + 1) (st.at' + 4) w) → _
        cases ksOut (d + 1) (st.elems + 1) (st.at' + 4) w with
        | none =>
          intro p
          have p : s2 = _ := p
          rw [p]
          show (⟨st.at' + 4 + (4 * w + 4), st.elems + 1 + w, st.err, st.out⟩ : Rd) = ⟨st.at' + (4 * (w + 1) + 4), st.elems + (w + 1), st.err, st.out⟩
          congr 1 <;> omega
        | some q => exact fun p => p
theorem bothC : ∀ (k w : Nat) (s Y : Bs) (st : Rd) (d f : Nat) (l : List El), At s st (con k w ++ (cT ++ Y)) → 2 * k + w + 3 ≤ f →
    ∃ l' s1 s2, kidsS s f [97] (d + 1) l st = some (l', s1) ∧ kidsK s f [97] d st = some s2 ∧ FinS st s1 (7 * k + 4 * w + 4) (k + w) (coOut k (d + 1) st.elems st.at' w) ∧ FinS st s2 (7 * k + 4 * w + 4) (k + w) (coOut k (d + 1) st.elems st.at' w)
  | 0, w, s, Y, st, d, f, l, h, hf => by
    obtain ⟨l', s1, s2, p1, p2, p3, p4⟩ := bothB w s Y st d f l h (by omega)
    refine ⟨l', s1, s2, p1, p2, ?_, ?_⟩
    · rw [show 7 * 0 + 4 * w + 4 = 4 * w + 4 by omega, Nat.zero_add]; exact p3
    · rw [show 7 * 0 + 4 * w + 4 = 4 * w + 4 by omega, Nat.zero_add]; exact p4
  | k + 1, w, s, Y, st, d, f, l, h, hf => by
    obtain ⟨f, rfl⟩ : ∃ g, f = g + 4 := ⟨f - 4, by omega⟩
    have h0 : At s st (aT ++ (con k w ++ (cT ++ (cT ++ Y)))) := by
      have e : con (k + 1) w ++ (cT ++ Y) = aT ++ (con k w ++ (cT ++ (cT ++ Y))) := by simp only [con, List.append_assoc]
      rwa [e] at h
    have hx := xStep (n := [97]) (d := d + 1) (f := f + 2) (l := l) (c := 97) h0 (by decide) (by decide)
    have hr := rStep (n := [97]) (d := d) (f := f + 3) (c := 97) h0 (by decide) (by decide)
    by_cases hb : 12 ≤ d + 1 ∨ 400 < st.elems + 1
    · have hw := failW h0 (st.elems + 1)
      refine ⟨_, _, _, by rw [hx, xBail h0 hb]; exact xWrong hw, by rw [hr, rBail h0 hb]; exact rWrong hw, ?_, ?_⟩
      · rw [coOut, if_pos hb]; exact hw
      · rw [coOut, if_pos hb]; exact hw
    · have h1 : At s (one1 st 3) (con k w ++ (cT ++ (cT ++ Y))) := h0.adv (u := aT) (st.elems + 1)
      obtain ⟨l', s1, s2, p1, p2, p3, p4⟩ := bothC k w s (cT ++ Y) (one1 st 3) (d + 1) (f + 2) [] h1 (by omega)
      have hx2 : elementS s (f + 2 + 1) (d + 1) st = some (.mk [97] [] l' st.at', s1) := by
        rw [xOpen h0 hb, p1]
        rfl
      have hr2 : elK s (f + 3) (d + 1) st = some s2 := by
        rw [rOpen h0 hb]
        exact p2
      have e0 : coOut (k + 1) (d + 1) st.elems st.at' w = coOut k (d + 1 + 1) (one1 st 3).elems (one1 st 3).at' w := by
        rw [coOut, if_neg hb]
      rw [e0]
      rw [hx2] at hx
      rw [hr2] at hr
      simp only at hx hr
      cases ho : coOut k (d + 1 + 1) (one1 st 3).elems (one1 st 3).at' w with
      | none =>
        rw [ho] at p3 p4
        have p3 : s1 = _ := p3
        have p4 : s2 = _ := p4
        have hat : At s s1 (cT ++ Y) := by
          have hl : (con k w ++ cT).length = 7 * k + 4 * w + 4 := by
            have hw : ∀ w, (bsT w).length = 4 * w := fun w => by
              induction w with
              | zero => rfl
              | succ w ih => simp only [bsT, List.length_append, ih, List.length_cons, List.length_nil]; omega
            have hc : ∀ k, (con k w).length = 7 * k + 4 * w := fun k => by
              induction k with
              | zero => simp only [con, hw]; omega
              | succ k ih => simp only [con, List.length_append, ih, List.length_cons, List.length_nil]; omega
            rw [List.length_append, hc]
            rfl
          have h2 : At s (one1 st 3) ((con k w ++ cT) ++ (cT ++ Y)) := by rwa [List.append_assoc]
          have := h2.adv ((one1 st 3).elems + (k + w))
          rw [hl] at this
          rw [p3]
          exact this
        have hat2 : At s s2 (cT ++ Y) := by rw [p4, ← p3]; exact hat
        refine ⟨_, goS 4 s1, goS 4 s2, by rw [hx]; exact xEnd hat, by rw [hr]; exact rEndT hat2, ?_, ?_⟩
        · rw [p3]
          show (⟨st.at' + 3 + (7 * k + 4 * w + 4) + 4, st.elems + 1 + (k + w), st.err, st.out⟩ : Rd) = ⟨st.at' + (7 * (k + 1) + 4 * w + 4), st.elems + (k + 1 + w), st.err, st.out⟩
          congr 1 <;> omega
        · rw [p4]
          show (⟨st.at' + 3 + (7 * k + 4 * w + 4) + 4, st.elems + 1 + (k + w), st.err, st.out⟩ : Rd) = ⟨st.at' + (7 * (k + 1) + 4 * w + 4), st.elems + (k + 1 + w), st.err, st.out⟩
          congr 1 <;> omega
      | some q =>
        rw [ho] at p3 p4
        have p3 : Wr s1 4 q := p3
        have p4 : Wr s2 4 q := p4
        exact ⟨_, s1, s2, by rw [hx]; exact xWrong p3, by rw [hr]; exact rWrong p4, p3, p4⟩
theorem con_len (k w : Nat) : (con k w).length = 7 * k + 4 * w := by
  have hw : ∀ w, (bsT w).length = 4 * w := fun w => by
    induction w with
    | zero => rfl
    | succ w ih => simp only [bsT, List.length_append, ih, List.length_cons, List.length_nil]; omega
  induction k with
  | zero => simp only [con, hw]; omega
  | succ k ih => simp only [con, List.length_append, ih, List.length_cons, List.length_nil]; omega
/-- **Both readers say the same of elements that stand deep.** -/
theorem deep_same (k w : Nat) (hk : k ≤ 100) (hw : w ≤ 500) (s : Bs) (hs : s = con (k + 1) w) :
    ∃ x n er, parseS 1000 s = some (x, n, er) ∧ parseK 1000 s = some (n, er) ∧ (er = 0 ↔ k + 1 ≤ 12 ∧ k + 1 + w ≤ 400 ∧ (w = 0 ∨ k + 1 < 12)) := by
  have hl : s.length = 7 * (k + 1) + 4 * w := by rw [hs]; exact con_len _ _
  have h8 : ¬ 8000 < s.length := by omega
  have h0 : At s ⟨0, 0, 0, 0⟩ (aT ++ (con k w ++ (cT ++ []))) := ⟨rfl, Nat.zero_le _, by rw [hs]; simp [con]⟩
  have hst : Stop (aT ++ (con k w ++ (cT ++ []))) := stop_of (by decide)
  have m1 : remarksS s 1000 ⟨0, 0, 0, 0⟩ = some ⟨0, 0, 0, 0⟩ := fill_nil h0 hst (by omega)
  have m2 := misc_nil h0 hst
  have hb : ¬ (12 ≤ 0 ∨ 400 < (⟨0, 0, 0, 0⟩ : Rd).elems + 1) := by
    show ¬ (12 ≤ 0 ∨ 400 < 0 + 1)
    omega
  have h1 : At s (one1 ⟨0, 0, 0, 0⟩ 3) (con k w ++ (cT ++ [])) := h0.adv (u := aT) _
  obtain ⟨l', s1, s2, p1, p2, p3, p4⟩ := bothC k w s [] (one1 ⟨0, 0, 0, 0⟩ 3) 0 999 [] h1 (by omega)
  have e1 : elementS s 1000 0 ⟨0, 0, 0, 0⟩ = some (.mk [97] [] l' 0, s1) := by
    rw [xOpen (f := 998) h0 hb, p1]
    rfl
  have e2 : elK s 1000 0 ⟨0, 0, 0, 0⟩ = some s2 := by
    rw [rOpen (f := 999) h0 hb]
    exact p2
  have hno := coOut_none k 1 1 3 w
  have hiff : coOut k 1 1 3 w = none ↔ k + 1 ≤ 12 ∧ k + 1 + w ≤ 400 ∧ (w = 0 ∨ k + 1 < 12) := by
    rw [hno]
    omega
  have p3 : FinS (one1 ⟨0, 0, 0, 0⟩ 3) s1 (7 * k + 4 * w + 4) (k + w) (coOut k 1 1 3 w) := p3
  have p4 : FinS (one1 ⟨0, 0, 0, 0⟩ 3) s2 (7 * k + 4 * w + 4) (k + w) (coOut k 1 1 3 w) := p4
  cases ho : coOut k 1 1 3 w with
  | none =>
    rw [ho] at p3 p4
    have p3 : s1 = _ := p3
    have p4 : s2 = _ := p4
    have hat : At s s1 [] := by
      have h2 : At s (one1 ⟨0, 0, 0, 0⟩ 3) ((con k w ++ cT) ++ []) := by rw [List.append_assoc]; exact h1
      have := h2.adv ((one1 ⟨0, 0, 0, 0⟩ 3).elems + (k + w))
      rw [List.length_append, con_len, show (cT : Bs).length = 4 from rfl] at this
      rw [p3]
      exact this
    have hat2 : At s s2 [] := by rw [p4, ← p3]; exact hat
    have hs0 : Stop [] := ⟨rfl, by simp⟩
    have m3 : remarksS s 1000 s1 = some s1 := fill_nil hat hs0 (by omega)
    have m4 := misc_nil hat2 hs0
    have hge : ¬ s2.at' < s.length := by
      have := congrArg List.length hat2.eq
      rw [List.length_drop, List.length_nil] at this
      omega
    refine ⟨.mk [97] [] l' 0, s.length, 0, ?_, ?_, by simp [hiff.1 ho]⟩
    · unfold parseS
      rw [if_neg h8]
      simp only [m1, e1, m3, hat.rest, if_true, hat.err]
    · unfold parseK
      rw [if_neg h8]
      simp only [m2, e2, m4, hge, and_false, if_false, hat2.err, if_true]
  | some q =>
    rw [ho] at p3 p4
    have p3 : Wr s1 4 q := p3
    have p4 : Wr s2 4 q := p4
    have m3 : remarksS s 1000 s1 = some (goS 0 s1) := by
      unfold remarksS
      have := (p3.go 0).is (s := s) (q := [60, 33, 45, 45]) (by simp)
      simp only [p3.blanks, this, if_true]
    have m4 : miscR s s2 = some (goS 0 s2) := by
      unfold miscR
      have := (p4.go 0).has (s := s) (q := [60, 33, 45, 45])
      simp only [p4.blanks, this, Bool.false_eq_true, if_false]
    have w1 := p3.go 0
    have w2 := p4.go 0
    refine ⟨nothing, q, 4, ?_, ?_, ?_⟩
    · unfold parseS
      rw [if_neg h8]
      simp only [m1, e1, m3, w1.rest, if_true, w1.err, w1.out]
      rfl
    · unfold parseK
      rw [if_neg h8]
      simp [m2, e2, m4, w2.err, w2.out]
    · constructor
      · intro e; cases e
      · intro e
        have := hiff.2 e
        rw [ho] at this
        cases this
end Go.Proofs.YtfgemjpoiconbaaGreatDoor.GEv

