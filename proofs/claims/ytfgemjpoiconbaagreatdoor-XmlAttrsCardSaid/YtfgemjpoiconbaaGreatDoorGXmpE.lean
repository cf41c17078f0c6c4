import Derived.Test.YtfgemjpoiconbaaGreatDoorGXmpA
import Derived.Test.YtfgemjpoiconbaaGreatDoorGXmzG
/- Elements of many attributes, as both readers read them: plain laws. -/
namespace Go.Proofs.YtfgemjpoiconbaaGreatDoor.GEv
open Go
set_option linter.unusedSimpArgs false
set_option linter.unusedVariables false
/-- What comes of attributes: none, or the first error and its place. -/
def attrsOut : List (Bs × Bs) → List (Bs × Bs) → Nat → Option (Nat × Nat)
  | _, [], _ => none
  | l, x :: a, p => if 8 ≤ l.length then some (4, p + 1) else if dupA l x.1 = true then some (2, p + 1) else if 60 < x.2.length then some (2, p + 1 + x.1.length + 1) else attrsOut (l ++ [x]) a (p + (attrT x).length)
/-- Names and values that may stand. -/
def okA (x : Bs × Bs) : Prop := isQual x.1 = true ∧ signs x.2 = true
/-- Wrong, so and there. -/
structure Wr (st : Rd) (e p : Nat) : Prop where
  err : st.err = e
  out : st.out = p
  ne : e ≠ 0
theorem Wr.fail {st : Rd} {e p : Nat} (h : Wr st e p) (a b : Nat) : failS a b st = st := by simp [failS, h.err, h.ne]
theorem Wr.rest {s : Bs} {st : Rd} {e p : Nat} (h : Wr st e p) : restS s st = [] := by simp [restS, h.err, h.ne]
theorem Wr.go {st : Rd} {e p : Nat} (h : Wr st e p) (n : Nat) : Wr (goS n st) e p := ⟨h.err, h.out, h.ne⟩
theorem Wr.blanks {s : Bs} {st : Rd} {e p : Nat} (h : Wr st e p) : blanksN s st = 0 := by
  unfold blanksN
  rw [h.rest]
  rfl
theorem Wr.is {s q : Bs} {st : Rd} {e p : Nat} (h : Wr st e p) (hq : q ≠ []) : isS s q st = (false, st) := by
  unfold isS
  rw [h.rest, List.take_nil, if_neg (fun e => hq e.symm)]
theorem Wr.must {s q : Bs} {st : Rd} {e p : Nat} (h : Wr st e p) (hq : q ≠ []) : mustS s q st = st := by
  unfold mustS
  rw [h.is hq]
  exact h.fail _ _
theorem Wr.value {s : Bs} {st : Rd} {e p : Nat} (h : Wr st e p) : valueS s st = ([], st) := by
  unfold valueS
  rw [h.rest]
  simp only [valueV, h.fail]
theorem Wr.attrs {s : Bs} {st : Rd} {e p : Nat} (h : Wr st e p) (f : Nat) (l : List (Bs × Bs)) : attrsS s (f + 1) l st = some (l, goS 0 st) := by
  unfold attrsS
  simp only [h.blanks, if_true]
theorem Wr.has {s q : Bs} {st : Rd} {e p : Nat} (h : Wr st e p) : hasR s q st = false := by simp [hasR, h.err, h.ne]
theorem At.wr {s x : Bs} {st : Rd} (h : At s st x) (a e : Nat) (he : e ≠ 0) : Wr (failS a e st) e a := by
  simp only [failS, h.err, if_true]
  exact ⟨rfl, rfl, he⟩
theorem valueV_long {v x : Bs} (hs : signs v = true) (hl : 60 < v.length) : valueV ([34] ++ escape true v ++ [34] ++ x) = none := by
  have e : ([34] ++ escape true v ++ [34] ++ x : Bs) = 34 :: (escape true v ++ 34 :: x) := by simp
  rw [e]
  unfold valueV
  simp only [true_or, if_true]
  rw [cutB_of (escape_not v).1]
  simp only [unescape_escape true v hs]
  rw [if_pos (.inr hl)]
theorem At.valueLong {s v x : Bs} {st : Rd} (h : At s st ([34] ++ escape true v ++ [34] ++ x)) (hs : signs v = true) (hl : 60 < v.length) : valueS s st = ([], failS st.at' 2 st) := by
  unfold valueS
  rw [h.rest, valueV_long hs hl]
/-- The reader of package xml. -/
theorem outS : ∀ (a l : List (Bs × Bs)) (s x : Bs) (st : Rd) (f : Nat), At s st (a.flatMap attrT ++ x) → (∀ y ∈ a, okA y) → (∃ c r, x = c :: r ∧ (c = 47 ∨ c = 62)) → a.length + 1 < f →
    ∃ l' st', attrsS s f l st = some (l', st') ∧ (match attrsOut l a st.at' with
      | none => l' = l ++ a ∧ st' = goS (a.flatMap attrT).length st
      | some (e, p) => Wr st' e p)
  | [], l, s, x, st, 0, _, _, _, hf => by simp at hf
  | [], l, s, x, st, f + 1, h, _, ⟨c, r, hx, hc⟩, hf => by
    have h : At s st x := h
    have hb : x.takeWhile blankB = [] := by subst hx; rcases hc with rfl | rfl <;> rfl
    refine ⟨l, goS 0 st, ?_, ?_⟩
    · unfold attrsS
      simp only [h.noBlanks hb, if_true]
    · exact ⟨by simp, rfl⟩
  | y :: a, l, s, x, st, 0, _, _, _, hf => by simp at hf
  | (k, v) :: a, l, s, x, st, f + 1, h, hok, hx, hf => by
    have hqs := hok _ (List.mem_cons_self ..)
    have hq : isQual k = true := hqs.1
    have hs : signs v = true := hqs.2
    have hf1 : a.length + 1 < f := by simp at hf; omega
    obtain ⟨f0, hf0⟩ : ∃ g, f = g + 1 := ⟨f - 1, by omega⟩
    have ih := fun st h => outS a (l ++ [(k, v)]) s x st f h (fun y hy => hok y (List.mem_cons_of_mem _ hy)) hx hf1
    obtain ⟨_, c, r, hk, hc⟩ := isQual_parts hq
    obtain ⟨f1, f2, f3, _, _⟩ := first_of hc
    have e0 : (((k, v) :: a).flatMap attrT ++ x : Bs) = [32] ++ (k ++ ([61] ++ (([34] ++ escape true v ++ [34]) ++ (a.flatMap attrT ++ x)))) := by simp [attrT]
    rw [e0] at h
    have hb : blanksN s st = 1 := h.blanks (u := [32]) rfl (by rw [hk]; simp [List.takeWhile_cons, f1])
    have h1 := h.go
    rw [show ([32] : Bs).length = 1 from rfl] at h1
    have hr := h1.rest
    have eh : (k ++ ([61] ++ (([34] ++ escape true v ++ [34]) ++ (a.flatMap attrT ++ x))) : Bs) = c :: (r ++ ([61] ++ (([34] ++ escape true v ++ [34]) ++ (a.flatMap attrT ++ x)))) := by rw [hk]; rfl
    have hne : ¬ (c = 47 ∨ c = 62) := fun q => q.elim f2 f3
    have hat1 : (goS 1 st).at' = st.at' + 1 := rfl
    by_cases h8 : 8 ≤ l.length
    · refine ⟨l, failS (goS 1 st).at' 4 (goS 1 st), ?_, ?_⟩
      · unfold attrsS
        simp only [hb, hr]
        rw [eh]
        simp only [if_neg (show ¬ (1 : Nat) = 0 by decide), if_neg hne, if_pos h8]
      · simp only [attrsOut, if_pos h8]
        exact h1.wr _ 4 (by decide)
    have q1 := h1.qual hq (by rfl)
    have h2 := h1.go
    have hdu : (l.any fun x => x.1 == k) = dupA l k := rfl
    cases hd : dupA l k
    · have q2 := h2.must
      have h3 := h2.go
      by_cases hl : 60 < v.length
      · have q3 := h3.valueLong hs hl
        have hw := h3.wr (goS [61].length (goS k.length (goS 1 st))).at' 2 (by decide)
        refine ⟨l ++ [(k, [])], goS 0 (failS (goS ([61] : Bs).length (goS k.length (goS 1 st))).at' 2 (goS ([61] : Bs).length (goS k.length (goS 1 st)))), ?_, ?_⟩
        · unfold attrsS
          simp only [hb, hr]
          rw [eh]
          simp only [if_neg (show ¬ (1 : Nat) = 0 by decide), if_neg hne, if_neg h8, q1, hdu, hd, Bool.false_eq_true, if_false, q2, q3]
          rw [hf0]
          exact hw.attrs _ _
        · simp only [attrsOut, if_neg h8, hd, Bool.false_eq_true, if_false, if_pos hl]
          have e : st.at' + 1 + k.length + 1 = (goS ([61] : Bs).length (goS k.length (goS 1 st))).at' := rfl
          rw [e]
          exact hw.go 0
      · have hv : v.length ≤ 60 := by omega
        have q3 := h3.value hs hv
        have h4 := h3.go
        have el : ([34] ++ escape true v ++ [34] : Bs).length = (escape true v).length + 2 := by simp
        obtain ⟨l', st', q4, q5⟩ := ih _ h4
        rw [el] at q4 q5
        have hat : (goS ((escape true v).length + 2) (goS ([61] : Bs).length (goS k.length (goS 1 st)))).at' = st.at' + (attrT (k, v)).length := by
          have ea : (attrT (k, v)).length = 1 + k.length + 1 + ((escape true v).length + 2) := attrT_len' (k, v)
          rw [ea]
          show st.at' + 1 + k.length + 1 + ((escape true v).length + 2) = _
          omega
        refine ⟨l', st', ?_, ?_⟩
        · unfold attrsS
          simp only [hb, hr]
          rw [eh]
          simp only [if_neg (show ¬ (1 : Nat) = 0 by decide), if_neg hne, if_neg h8, q1, hdu, hd, Bool.false_eq_true, if_false, q2, q3, q4]
        · rw [hat] at q5
          simp only [attrsOut, if_neg h8, hd, Bool.false_eq_true, if_false, if_neg hl]
          split at q5
          · obtain ⟨e1, e2⟩ := q5
            refine ⟨by rw [e1]; simp, ?_⟩
            rw [e2]
            simp only [goS_goS, List.flatMap_cons, List.length_append, attrT_len']
            congr 1
          · exact q5
    · have hw := h2.wr (goS 1 st).at' 2 (by decide)
      refine ⟨l ++ [(k, [])], goS 0 (failS (goS 1 st).at' 2 (goS k.length (goS 1 st))), ?_, ?_⟩
      · unfold attrsS
        simp only [hb, hr]
        rw [eh]
        simp only [if_neg (show ¬ (1 : Nat) = 0 by decide), if_neg hne, if_neg h8, q1, hdu, hd, if_true, hw.must (q := [61]) (by simp), hw.value]
        rw [hf0]
        exact hw.attrs _ _
      · simp only [attrsOut, if_neg h8, hd, if_true]
        exact hw.go 0
/-! ### the reference -/
theorem At.has {s q x : Bs} {st : Rd} (h : At s st (q ++ x)) : hasR s q st = true := by
  unfold hasR
  rw [h.err, h.eq, List.take_left]
  simp
theorem At.hasnt {s q x : Bs} {st : Rd} (h : At s st x) (hp : x.take q.length ≠ q) : hasR s q st = false := by
  unfold hasR
  rw [h.eq]
  simp [hp]
theorem At.qualR {s n x : Bs} {st : Rd} (h : At s st (n ++ x)) (hq : isQual n = true) (hx : x.takeWhile signB = []) : qualR s st = (n, goS n.length st) := by
  unfold GEv.qualR
  rw [h.eq, takeWhile_app (isQual_parts hq).1 hx]
  simp only [hq, if_true]
theorem Wr.tag {s : Bs} {st : Rd} {e p : Nat} (h : Wr st e p) (f : Nat) (l : List (Bs × Bs)) : tagR s (f + 1) l st = some (l, st) := by
  unfold tagR
  rw [if_pos (by rw [h.err]; exact h.ne)]
theorem outR : ∀ (a l : List (Bs × Bs)) (s : Bs) (st : Rd) (f : Nat), At s st (a.flatMap attrT ++ [47, 62]) → (∀ y ∈ a, okA y) → a.length + 1 < f →
    ∃ l' st', tagR s f l st = some (l', st') ∧ (match attrsOut l a st.at' with
      | none => l' = l ++ a ∧ st' = goS ((a.flatMap attrT).length + 2) st
      | some (e, p) => Wr st' e p)
  | [], l, s, st, 0, _, _, hf => by simp at hf
  | [], l, s, st, f + 1, h, _, hf => by
    have h : At s st ([47, 62] ++ []) := h
    have hb := h.noBlanks rfl
    have h0 : At s (goS 0 st) ([47, 62] ++ []) := h
    have q1 := h0.has
    refine ⟨l, goS 2 (goS 0 st), ?_, ⟨by simp, rfl⟩⟩
    unfold tagR
    rw [if_neg (by rw [h.err]; simp)]
    simp only [hb, q1, if_true]
  | y :: a, l, s, st, 0, _, _, hf => by simp at hf
  | (k, v) :: a, l, s, st, f + 1, h, hok, hf => by
    have hqs := hok _ (List.mem_cons_self ..)
    have hq : isQual k = true := hqs.1
    have hs : signs v = true := hqs.2
    have hf1 : a.length + 1 < f := by simp at hf; omega
    obtain ⟨f0, hf0⟩ : ∃ g, f = g + 1 := ⟨f - 1, by omega⟩
    have ih := fun st h => outR a (l ++ [(k, v)]) s st f h (fun y hy => hok y (List.mem_cons_of_mem _ hy)) hf1
    obtain ⟨_, c, r, hk, hc⟩ := isQual_parts hq
    obtain ⟨f1, f2, f3, _, _⟩ := first_of hc
    have e0 : (((k, v) :: a).flatMap attrT ++ [47, 62] : Bs) = [32] ++ (k ++ ([61] ++ (([34] ++ escape true v ++ [34]) ++ (a.flatMap attrT ++ [47, 62])))) := by simp [attrT]
    rw [e0] at h
    have hb : blanksN s st = 1 := h.blanks (u := [32]) rfl (by rw [hk]; simp [List.takeWhile_cons, f1])
    have h1 := h.go
    rw [show ([32] : Bs).length = 1 from rfl] at h1
    have n1 := h1.hasnt (q := [47, 62]) (by rw [hk]; simp [f2])
    have n2 := h1.hasnt (q := [62]) (by rw [hk]; simp [f3])
    have n3 := h1.hasnt (q := [47]) (by rw [hk]; simp [f2])
    have n4 : ¬ (goS 1 st).at' = s.length := by
      intro e
      have := congrArg List.length h1.eq
      rw [e, List.drop_length] at this
      rw [hk] at this
      simp at this
    have hstep : tagR s (f + 1) l st = tagR s f (attrR s l (goS 1 st)).1 (attrR s l (goS 1 st)).2 := by
      conv => lhs; unfold tagR
      rw [if_neg (by rw [h.err]; simp)]
      simp only [hb, n1, Bool.false_eq_true, if_false, n2]
      rw [if_neg (show ¬ ((1 : Nat) = 0 ∨ hasR s [47] (goS 1 st) = true ∨ (goS 1 st).at' = s.length) from fun q => q.elim (by decide) (fun q => q.elim (fun q => by rw [n3] at q; cases q) n4))]
    rw [hstep]
    by_cases h8 : 8 ≤ l.length
    · have hA : attrR s l (goS 1 st) = (l, failS (goS 1 st).at' 4 (goS 1 st)) := by unfold attrR; rw [if_pos h8]
      have hw := h1.wr (goS 1 st).at' 4 (by decide)
      rw [hA]
      refine ⟨l, failS (goS 1 st).at' 4 (goS 1 st), ?_, ?_⟩
      · rw [hf0]
        exact hw.tag _ _
      · simp only [attrsOut, if_pos h8]
        exact hw
    have q1 := h1.qualR hq (by rfl)
    have h2 := h1.go
    have q2 := h2.has
    cases hd : dupA l k
    · have h3 := h2.go
      have hA : attrR s l (goS 1 st) = (l ++ [(k, (valueS s (goS 1 (goS k.length (goS 1 st)))).1)], (valueS s (goS 1 (goS k.length (goS 1 st)))).2) := by
        unfold attrR
        rw [if_neg h8]
        simp only [q1, hd, Bool.false_eq_true, and_false, if_false, q2, Bool.true_eq_false, h2.err, ne_eq, not_true_eq_false]
      rw [hA]
      rw [show ([61] : Bs).length = 1 from rfl] at h3
      by_cases hl : 60 < v.length
      · have q3 := h3.valueLong hs hl
        have hw := h3.wr (goS 1 (goS k.length (goS 1 st))).at' 2 (by decide)
        rw [q3]
        refine ⟨l ++ [(k, [])], failS (goS 1 (goS k.length (goS 1 st))).at' 2 (goS 1 (goS k.length (goS 1 st))), ?_, ?_⟩
        · rw [hf0]
          exact hw.tag _ _
        · simp only [attrsOut, if_neg h8, hd, Bool.false_eq_true, if_false, if_pos hl]
          exact hw
      · have hv : v.length ≤ 60 := by omega
        have q3 := h3.value hs hv
        have h4 := h3.go
        have el : ([34] ++ escape true v ++ [34] : Bs).length = (escape true v).length + 2 := by simp
        obtain ⟨l', st', q4, q5⟩ := ih _ h4
        rw [el] at q4 q5
        have hat : (goS ((escape true v).length + 2) (goS 1 (goS k.length (goS 1 st)))).at' = st.at' + (attrT (k, v)).length := by
          have ea : (attrT (k, v)).length = 1 + k.length + 1 + ((escape true v).length + 2) := attrT_len' (k, v)
          rw [ea]
          show st.at' + 1 + k.length + 1 + ((escape true v).length + 2) = _
          omega
        rw [q3]
        refine ⟨l', st', q4, ?_⟩
        rw [hat] at q5
        simp only [attrsOut, if_neg h8, hd, Bool.false_eq_true, if_false, if_neg hl]
        split at q5
        · obtain ⟨e1, e2⟩ := q5
          refine ⟨by rw [e1]; simp, ?_⟩
          rw [e2]
          simp only [goS_goS, List.flatMap_cons, List.length_append, attrT_len']
          congr 1
        · exact q5
    · have hw := h2.wr (goS 1 st).at' 2 (by decide)
      have hA : attrR s l (goS 1 st) = (l, failS (goS 1 st).at' 2 (goS k.length (goS 1 st))) := by
        unfold attrR
        rw [if_neg h8]
        have e1 : (goS k.length (goS 1 st)).err = 0 := h2.err
        simp only [q1, hd, and_true, e1, if_true]
        generalize failS (goS 1 st).at' 2 (goS k.length (goS 1 st)) = sw at hw ⊢
        have e2 : (if sw.err = 0 ∧ hasR s [61] sw = false then failS sw.at' 2 sw else sw) = sw := if_neg (fun q => hw.ne (hw.err.symm.trans q.1))
        simp only [e2]
        rw [if_pos (show sw.err ≠ 0 from fun q => hw.ne (hw.err.symm.trans q))]
      rw [hA]
      refine ⟨l, failS (goS 1 st).at' 2 (goS k.length (goS 1 st)), ?_, ?_⟩
      · rw [hf0]
        exact hw.tag _ _
      · simp only [attrsOut, if_neg h8, hd, if_true]
        exact hw
/-- What both say of such a text. -/
theorem parse_same (n : Bs) (a : List (Bs × Bs)) (hn : isQual n = true) (hok : ∀ y ∈ a, okA y) (ha : a.length ≤ 100) (s : Bs) (hs : s = [60] ++ (n ++ (a.flatMap attrT ++ [47, 62]))) (hl : s.length ≤ 8000) :
    ∃ e m r, parseS 1000 s = some (e, m, r) ∧ parseR 1000 s = some (e, m, r) ∧ (r = 0 ↔ attrsOut [] a (1 + n.length) = none) ∧ (e = .mk n a [] 0 ∨ e = nothing) := by
  have h : At s ⟨0, 0, 0, 0⟩ ([60] ++ (n ++ (a.flatMap attrT ++ [47, 62]))) := ⟨rfl, Nat.zero_le _, hs⟩
  obtain ⟨_, c, r, hk, hc⟩ := isQual_parts hn
  obtain ⟨f1, f2, f3, f4, f5⟩ := first_of hc
  have hst : Stop ([60] ++ (n ++ (a.flatMap attrT ++ [47, 62]))) := by rw [hk]; exact stop_of f4
  have m1 := fill_nil h hst (f := 1000) (by decide)
  have hbl := h.noBlanks hst.1
  have mR : miscR s ⟨0, 0, 0, 0⟩ = some ⟨0, 0, 0, 0⟩ := by
    unfold miscR
    have h0 : At s (goS 0 ⟨0, 0, 0, 0⟩) ([60] ++ (n ++ (a.flatMap attrT ++ [47, 62]))) := h
    simp only [hbl, h0.hasnt (q := [60, 33, 45, 45]) hst.2, Bool.false_eq_true, if_false]
    rfl
  have h0 := (h.elems (0 + 1)).go
  rw [show ([60] : Bs).length = 1 from rfl] at h0
  have hah := attrs_head a [47, 62] rfl
  have q1 := h0.qual hn hah
  have q1r := h0.qualR hn hah
  have h1 := h0.go
  have hat : (goS n.length (goS 1 { at' := 0, elems := 0 + 1, err := 0, out := 0 })).at' = 1 + n.length := by show 0 + 1 + n.length = _; omega
  obtain ⟨l1, st1, x1, y1⟩ := outS a [] s [47, 62] _ 999 h1 hok ⟨47, _, rfl, .inl rfl⟩ (by omega)
  obtain ⟨l2, st2, x2, y2⟩ := outR a [] s _ 1000 h1 hok (by omega)
  rw [hat] at y1 y2
  have E1 : elementS s 1000 0 ⟨0, 0, 0, 0⟩ = match isS s [47, 62] st1 with
      | (true, st) => some (.mk n l1 [] 0, st)
      | (false, st) => match kidsS s 999 n 1 [] (mustS s [62] st) with
        | some (k, st) => some (.mk n l1 k 0, st)
        | none => none := by
    conv => lhs; unfold elementS
    simp only [h.rest, List.singleton_append, List.take_succ_cons, List.take_zero, if_true]
    rw [if_neg (by decide)]
    simp only [q1, x1]
    rfl
  have E2 : elR s 1000 ⟨0, 0, 0, 0⟩ = some (.mk n l2 [] 0, st2) := by
    unfold elR
    simp only [h.has (q := [60]), Bool.true_eq_false, if_false]
    rw [if_neg (by decide)]
    simp only [q1r, x2]
    rfl
  have L : ¬ 8000 < s.length := by omega
  cases ho : attrsOut [] a (1 + n.length) with
  | none =>
    rw [ho] at y1 y2
    obtain ⟨y11, y12⟩ := y1
    obtain ⟨y21, y22⟩ := y2
    rw [List.nil_append] at y11 y21
    rw [y12, y11] at E1
    rw [y22, y21] at E2
    have h2 : At s (goS (a.flatMap attrT).length (goS n.length (goS 1 { at' := 0, elems := 0 + 1, err := 0, out := 0 }))) ([47, 62] ++ []) := by rw [List.append_nil]; exact h1.go
    have q3 := h2.is
    have h3 := h2.go
    have m3 := fill_nil h3 ⟨rfl, by simp⟩ (f := 1000) (by decide)
    have hb3 := h3.noBlanks rfl
    rw [show ([47, 62] : Bs).length = 2 from rfl] at q3 h3 m3 hb3
    rw [q3] at E1
    have e2 : goS ((a.flatMap attrT).length + 2) (goS n.length (goS 1 { at' := 0, elems := 0 + 1, err := 0, out := 0 })) = goS 2 (goS (a.flatMap attrT).length (goS n.length (goS 1 { at' := 0, elems := 0 + 1, err := 0, out := 0 }))) := (goS_goS 2 (a.flatMap attrT).length _).symm
    rw [e2] at E2
    generalize goS 2 (goS (a.flatMap attrT).length (goS n.length (goS 1 { at' := 0, elems := 0 + 1, err := 0, out := 0 }))) = stE at h3 m3 hb3 E1 E2
    have hend : stE.at' = s.length := by
      have := congrArg List.length h3.eq
      rw [List.length_drop] at this
      have := h3.le
      simp at *
      omega
    have mR3 : miscR s stE = some stE := by
      unfold miscR
      have h0 : At s (goS 0 stE) [] := h3
      simp only [hb3, h0.hasnt (q := [60, 33, 45, 45]) (by simp), Bool.false_eq_true, if_false]
      rfl
    refine ⟨.mk n a [] 0, s.length, 0, ?_, ?_, by simp, .inl rfl⟩
    · unfold parseS
      rw [if_neg L]
      simp only [m1, E1, m3, h3.rest, if_true, h3.err]
    · unfold parseR
      rw [if_neg L]
      simp only [mR, E2, mR3]
      rw [if_neg (show ¬ (stE.err = 0 ∧ stE.at' < s.length) from fun q => by omega), if_pos h3.err]
  | some ep =>
    obtain ⟨er, p⟩ := ep
    rw [ho] at y1 y2
    have y1 : Wr st1 er p := y1
    have y2 : Wr st2 er p := y2
    have E1' : elementS s 1000 0 ⟨0, 0, 0, 0⟩ = some (.mk n l1 [] 0, st1) := by
      rw [E1, y1.is (by simp)]
      simp only [y1.must (q := [62]) (by simp)]
      have hk : kidsS s 999 n 1 [] st1 = some ([], st1) := by
        show kidsS s (998 + 1) n 1 [] st1 = _
        unfold kidsS
        rw [if_pos (by rw [y1.err]; exact y1.ne)]
      rw [hk]
    have m3 : remarksS s 1000 st1 = some (goS 0 st1) := by
      show remarksS s (999 + 1) st1 = _
      unfold remarksS
      simp only [y1.blanks, (y1.go 0).is (q := [60, 33, 45, 45]) (by simp), if_true]
    have mR3 : miscR s st2 = some (goS 0 st2) := by
      unfold miscR
      simp only [y2.blanks, (y2.go 0).has, Bool.false_eq_true, if_false]
    refine ⟨nothing, p, er, ?_, ?_, ⟨fun q => absurd q y1.ne, fun q => by cases q⟩, .inr rfl⟩
    · unfold parseS
      rw [if_neg L]
      simp only [m1, E1', m3, (y1.go 0).rest, if_true]
      rw [if_neg (by rw [(y1.go 0).err]; exact y1.ne), (y1.go 0).err, (y1.go 0).out]
    · unfold parseR
      rw [if_neg L]
      simp only [mR, E2, mR3]
      rw [if_neg (show ¬ ((goS 0 st2).err = 0 ∧ (goS 0 st2).at' < s.length) from fun q => y2.ne ((y2.go 0).err.symm.trans q.1)), if_neg (fun q => y2.ne ((y2.go 0).err.symm.trans q)), (y2.go 0).err, (y2.go 0).out]
end Go.Proofs.YtfgemjpoiconbaaGreatDoor.GEv

/- The texts of XmlAttrs: plain laws. -/
namespace Go.Proofs.YtfgemjpoiconbaaGreatDoor.GEv
open Go
set_option linter.unusedSimpArgs false
set_option linter.unusedVariables false
def keyL (i : Nat) : Bs := [107, UInt8.ofNat (97 + i)]
def baseA (v : Bs) (n : Nat) : List (Bs × Bs) := (List.range n).map fun i => (keyL i, v)
def lawA (v : Bs) (n : Nat) (tw : Bool) : List (Bs × Bs) := if tw = true ∧ 1 < n then (baseA v n).set (n - 1) (keyL 0, v) else baseA v n
theorem baseA_succ (v : Bs) (n : Nat) : baseA v (n + 1) = baseA v n ++ [(keyL n, v)] := by
  unfold baseA
  rw [List.range_succ, List.map_append]
  rfl
theorem baseA_len (v : Bs) (n : Nat) : (baseA v n).length = n := by simp [baseA]
theorem lawA_len (v : Bs) (n : Nat) (tw : Bool) : (lawA v n tw).length = n := by
  unfold lawA
  split <;> simp [baseA_len]
def nOut : List Bs → List Bs → Bool
  | _, [] => true
  | l, k :: a => decide (l.length < 8) && !(l.any (· == k)) && nOut (l ++ [k]) a
theorem out_names : ∀ (a l : List (Bs × Bs)) (p : Nat), (∀ x ∈ a, x.2.length ≤ 60) → (attrsOut l a p = none ↔ nOut (l.map (·.1)) (a.map (·.1)) = true)
  | [], l, p, _ => by simp [attrsOut, nOut]
  | x :: a, l, p, h => by
    have hx := h x (List.mem_cons_self ..)
    have ih := out_names a (l ++ [x]) (p + (attrT x).length) (fun y hy => h y (List.mem_cons_of_mem _ hy))
    have hd : dupA l x.1 = (l.map (·.1)).any (· == x.1) := by
      unfold dupA
      rw [List.any_map]
      rfl
    simp only [attrsOut, List.map_cons, nOut, List.length_map]
    rw [List.map_append] at ih
    by_cases h8 : 8 ≤ l.length
    · rw [if_pos h8]
      simp [show ¬ l.length < 8 by omega]
    · rw [if_neg h8, hd]
      cases hb : (l.map (·.1)).any (· == x.1)
      · simp only [Bool.false_eq_true, if_false, if_neg (show ¬ 60 < x.2.length by omega)]
        rw [ih]
        simp [show l.length < 8 by omega]
      · simp
theorem names_of (v : Bs) (n : Nat) (tw : Bool) : (lawA v n tw).map (·.1) = (lawA [] n tw).map (·.1) := by
  unfold lawA baseA
  split
  · rw [List.map_set, List.map_set, List.map_map, List.map_map]
    rfl
  · rw [List.map_map, List.map_map]
    rfl
theorem lawNames_ok : ∀ n : Fin 13, ∀ tw : Bool, nOut [] ((lawA [] n.val tw).map (·.1)) = (decide (n.val = 0) || (decide (n.val ≤ 8) && !(tw && decide (1 < n.val)))) := by decide +kernel
theorem lawA_mem {v : Bs} {n : Nat} {tw : Bool} {x : Bs × Bs} (h : x ∈ lawA v n tw) : x.2 = v ∧ ∃ i, i < n ∧ x.1 = keyL i := by
  unfold lawA at h
  split at h
  · rename_i hc
    rcases List.mem_or_eq_of_mem_set h with h | h
    · simp only [baseA, List.mem_map, List.mem_range] at h
      obtain ⟨i, hi, rfl⟩ := h
      exact ⟨rfl, i, hi, rfl⟩
    · rw [h]
      exact ⟨rfl, 0, by omega, rfl⟩
  · simp only [baseA, List.mem_map, List.mem_range] at h
    obtain ⟨i, hi, rfl⟩ := h
    exact ⟨rfl, i, hi, rfl⟩
/-- Whether such attributes may stand. -/
theorem law_out (size n : Nat) (tw : Bool) (hn : n ≤ 12) (p : Nat) : attrsOut [] (lawA (List.replicate size 120) n tw) p = none ↔ (n = 0 ∨ (size ≤ 60 ∧ n ≤ 8 ∧ ¬ (tw = true ∧ 1 < n))) := by
  by_cases hs : size ≤ 60
  · rw [out_names _ _ _ (fun x hx => by rw [(lawA_mem hx).1, List.length_replicate]; exact hs), names_of]
    have := lawNames_ok ⟨n, by omega⟩ tw
    rw [show (([] : List (Bs × Bs)).map (·.1)) = [] from rfl, this]
    cases tw <;> simp [hs]
  · have hl := lawA_len (List.replicate size 120) n tw
    have hm : ∀ x ∈ lawA (List.replicate size 120) n tw, x.2.length = size := fun x hx => by rw [(lawA_mem hx).1, List.length_replicate]
    generalize lawA (List.replicate size 120) n tw = l at hl hm
    cases l with
    | nil =>
      have : n = 0 := by simpa using hl.symm
      simp [attrsOut, this]
    | cons x r =>
      have hx := hm x (List.mem_cons_self ..)
      have hn0 : ¬ n = 0 := by simp at hl; omega
      have hlt : 60 < size := by omega
      simp [attrsOut, dupA, hx, hn0, hs, hlt]
theorem key_ok : ∀ i : Fin 13, isQual (keyL i.val) = true ∧ (61 : UInt8) ∉ keyL i.val := by decide +kernel
theorem xs_ok (size : Nat) : signs (List.replicate size 120) = true ∧ escape true (List.replicate size 120) = List.replicate size 120 := by
  refine ⟨signs_ascii (fun b hb => ?_), ?_⟩
  · rw [(List.mem_replicate.1 hb).2]
    decide
  · induction size with
    | zero => rfl
    | succ k ih =>
      rw [List.replicate_succ]
      show esc true 120 ++ escape true (List.replicate k 120) = _
      rw [ih]
      rfl
theorem law_ok {size n : Nat} {tw : Bool} (hn : n ≤ 12) : ∀ y ∈ lawA (List.replicate size 120) n tw, okA y := by
  intro y hy
  obtain ⟨h1, i, hi, h2⟩ := lawA_mem hy
  refine ⟨?_, ?_⟩
  · rw [h2]
    exact (key_ok ⟨i, by omega⟩).1
  · rw [h1]
    exact (xs_ok size).1
/-! ### behind each '=' stands a mark -/
def eqq : Bs → Bool
  | [] => true
  | c :: r => (if c = 61 then (match r with | [] => false | x :: _ => x == 34) else true) && eqq r
theorem eqq_EqQ : ∀ {s : Bs}, eqq s = true → EqQ s
  | [], _, i, r, h => by simp at h
  | c :: s, hq, 0, r, h => by
    simp only [eqq, Bool.and_eq_true] at hq
    rw [List.drop_zero] at h
    injection h with h1 h2
    subst h1 h2
    have h1 := hq.1
    simp only [if_true] at h1
    cases s with
    | nil => cases h1
    | cons x t =>
      have : x = 34 := by simpa using h1
      subst this
      exact ⟨t, rfl⟩
  | c :: s, hq, i + 1, r, h => by
    simp only [eqq, Bool.and_eq_true] at hq
    exact eqq_EqQ hq.2 i r (by simpa using h)
theorem eqq_app : ∀ {u w : Bs}, (61 : UInt8) ∉ u → eqq (u ++ w) = eqq w
  | [], _, _ => rfl
  | c :: u, w, h => by
    have hc : ¬ c = 61 := fun e => h (by rw [e]; exact List.mem_cons_self ..)
    rw [List.cons_append]
    simp only [eqq, if_neg hc, Bool.true_and]
    exact eqq_app (fun q => h (List.mem_cons_of_mem _ q))
theorem eqq_attr {k v w : Bs} (hk : (61 : UInt8) ∉ k) (hv : (61 : UInt8) ∉ escape true v) : eqq (attrT (k, v) ++ w) = eqq w := by
  have e : attrT (k, v) ++ w = ([32] ++ k) ++ (61 :: ([34] ++ escape true v ++ [34] ++ w)) := by simp [attrT]
  have h1 : (61 : UInt8) ∉ [32] ++ k := by simp [hk]
  have h2 : (61 : UInt8) ∉ [34] ++ escape true v ++ [34] := by simp [hv]
  rw [e, eqq_app h1]
  simp only [eqq, if_true]
  rw [eqq_app h2]
  simp
theorem eqq_attrs : ∀ {a : List (Bs × Bs)} {w : Bs}, (∀ x ∈ a, (61 : UInt8) ∉ x.1 ∧ (61 : UInt8) ∉ escape true x.2) → eqq (a.flatMap attrT ++ w) = eqq w
  | [], _, _ => rfl
  | (k, v) :: a, w, h => by
    rw [List.flatMap_cons, List.append_assoc]
    have hx := h (k, v) (List.mem_cons_self ..)
    rw [eqq_attr hx.1 hx.2]
    exact eqq_attrs (fun x hx => h x (List.mem_cons_of_mem _ hx))
abbrev lawE (size n : Nat) (tw : Bool) : El := .mk [97] (lawA (List.replicate size 120) n tw) [] 0
theorem lawE_text (size n : Nat) (tw : Bool) : printE (lawE size n tw) = [60] ++ ([97] ++ ((lawA (List.replicate size 120) n tw).flatMap attrT ++ [47, 62])) := by
  simp only [printE]
  simp
theorem law_eqq {size n : Nat} {tw : Bool} (hn : n ≤ 12) : EqQ (printE (lawE size n tw)) := by
  apply eqq_EqQ
  rw [lawE_text, eqq_app (by decide), eqq_app (by decide), eqq_attrs]
  · decide
  · intro x hx
    obtain ⟨h1, i, hi, h2⟩ := lawA_mem hx
    refine ⟨by rw [h2]; exact (key_ok ⟨i, by omega⟩).2, ?_⟩
    rw [h1, (xs_ok size).2]
    intro q
    have := (List.mem_replicate.1 q).2
    exact absurd this (by decide)
theorem attrs_len_le : ∀ (a : List (Bs × Bs)) (m : Nat), (∀ x ∈ a, (attrT x).length ≤ m) → (a.flatMap attrT).length ≤ m * a.length
  | [], m, _ => by simp
  | x :: a, m, h => by
    have h1 := h x (List.mem_cons_self ..)
    have h2 := attrs_len_le a m (fun y hy => h y (List.mem_cons_of_mem _ hy))
    rw [List.flatMap_cons, List.length_append, List.length_cons, Nat.mul_add, Nat.mul_one]
    omega
theorem law_len {size n : Nat} {tw : Bool} (hn : n ≤ 12) (hs : size ≤ 70) : (printE (lawE size n tw)).length ≤ 8000 := by
  rw [lawE_text]
  have h := attrs_len_le (lawA (List.replicate size 120) n tw) 80 (fun x hx => by
    obtain ⟨h1, i, hi, h2⟩ := lawA_mem hx
    rw [attrT_len', h1, h2, (xs_ok size).2, List.length_replicate]
    show 1 + 2 + 1 + (size + 2) ≤ 80
    omega)
  rw [lawA_len] at h
  simp only [List.length_append, List.length_cons, List.length_nil]
  omega
end Go.Proofs.YtfgemjpoiconbaaGreatDoor.GEv

