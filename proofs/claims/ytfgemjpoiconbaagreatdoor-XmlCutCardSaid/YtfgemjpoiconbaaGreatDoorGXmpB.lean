import Derived.Test.YtfgemjpoiconbaaGreatDoorGXmpA
/- A printed text that is cut short is no element: plain laws. -/
namespace Go.Proofs.YtfgemjpoiconbaaGreatDoor.GEv
open Go
set_option linter.unusedSimpArgs false
set_option linter.unusedVariables false
/-- It was found wrong, somewhere in the text. -/
structure Bad (p : Bs) (st : Rd) : Prop where
  err : st.err = 2
  out : st.out ≤ p.length
theorem Bad.rest {p : Bs} {st : Rd} (h : Bad p st) : restS p st = [] := by simp [restS, h.err]
theorem Bad.fail {p : Bs} {st : Rd} (h : Bad p st) (a e : Nat) : failS a e st = st := by simp [failS, h.err]
theorem Bad.is {p q : Bs} {st : Rd} (h : Bad p st) (hq : q ≠ []) : isS p q st = (false, st) := by
  unfold isS
  rw [h.rest, List.take_nil, if_neg (fun e => hq e.symm)]
theorem Bad.must {p q : Bs} {st : Rd} (h : Bad p st) (hq : q ≠ []) : mustS p q st = st := by
  unfold mustS
  rw [h.is hq]
  exact h.fail _ _
theorem Bad.go {p : Bs} {st : Rd} (h : Bad p st) (n : Nat) : Bad p (goS n st) := ⟨h.err, h.out⟩
theorem Bad.blanks {p : Bs} {st : Rd} (h : Bad p st) : blanksN p st = 0 := by
  unfold blanksN
  rw [h.rest]
  rfl
theorem Bad.value {p : Bs} {st : Rd} (h : Bad p st) : valueS p st = ([], st) := by
  unfold valueS
  rw [h.rest]
  simp only [valueV, h.fail]
theorem Bad.attrs {p : Bs} {st : Rd} (h : Bad p st) (f : Nat) (l : List (Bs × Bs)) : attrsS p (f + 1) l st = some (l, goS 0 st) := by
  unfold attrsS
  simp only [h.blanks, if_true]
theorem Bad.kids {p : Bs} {st : Rd} (h : Bad p st) (f d : Nat) (n : Bs) (l : List El) : kidsS p (f + 1) n d l st = some (l, st) := by
  unfold kidsS
  simp [h.err]
theorem Bad.remarks {p : Bs} {st : Rd} (h : Bad p st) (f : Nat) : remarksS p (f + 1) st = some (goS 0 st) := by
  unfold remarksS
  simp only [h.blanks, (h.go 0).is (q := [60, 33, 45, 45]) (by simp), if_true]
theorem At.bad {p u : Bs} {st : Rd} (h : At p st u) {a : Nat} (ha : a ≤ p.length) : Bad p (failS a 2 st) := by
  simp only [failS, h.err, if_true]
  exact ⟨rfl, ha⟩
/-- At the text's end, or wrong. -/
def Dm (p : Bs) (st : Rd) : Prop := At p st [] ∨ Bad p st
theorem Dm.fail {p : Bs} {st : Rd} (h : Dm p st) {a : Nat} (ha : a ≤ p.length) : Bad p (failS a 2 st) := by
  rcases h with h | h
  · exact h.bad ha
  · rw [h.fail]; exact h
theorem Dm.rest {p : Bs} {st : Rd} (h : Dm p st) : restS p st = [] := by
  rcases h with h | h
  · exact h.rest
  · exact h.rest
theorem Dm.is {p q : Bs} {st : Rd} (h : Dm p st) (hq : q ≠ []) : isS p q st = (false, st) := by
  unfold isS
  rw [h.rest, List.take_nil, if_neg (fun e => hq e.symm)]
theorem Dm.must {p q : Bs} {st : Rd} (h : Dm p st) (hq : q ≠ []) : Bad p (mustS p q st) := by
  rcases h with h | h
  · unfold mustS
    rw [Dm.is (.inl h) hq]
    exact h.bad h.le
  · rw [h.must hq]; exact h
theorem Dm.go {p : Bs} {st : Rd} (h : Dm p st) : Dm p (goS 0 st) := h
theorem Dm.blanks {p : Bs} {st : Rd} (h : Dm p st) : blanksN p st = 0 := by
  unfold blanksN
  rw [h.rest]
  rfl
theorem Dm.attrs {p : Bs} {st : Rd} (h : Dm p st) (f : Nat) (l : List (Bs × Bs)) : attrsS p (f + 1) l st = some (l, goS 0 st) := by
  unfold attrsS
  simp only [h.blanks, if_true]
/-- A name that is cut. -/
theorem At.qualD {p u : Bs} {st : Rd} (h : At p st u) (hu : u.all signB = true) : ∃ st', qualS p st = (u, st') ∧ Dm p st' := by
  have e : (u ++ [] : Bs).takeWhile signB = u := takeWhile_app hu rfl
  rw [List.append_nil] at e
  unfold qualS
  rw [h.rest, e]
  refine ⟨_, rfl, ?_⟩
  have h1 : At p st (u ++ []) := by rw [List.append_nil]; exact h
  split
  · exact .inl h1.go
  · exact .inr ((h.bad h.le).go _)
theorem At.mustD {p u q : Bs} {st : Rd} (h : At p st u) (hq : u.take q.length ≠ q) : Bad p (mustS p q st) := by
  unfold mustS
  rw [h.isnt hq]
  exact h.bad h.le
theorem At.valueD {p u : Bs} {st : Rd} (h : At p st u) (hu : valueV u = none) : ∃ v st', valueS p st = (v, st') ∧ Bad p st' := by
  unfold valueS
  rw [h.rest, hu]
  exact ⟨_, _, rfl, h.bad h.le⟩
/-- Where a text is cut. -/
theorem cut_two {u w a b : Bs} (h : u ++ w = a ++ b) (hw : w ≠ []) : (∃ u', u = a ++ u' ∧ u' ++ w = b) ∨ ∃ z, z ≠ [] ∧ a = u ++ z := by
  rcases List.append_eq_append_iff.1 h with ⟨a', h1, h2⟩ | ⟨c', h1, h2⟩
  · by_cases ha : a' = []
    · subst ha
      exact .inl ⟨[], by simpa using h1.symm, by simpa using h2⟩
    · exact .inr ⟨a', ha, h1⟩
  · exact .inl ⟨c', h1, h2.symm⟩
theorem all_left {p : UInt8 → Bool} {u z n : Bs} (h : n.all p = true) (e : n = u ++ z) : u.all p = true := by
  rw [e, List.all_append, Bool.and_eq_true] at h
  exact h.1
theorem valueV_cut {u w v x : Bs} (h : u ++ w = [34] ++ escape true v ++ [34] ++ x) (hw : w ≠ []) (hs : signs v = true) (hl : v.length ≤ 60) : valueV u = none ∨ ∃ u', u = [34] ++ escape true v ++ [34] ++ u' ∧ u' ++ w = x := by
  rcases cut_two h hw with q | ⟨z, hz, e⟩
  · exact .inr q
  · left
    cases u with
    | nil => rfl
    | cons c r =>
      have e : (34 :: (escape true v ++ [34]) : Bs) = c :: (r ++ z) := by simpa using e
      injection e with e1 e2
      subst e1
      have hr : (34 : UInt8) ∉ r := by
        rcases List.eq_nil_or_concat z with q | ⟨z', y, q⟩
        · exact absurd q hz
        · rw [q, List.concat_eq_append, ← List.append_assoc] at e2
          intro hm
          exact (escape_not v).1 (by rw [List.append_inj_left' e2 rfl]; exact List.mem_append_left _ hm)
      unfold valueV
      simp only [true_or, if_true]
      rw [cutB_not hr]
theorem blankD {u w x : Bs} (h : u ++ w = x) (hx : x.takeWhile blankB = []) : u.takeWhile blankB = [] := by
  cases u with
  | nil => rfl
  | cons c r =>
    subst h
    rw [List.cons_append, List.takeWhile_cons] at hx
    rw [List.takeWhile_cons]
    split
    · rename_i hc; rw [hc] at hx; simp at hx
    · rfl
theorem signD {u w x : Bs} (h : u ++ w = x) (hx : x.takeWhile signB = []) : u.takeWhile signB = [] := by
  cases u with
  | nil => rfl
  | cons c r =>
    subst h
    rw [List.cons_append, List.takeWhile_cons] at hx
    rw [List.takeWhile_cons]
    split
    · rename_i hc; rw [hc] at hx; simp at hx
    · rfl
theorem cut_attrs : ∀ (a l : List (Bs × Bs)) (p u w x : Bs) (st : Rd) (f : Nat), At p st u → u ++ w = a.flatMap attrT ++ x → w ≠ [] → fairA l a = true → l.length + a.length ≤ 8 → (∃ c r, x = c :: r ∧ (c = 47 ∨ c = 62)) → a.length < f →
    ∃ l' st', attrsS p f l st = some (l', st') ∧ (Dm p st' ∨ l' = l ++ a ∧ st' = goS (a.flatMap attrT).length st ∧ ∃ u', u = a.flatMap attrT ++ u' ∧ u' ++ w = x)
  | [], l, p, u, w, x, st, 0, _, _, _, _, _, _, hf => by simp at hf
  | [], l, p, u, w, x, st, f + 1, h, hu, hw, _, _, ⟨c, r, hx, hc⟩, hf => by
    have hu : u ++ w = x := hu
    have hb : u.takeWhile blankB = [] := blankD hu (by subst hx; rcases hc with rfl | rfl <;> rfl)
    refine ⟨l, goS 0 st, ?_, .inr ⟨by simp, rfl, u, rfl, hu⟩⟩
    unfold attrsS
    simp only [h.noBlanks hb, if_true]
  | y :: a, l, p, u, w, x, st, 0, _, _, _, _, _, _, hf => by simp at hf
  | (k, v) :: a, l, p, u, w, x, st, f + 1, h, hu, hw, hfa, hl, hx, hf => by
    simp only [fairA, Bool.and_eq_true, fairX, decide_eq_true_eq] at hfa
    obtain ⟨⟨⟨⟨hq, hs⟩, hv⟩, hd⟩, hfa⟩ := hfa
    have hf1 : a.length < f := by simp at hf; omega
    obtain ⟨f0, hf0⟩ : ∃ g, f = g + 1 := ⟨f - 1, by omega⟩
    obtain ⟨hks, c, r, hk, hc⟩ := isQual_parts hq
    obtain ⟨f1, f2, f3, _, _⟩ := first_of hc
    have hd : (l.any fun x => x.1 == k) = false := by simpa [dupA] using hd
    have nl : ¬ 8 ≤ l.length := by simp at hl; omega
    have e0 : u ++ w = [32] ++ (k ++ ([61] ++ (([34] ++ escape true v ++ [34]) ++ (a.flatMap attrT ++ x)))) := by rw [hu]; simp [attrT]
    rcases cut_two e0 hw with ⟨u1, rfl, e1⟩ | ⟨z, hz, e⟩
    rotate_left
    · have : u = [] := by
        cases u with
        | nil => rfl
        | cons c r => exfalso; simp at e; exact hz e.2.2
      subst this
      exact ⟨l, goS 0 st, Dm.attrs (.inl h) f l, .inl (Dm.go (.inl h))⟩
    have hb : blanksN p st = 1 := h.blanks (u := [32]) rfl (by
      refine blankD e1 ?_
      rw [hk]; simp [List.takeWhile_cons, f1])
    have h1 := h.go
    rw [show ([32] : Bs).length = 1 from rfl] at h1
    cases u1 with
    | nil =>
      refine ⟨l, goS 1 st, ?_, .inl (.inl h1)⟩
      unfold attrsS
      simp only [hb, h1.rest, if_neg (show ¬ (1 : Nat) = 0 by decide)]
    | cons c' r' =>
      have hcc : c' = c := by
        rw [hk] at e1
        simp at e1
        exact e1.1
      subst hcc
      have hne : ¬ (c' = 47 ∨ c' = 62) := fun q => q.elim f2 f3
      -- what comes of it if it goes wrong
      have wrong : ∀ (k' : Bs) (st1 : Rd), qualS p (goS 1 st) = (k', st1) → (∀ st2, (st2 = st1 ∨ st2 = failS (goS 1 st).at' 2 st1) → ∃ v' st3, valueS p (mustS p [61] st2) = (v', st3) ∧ Bad p st3) → ∃ l' st', attrsS p (f + 1) l st = some (l', st') ∧ Dm p st' := by
        intro k' st1 hq1 hw1
        have hc : ∀ b : Bool, (if b = true then failS (goS 1 st).at' 2 st1 else st1) = st1 ∨ (if b = true then failS (goS 1 st).at' 2 st1 else st1) = failS (goS 1 st).at' 2 st1 := by
          intro b
          cases b
          · exact .inl rfl
          · exact .inr rfl
        obtain ⟨v', st3, hv3, hb3⟩ := hw1 _ (hc (l.any fun x => x.1 == k'))
        refine ⟨l ++ [(k', v')], goS 0 st3, ?_, .inr (hb3.go 0)⟩
        unfold attrsS
        simp only [hb, h1.rest, if_neg (show ¬ (1 : Nat) = 0 by decide), if_neg hne, if_neg nl, hq1, hv3]
        rw [hf0]
        exact hb3.attrs _ _
      rcases cut_two e1 hw with ⟨u2, e2, e3⟩ | ⟨z, hz, e⟩
      rotate_left
      · obtain ⟨st1, hq1, hd1⟩ := h1.qualD (all_left hks e)
        obtain ⟨l', st', q1, q2⟩ := wrong _ st1 hq1 (fun st2 h2 => by
          have hD : Dm p st2 := by
            rcases h2 with rfl | rfl
            · exact hd1
            · exact .inr (hd1.fail h1.le)
          have hB := hD.must (q := [61]) (by simp)
          exact ⟨_, _, hB.value, hB⟩)
        exact ⟨l', st', q1, .inl q2⟩
      rw [e2] at h1
      have hq1 := h1.qual hq (signD e3 rfl)
      have h2 := h1.go
      rcases cut_two e3 hw with ⟨u3, rfl, e4⟩ | ⟨z, hz, e⟩
      rotate_left
      · have : u2 = [] := by
          cases u2 with
          | nil => rfl
          | cons c r => exfalso; simp at e; exact hz e.2.2
        subst this
        obtain ⟨l', st', q1, q2⟩ := wrong _ _ hq1 (fun st2 h2' => by
          have hD : Dm p st2 := by
            rcases h2' with rfl | rfl
            · exact .inl h2
            · exact .inr (Dm.fail (.inl h2) h1.le)
          have hB := hD.must (q := [61]) (by simp)
          exact ⟨_, _, hB.value, hB⟩)
        exact ⟨l', st', q1, .inl q2⟩
      have q2 := h2.must
      have h3 := h2.go
      rcases valueV_cut e4 hw hs hv with hn | ⟨u4, rfl, e5⟩
      · obtain ⟨v', st3, hv3, hb3⟩ := h3.valueD hn
        refine ⟨l ++ [(k, v')], goS 0 st3, ?_, .inl (.inr (hb3.go 0))⟩
        have hr := h1.rest
        unfold attrsS
        simp only [hb, hr, if_neg (show ¬ (1 : Nat) = 0 by decide)]
        rw [← e2]
        simp only [if_neg hne, if_neg nl, hq1, hd, Bool.false_eq_true, if_false, q2, hv3]
        rw [hf0]
        exact hb3.attrs _ _
      have q3 := h3.value hs hv
      have h4 := h3.go
      have el : ([34] ++ escape true v ++ [34] : Bs).length = (escape true v).length + 2 := by simp
      obtain ⟨l', st', q4, q5⟩ := cut_attrs a (l ++ [(k, v)]) p u4 w x _ f h4 e5 hw hfa (by simp at hl ⊢; omega) hx hf1
      rw [el] at q4 q5
      refine ⟨l', st', ?_, ?_⟩
      · have hr := h1.rest
        unfold attrsS
        simp only [hb, hr, if_neg (show ¬ (1 : Nat) = 0 by decide)]
        rw [← e2]
        simp only [if_neg hne, if_neg nl, hq1, hd, Bool.false_eq_true, if_false, q2, q3, q4]
      · rcases q5 with q5 | ⟨e6, e7, u', e8, e9⟩
        · exact .inl q5
        · refine .inr ⟨by rw [e6]; simp, ?_, u', ?_, e9⟩
          · rw [e7]
            simp only [goS_goS, List.flatMap_cons, List.length_append, attrT_len']
            congr 1
          · rw [e2, e8]
            simp [attrT]
/-- What is left of an element when its start is wrong. -/
theorem cut_rest {p : Bs} {st : Rd} (h : Dm p st) (n : Bs) (d f : Nat) (l : List El) : ∃ st', isS p [47, 62] st = (false, st) ∧ mustS p [62] st = st' ∧ kidsS p (f + 1) n d l st' = some (l, st') ∧ Bad p st' :=
  ⟨_, h.is (by simp), rfl, (h.must (by simp)).kids _ _ _ _, h.must (by simp)⟩
mutual
theorem cutE : ∀ (e : El) (p u w : Bs) (st : Rd) (d f : Nat), fairS e d = true → At p st u → u ++ w = printE e → w ≠ [] → st.elems + szE e ≤ 399 → 2 * szE e + 12 ≤ f → ∃ e' st', elementS p f d st = some (e', st') ∧ Bad p st'
  | .mk n a k q, p, u, w, st, d, 0, _, _, _, _, _, hf => by simp at hf
  | .mk n a k q, p, u, w, st, d, f + 1, hF, h, hu, hw, he, hf => by
    simp only [fairS, Bool.and_eq_true, decide_eq_true_eq] at hF
    obtain ⟨⟨⟨⟨hq, ha⟩, hd⟩, hA⟩, hK⟩ := hF
    have hz : szE (.mk n a k q) = 1 + szK k := by simp only [szE]
    rw [hz] at he hf
    obtain ⟨t, ht, htk⟩ : ∃ t, printE (.mk n a k q) = [60] ++ (n ++ (a.flatMap attrT ++ t)) ∧ ((k = [] ∧ t = [47, 62]) ∨ (k ≠ [] ∧ t = [62] ++ (printL k ++ ([60, 47] ++ n ++ [62])))) := by
      cases k with
      | nil => exact ⟨[47, 62], by simp only [printE]; simp, .inl ⟨rfl, rfl⟩⟩
      | cons x y => exact ⟨[62] ++ (printL (x :: y) ++ ([60, 47] ++ n ++ [62])), by simp only [printE]; simp, .inr ⟨by simp, rfl⟩⟩
    have htx : ∃ c r, t = c :: r ∧ (c = 47 ∨ c = 62) := by
      rcases htk with ⟨_, rfl⟩ | ⟨_, rfl⟩
      · exact ⟨47, _, rfl, .inl rfl⟩
      · exact ⟨62, _, rfl, .inr rfl⟩
    have hts : t.takeWhile signB = [] := by
      obtain ⟨c, r, rfl, rfl | rfl⟩ := htx <;> rfl
    rw [ht] at hu
    obtain ⟨f0, hf0⟩ : ∃ g, f = g + 1 := ⟨f - 1, by omega⟩
    cases u with
    | nil =>
      refine ⟨.mk [] [] [] st.at', _, ?_, h.bad h.le⟩
      unfold elementS
      simp only [h.rest, List.take_nil]
      rw [if_neg (by simp)]
    | cons c u1 =>
    have e1 : c = 60 ∧ u1 ++ w = n ++ (a.flatMap attrT ++ t) := by simpa using hu
    obtain ⟨rfl, e1⟩ := e1
    have q0 := h.rest
    have h' : At p { st with elems := st.elems + 1 } ([60] ++ u1) := h.elems _
    have h0 := h'.go
    rw [show ([60] : Bs).length = 1 from rfl] at h0
    -- if the start goes wrong
    have wrong : ∀ (n' : Bs) (st1 : Rd) (a' : List (Bs × Bs)) (st2 : Rd), qualS p (goS 1 { st with elems := st.elems + 1 }) = (n', st1) → attrsS p f [] st1 = some (a', st2) → Dm p st2 → ∃ e' st', elementS p (f + 1) d st = some (e', st') ∧ Bad p st' := by
      intro n' st1 a' st2 hq1 ha1 hd2
      obtain ⟨st3, r1, r2, r3, r4⟩ := cut_rest hd2 n' (d + 1) f0 []
      refine ⟨.mk n' a' [] st.at', st3, ?_, r4⟩
      unfold elementS
      simp only [q0, List.take_succ_cons, List.take_zero, if_true]
      rw [if_neg (by omega)]
      simp only [hq1, ha1, r1, r2]
      rw [hf0, r3]
    rcases cut_two e1 hw with ⟨u2, rfl, e2⟩ | ⟨z, hz, e⟩
    rotate_left
    · obtain ⟨st1, hq1, hd1⟩ := h0.qualD (all_left (isQual_parts hq).1 e)
      refine wrong _ _ [] (goS 0 st1) hq1 ?_ hd1.go
      rw [hf0]
      exact hd1.attrs _ _
    have hq1 := h0.qual hq (signD e2 (attrs_head a _ hts))
    have h1 := h0.go
    obtain ⟨a', st2, hat, hcase⟩ := cut_attrs a [] p u2 w t _ f h1 e2 hw hA (by simpa using ha) htx (by omega)
    rcases hcase with hD | ⟨ea, est, u3, rfl, e3⟩
    · exact wrong _ _ _ _ hq1 hat hD
    have h2 := h1.go
    rw [← est] at h2
    rcases htk with ⟨rfl, rfl⟩ | ⟨hk, rfl⟩
    · -- ahead of its end mark
      have hn : u3.take 1 ≠ [62] ∧ u3.take 2 ≠ [47, 62] := by
        rcases u3 with _ | ⟨x, _ | ⟨y, u3⟩⟩
        · simp
        · simp at e3; simp [e3.1]
        · exfalso
          simp at e3
          exact hw e3.2.2.2
      refine ⟨.mk n a' [] st.at', mustS p [62] st2, ?_, h2.mustD hn.1⟩
      have r1 := h2.isnt (p := [47, 62]) hn.2
      have r2 := (h2.mustD (q := [62]) hn.1).kids f0 (d + 1) n []
      unfold elementS
      simp only [q0, List.take_succ_cons, List.take_zero, if_true]
      rw [if_neg (by omega)]
      simp only [hq1, hat, r1]
      rw [hf0, r2]
    · cases u3 with
      | nil => exact wrong _ _ _ _ hq1 hat (.inl h2)
      | cons c u4 =>
      have e4 : c = 62 ∧ u4 ++ w = printL k ++ ([60, 47] ++ n ++ [62]) := by simpa using e3
      obtain ⟨rfl, e4⟩ := e4
      have h2' : At p st2 ([62] ++ u4) := h2
      have r1 := h2.isnt (p := [47, 62]) (by simp)
      have r2 := h2'.must
      have h3 := h2'.go
      have hd1 : d + 1 < 12 := by
        cases k with
        | nil => exact absurd rfl hk
        | cons x y =>
          simp only [fairK, Bool.and_eq_true] at hK
          obtain ⟨n', a1, k1, p1⟩ := x
          simp only [fairS, Bool.and_eq_true, decide_eq_true_eq] at hK
          exact hK.1.1.1.2
      obtain ⟨k', st4, r3, r4⟩ := cutLs k p u4 w _ (d + 1) f n [] hK hq hd1 h3 e4 hw (by rw [est]; show st.elems + 1 + szK k ≤ 399; omega) (by omega)
      refine ⟨.mk n a' k' st.at', st4, ?_, r4⟩
      unfold elementS
      simp only [q0, List.take_succ_cons, List.take_zero, if_true]
      rw [if_neg (by omega)]
      simp only [hq1, hat, r1, r2, r3]
theorem cutLs : ∀ (k : List El) (p u w : Bs) (st : Rd) (d f : Nat) (n : Bs) (l : List El), fairK k d = true → isQual n = true → d < 12 → At p st u → u ++ w = printL k ++ ([60, 47] ++ n ++ [62]) → w ≠ [] → st.elems + szK k ≤ 399 → 2 * szK k + 13 ≤ f → ∃ k' st', kidsS p f n d l st = some (k', st') ∧ Bad p st'
  | _, p, u, w, st, d, 0, _, _, _, _, _, _, _, _, _, hf => by simp at hf
  | [], p, u, w, st, d, f + 1, n, l, _, hq, hd, h, hu, hw, he, hf => by
    simp only [szK] at he hf
    obtain ⟨f0, hf0⟩ : ∃ g, f = g + 1 + 1 := ⟨f - 2, by omega⟩
    have e0 : u ++ w = [60, 47] ++ (n ++ [62]) := by rw [hu]; simp [printL]
    rcases cut_two e0 hw with ⟨u1, rfl, e1⟩ | ⟨z, hz, e⟩
    · have q1 := fill_nil h (stop_of (by decide)) (f := f) (by omega)
      have q2 := h.is
      have h1 := h.go
      have hs1 : ∃ st', qualS p (goS ([60, 47] : Bs).length st) = (u1, st') ∧ Dm p st' := by
        refine h1.qualD ?_
        rcases cut_two e1 hw with ⟨u2, rfl, e2⟩ | ⟨z, hz, e⟩
        · have : u2 = [] := by
            cases u2 with
            | nil => rfl
            | cons c r => exfalso; simp at e2; exact hw e2.2.2
          subst this
          simpa using (isQual_parts hq).1
        · exact all_left (isQual_parts hq).1 e
      obtain ⟨st', q3, q4⟩ := hs1
      have q5 : Dm p (if u1 = n then st' else failS (goS ([60, 47] : Bs).length st).at' 2 st') := by
        split
        · exact q4
        · exact .inr (q4.fail h1.le)
      have q5' : Dm p (if u1 = n then st' else failS st.at' 2 st') := by
        split
        · exact q4
        · exact .inr (q4.fail h.le)
      have q6 := q5'.blanks
      refine ⟨l, _, ?_, q5'.go.must (q := [62]) (by simp)⟩
      unfold kidsS
      simp only [h.err, ne_eq, not_true_eq_false, if_false, q1, q2, q3, q6]
    · -- ahead of its mark
      have hu2 : u = [] ∨ u = [60] := by
        rcases u with _ | ⟨x, _ | ⟨y, u⟩⟩
        · exact .inl rfl
        · simp at e; simp [e.1]
        · exfalso
          simp at e
          exact hz e.2.2.2
      have q1 : remarksS p f st = some st := fill_nil h (by rcases hu2 with rfl | rfl <;> exact ⟨rfl, by simp⟩) (by omega)
      have q2 := h.isnt (p := [60, 47]) (by rcases hu2 with rfl | rfl <;> simp)
      have q3 : ∃ e' st', elementS p f d st = some (e', st') ∧ Bad p st' := by
        rw [hf0]
        rcases hu2 with rfl | rfl
        · refine ⟨.mk [] [] [] st.at', _, ?_, h.bad h.le⟩
          unfold elementS
          simp only [h.rest, List.take_nil]
          rw [if_neg (by simp)]
        · have h' : At p { st with elems := st.elems + 1 } ([60] ++ []) := h.elems _
          have h0 := h'.go
          obtain ⟨st1, r1, r2⟩ := h0.qualD (by rfl)
          obtain ⟨st3, r3, r4, r5, r6⟩ := cut_rest r2.go [] (d + 1) f0 []
          rw [show ([60] : Bs).length = 1 from rfl] at r1
          refine ⟨.mk [] [] [] st.at', st3, ?_, r6⟩
          unfold elementS
          simp only [h.rest, List.take_succ_cons, List.take_zero, if_true]
          rw [if_neg (by omega)]
          simp only [r1, r2.attrs, r3, r4, r5]
      obtain ⟨e', st', q4, q5⟩ := q3
      refine ⟨l ++ [e'], st', ?_, q5⟩
      unfold kidsS
      simp only [h.err, ne_eq, not_true_eq_false, if_false, q1, q2, q4]
      rw [hf0]
      exact q5.kids _ _ _ _
  | k :: ks, p, u, w, st, d, f + 1, n, l, hF, hq, hd, h, hu, hw, he, hf => by
    simp only [fairK, Bool.and_eq_true] at hF
    have hz : szK (k :: ks) = szE k + szK ks := by simp only [szK]
    have hz1 : 1 ≤ szE k := by
      obtain ⟨_, _, _, _⟩ := k
      simp only [szE]
      omega
    rw [hz] at he hf
    obtain ⟨f0, hf0⟩ : ∃ g, f = g + 1 := ⟨f - 1, by omega⟩
    have e0 : u ++ w = printE k ++ (printL ks ++ ([60, 47] ++ n ++ [62])) := by rw [hu]; simp only [printL]; simp
    obtain ⟨c, r, hk, hc⟩ := gapE_head [] hF.1
    rw [gapE_nil] at hk
    obtain ⟨_, f2, _, f4, _⟩ := first_of hc
    have hst : Stop u ∧ u.take 2 ≠ [60, 47] := by
      rw [hk] at e0
      rcases u with _ | ⟨x, _ | ⟨y, u⟩⟩
      · exact ⟨⟨rfl, by simp⟩, by simp⟩
      · simp at e0
        obtain ⟨rfl, _⟩ := e0
        exact ⟨⟨rfl, by simp⟩, by simp⟩
      · simp at e0
        obtain ⟨rfl, rfl, _⟩ := e0
        exact ⟨stop_of f4, by simp [f2]⟩
    have q1 := fill_nil h hst.1 (f := f) (by omega)
    have q2 := h.isnt (p := [60, 47]) hst.2
    rcases cut_two e0 hw with ⟨u1, rfl, e1⟩ | ⟨z, hz', e⟩
    · have h' : At p st (gapE [] k ++ u1) := by rw [gapE_nil]; exact h
      obtain ⟨e', q3, _⟩ := readE Fill.nil k p u1 st d f hF.1 h' (by omega) (by omega)
      have h1 := h'.stE (szE k)
      obtain ⟨k', st', q4, q5⟩ := cutLs ks p u1 w _ d f n (l ++ [e']) hF.2 hq hd h1 e1 hw (by show st.elems + szE k + _ ≤ _; omega) (by omega)
      refine ⟨k', st', ?_, q5⟩
      unfold kidsS
      simp only [h.err, ne_eq, not_true_eq_false, if_false, q1, q2, q3, q4]
    · obtain ⟨e', st', q3, q4⟩ := cutE k p u z st d f hF.1 h e.symm hz' (by omega) (by omega)
      refine ⟨l ++ [e'], st', ?_, q4⟩
      unfold kidsS
      simp only [h.err, ne_eq, not_true_eq_false, if_false, q1, q2, q3]
      rw [hf0]
      exact q4.kids _ _ _ _
end
theorem read_cut {e : El} {f k : Nat} (hF : fairS e 0 = true) (hz : szE e ≤ 398) (hk : k < (printE e).length) (hl : k ≤ 8000) (hf : 2 * szE e + 12 ≤ f) : ∃ m, parseS f ((printE e).take k) = some (nothing, m, 2) ∧ m ≤ k := by
  have hpl : ((printE e).take k).length = k := by rw [List.length_take]; omega
  obtain ⟨f0, hf0⟩ : ∃ g, f = g + 1 := ⟨f - 1, by omega⟩
  have h : At ((printE e).take k) ⟨0, 0, 0, 0⟩ ((printE e).take k) := ⟨rfl, Nat.zero_le _, rfl⟩
  have hw : (printE e).drop k ≠ [] := by
    intro q
    have := congrArg List.length q
    rw [List.length_drop] at this
    simp at this
    omega
  obtain ⟨c, r, hp, hc⟩ := gapE_head [] hF
  rw [gapE_nil] at hp
  obtain ⟨_, f2, _, f4, _⟩ := first_of hc
  have hst : Stop ((printE e).take k) := by
    rw [hp]
    rcases k with _ | _ | k
    · exact ⟨rfl, by simp⟩
    · exact ⟨rfl, by simp⟩
    · exact stop_of f4
  have q1 := fill_nil h hst (f := f) (by omega)
  obtain ⟨e', st', q2, q3⟩ := cutE e _ _ ((printE e).drop k) _ 0 f hF h (List.take_append_drop _ _) hw (by show 0 + _ ≤ _; omega) hf
  have q4 := q3.remarks f0
  rw [← hf0] at q4
  refine ⟨st'.out, ?_, by have := q3.out; rw [hpl] at this; exact this⟩
  unfold parseS
  rw [if_neg (by omega)]
  simp only [q1, q2, q4, (q3.go 0).rest, if_true]
  rw [if_neg (by show ¬ st'.err = 0; rw [q3.err]; decide)]
  simp [goS, q3.err]
end Go.Proofs.YtfgemjpoiconbaaGreatDoor.GEv

