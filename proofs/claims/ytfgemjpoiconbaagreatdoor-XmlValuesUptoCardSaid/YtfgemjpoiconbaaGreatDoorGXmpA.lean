import Derived.Test.YtfgemjpoiconbaaGreatDoorGXmO
/- What is printed, with fillers between, is read: plain laws. -/
namespace Go.Proofs.YtfgemjpoiconbaaGreatDoor.GEv
open Go
set_option linter.unusedSimpArgs false
set_option linter.unusedVariables false
/-- The reader stands ahead of x, and nothing went wrong. -/
structure At (s : Bs) (st : Rd) (x : Bs) : Prop where
  err : st.err = 0
  le : st.at' ≤ s.length
  eq : s.drop st.at' = x
theorem At.rest {s x : Bs} {st : Rd} (h : At s st x) : restS s st = x := by simp [restS, h.err, h.eq]
theorem At.go {s u x : Bs} {st : Rd} (h : At s st (u ++ x)) : At s (goS u.length st) x := ⟨h.err, by
  have e := congrArg List.length h.eq
  rw [List.length_drop, List.length_append] at e
  have := h.le
  show st.at' + u.length ≤ s.length
  omega, by
  show s.drop (st.at' + u.length) = x
  rw [← List.drop_drop, h.eq, List.drop_left]⟩
theorem At.elems {s x : Bs} {st : Rd} (h : At s st x) (n : Nat) : At s { st with elems := n } x := ⟨h.err, h.le, h.eq⟩
theorem At.is {s p x : Bs} {st : Rd} (h : At s st (p ++ x)) : isS s p st = (true, goS p.length st) := by
  unfold isS
  rw [h.rest, List.take_left, if_pos rfl]
theorem At.isnt {s p x : Bs} {st : Rd} (h : At s st x) (hp : x.take p.length ≠ p) : isS s p st = (false, st) := by
  unfold isS
  rw [h.rest, if_neg hp]
theorem At.must {s p x : Bs} {st : Rd} (h : At s st (p ++ x)) : mustS s p st = goS p.length st := by
  unfold mustS
  rw [h.is]
theorem goS_goS (m n : Nat) (st : Rd) : goS m (goS n st) = goS (n + m) st := by simp [goS, Nat.add_assoc]
theorem takeWhile_app {p : UInt8 → Bool} {u x : Bs} (hu : u.all p = true) (hx : x.takeWhile p = []) : (u ++ x).takeWhile p = u := by
  rw [List.takeWhile_append_of_pos (by simpa using hu), hx, List.append_nil]
theorem At.blanks {s u x : Bs} {st : Rd} (h : At s st (u ++ x)) (hu : u.all blankB = true) (hx : x.takeWhile blankB = []) : blanksN s st = u.length := by
  unfold blanksN
  rw [h.rest, takeWhile_app hu hx]
theorem At.noBlanks {s x : Bs} {st : Rd} (h : At s st x) (hx : x.takeWhile blankB = []) : blanksN s st = 0 := by
  unfold blanksN
  rw [h.rest, hx]
  rfl
/-! ### names -/
theorem first_not_blank : ∀ c : Fin 256, first c.val = true → (c.val ≠ 32 ∧ c.val ≠ 9 ∧ c.val ≠ 13 ∧ c.val ≠ 10 ∧ c.val ≠ 47 ∧ c.val ≠ 62 ∧ c.val ≠ 33 ∧ c.val ≠ 60) := by decide +kernel
theorem first_of {c : UInt8} (h : first c.toNat = true) : blankB c = false ∧ c ≠ 47 ∧ c ≠ 62 ∧ c ≠ 33 ∧ c ≠ 60 := by
  have q := first_not_blank ⟨c.toNat, UInt8.toNat_lt c⟩ h
  have e : ∀ n : UInt8, c.toNat ≠ n.toNat → c ≠ n := fun n hn he => hn (by rw [he])
  refine ⟨?_, e 47 q.2.2.2.2.1, e 62 q.2.2.2.2.2.1, e 33 q.2.2.2.2.2.2.1, e 60 q.2.2.2.2.2.2.2⟩
  unfold blankB
  simp [e 32 q.1, e 9 q.2.1, e 13 q.2.2.1, e 10 q.2.2.2.1]
theorem isName_parts {n : Bs} (h : isName n = true) : n.all signB = true ∧ ∃ c r, n = c :: r ∧ first c.toNat = true := by
  unfold isName at h
  simp only [Bool.and_eq_true, decide_eq_true_eq] at h
  obtain ⟨⟨⟨h1, _⟩, h2⟩, h3⟩ := h
  refine ⟨?_, ?_⟩
  · rw [List.all_eq_true] at h3 ⊢
    intro c hc
    simp [signB, h3 c hc]
  · cases n with
    | nil => simp at h1
    | cons c r => exact ⟨c, r, rfl, h2⟩
theorem isQual_parts {n : Bs} (h : isQual n = true) : n.all signB = true ∧ ∃ c r, n = c :: r ∧ first c.toNat = true := by
  unfold isQual at h
  split at h
  · rename_i p l hc
    rw [Bool.and_eq_true] at h
    obtain ⟨e, _⟩ := cutB_some hc
    obtain ⟨h1, c, r, h2, h3⟩ := isName_parts h.1
    obtain ⟨h4, _⟩ := isName_parts h.2
    refine ⟨?_, c, r ++ 58 :: l, by rw [e, h2]; rfl, h3⟩
    rw [e]
    rw [List.all_append, List.all_cons, h1, h4]
    rfl
  · exact isName_parts h
theorem At.qual {s n x : Bs} {st : Rd} (h : At s st (n ++ x)) (hq : isQual n = true) (hx : x.takeWhile signB = []) : qualS s st = (n, goS n.length st) := by
  unfold qualS
  rw [h.rest, takeWhile_app (isQual_parts hq).1 hx]
  simp only [hq, if_true]
/-! ### values -/
theorem esc_not : ∀ c : UInt8, (34 : UInt8) ∉ esc true c ∧ (60 : UInt8) ∉ esc true c := by
  intro c
  have h : ∀ c : Fin 256, (34 : UInt8) ∉ esc true (UInt8.ofNat c.val) ∧ (60 : UInt8) ∉ esc true (UInt8.ofNat c.val) := by decide +kernel
  have := h ⟨c.toNat, UInt8.toNat_lt c⟩
  simpa using this
theorem escape_not (v : Bs) : (34 : UInt8) ∉ escape true v ∧ (60 : UInt8) ∉ escape true v := by
  unfold escape
  simp only [List.mem_flatMap]
  exact ⟨fun ⟨c, _, h⟩ => (esc_not c).1 h, fun ⟨c, _, h⟩ => (esc_not c).2 h⟩
theorem valueV_esc {v x : Bs} (hs : signs v = true) (hl : v.length ≤ 60) : valueV ([34] ++ escape true v ++ [34] ++ x) = some (v, (escape true v).length + 2) := by
  have e : ([34] ++ escape true v ++ [34] ++ x : Bs) = 34 :: (escape true v ++ 34 :: x) := by simp
  rw [e]
  unfold valueV
  simp only [true_or, if_true]
  rw [cutB_of (escape_not v).1]
  simp only [unescape_escape true v hs]
  rw [if_neg]
  rintro (q | q)
  · exact (escape_not v).2 q
  · omega
theorem At.value {s v x : Bs} {st : Rd} (h : At s st ([34] ++ escape true v ++ [34] ++ x)) (hs : signs v = true) (hl : v.length ≤ 60) : valueS s st = (v, goS ((escape true v).length + 2) st) := by
  unfold valueS
  rw [h.rest, valueV_esc hs hl]
/-! ### attributes -/
theorem attrT_len' (x : Bs × Bs) : (attrT x).length = 1 + x.1.length + 1 + ((escape true x.2).length + 2) := by
  simp [attrT]
  omega
theorem read_attrs : ∀ (a l : List (Bs × Bs)) (s x : Bs) (st : Rd) (f : Nat), At s st (a.flatMap attrT ++ x) → fairA l a = true → l.length + a.length ≤ 8 → (∃ c r, x = c :: r ∧ (c = 47 ∨ c = 62)) → a.length < f → attrsS s f l st = some (l ++ a, goS (a.flatMap attrT).length st)
  | [], l, s, x, st, 0, _, _, _, _, hf => by simp at hf
  | [], l, s, x, st, f + 1, h, _, _, ⟨c, r, hx, hc⟩, hf => by
    have h : At s st x := h
    have hb : x.takeWhile blankB = [] := by subst hx; rcases hc with rfl | rfl <;> rfl
    unfold attrsS
    simp only [h.noBlanks hb, if_true]
    simp
  | y :: a, l, s, x, st, 0, _, _, _, _, hf => by simp at hf
  | (k, v) :: a, l, s, x, st, f + 1, h, hfa, hl, hx, hf => by
    simp only [fairA, Bool.and_eq_true, fairX, decide_eq_true_eq] at hfa
    obtain ⟨⟨⟨⟨hq, hs⟩, hv⟩, hd⟩, hfa⟩ := hfa
    have ih := fun st h => read_attrs a (l ++ [(k, v)]) s x st f h hfa (by simp at hl ⊢; omega) hx (by simp at hf; omega)
    obtain ⟨_, c, r, hk, hc⟩ := isQual_parts hq
    obtain ⟨f1, f2, f3, _, _⟩ := first_of hc
    have e0 : (((k, v) :: a).flatMap attrT ++ x : Bs) = [32] ++ (k ++ ([61] ++ (([34] ++ escape true v ++ [34]) ++ (a.flatMap attrT ++ x)))) := by simp [attrT]
    rw [e0] at h
    have hb : blanksN s st = 1 := h.blanks (u := [32]) rfl (by rw [hk]; simp [List.takeWhile_cons, f1])
    have h1 := h.go
    have hr := h1.rest
    have q1 := h1.qual hq (by rfl)
    have h2 := h1.go
    have q2 := h2.must
    have h3 := h2.go
    have q3 := h3.value hs hv
    have h4 := h3.go
    have q4 := ih _ h4
    unfold attrsS
    simp only [hb]
    rw [show ([32] : Bs).length = 1 from rfl] at hr q1 q2 q3 q4
    rw [hr]
    have eh : (k ++ ([61] ++ (([34] ++ escape true v ++ [34]) ++ (a.flatMap attrT ++ x))) : Bs) = c :: (r ++ ([61] ++ (([34] ++ escape true v ++ [34]) ++ (a.flatMap attrT ++ x)))) := by rw [hk]; rfl
    rw [eh]
    have hd : (l.any fun x => x.1 == k) = false := by
      simpa [dupA] using hd
    have nl : ¬ 8 ≤ l.length := by simp at hl; omega
    have el : ([34] ++ escape true v ++ [34] : Bs).length = (escape true v).length + 2 := by simp
    rw [el] at q4
    simp only [if_neg (show ¬ (1 : Nat) = 0 by decide), if_neg (show ¬ (c = 47 ∨ c = 62) from fun q => q.elim f2 f3), if_neg nl, q1, hd, Bool.false_eq_true, if_false, q2, q3, q4]
    simp only [goS_goS, List.append_assoc, List.singleton_append, List.flatMap_cons, List.length_append, attrT_len']
    congr 3
/-! ### fillers -/
/-- What may not begin what stands behind a filler. -/
def Stop (x : Bs) : Prop := x.takeWhile blankB = [] ∧ x.take 4 ≠ [60, 33, 45, 45]
/-- Blanks and remarks. -/
def Fill (g : Bs) : Prop := ∀ (s x : Bs) (st : Rd) (f : Nat), At s st (g ++ x) → Stop x → 4 ≤ f → remarksS s f st = some (goS g.length st)
theorem fill_nil {s x : Bs} {st : Rd} {f : Nat} (h : At s st x) (hx : Stop x) (hf : 1 ≤ f) : remarksS s f st = some st := by
  obtain ⟨f, rfl⟩ : ∃ g, f = g + 1 := ⟨f - 1, by omega⟩
  have q1 := h.noBlanks hx.1
  have h0 : At s (goS 0 st) x := h
  have q2 := h0.isnt (p := [60, 33, 45, 45]) hx.2
  unfold remarksS
  simp only [q1, q2, if_true]
  rfl
theorem fill_blanks {s u x : Bs} {st : Rd} {f : Nat} (hu : u.all blankB = true) (hn : u ≠ []) (h : At s st (u ++ x)) (hx : Stop x) (hf : 2 ≤ f) : remarksS s f st = some (goS u.length st) := by
  obtain ⟨f, rfl⟩ : ∃ g, f = g + 1 := ⟨f - 1, by omega⟩
  have q1 := h.blanks hu hx.1
  have h1 := h.go
  have q2 := h1.isnt (p := [60, 33, 45, 45]) hx.2
  have q3 := fill_nil h1 hx (f := f) (by omega)
  have hl : ¬ u.length = 0 := fun e => hn (List.eq_nil_of_length_eq_zero e)
  unfold remarksS
  simp only [q1, q2, if_neg hl, q3]
/-- A remark: what stands in it, and behind. -/
theorem fill_remark {s t x : Bs} {st : Rd} {f : Nat} (ht : ∀ y, cut2 (t ++ 45 :: 45 :: y) = some (t, y)) (hu : (unescape (t.filter (· ≠ 38))).isSome = true) (h : At s st ([60, 33, 45, 45] ++ (t ++ ([45, 45, 62] ++ x)))) (r : Rd) (hr : remarksS s f (goS (4 + t.length + 3) st) = some r) : remarksS s (f + 1) st = some r := by
  have q1 := h.noBlanks (by rfl)
  have h0 : At s (goS 0 st) ([60, 33, 45, 45] ++ (t ++ ([45, 45, 62] ++ x))) := h
  have q2 := h0.is
  have h1 := h0.go
  have q3 := h1.rest
  have h2 := h1.go
  have q4 := h2.is
  have q5 := ht (62 :: x)
  have e : (t ++ ([45, 45, 62] ++ x) : Bs) = t ++ 45 :: 45 :: 62 :: x := rfl
  rw [e] at q3
  have e2 : goS (List.length [45, 45, 62]) (goS t.length (goS (List.length ([60, 33, 45, 45] : Bs)) (goS 0 st))) = goS (4 + t.length + 3) st := by
    simp only [goS_goS]
    congr 1
  unfold remarksS
  simp only [q1, q2, q3, q5, hu, if_true, q4]
  rw [show List.length ([45, 45, 62] : Bs) = List.length [45, 45, 62] from rfl, e2]
  exact hr
theorem cut2_empty (y : Bs) : cut2 ([] ++ 45 :: 45 :: y) = some ([], y) := by simp [cut2]
theorem Fill.nil : Fill [] := fun s x st f h hx hf => fill_nil h hx (by omega)
theorem Fill.one : Fill [32] := fun s x st f h hx hf => fill_blanks rfl (by simp) h hx (by omega)
theorem Fill.two : Fill [10, 9] := fun s x st f h hx hf => fill_blanks rfl (by simp) h hx (by omega)
theorem Fill.rem : Fill [60, 33, 45, 45, 45, 45, 62] := fun s x st f h hx hf => by
  obtain ⟨f, rfl⟩ : ∃ g, f = g + 1 := ⟨f - 1, by omega⟩
  refine fill_remark (t := []) cut2_empty (by decide +kernel) h _ (fill_nil ?_ hx (by omega))
  exact (At.go (u := [60, 33, 45, 45, 45, 45, 62]) h)
abbrev remT : Bs := [32, 60, 97, 62, 32, 38, 120, 59, 32, 45, 32]
theorem Fill.more : Fill ([60, 33, 45, 45] ++ remT ++ [45, 45, 62] ++ [13, 10]) := fun s x st f h hx hf => by
  obtain ⟨f, rfl⟩ : ∃ g, f = g + 1 := ⟨f - 1, by omega⟩
  have h1 : At s st (([60, 33, 45, 45] ++ remT ++ [45, 45, 62]) ++ ([13, 10] ++ x)) := by rw [← List.append_assoc]; exact h
  have h2 := h1.go
  have h0 : At s st ([60, 33, 45, 45] ++ (remT ++ ([45, 45, 62] ++ ([13, 10] ++ x)))) := h
  refine fill_remark (t := remT) (fun y => by simp [cut2, remT]) (by decide +kernel) h0 _ ?_
  have q := fill_blanks (u := [13, 10]) (by rfl) (by simp) h2 hx (f := f) (by omega)
  exact q
/-! ### elements -/
mutual
/-- As it is written, with a filler behind each mark but the last. -/
def gapE (g : Bs) : El → Bs
  | .mk n a [] _ => [60] ++ n ++ a.flatMap attrT ++ [47, 62]
  | .mk n a (k :: ks) _ => [60] ++ n ++ a.flatMap attrT ++ [62] ++ g ++ gapL g (k :: ks) ++ ([60, 47] ++ n ++ [62])
def gapL (g : Bs) : List El → Bs
  | [] => []
  | k :: ks => gapE g k ++ g ++ gapL g ks
end
mutual
theorem gapE_nil : ∀ e : El, gapE [] e = printE e
  | .mk n a [] _ => by simp only [gapE, printE]
  | .mk n a (k :: ks) _ => by simp only [gapE, printE, gapL_nil (k :: ks)]; simp
theorem gapL_nil : ∀ k : List El, gapL [] k = printL k
  | [] => rfl
  | k :: ks => by simp only [gapL, printL, gapE_nil k, gapL_nil ks]; simp
end
def stE (st : Rd) (n k : Nat) : Rd := { st with at' := st.at' + n, elems := st.elems + k }
theorem At.stE {s u x : Bs} {st : Rd} (h : At s st (u ++ x)) (k : Nat) : At s (stE st u.length k) x := h.go.elems _
theorem gapE_head (g : Bs) {e : El} {d : Nat} (h : fairS e d = true) : ∃ c r, gapE g e = 60 :: c :: r ∧ first c.toNat = true := by
  obtain ⟨n, a, k, p⟩ := e
  simp only [fairS, Bool.and_eq_true] at h
  obtain ⟨_, c, r, hn, hc⟩ := isQual_parts h.1.1.1.1
  cases k <;> (simp only [gapE, hn, List.cons_append, List.nil_append]; exact ⟨c, _, rfl, hc⟩)
theorem stop_of {c : UInt8} {x : Bs} (hc : c ≠ 33) : Stop (60 :: c :: x) := ⟨rfl, by simp [hc]⟩
theorem attrs_head (a : List (Bs × Bs)) (x : Bs) (hx : x.takeWhile signB = []) : (a.flatMap attrT ++ x).takeWhile signB = [] := by
  cases a with
  | nil => exact hx
  | cons y a => rfl
mutual
theorem readE {g : Bs} (hg : Fill g) : ∀ (e : El) (s x : Bs) (st : Rd) (d f : Nat), fairS e d = true → At s st (gapE g e ++ x) → st.elems + szE e ≤ 400 → 2 * szE e + 12 ≤ f →
    ∃ e', elementS s f d st = some (e', stE st (gapE g e).length (szE e)) ∧ sameS e' e = true
  | .mk n a k p, s, x, st, d, 0, _, _, _, hf => by simp at hf
  | .mk n a [] p, s, x, st, d, f + 1, hF, h, he, hf => by
    simp only [fairS, Bool.and_eq_true, decide_eq_true_eq] at hF
    obtain ⟨⟨⟨⟨hq, ha⟩, hd⟩, hA⟩, _⟩ := hF
    simp only [szE, szK] at he hf ⊢
    have e0 : (gapE g (.mk n a [] p) ++ x : Bs) = [60] ++ (n ++ (a.flatMap attrT ++ ([47, 62] ++ x))) := by simp only [gapE]; simp
    have el : (gapE g (.mk n a [] p)).length = 1 + n.length + (a.flatMap attrT).length + 2 := by simp only [gapE]; simp; omega
    rw [e0] at h
    have q0 := h.rest
    have h0 := (h.elems (st.elems + 1)).go
    have q1 := h0.qual hq (attrs_head a _ rfl)
    have h1 := h0.go
    have q2 := read_attrs a [] s _ _ f h1 hA (by simpa using ha) ⟨47, _, rfl, .inl rfl⟩ (by omega)
    have h2 := h1.go
    have q3 := h2.is
    rw [show ([60] : Bs).length = 1 from rfl] at q1 q2 q3
    refine ⟨.mk n a [] st.at', ?_, by simp [sameS, sameK]⟩
    unfold elementS
    simp only [q0, List.singleton_append, List.take_succ_cons, List.take_zero, if_true]
    rw [if_neg (by omega)]
    simp only [q1, q2, q3, List.nil_append]
    rw [el]
    simp only [goS_goS, stE, goS]
    congr 3
    simp
    omega
  | .mk n a (k :: ks) p, s, x, st, d, f + 1, hF, h, he, hf => by
    simp only [fairS, Bool.and_eq_true, decide_eq_true_eq] at hF
    obtain ⟨⟨⟨⟨hq, ha⟩, hd⟩, hA⟩, hK⟩ := hF
    have e0 : (gapE g (.mk n a (k :: ks) p) ++ x : Bs) = [60] ++ (n ++ (a.flatMap attrT ++ ([62] ++ (g ++ gapL g (k :: ks) ++ ([60, 47] ++ n ++ [62] ++ x))))) := by simp only [gapE]; simp
    have el : (gapE g (.mk n a (k :: ks) p)).length = 1 + n.length + (a.flatMap attrT).length + 1 + ((g ++ gapL g (k :: ks)).length + n.length + 3) := by simp only [gapE]; simp; omega
    have hz : szE (.mk n a (k :: ks) p) = 1 + szK (k :: ks) := by simp only [szE]
    rw [hz] at he hf ⊢
    rw [e0] at h
    have q0 := h.rest
    have h0 := (h.elems (st.elems + 1)).go
    have q1 := h0.qual hq (attrs_head a _ rfl)
    have h1 := h0.go
    have q2 := read_attrs a [] s _ _ f h1 hA (by simpa using ha) ⟨62, _, rfl, .inr rfl⟩ (by omega)
    have h2 := h1.go
    have q3 := h2.isnt (p := [47, 62]) (by simp)
    have q4 := h2.must
    have h3 := h2.go
    obtain ⟨k', q5, q6⟩ := readL hg (k :: ks) s x _ (d + 1) f n [] hK hq h3 (by show st.elems + 1 + _ ≤ 400; omega) (by omega)
    rw [show ([60] : Bs).length = 1 from rfl] at q1 q2 q3 q4 q5
    refine ⟨.mk n a k' st.at', ?_, by simp [sameS, q6]⟩
    unfold elementS
    simp only [q0, List.singleton_append, List.take_succ_cons, List.take_zero, if_true]
    rw [if_neg (by omega)]
    simp only [q1, q2, q3, q4, q5, List.nil_append]
    rw [el]
    simp only [goS_goS, stE, goS]
    congr 3
    · simp
      omega
    · omega
theorem readL {g : Bs} (hg : Fill g) : ∀ (k : List El) (s x : Bs) (st : Rd) (d f : Nat) (n : Bs) (l : List El), fairK k d = true → isQual n = true → At s st (g ++ gapL g k ++ ([60, 47] ++ n ++ [62] ++ x)) → st.elems + szK k ≤ 400 → 2 * szK k + 13 ≤ f →
    ∃ k', kidsS s f n d l st = some (l ++ k', stE st ((g ++ gapL g k).length + n.length + 3) (szK k)) ∧ sameK k' k = true
  | _, s, x, st, d, 0, _, _, _, _, _, _, hf => by simp at hf
  | [], s, x, st, d, f + 1, n, l, _, hq, h, he, hf => by
    simp only [szK] at he hf ⊢
    have e0 : (g ++ gapL g [] ++ ([60, 47] ++ n ++ [62] ++ x) : Bs) = g ++ ([60, 47] ++ (n ++ ([62] ++ x))) := by simp only [gapL]; simp
    rw [e0] at h
    have q1 := hg _ _ _ f h (stop_of (by decide)) (by omega)
    have h1 := h.go
    have q2 := h1.is
    have h2 := h1.go
    have q3 := h2.qual hq rfl
    have h3 := h2.go
    have q4 := h3.noBlanks rfl
    have h4 : At s (goS 0 (goS n.length (goS ([60, 47] : Bs).length (goS g.length st)))) ([62] ++ x) := h3
    have q5 := h4.must
    refine ⟨[], ?_, rfl⟩
    unfold kidsS
    simp only [h.err, ne_eq, not_true_eq_false, if_false, q1, q2, q3, if_true, q4, q5]
    simp only [goS_goS, stE, goS, gapL]
    congr 3
    · simp
    · simp
      omega
  | k :: ks, s, x, st, d, f + 1, n, l, hF, hq, h, he, hf => by
    simp only [fairK, Bool.and_eq_true] at hF
    have hz : szK (k :: ks) = szE k + szK ks := by simp only [szK]
    have hz1 : 1 ≤ szE k := by
      obtain ⟨_, _, _, _⟩ := k
      simp only [szE]
      omega
    rw [hz] at he hf ⊢
    have e0 : (g ++ gapL g (k :: ks) ++ ([60, 47] ++ n ++ [62] ++ x) : Bs) = g ++ (gapE g k ++ (g ++ gapL g ks ++ ([60, 47] ++ n ++ [62] ++ x))) := by simp only [gapL]; simp
    have el : (g ++ gapL g (k :: ks)).length = g.length + (gapE g k).length + (g ++ gapL g ks).length := by simp only [gapL]; simp; omega
    rw [e0] at h
    obtain ⟨c, r, hk, hc⟩ := gapE_head g hF.1
    obtain ⟨_, f2, _, f4, _⟩ := first_of hc
    have q1 := hg _ _ _ f h (by rw [hk]; exact stop_of f4) (by omega)
    have h1 := h.go
    have q2 := h1.isnt (p := [60, 47]) (by rw [hk]; simp [f2])
    have h1e : (goS g.length st).elems = st.elems := rfl
    obtain ⟨e', q3, q4⟩ := readE hg k s _ _ d f hF.1 h1 (by rw [h1e]; omega) (by omega)
    have h2 := h1.stE (szE k)
    obtain ⟨k', q5, q6⟩ := readL hg ks s x _ d f n (l ++ [e']) hF.2 hq h2 (by show st.elems + szE k + _ ≤ _; omega) (by omega)
    refine ⟨e' :: k', ?_, by simp [sameK, q4, q6]⟩
    unfold kidsS
    simp only [h.err, ne_eq, not_true_eq_false, if_false, q1, q2, q3, q5]
    rw [el]
    simp only [goS_goS, stE, goS, List.append_assoc, List.singleton_append]
    congr 3
    · omega
    · omega
end
theorem read_all {g : Bs} (hg : Fill g) {e : El} {s : Bs} {f : Nat} (hF : fairS e 0 = true) (hz : szE e ≤ 400) (hs : s = g ++ (gapE g e ++ g)) (hl : s.length ≤ 8000) (hf : 2 * szE e + 12 ≤ f) : ∃ e', parseS f s = some (e', s.length, 0) ∧ sameS e' e = true := by
  have h : At s ⟨0, 0, 0, 0⟩ (g ++ (gapE g e ++ g)) := ⟨rfl, Nat.zero_le _, hs⟩
  obtain ⟨c, r, hk, hc⟩ := gapE_head g hF
  obtain ⟨_, _, _, f4, _⟩ := first_of hc
  have q1 := hg _ _ _ f h (by rw [hk]; exact stop_of f4) (by omega)
  have h1 := h.go
  obtain ⟨e', q2, q3⟩ := readE hg e s g _ 0 f hF h1 (by show 0 + _ ≤ _; omega) hf
  have h2 := h1.stE (szE e)
  have h2' : At s (stE (goS g.length ⟨0, 0, 0, 0⟩) (gapE g e).length (szE e)) (g ++ []) := by rw [List.append_nil]; exact h2
  have q4 := hg _ _ _ f h2' ⟨rfl, by simp⟩ (by omega)
  have h3 := h2'.go
  refine ⟨e', ?_, q3⟩
  unfold parseS
  rw [if_neg (by omega)]
  simp only [q1, q2, q4, h3.rest, if_true, h3.err]
theorem read_printed {e : El} {f : Nat} (hF : fairS e 0 = true) (hz : szE e ≤ 400) (hl : (printE e).length ≤ 8000) (hf : 2 * szE e + 12 ≤ f) : ∃ e', parseS f (printE e) = some (e', (printE e).length, 0) ∧ sameS e' e = true :=
  read_all Fill.nil hF hz (by rw [gapE_nil]; simp) hl hf
end Go.Proofs.YtfgemjpoiconbaaGreatDoor.GEv

