import Derived.Test.YtfgemjpoiconbaaGreatDoorGXmO
/- What is printed, with fillers between, is read: plain laws. -/
namespace Go.Proofs.YtfgemjpoiconbaaGreatDoor.GEv
open Go
set_option linter.unusedSimpArgs false
set_option linter.unusedVariables false
/-- The reader stands ahead of x, and nothing went wrong. -/
structure At (s : Bs) (st : Rd) (x : Bs) : Prop where
  err : st.err = 0
  le : st.at' ≤ s.length
  eq : s.drop st.at' = x
theorem At.rest {s x : Bs} {st : Rd} (h : At s st x) : restS s st = x := by simp [restS, h.err, h.eq]
theorem At.go {s u x : Bs} {st : Rd} (h : At s st (u ++ x)) : At s (goS u.length st) x := ⟨h.err, by
  have e := congrArg List.length h.eq
  rw [List.length_drop, List.length_append] at e
  have := h.le
  show st.at' + u.length ≤ s.length
  omega, by
  show s.drop (st.at' + u.length) = x
  rw [← List.drop_drop, h.eq, List.drop_left]⟩
theorem At.elems {s x : Bs} {st : Rd} (h : At s st x) (n : Nat) : At s { st with elems := n } x := ⟨h.err, h.le, h.eq⟩
theorem At.is {s p x : Bs} {st : Rd} (h : At s st (p ++ x)) : isS s p st = (true, goS p.length st) := by
  unfold isS
  rw [h.rest, List.take_left, if_pos rfl]
theorem At.isnt {s p x : Bs} {st : Rd} (h : At s st x) (hp : x.take p.length ≠ p) : isS s p st = (false, st) := by
  unfold isS
  rw [h.rest, if_neg hp]
theorem At.must {s p x : Bs} {st : Rd} (h : At s st (p ++ x)) : mustS s p st = goS p.length st := by
  unfold mustS
  rw [h.is]
theorem goS_goS (m n : Nat) (st : Rd) : goS m (goS n st) = goS (n + m) st := by simp [goS, Nat.add_assoc]
theorem takeWhile_app {p : UInt8 → Bool} {u x : Bs} (hu : u.all p = true) (hx : x.takeWhile p = []) : (u ++ x).takeWhile p = u := by
  rw [List.takeWhile_append_of_pos (by simpa using hu), hx, List.append_nil]
theorem At.blanks {s u x : Bs} {st : Rd} (h : At s st (u ++ x)) (hu : u.all blankB = true) (hx : x.takeWhile blankB = []) : blanksN s st = u.length := by
  unfold blanksN
  rw [h.rest, takeWhile_app hu hx]
theorem At.noBlanks {s x : Bs} {st : Rd} (h : At s st x) (hx : x.takeWhile blankB = []) : blanksN s st = 0 := by
  unfold blanksN
  rw [h.rest, hx]
  rfl
/-! ### names -/
theorem isName_parts {n : Bs} (h : isName n = true) : n.all signB = true ∧ ∃ c r, n = c :: r ∧ first c.toNat = true := by
  unfold isName at h
  simp only [Bool.and_eq_true, decide_eq_true_eq] at h
  obtain ⟨⟨⟨h1, _⟩, h2⟩, h3⟩ := h
  refine ⟨?_, ?_⟩
  · rw [List.all_eq_true] at h3 ⊢
    intro c hc
    simp [signB, h3 c hc]
  · cases n with
    | nil => simp at h1
    | cons c r => exact ⟨c, r, rfl, h2⟩
theorem isQual_parts {n : Bs} (h : isQual n = true) : n.all signB = true ∧ ∃ c r, n = c :: r ∧ first c.toNat = true := by
  unfold isQual at h
  split at h
  · rename_i p l hc
    rw [Bool.and_eq_true] at h
    obtain ⟨e, _⟩ := cutB_some hc
    obtain ⟨h1, c, r, h2, h3⟩ := isName_parts h.1
    obtain ⟨h4, _⟩ := isName_parts h.2
    refine ⟨?_, c, r ++ 58 :: l, by rw [e, h2]; rfl, h3⟩
    rw [e]
    rw [List.all_append, List.all_cons, h1, h4]
    rfl
  · exact isName_parts h
theorem At.qual {s n x : Bs} {st : Rd} (h : At s st (n ++ x)) (hq : isQual n = true) (hx : x.takeWhile signB = []) : qualS s st = (n, goS n.length st) := by
  unfold qualS
  rw [h.rest, takeWhile_app (isQual_parts hq).1 hx]
  simp only [hq, if_true]
/-! ### values -/
theorem esc_not : ∀ c : UInt8, (34 : UInt8) ∉ esc true c ∧ (60 : UInt8) ∉ esc true c := by
  intro c
  have h : ∀ c : Fin 256, (34 : UInt8) ∉ esc true (UInt8.ofNat c.val) ∧ (60 : UInt8) ∉ esc true (UInt8.ofNat c.val) := by decide +kernel
  have := h ⟨c.toNat, UInt8.toNat_lt c⟩
  simpa using this
theorem escape_not (v : Bs) : (34 : UInt8) ∉ escape true v ∧ (60 : UInt8) ∉ escape true v := by
  unfold escape
  simp only [List.mem_flatMap]
  exact ⟨fun ⟨c, _, h⟩ => (esc_not c).1 h, fun ⟨c, _, h⟩ => (esc_not c).2 h⟩
theorem valueV_esc {v x : Bs} (hs : signs v = true) (hl : v.length ≤ 60) : valueV ([34] ++ escape true v ++ [34] ++ x) = some (v, (escape true v).length + 2) := by
  have e : ([34] ++ escape true v ++ [34] ++ x : Bs) = 34 :: (escape true v ++ 34 :: x) := by simp
  rw [e]
  unfold valueV
  simp only [true_or, if_true]
  rw [cutB_of (escape_not v).1]
  simp only [unescape_escape true v hs]
  rw [if_neg]
  rintro (q | q)
  · exact (escape_not v).2 q
  · omega
theorem At.value {s v x : Bs} {st : Rd} (h : At s st ([34] ++ escape true v ++ [34] ++ x)) (hs : signs v = true) (hl : v.length ≤ 60) : valueS s st = (v, goS ((escape true v).length + 2) st) := by
  unfold valueS
  rw [h.rest, valueV_esc hs hl]
/-! ### attributes -/
/-! ### fillers -/
/-- What may not begin what stands behind a filler. -/
def Stop (x : Bs) : Prop := x.takeWhile blankB = [] ∧ x.take 4 ≠ [60, 33, 45, 45]
/-- Blanks and remarks. -/
def Fill (g : Bs) : Prop := ∀ (s x : Bs) (st : Rd) (f : Nat), At s st (g ++ x) → Stop x → 4 ≤ f → remarksS s f st = some (goS g.length st)
theorem fill_nil {s x : Bs} {st : Rd} {f : Nat} (h : At s st x) (hx : Stop x) (hf : 1 ≤ f) : remarksS s f st = some st := by
  obtain ⟨f, rfl⟩ : ∃ g, f = g + 1 := ⟨f - 1, by omega⟩
  have q1 := h.noBlanks hx.1
  have h0 : At s (goS 0 st) x := h
  have q2 := h0.isnt (p := [60, 33, 45, 45]) hx.2
  unfold remarksS
  simp only [q1, q2, if_true]
  rfl
theorem fill_blanks {s u x : Bs} {st : Rd} {f : Nat} (hu : u.all blankB = true) (hn : u ≠ []) (h : At s st (u ++ x)) (hx : Stop x) (hf : 2 ≤ f) : remarksS s f st = some (goS u.length st) := by
  obtain ⟨f, rfl⟩ : ∃ g, f = g + 1 := ⟨f - 1, by omega⟩
  have q1 := h.blanks hu hx.1
  have h1 := h.go
  have q2 := h1.isnt (p := [60, 33, 45, 45]) hx.2
  have q3 := fill_nil h1 hx (f := f) (by omega)
  have hl : ¬ u.length = 0 := fun e => hn (List.eq_nil_of_length_eq_zero e)
  unfold remarksS
  simp only [q1, q2, if_neg hl, q3]
/-- A remark: what stands in it, and behind. -/
theorem fill_remark {s t x : Bs} {st : Rd} {f : Nat} (ht : ∀ y, cut2 (t ++ 45 :: 45 :: y) = some (t, y)) (hu : (unescape (t.filter (· ≠ 38))).isSome = true) (h : At s st ([60, 33, 45, 45] ++ (t ++ ([45, 45, 62] ++ x)))) (r : Rd) (hr : remarksS s f (goS (4 + t.length + 3) st) = some r) : remarksS s (f + 1) st = some r := by
  have q1 := h.noBlanks (by rfl)
  have h0 : At s (goS 0 st) ([60, 33, 45, 45] ++ (t ++ ([45, 45, 62] ++ x))) := h
  have q2 := h0.is
  have h1 := h0.go
  have q3 := h1.rest
  have h2 := h1.go
  have q4 := h2.is
  have q5 := ht (62 :: x)
  have e : (t ++ ([45, 45, 62] ++ x) : Bs) = t ++ 45 :: 45 :: 62 :: x := rfl
  rw [e] at q3
  have e2 : goS (List.length [45, 45, 62]) (goS t.length (goS (List.length ([60, 33, 45, 45] : Bs)) (goS 0 st))) = goS (4 + t.length + 3) st := by
    simp only [goS_goS]
    congr 1
  unfold remarksS
  simp only [q1, q2, q3, q5, hu, if_true, q4]
  rw [show List.length ([45, 45, 62] : Bs) = List.length [45, 45, 62] from rfl, e2]
  exact hr
theorem Fill.nil : Fill [] := fun s x st f h hx hf => fill_nil h hx (by omega)
theorem Fill.one : Fill [32] := fun s x st f h hx hf => fill_blanks rfl (by simp) h hx (by omega)
theorem Fill.two : Fill [10, 9] := fun s x st f h hx hf => fill_blanks rfl (by simp) h hx (by omega)
abbrev remT : Bs := [32, 60, 97, 62, 32, 38, 120, 59, 32, 45, 32]
theorem Fill.more : Fill ([60, 33, 45, 45] ++ remT ++ [45, 45, 62] ++ [13, 10]) := fun s x st f h hx hf => by
  obtain ⟨f, rfl⟩ : ∃ g, f = g + 1 := ⟨f - 1, by omega⟩
  have h1 : At s st (([60, 33, 45, 45] ++ remT ++ [45, 45, 62]) ++ ([13, 10] ++ x)) := by rw [← List.append_assoc]; exact h
  have h2 := h1.go
  have h0 : At s st ([60, 33, 45, 45] ++ (remT ++ ([45, 45, 62] ++ ([13, 10] ++ x)))) := h
  refine fill_remark (t := remT) (fun y => by simp [cut2, remT]) (by decide +kernel) h0 _ ?_
  have q := fill_blanks (u := [13, 10]) (by rfl) (by simp) h2 hx (f := f) (by omega)
  exact q
/-! ### elements -/
theorem stop_of {c : UInt8} {x : Bs} (hc : c ≠ 33) : Stop (60 :: c :: x) := ⟨rfl, by simp [hc]⟩
end Go.Proofs.YtfgemjpoiconbaaGreatDoor.GEv

