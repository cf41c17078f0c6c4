import Derived.Test.YtfgemjpoiconbaaGreatDoorGXmpA
/- Fillers put behind each mark that is not quoted: plain laws. -/
namespace Go.Proofs.YtfgemjpoiconbaaGreatDoor.GEv
open Go
set_option linter.unusedSimpArgs false
set_option linter.unusedVariables false
def gapQ : Bool → Bs → Bool
  | q, [] => q
  | q, c :: s => gapQ (q != (c == 34)) s
def gapT (g : Bs) : Bool → Bs → Bs
  | _, [] => []
  | q, c :: s => [c] ++ (if c = 62 ∧ (q != (c == 34)) = false then g else []) ++ gapT g (q != (c == 34)) s
theorem gapQ_app : ∀ (a b : Bs) (q : Bool), gapQ q (a ++ b) = gapQ (gapQ q a) b
  | [], _, _ => rfl
  | c :: a, b, q => gapQ_app a b _
theorem gapT_app (g : Bs) : ∀ (a b : Bs) (q : Bool), gapT g q (a ++ b) = gapT g q a ++ gapT g (gapQ q a) b
  | [], _, _ => rfl
  | c :: a, b, q => by
    simp only [List.cons_append, gapT, gapQ, gapT_app g a b, List.append_assoc]
theorem gapT_len (g : Bs) : ∀ (l : Bs) (q : Bool), (gapT g q l).length ≤ (1 + g.length) * l.length
  | [], _ => by simp [gapT]
  | c :: l, q => by
    have ih := gapT_len g l (q != (c == 34))
    simp only [gapT, List.length_append, List.length_cons, List.length_nil]
    rw [Nat.mul_add, Nat.mul_one]
    have : (if c = 62 ∧ (q != (c == 34)) = false then g else []).length ≤ g.length := by
      split
      · exact Nat.le_refl _
      · exact Nat.zero_le _
    omega
theorem gap_plain (g : Bs) : ∀ {l : Bs} {q : Bool}, (34 : UInt8) ∉ l → (q = true ∨ (62 : UInt8) ∉ l) → gapT g q l = l ∧ gapQ q l = q
  | [], q, _, _ => ⟨rfl, rfl⟩
  | c :: l, q, h1, h2 => by
    have hc : (c == 34) = false := by
      rw [beq_eq_false_iff_ne]
      intro e
      exact h1 (by rw [e]; exact List.mem_cons_self ..)
    have ih := gap_plain g (l := l) (q := q) (fun h => h1 (List.mem_cons_of_mem _ h)) (h2.imp id (fun h k => h (List.mem_cons_of_mem _ k)))
    have hq : (q != (c == 34)) = q := by rw [hc]; cases q <;> rfl
    refine ⟨?_, ?_⟩
    · simp only [gapT, hq, ih.1]
      rw [if_neg]
      · rfl
      · rintro ⟨e, e2⟩
        rcases h2 with h2 | h2
        · rw [h2] at e2; cases e2
        · exact h2 (by rw [e]; exact List.mem_cons_self ..)
    · simp only [gapQ, hq, ih.2]
/-- What becomes of a text that is not within a quotation. -/
structure GapTo (g a b : Bs) : Prop where
  t : gapT g false a = b
  q : gapQ false a = false
theorem GapTo.app {g a b c d : Bs} (h : GapTo g a b) (k : GapTo g c d) : GapTo g (a ++ c) (b ++ d) := ⟨by rw [gapT_app, h.t, h.q, k.t], by rw [gapQ_app, h.q, k.q]⟩
theorem GapTo.plain {g a : Bs} (h1 : (34 : UInt8) ∉ a) (h2 : (62 : UInt8) ∉ a) : GapTo g a a := ⟨(gap_plain g h1 (.inr h2)).1, (gap_plain g h1 (.inr h2)).2⟩
theorem GapTo.nil (g : Bs) : GapTo g [] [] := ⟨rfl, rfl⟩
theorem GapTo.mark (g : Bs) : GapTo g [62] ([62] ++ g) := ⟨by simp [gapT], rfl⟩
theorem sign_not : ∀ c : Fin 256, (byte c.val || decide (c.val = 58)) = true → c.val ≠ 34 ∧ c.val ≠ 62 := by decide +kernel
theorem qual_not {n : Bs} (h : isQual n = true) : (34 : UInt8) ∉ n ∧ (62 : UInt8) ∉ n := by
  have q := (isQual_parts h).1
  rw [List.all_eq_true] at q
  have e : ∀ c ∈ n, c.toNat ≠ 34 ∧ c.toNat ≠ 62 := by
    intro c hc
    have := q c hc
    refine sign_not ⟨c.toNat, UInt8.toNat_lt c⟩ ?_
    simp only [signB, Bool.or_eq_true, beq_iff_eq, decide_eq_true_eq] at this ⊢
    rcases this with h | h
    · exact .inl h
    · exact .inr (by rw [h]; rfl)
  exact ⟨fun h => (e _ h).1 rfl, fun h => (e _ h).2 rfl⟩
theorem GapTo.attr {g : Bs} {x : Bs × Bs} (h : isQual x.1 = true) : GapTo g (attrT x) (attrT x) := by
  have h1 : GapTo g ([32] ++ x.1 ++ [61]) ([32] ++ x.1 ++ [61]) := ((GapTo.plain (by decide) (by decide)).app (GapTo.plain (qual_not h).1 (qual_not h).2)).app (GapTo.plain (by decide) (by decide))
  have h2 := gap_plain g (q := true) (escape_not x.2).1 (.inl rfl)
  have h3 : GapTo g ([34] ++ escape true x.2 ++ [34]) ([34] ++ escape true x.2 ++ [34]) := by
    constructor
    · rw [gapT_app, gapT_app, gapQ_app]
      show (([34] ++ [] ++ []) ++ gapT g true (escape true x.2)) ++ gapT g (gapQ true (escape true x.2)) [34] = _
      rw [h2.1, h2.2]
      simp [gapT]
    · rw [gapQ_app, gapQ_app]
      show gapQ (gapQ true (escape true x.2)) [34] = false
      rw [h2.2]
      rfl
  have e : attrT x = ([32] ++ x.1 ++ [61]) ++ ([34] ++ escape true x.2 ++ [34]) := by simp [attrT]
  rw [e]
  exact h1.app h3
theorem GapTo.attrs {g : Bs} : ∀ {l a : List (Bs × Bs)}, fairA l a = true → GapTo g (a.flatMap attrT) (a.flatMap attrT)
  | _, [], _ => GapTo.nil g
  | l, x :: a, h => by
    simp only [fairA, fairX, Bool.and_eq_true] at h
    rw [List.flatMap_cons]
    exact (GapTo.attr h.1.1.1.1).app (GapTo.attrs h.2)
mutual
theorem GapTo.el {g : Bs} : ∀ (e : El) (d : Nat), fairS e d = true → GapTo g (printE e) (gapE g e ++ g)
  | .mk n a [] p, d, h => by
    simp only [fairS, Bool.and_eq_true] at h
    obtain ⟨⟨⟨⟨hq, _⟩, _⟩, hA⟩, _⟩ := h
    have q := ((((GapTo.plain (g := g) (a := [60]) (by decide) (by decide)).app (GapTo.plain (qual_not hq).1 (qual_not hq).2)).app (GapTo.attrs hA)).app (GapTo.plain (a := [47]) (by decide) (by decide))).app (GapTo.mark g)
    have e1 : printE (.mk n a [] p) = [60] ++ n ++ a.flatMap attrT ++ [47] ++ [62] := by simp only [printE]; simp
    have e2 : gapE g (.mk n a [] p) ++ g = [60] ++ n ++ a.flatMap attrT ++ [47] ++ ([62] ++ g) := by simp only [gapE]; simp
    rw [e1, e2]
    exact q
  | .mk n a (k :: ks) p, d, h => by
    simp only [fairS, Bool.and_eq_true] at h
    obtain ⟨⟨⟨⟨hq, _⟩, _⟩, hA⟩, hK⟩ := h
    have hn := GapTo.plain (g := g) (qual_not hq).1 (qual_not hq).2
    have q := (((((GapTo.plain (g := g) (a := [60]) (by decide) (by decide)).app hn).app (GapTo.attrs hA)).app (GapTo.mark g)).app (GapTo.els (k :: ks) (d + 1) hK)).app (((GapTo.plain (a := [60, 47]) (by decide) (by decide)).app hn).app (GapTo.mark g))
    have e1 : printE (.mk n a (k :: ks) p) = [60] ++ n ++ a.flatMap attrT ++ [62] ++ printL (k :: ks) ++ ([60, 47] ++ n ++ [62]) := by simp only [printE]
    have e2 : gapE g (.mk n a (k :: ks) p) ++ g = [60] ++ n ++ a.flatMap attrT ++ ([62] ++ g) ++ gapL g (k :: ks) ++ ([60, 47] ++ n ++ ([62] ++ g)) := by simp only [gapE]; simp
    rw [e1, e2]
    exact q
theorem GapTo.els {g : Bs} : ∀ (k : List El) (d : Nat), fairK k d = true → GapTo g (printL k) (gapL g k)
  | [], _, _ => GapTo.nil g
  | k :: ks, d, h => by
    simp only [fairK, Bool.and_eq_true] at h
    simp only [printL, gapL]
    exact (GapTo.el k d h.1).app (GapTo.els ks d h.2)
end
theorem gap_take {g s : Bs} {i : Nat} (hi : i < s.length) (q : Bool) : gapT g q (s.take (i + 1)) = gapT g q (s.take i) ++ ([s.getD i 0] ++ (if s.getD i 0 = 62 ∧ (gapQ q (s.take i) != (s.getD i 0 == 34)) = false then g else [])) ∧ gapQ q (s.take (i + 1)) = (gapQ q (s.take i) != (s.getD i 0 == 34)) := by
  have e : s.take (i + 1) = s.take i ++ [s.getD i 0] := by
    rw [List.take_succ_eq_append_getElem hi]
    simp [List.getD, hi]
  rw [e, gapT_app, gapQ_app]
  refine ⟨?_, rfl⟩
  simp [gapT]
/-- The fillers that the law puts in. -/
def gapsL : List Bs := [[32], [10, 9], [60, 33, 45, 45, 45, 45, 62], [60, 33, 45, 45] ++ remT ++ [45, 45, 62] ++ [13, 10]]
theorem gaps_fill : ∀ (k : Nat), k ≤ 3 → ∃ g, gapsL[k]? = some g ∧ Fill g ∧ g.length ≤ 30
  | 0, _ => ⟨_, rfl, Fill.one, by decide⟩
  | 1, _ => ⟨_, rfl, Fill.two, by decide⟩
  | 2, _ => ⟨_, rfl, Fill.rem, by decide⟩
  | 3, _ => ⟨_, rfl, Fill.more, by decide⟩
  | k + 4, h => by omega
end Go.Proofs.YtfgemjpoiconbaaGreatDoor.GEv

