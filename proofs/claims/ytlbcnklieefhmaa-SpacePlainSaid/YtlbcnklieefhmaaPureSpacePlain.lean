/- SpacePlain: any resolved element of a bounded bulk is written without prefixes as the document's answer writes it; of any two it is told alike whether they are one, and of one with itself that it is. -/
import Derived.Test.YtlbcnklieefhmaaPAx40
import Derived.Test.YtlbcnklieefhmaaGBack
namespace Go.Proofs.Ytlbcnklieefhmaa.Pure
open Go.RowKit Go.Proofs.Ytlbcnklieefhmaa.PA Go.Proofs.YtlbcnklieefhmaaW.PrintWords Go.Proofs.YtlbcnklieefhmaaW.PrintLast Go.Proofs.Ytlbcnklieefhmaa.GMap Go.Proofs.Ytlbcnklieefhmaa.OA
theorem rd32 {xs : List S32} {j : Nat} (h : j < xs.length) : rd_T32 xs (j : Int) = xs[j] := by simp [rd_T32, h]
theorem same2_l0 (R : Nat) (x : S32) (h200 : x.f2.length ≤ 200) (H : ∀ j (h1 : j < x.f2.length), ∀ k, R ≤ k → sentryref2_Same.f k (x.f2[j]).f0 (x.f2[j]).f1 (x.f2[j]).f2 (x.f2[j]).f3 (x.f2[j]).f0 (x.f2[j]).f1 (x.f2[j]).f2 (x.f2[j]).f3 = some true) :
    ∀ (dd i k : Nat), i + dd = x.f2.length → R + 1 + dd ≤ k → sentryref2_Same.l0 k i x.f0 x.f1 x.f2 x.f3 x.f0 x.f1 x.f2 x.f3 = some true := by
  intro dd
  induction dd with
  | zero =>
    intro i k hi hk
    obtain ⟨k, rfl⟩ : ∃ q, k = q + 1 := ⟨k - 1, by omega⟩
    simp only [sentryref2_Same.l0]
    rw [if_neg (by omega)]
  | succ dd ih =>
    intro i k hi hk
    obtain ⟨k, rfl⟩ : ∃ q, k = q + 1 := ⟨k - 1, by omega⟩
    simp only [sentryref2_Same.l0]
    rw [if_pos (by omega), if_pos (by omega), if_pos (by omega), rd32 (by omega), H i (by omega) k (by omega)]
    simp only [Option.bind_some]
    rw [if_pos (by trivial), wr_succ (by omega), ih (i + 1) k (by omega) (by omega)]
theorem same2_f (R : Nat) (x : S32) (hy : x.f1.length ≤ 210) (h200 : x.f2.length ≤ 200) (H : ∀ j (h1 : j < x.f2.length), ∀ k, R ≤ k → sentryref2_Same.f k (x.f2[j]).f0 (x.f2[j]).f1 (x.f2[j]).f2 (x.f2[j]).f3 (x.f2[j]).f0 (x.f2[j]).f1 (x.f2[j]).f2 (x.f2[j]).f3 = some true) (k : Nat) (hk : R + 420 ≤ k) :
    sentryref2_Same.f k x.f0 x.f1 x.f2 x.f3 x.f0 x.f1 x.f2 x.f3 = some true := by
  obtain ⟨k, rfl⟩ : ∃ q, k = q + 2 := ⟨k - 2, by omega⟩
  have hb : ((x.f2.length : Int) != (x.f2.length : Int)) = false := by simp
  simp only [sentryref2_Same.f]
  rw [if_pos (by trivial), same_attrs_f x.f1 (k + 1) (by omega) (by omega)]
  simp only [Option.bind_some]
  rw [if_pos (by trivial), hb]
  simp only [sentryref2_Same.j0]
  rw [if_neg (by decide)]
  exact same2_l0 R x h200 H x.f2.length 0 k (by omega) (by omega)
def Pl (d : Nat) (x : S26) : Prop := ∀ u : ByteArray, ∃ e : S32, ∀ k, 500 * d ≤ k → space_plain.f k x.f0 x.f1 x.f2 x.f3 x.f4 u = some (e.f0, e.f1, e.f2, e.f3) ∧ sentryref3_plain.f k x.f0 x.f1 x.f2 x.f3 x.f4 u = some (e.f0, e.f1, e.f2, e.f3) ∧
  sentryref2_Same.f k e.f0 e.f1 e.f2 e.f3 e.f0 e.f1 e.f2 e.f3 = some true
theorem pl_kids (d : Nat) (s0 s1 : ByteArray) (l2 : List S35) (L : List S26) (s4 : Int) (hL : L.length ≤ 200) (H : ∀ y ∈ L, Pl d y) (c0 : ByteArray) (c1 : List S35) (c3 : Int) : ∀ (dd i : Nat) (acc : List S32), i + dd = L.length → acc.length = i →
    ∃ es : List S32, es.length = dd ∧ (∀ k, 500 * d + 1 + dd ≤ k → space_plain.l0 k L L.length i s0 s1 l2 L s4 c0 c1 acc c3 = some (c0, c1, acc ++ es, c3) ∧ sentryref3_plain.l0 k i s0 s1 l2 L s4 c0 c1 acc c3 = some (c0, c1, acc ++ es, c3)) ∧
      ∀ j (h1 : j < es.length), ∀ k, 500 * d ≤ k → sentryref2_Same.f k (es[j]).f0 (es[j]).f1 (es[j]).f2 (es[j]).f3 (es[j]).f0 (es[j]).f1 (es[j]).f2 (es[j]).f3 = some true := by
  intro dd
  induction dd with
  | zero =>
    intro i acc hi ha
    refine ⟨[], rfl, fun k hk => ?_, fun j h1 => by simp at h1⟩
    obtain ⟨k, rfl⟩ : ∃ q, k = q + 1 := ⟨k - 1, by omega⟩
    simp only [space_plain.l0, sentryref3_plain.l0]
    rw [if_neg (by omega), if_neg (by omega)]
    simp
  | succ dd ih =>
    intro i acc hi ha
    obtain ⟨e, hb⟩ := H L[i] (List.getElem_mem _) s0
    obtain ⟨es, l1, p1, p3⟩ := ih (i + 1) (acc ++ [e]) (by omega) (by simp [ha])
    refine ⟨e :: es, by simp [l1], fun k hk => ?_, fun j h1 k hk => ?_⟩
    · obtain ⟨k, rfl⟩ : ∃ q, k = q + 1 := ⟨k - 1, by omega⟩
      have he : (⟨e.f0, e.f1, e.f2, e.f3⟩ : S32) = e := by cases e; rfl
      have h1 := p1 k (by omega)
      simp only [space_plain.l0, sentryref3_plain.l0]
      constructor
      · rw [if_pos (by omega), if_pos (by omega), if_pos (by omega), rd26 (by omega), (hb k (by omega)).1]
        simp only [Option.bind_some]
        rw [if_pos (by omega), wr_succ (by omega), he, h1.1]
        simp
      · rw [if_pos (by omega), if_pos (by omega), rd26 (by omega), (hb k (by omega)).2.1]
        simp only [Option.bind_some]
        rw [if_pos (by omega), wr_succ (by omega), he, h1.2]
        simp
    · cases j with
      | zero => exact (hb k hk).2.2
      | succ j => exact p3 j (by simpa using h1) k hk
theorem pl {d : Nat} {x : S26} (h : Small d x) : Pl d x := by
  induction h with
  | mk d x h0 h1 h2 h2b h3 _ ih =>
    intro u
    have key : ∀ pre : List S35, pre.length ≤ 1 → ∃ e : S32, ∀ k, 500 * d + 498 ≤ k → space_plain.j0 (k + 1) x.f0 x.f1 x.f2 x.f3 x.f4 x.f1 pre 0 = some (e.f0, e.f1, e.f2, e.f3) ∧ sentryref3_plain.j0 (k + 1) x.f0 x.f1 x.f2 x.f3 x.f4 x.f1 pre 0 = some (e.f0, e.f1, e.f2, e.f3) ∧ sentryref2_Same.f k e.f0 e.f1 e.f2 e.f3 e.f0 e.f1 e.f2 e.f3 = some true := by
      intro pre hp
      obtain ⟨es, l1, p1, p3⟩ := pl_kids d x.f0 x.f1 x.f2 x.f3 x.f4 h3 ih x.f1 (pre ++ x.f2) 0 x.f3.length 0 [] (by omega) rfl
      refine ⟨⟨x.f1, pre ++ x.f2, es, 0⟩, fun k hk => ?_⟩
      have h1 := p1 k (by omega)
      simp only [space_plain.j0, sentryref3_plain.j0]
      refine ⟨?_, ?_, same2_f (500 * d) ⟨x.f1, pre ++ x.f2, es, 0⟩ (by simp only [List.length_append]; omega) (by show es.length ≤ 200; omega) p3 k (by omega)⟩
      · rw [if_pos (by omega)]
        simpa using h1.1
      · rw [if_pos (by omega)]
        simpa using h1.2
    by_cases hu : x.f0.toList = u.toList
    · obtain ⟨e, hk⟩ := key [] (by simp)
      refine ⟨e, fun k hh => ?_⟩
      obtain ⟨k, rfl⟩ : ∃ q, k = q + 2 := ⟨k - 2, by omega⟩
      have h5 := hk k (by omega)
      refine ⟨?_, ?_, (hk (k + 2) (by omega)).2.2⟩
      · simp only [space_plain.f]
        rw [if_pos hu]
        exact h5.1
      · simp only [sentryref3_plain.f]
        rw [if_pos hu]
        exact h5.2.1
    · obtain ⟨e, hk⟩ := key [⟨⟨#[120, 109, 108, 110, 115]⟩, x.f0⟩] (by simp)
      refine ⟨e, fun k hh => ?_⟩
      obtain ⟨k, rfl⟩ : ∃ q, k = q + 2 := ⟨k - 2, by omega⟩
      have h5 := hk k (by omega)
      refine ⟨?_, ?_, (hk (k + 2) (by omega)).2.2⟩
      · simp only [space_plain.f]
        rw [if_neg hu, if_pos (by simp)]
        exact h5.1
      · simp only [sentryref3_plain.f]
        rw [if_neg hu]
        exact h5.2.1
theorem self {d : Nat} {x : S26} (h : Small d x) : ∀ k, 500 * d ≤ k → sentryref3_Same.f k x.f0 x.f1 x.f2 x.f3 x.f4 x.f0 x.f1 x.f2 x.f3 x.f4 = some true := by
  induction h with
  | mk d x h0 h1 h2 h2b h3 _ ih =>
    intro k hk
    exact same_f (500 * d) x x rfl rfl rfl h2 rfl h3 (fun j h1 _ k hk => ih _ (List.getElem_mem h1) k hk) k (by omega)
theorem attrs_tot (l l' : List S35) (hl : l.length ≤ 1000) (he : l.length = l'.length) : ∀ (dd i : Nat), i + dd = l.length → ∃ b, ∀ k, dd < k → sentryref2_SameAttrs.l0 k l l' i = some b := by
  intro dd
  induction dd with
  | zero =>
    intro i hi
    refine ⟨true, fun k hk => ?_⟩
    obtain ⟨k, rfl⟩ : ∃ q, k = q + 1 := ⟨k - 1, by omega⟩
    simp only [sentryref2_SameAttrs.l0]
    rw [if_neg (by omega)]
  | succ dd ih =>
    intro i hi
    obtain ⟨b, hb⟩ := ih (i + 1) (by omega)
    by_cases c : (!((((rd_T35 l (i : Int)).f0).toList) == (((rd_T35 l' (i : Int)).f0).toList)) || (!((((rd_T35 l (i : Int)).f1).toList) == (((rd_T35 l' (i : Int)).f1).toList)))) = true
    · refine ⟨false, fun k hk => ?_⟩
      obtain ⟨k, rfl⟩ : ∃ q, k = q + 1 := ⟨k - 1, by omega⟩
      simp only [sentryref2_SameAttrs.l0]
      rw [if_pos (by omega), if_pos (by omega), if_pos (by omega), if_pos c]
    · refine ⟨b, fun k hk => ?_⟩
      obtain ⟨k, rfl⟩ : ∃ q, k = q + 1 := ⟨k - 1, by omega⟩
      simp only [sentryref2_SameAttrs.l0]
      rw [if_pos (by omega), if_pos (by omega), if_pos (by omega), if_neg c, wr_succ (by omega)]
      exact hb k (by omega)
theorem attrs_tot_f (l l' : List S35) (hl : l.length ≤ 1000) : ∃ b, ∀ k, l.length < k → sentryref2_SameAttrs.f k l l' = some b := by
  by_cases he : l.length = l'.length
  · obtain ⟨b, hb⟩ := attrs_tot l l' hl he l.length 0 (by omega)
    refine ⟨b, fun k hk => ?_⟩
    unfold sentryref2_SameAttrs.f
    rw [if_pos (by omega)]
    exact hb k hk
  · refine ⟨false, fun k _ => ?_⟩
    unfold sentryref2_SameAttrs.f
    rw [if_neg (by omega)]
def Tot (d : Nat) (x : S26) : Prop := ∀ y : S26, ∃ b, ∀ k, 500 * d ≤ k → sentryref3_Same.f k x.f0 x.f1 x.f2 x.f3 x.f4 y.f0 y.f1 y.f2 y.f3 y.f4 = some b
theorem tot_l0 (d : Nat) (x y : S26) (hl : x.f3.length = y.f3.length) (h200 : x.f3.length ≤ 200) (H : ∀ z ∈ x.f3, Tot d z) :
    ∀ (dd i : Nat), i + dd = x.f3.length → ∃ b, ∀ k, 500 * d + 1 + dd ≤ k → sentryref3_Same.l0 k i x.f0 x.f1 x.f2 x.f3 x.f4 y.f0 y.f1 y.f2 y.f3 y.f4 = some b := by
  intro dd
  induction dd with
  | zero =>
    intro i hi
    refine ⟨true, fun k hk => ?_⟩
    obtain ⟨k, rfl⟩ : ∃ q, k = q + 1 := ⟨k - 1, by omega⟩
    simp only [sentryref3_Same.l0]
    rw [if_neg (by omega)]
  | succ dd ih =>
    intro i hi
    obtain ⟨b, hb⟩ := ih (i + 1) (by omega)
    obtain ⟨c, hc⟩ := H (x.f3[i]) (List.getElem_mem _) (y.f3[i])
    cases c with
    | true =>
      refine ⟨b, fun k hk => ?_⟩
      obtain ⟨k, rfl⟩ : ∃ q, k = q + 1 := ⟨k - 1, by omega⟩
      simp only [sentryref3_Same.l0]
      rw [if_pos (by omega), if_pos (by omega), if_pos (by omega), rd26 (by omega), rd26 (by omega), hc k (by omega)]
      simp only [Option.bind_some]
      rw [if_pos (by trivial), wr_succ (by omega), hb k (by omega)]
    | false =>
      refine ⟨false, fun k hk => ?_⟩
      obtain ⟨k, rfl⟩ : ∃ q, k = q + 1 := ⟨k - 1, by omega⟩
      simp only [sentryref3_Same.l0]
      rw [if_pos (by omega), if_pos (by omega), if_pos (by omega), rd26 (by omega), rd26 (by omega), hc k (by omega)]
      simp only [Option.bind_some]
      rw [if_neg (by decide)]
theorem tot_j (k : Nat) (x y : S26) : sentryref3_Same.j0 (k + 1) true x.f0 x.f1 x.f2 x.f3 x.f4 y.f0 y.f1 y.f2 y.f3 y.f4 = some false := by
  simp only [sentryref3_Same.j0]
  rw [if_pos (by trivial)]
theorem tot {d : Nat} {x : S26} (h : Small d x) : Tot d x := by
  induction h with
  | mk d x h0 h1 h2 h2b h3 _ ih =>
    intro y
    by_cases c0 : x.f0.toList = y.f0.toList
    case neg =>
      refine ⟨false, fun k hk => ?_⟩
      obtain ⟨k, rfl⟩ : ∃ q, k = q + 2 := ⟨k - 2, by omega⟩
      simp only [sentryref3_Same.f]
      rw [if_neg c0, tot_j]
    by_cases c1 : x.f1.toList = y.f1.toList
    case neg =>
      refine ⟨false, fun k hk => ?_⟩
      obtain ⟨k, rfl⟩ : ∃ q, k = q + 2 := ⟨k - 2, by omega⟩
      simp only [sentryref3_Same.f]
      rw [if_pos c0, if_neg c1, tot_j]
    obtain ⟨a, ha⟩ := attrs_tot_f x.f2 y.f2 (by omega)
    cases a with
    | false =>
      refine ⟨false, fun k hk => ?_⟩
      obtain ⟨k, rfl⟩ : ∃ q, k = q + 2 := ⟨k - 2, by omega⟩
      simp only [sentryref3_Same.f]
      rw [if_pos c0, if_pos c1, ha (k + 1) (by omega)]
      simp only [Option.bind_some]
      rw [if_neg (by decide), tot_j]
    | true =>
      by_cases hl : x.f3.length = y.f3.length
      · obtain ⟨b, hb⟩ := tot_l0 d x y hl h3 ih x.f3.length 0 (by omega)
        refine ⟨b, fun k hk => ?_⟩
        obtain ⟨k, rfl⟩ : ∃ q, k = q + 2 := ⟨k - 2, by omega⟩
        have hbn : ((x.f3.length : Int) != (y.f3.length : Int)) = false := by rw [hl]; simp
        simp only [sentryref3_Same.f]
        rw [if_pos c0, if_pos c1, ha (k + 1) (by omega)]
        simp only [Option.bind_some]
        rw [if_pos (by trivial), hbn]
        simp only [sentryref3_Same.j0]
        rw [if_neg (by decide)]
        exact hb k (by omega)
      · refine ⟨false, fun k hk => ?_⟩
        obtain ⟨k, rfl⟩ : ∃ q, k = q + 2 := ⟨k - 2, by omega⟩
        have hbn : ((x.f3.length : Int) != (y.f3.length : Int)) = true := by simpa using (show ¬ (x.f3.length : Int) = (y.f3.length : Int) by omega)
        simp only [sentryref3_Same.f]
        rw [if_pos c0, if_pos c1, ha (k + 1) (by omega)]
        simp only [Option.bind_some]
        rw [if_pos (by trivial), hbn, tot_j]
theorem SpacePlain (x0 : S26) (wf0 : Wf26 x0) (x1 : S26) (wf1 : Wf26 x1) : ∃ k, sentrylaw3_SpacePlain.f k x0.f0 x0.f1 x0.f2 x0.f3 x0.f4 x1.f0 x1.f1 x1.f2 x1.f3 x1.f4 = some true := by
  refine ⟨100001, ?_⟩
  obtain ⟨r, e, a, b, c⟩ := heavy_f 200 (by omega) x0 200 100001 wf0 (by omega) (by omega) (by omega)
  obtain ⟨r', e', a', b', c'⟩ := heavy_f 200 (by omega) x1 200 100001 wf1 (by omega) (by omega) (by omega)
  unfold sentrylaw3_SpacePlain.f
  rw [e]
  simp only [Option.bind_some]
  by_cases hr : r ≤ 0
  · rw [if_pos hr]; rfl
  rw [if_neg hr, e']
  simp only [Option.bind_some]
  by_cases hr' : r' ≤ 0
  · rw [decide_eq_true hr']; rfl
  rw [decide_eq_false hr']
  have hs := c (by omega)
  obtain ⟨p, hp⟩ := pl hs ⟨#[]⟩
  obtain ⟨p1, p2, p3⟩ := hp 100000 (by omega)
  obtain ⟨t, ht⟩ := tot hs x1
  simp only [sentrylaw3_SpacePlain.j0]
  rw [if_neg (by decide)]
  unfold space_Plain.f sentryref3_Plain.f space_Same.f
  rw [p1, p2]
  simp only [Option.bind_some]
  rw [p3]
  simp only [Option.bind_some]
  rw [if_pos (by trivial), ht 100000 (by omega)]
  simp only [Option.bind_some]
  rw [if_pos (by simp), self hs 100000 (by omega)]
  simp only [Option.bind_some]
  rw [if_pos (by trivial), at_rounds (fun k => sentrylaw3_known.mono k) (show 3 ≤ 100000 by omega) known3]
  rfl
end Go.Proofs.Ytlbcnklieefhmaa.Pure
