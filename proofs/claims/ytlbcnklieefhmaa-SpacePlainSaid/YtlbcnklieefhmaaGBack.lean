/- Chapter 3: what is plainly written is resolved to what it was. -/
import Derived.Test.YtlbcnklieefhmaaGTree
import Derived.Test.YtlbcnklieefhmaaGKnown
namespace Go.Proofs.Ytlbcnklieefhmaa.PA
open Go.RowKit Go.Proofs.YtlbcnklieefhmaaW.PrintWords Go.Proofs.YtlbcnklieefhmaaW.PrintLast Go.Proofs.Ytlbcnklieefhmaa.GMap Go.Proofs.Ytlbcnklieefhmaa.OA

theorem isB_split {s : ByteArray} (h : isB s = true) : name_Split.f s = some (⟨#[]⟩, s) := split_not s (isB_colon h) (by have := isB_size h; omega)
theorem declare_plain (K : Pairs) (L : List S35) (a : S35) (h : isB a.f0 = true) (h2 : a.f0.toList ≠ ([120, 109, 108, 110, 115] : List UInt8)) (h3 : a.f1.size ≤ 10000) (hK : K.length < 1000000000) (hL : L.length < 1000000000) : declareF K L a = some (true, K, L ++ [a]) := by
  unfold declareF
  rw [isB_split h]
  have := isB_size h
  simp only [Option.bind_some]
  rw [if_pos ⟨by omega, by omega, hK, hL⟩, if_neg h2, if_pos (by rw [Lib.toList_data])]
theorem attrs_plain (K : Pairs) (hK : K.length < 1000000000) : ∀ (l L : List S35), L.length + l.length ≤ 1000 → (∀ a ∈ l, isB a.f0 = true ∧ a.f0.toList ≠ ([120, 109, 108, 110, 115] : List UInt8)) → (∀ a ∈ l, a.f1.size ≤ 10000) → attrsF K L l = some (true, K, L ++ l)
  | [], L, _, _, _ => by simp [attrsF]
  | a :: r, L, hl, h, h3 => by
    simp only [List.length_cons] at hl
    have ha := h a (by simp)
    rw [attrsF, declare_plain K L a ha.1 ha.2 (h3 a (by simp)) hK (by omega)]
    simp only [Option.bind_some]
    rw [if_pos (by trivial), attrs_plain K hK r (L ++ [a]) (by simp; omega) (fun x hx => h x (by simp [hx])) (fun x hx => h3 x (by simp [hx]))]
    simp
theorem declare_xmlns (K : Pairs) (L : List S35) (u : ByteArray) (h3 : u.size ≤ 10000) (hK : K.length < 1000000000) (hL : L.length < 1000000000) : declareF K L ⟨⟨#[120, 109, 108, 110, 115]⟩, u⟩ = some (true, (⟨#[]⟩, u) :: K, L) := by
  unfold declareF
  rw [show name_Split.f (⟨#[120, 109, 108, 110, 115]⟩ : ByteArray) = some (⟨#[]⟩, ⟨#[120, 109, 108, 110, 115]⟩) from rfl]
  simp only [Option.bind_some]
  rw [if_pos ⟨by omega, by decide, hK, hL⟩, if_pos (by rw [Lib.toList_data])]

theorem same_attrs (l : List S35) : ∀ (dd i k : Nat), i + dd = l.length → l.length ≤ 1000 → dd < k → sentryref2_SameAttrs.l0 k l l i = some true := by
  intro dd
  induction dd with
  | zero =>
    intro i k hi hl hk
    obtain ⟨k, rfl⟩ : ∃ q, k = q + 1 := ⟨k - 1, by omega⟩
    simp only [sentryref2_SameAttrs.l0]
    rw [if_neg (by omega)]
  | succ dd ih =>
    intro i k hi hl hk
    obtain ⟨k, rfl⟩ : ∃ q, k = q + 1 := ⟨k - 1, by omega⟩
    simp only [sentryref2_SameAttrs.l0]
    rw [if_pos (by omega), if_pos (by omega), if_pos (by omega), wr_succ (by omega), ih (i + 1) k (by omega) hl (by omega)]
    simp
theorem same_attrs_f (l : List S35) (k : Nat) (hl : l.length ≤ 1000) (hk : l.length < k) : sentryref2_SameAttrs.f k l l = some true := by
  unfold sentryref2_SameAttrs.f
  rw [if_pos (by trivial)]
  exact same_attrs l l.length 0 k (by omega) hl hk
theorem same_l0 (R : Nat) (x y : S26) (hl : x.f3.length = y.f3.length) (h200 : y.f3.length ≤ 200) (H : ∀ j (h1 : j < x.f3.length) (h2 : j < y.f3.length), ∀ k, R ≤ k → sentryref3_Same.f k (x.f3[j]).f0 (x.f3[j]).f1 (x.f3[j]).f2 (x.f3[j]).f3 (x.f3[j]).f4 (y.f3[j]).f0 (y.f3[j]).f1 (y.f3[j]).f2 (y.f3[j]).f3 (y.f3[j]).f4 = some true) :
    ∀ (dd i k : Nat), i + dd = x.f3.length → R + 1 + dd ≤ k → sentryref3_Same.l0 k i x.f0 x.f1 x.f2 x.f3 x.f4 y.f0 y.f1 y.f2 y.f3 y.f4 = some true := by
  intro dd
  induction dd with
  | zero =>
    intro i k hi hk
    obtain ⟨k, rfl⟩ : ∃ q, k = q + 1 := ⟨k - 1, by omega⟩
    simp only [sentryref3_Same.l0]
    rw [if_neg (by omega)]
  | succ dd ih =>
    intro i k hi hk
    obtain ⟨k, rfl⟩ : ∃ q, k = q + 1 := ⟨k - 1, by omega⟩
    simp only [sentryref3_Same.l0]
    rw [if_pos (by omega), if_pos (by omega), if_pos (by omega), rd26 (by omega), rd26 (by omega), H i (by omega) (by omega) k (by omega)]
    simp only [Option.bind_some]
    rw [if_pos (by trivial), wr_succ (by omega), ih (i + 1) k (by omega) (by omega)]
theorem same_f (R : Nat) (x y : S26) (h0 : x.f0 = y.f0) (h1 : x.f1 = y.f1) (h2 : x.f2 = y.f2) (hy : y.f2.length ≤ 200) (hl : x.f3.length = y.f3.length) (h200 : y.f3.length ≤ 200) (H : ∀ j (h1 : j < x.f3.length) (h2 : j < y.f3.length), ∀ k, R ≤ k → sentryref3_Same.f k (x.f3[j]).f0 (x.f3[j]).f1 (x.f3[j]).f2 (x.f3[j]).f3 (x.f3[j]).f4 (y.f3[j]).f0 (y.f3[j]).f1 (y.f3[j]).f2 (y.f3[j]).f3 (y.f3[j]).f4 = some true) (k : Nat) (hk : R + 420 ≤ k) :
    sentryref3_Same.f k x.f0 x.f1 x.f2 x.f3 x.f4 y.f0 y.f1 y.f2 y.f3 y.f4 = some true := by
  obtain ⟨k, rfl⟩ : ∃ q, k = q + 2 := ⟨k - 2, by omega⟩
  have hb : ((x.f3.length : Int) != (y.f3.length : Int)) = false := by rw [hl]; simp
  simp only [sentryref3_Same.f]
  rw [if_pos (by rw [h0]), if_pos (by rw [h1]), h2, same_attrs_f y.f2 (k + 1) (by omega) (by omega)]
  simp only [Option.bind_some]
  rw [if_pos (by trivial), hb]
  simp only [sentryref3_Same.j0]
  rw [if_neg (by decide)]
  have := same_l0 R x y hl h200 H x.f3.length 0 k (by omega) (by omega)
  rw [h2] at this
  exact this

/-- what is told of an element that is fair and small. -/
def Back (d : Nat) (x : S26) : Prop := ∀ (u : ByteArray) (K : Pairs), lk K ⟨#[]⟩ = some u → K.length + d ≤ 1000 → ∃ (e : S32) (x' : S26), ∀ k, 500 * d ≤ k → space_plain.f k x.f0 x.f1 x.f2 x.f3 x.f4 u = some (e.f0, e.f1, e.f2, e.f3) ∧ resolveF k K e = some (x', 0, true) ∧
  sentryref3_Same.f k x'.f0 x'.f1 x'.f2 x'.f3 x'.f4 x.f0 x.f1 x.f2 x.f3 x.f4 = some true
theorem back_kids (d : Nat) (s0 s1 : ByteArray) (l2 : List S35) (L : List S26) (s4 : Int) (hL : L.length ≤ 200) (K : Pairs) (hu : lk K ⟨#[]⟩ = some s0) (hd : K.length + d ≤ 1000) (H : ∀ y ∈ L, Back d y) (c0 : ByteArray) (c1 : List S35) (c3 : Int) : ∀ (dd i : Nat) (acc : List S32) (xacc : List S26), i + dd = L.length → xacc.length = i → acc.length = i →
    ∃ (es : List S32) (xs : List S26), es.length = dd ∧ xs.length = dd ∧ (∀ k, 500 * d + 1 + dd ≤ k → space_plain.l0 k L L.length i s0 s1 l2 L s4 c0 c1 acc c3 = some (c0, c1, acc ++ es, c3)) ∧
      (∀ k, 500 * d ≤ k → kidsF (resolveF k K) xacc es = some (xacc ++ xs, 0, true)) ∧
      ∀ j (h1 : j < xs.length) (h2 : i + j < L.length), ∀ k, 500 * d ≤ k → sentryref3_Same.f k (xs[j]).f0 (xs[j]).f1 (xs[j]).f2 (xs[j]).f3 (xs[j]).f4 (L[i + j]).f0 (L[i + j]).f1 (L[i + j]).f2 (L[i + j]).f3 (L[i + j]).f4 = some true := by
  intro dd
  induction dd with
  | zero =>
    intro i acc xacc hi hx ha
    refine ⟨[], [], rfl, rfl, fun k hk => ?_, fun k hk => by simp [kidsF], fun j h1 => by simp at h1⟩
    obtain ⟨k, rfl⟩ : ∃ q, k = q + 1 := ⟨k - 1, by omega⟩
    simp only [space_plain.l0]
    rw [if_neg (by omega)]
    simp
  | succ dd ih =>
    intro i acc xacc hi hx ha
    obtain ⟨e, x', hb⟩ := H L[i] (List.getElem_mem _) s0 K hu hd
    obtain ⟨es, xs, l1, l2', p1, p2, p3⟩ := ih (i + 1) (acc ++ [e]) (xacc ++ [x']) (by omega) (by simp [hx]) (by simp [ha])
    refine ⟨e :: es, x' :: xs, by simp [l1], by simp [l2'], fun k hk => ?_, fun k hk => ?_, fun j h1 h2 k hk => ?_⟩
    · obtain ⟨k, rfl⟩ : ∃ q, k = q + 1 := ⟨k - 1, by omega⟩
      simp only [space_plain.l0]
      rw [if_pos (by omega), if_pos (by omega), if_pos (by omega), rd26 (by omega), (hb k (by omega)).1]
      simp only [Option.bind_some]
      rw [if_pos (by omega), wr_succ (by omega)]
      rw [show (⟨e.f0, e.f1, e.f2, e.f3⟩ : S32) = e from by cases e; rfl, p1 k (by omega)]
      simp
    · rw [kidsF, if_pos (by omega), (hb k hk).2.1]
      simp only [Option.bind_some]
      rw [if_pos (by trivial), p2 k hk]
      simp
    · cases j with
      | zero => exact (hb k hk).2.2
      | succ j =>
        have := p3 j (by simpa using h1) (by omega) k hk
        simpa only [List.getElem_cons_succ, show i + 1 + j = i + (j + 1) by omega] using this
theorem back {d : Nat} {x : S26} (h : Small d x) : Fair x → Back d x := by
  induction h with
  | mk d x s0 s1 l2 a2 l3 hs ih =>
    rintro ⟨_, f1, f2, f3⟩ u K hu hK
    -- what stands in the attributes, and the names that are known
    have hat : ∃ (pre : List S35) (K' : Pairs), pre.length ≤ 1 ∧ lk K' ⟨#[]⟩ = some x.f0 ∧ K'.length + d ≤ 1000 ∧ attrsF K [] (pre ++ x.f2) = some (true, K', x.f2) ∧
        ∀ k, space_plain.f (k + 1) x.f0 x.f1 x.f2 x.f3 x.f4 u = space_plain.j0 k x.f0 x.f1 x.f2 x.f3 x.f4 x.f1 pre 0 := by
      by_cases e : x.f0.toList = u.toList
      · refine ⟨[], K, by simp, ?_, by omega, ?_, fun k => ?_⟩
        · rw [hu, ba_ext (by rw [← Lib.toList_data, ← Lib.toList_data, e] : u.data.toList = x.f0.data.toList)]
        · exact attrs_plain K (by omega) x.f2 [] (by simp; omega) f2 (fun a ha => (a2 a ha).2)
        · simp only [space_plain.f]
          rw [if_pos e]
      · refine ⟨[⟨⟨#[120, 109, 108, 110, 115]⟩, x.f0⟩], (⟨#[]⟩, x.f0) :: K, by simp, lk_hit _ _ _ _ rfl, by simp only [List.length_cons]; omega, ?_, fun k => ?_⟩
        · show attrsF K [] (⟨⟨#[120, 109, 108, 110, 115]⟩, x.f0⟩ :: x.f2) = _
          rw [attrsF, declare_xmlns K [] x.f0 s0 (by omega) (by simp)]
          simp only [Option.bind_some]
          rw [if_pos (by trivial), attrs_plain _ (by simp only [List.length_cons]; omega) x.f2 [] (by simp; omega) f2 (fun a ha => (a2 a ha).2)]
          rfl
        · simp only [space_plain.f]
          rw [if_neg e, if_pos (by simp)]
          rfl
    obtain ⟨pre, K', hp, hl, hK', hA, hP⟩ := hat
    obtain ⟨es, xs, e1, e2, p1, p2, p3⟩ := back_kids d x.f0 x.f1 x.f2 x.f3 x.f4 l3 K' hl hK' (fun y hy => ih y hy (f3 y hy)) x.f1 (pre ++ x.f2) 0 x.f3.length 0 [] [] (by omega) rfl rfl
    refine ⟨⟨x.f1, pre ++ x.f2, es, 0⟩, ⟨x.f0, x.f1, x.f2, xs, 0⟩, fun k hk => ?_⟩
    obtain ⟨k, rfl⟩ : ∃ q, k = q + 2 := ⟨k - 2, by omega⟩
    refine ⟨?_, ?_, ?_⟩
    · rw [hP]
      simp only [space_plain.j0]
      rw [if_pos (by omega)]
      exact p1 k (by omega)
    · rw [resolveF, if_pos ⟨by simp; omega, by simp; omega⟩, hA]
      simp only [Option.bind_some]
      rw [if_pos (by trivial), isB_split f1]
      simp only [Option.bind_some]
      rw [if_pos (by decide), hl]
      simp only
      rw [if_neg (by rw [Lib.toList_data]; decide), p2 (k + 1) (by omega)]
      rfl
    · exact same_f (500 * d) ⟨x.f0, x.f1, x.f2, xs, 0⟩ x rfl rfl rfl l2 e2 l3 (fun j h1 h2 k hk => by have := p3 j h1 (by omega) k hk; simpa only [Nat.zero_add] using this) (k + 2) (by omega)
end Go.Proofs.Ytlbcnklieefhmaa.PA
