import Derived.Test.YtknenadpkgajjaaGGsc
/- The reference's rising, lits, File, Op, rule, by symbolic runs. -/
namespace Go.Proofs.Ytknenadpkgajjaa.GEv
open Go
set_option linter.unusedSimpArgs false
set_option linter.unusedVariables false
set_option maxRecDepth 100000
theorem rising_succ {las : Int} {l : List Int} {i : Nat} {x : Int} (i2 : Rising las (l.take i)) (hxi : l[i]? = some x) : Rising las (l.take (i + 1)) ↔ Wth x 0 las ∧ ∀ y, i ≠ 0 → l[i - 1]? = some y → y < x := by
  constructor
  · intro h
    have h1 := h i x (by rw [List.getElem?_take_of_lt (by omega)]; exact hxi)
    exact ⟨h1.1, fun y hi hy => h1.2 y hi (by rw [List.getElem?_take_of_lt (by omega)]; exact hy)⟩
  · intro h j y hj
    by_cases e : j = i
    · subst e
      rw [List.getElem?_take_of_lt (by omega), hxi] at hj
      cases hj
      exact ⟨h.1, fun z hz hzz => h.2 z hz (by rw [List.getElem?_take_of_lt (by omega)] at hzz; exact hzz)⟩
    · have hj2 : j < i + 1 := by
        have := (List.getElem?_eq_some_iff.1 hj).1
        rw [List.length_take] at this
        omega
      rw [List.getElem?_take_of_lt (by omega)] at hj
      obtain ⟨h1, h2⟩ := i2 j y (by rw [List.getElem?_take_of_lt (by omega)]; exact hj)
      exact ⟨h1, fun z hz hzz => h2 z hz (by rw [List.getElem?_take_of_lt (by omega)] at hzz ⊢; exact hzz)⟩
theorem rising_take {las : Int} {l : List Int} (h : Rising las l) (i : Nat) : Rising las (l.take i) := by
  intro j y hj
  have hj2 := (List.getElem?_eq_some_iff.1 hj).1
  rw [List.length_take] at hj2
  rw [List.getElem?_take_of_lt (by omega)] at hj
  obtain ⟨h1, h2⟩ := h j y hj
  exact ⟨h1, fun z hz hzz => h2 z hz (by rw [List.getElem?_take_of_lt (by omega)] at hzz; exact hzz)⟩
/-- All so far. -/
theorem all_succ {α : Type} {P : α → Prop} {l : List α} {i : Nat} {x : α} (h : ∀ y ∈ l.take i, P y) (hi : l[i]? = some x) (hp : P x) : ∀ y ∈ l.take (i + 1), P y := by
  intro y hy
  have hl := (List.getElem?_eq_some_iff.1 hi).1
  rw [List.take_succ_eq_append_getElem hl, List.mem_append] at hy
  rcases hy with hy | hy
  · exact h y hy
  · rw [List.mem_singleton] at hy
    rw [hy, (List.getElem?_eq_some_iff.1 hi).2]
    exact hp
section
variable {E : Env} (hE : E = EG)
include hE
theorem rIn (n b : Int) (h : H) (K : Value → H → Prop) (hk : ∀ r, decide (Wth n 0 b) = r → K (.bool r) h) : CallP E 59 [.int .i64 n, .int .i64 b] h K := by
  refine CallP.ofG hE Try.func59 rfl rfl rfl rfl ?_
  clear hE
  cbv
  refine BinP.ofI (And.intro (fun q1 => ?_) (fun q1 => ?_))
  · cbv
    refine BinP.ofI (And.intro (fun q2 => ?_) (fun q2 => ?_))
    · cbv
      exact hk _ (decide_eq_true (show Wth n 0 b from ⟨q1, q2⟩))
    · cbv
      exact hk _ (decide_eq_false (show ¬ Wth n 0 b from fun q => by have := q.2; omega))
  · have q1 : n < 0 := q1
    cbv
    exact hk _ (decide_eq_false (show ¬ Wth n 0 b from fun q => by have := q.1; omega))
theorem rRising (las : Int) (l : List Int) (v : Value) (g : H) (S : Nat → Prop) (hr : RowAt g S 1 (l.map encI) v) (hl : l.length ≤ 1000000) (K : Value → H → Prop) (hk : ∀ b h', (b = true ↔ Rising las l) → Grows g h' → K (.bool b) h') :
    CallP E 27 [v, .int .i64 las] g K := by
  have ci := fun n b h K hk => rIn hE n b h K hk
  obtain ⟨a, n, cap, rfl, hn, hx, _⟩ := hr.ex
  rw [List.length_map] at hn
  refine CallP.ofG hE Try.func27 rfl rfl rfl rfl ?_
  have T := tbOk hE
  clear hE
  cbv
  refine LoopP.onZ T (fun x : H × Nat => [(5, .int .i64 (.ofNat x.2)), (0, .slice a n cap), (1, .int .i64 las)]) (fun x => x.1) (fun x => Grows g x.1 ∧ x.2 ≤ n ∧ Rising las (l.take x.2)) (fun x => n - x.2) (g, 0) rfl (Less.cons rfl (Less.cons rfl (Less.cons rfl (Less.nil _)))) ⟨Grows.refl _, Nat.zero_le _, fun i x hi => by simp at hi⟩ ?_
  rintro ⟨m, i⟩ ⟨i0, i1, i2⟩
  have i0 : Grows g m := i0
  have i1 : i ≤ n := i1
  have i2 : Rising las (l.take i) := i2
  cbv
  refine BinP.lt (fun q => ?_) (fun q => ?_)
  · obtain ⟨x, hxi⟩ : ∃ x, l[i]? = some x := ⟨_, List.getElem?_eq_getElem (by omega)⟩
    have hst := rising_succ i2 hxi
    have hno : ¬ (Wth x 0 las ∧ ∀ y, i ≠ 0 → l[i - 1]? = some y → y < x) → ¬ Rising las l := fun h hR => h (hst.1 (rising_take hR _))
    obtain ⟨b, off, rfl, _, _, _, hrd⟩ := (hx.grows i0).el (i := i) (x := encI x) (by rw [List.getElem?_map, hxi]; rfl)
    cbv
    refine DrawP.ofZ T [] (by kernel_rfl) ?_
    cbv
    refine ⟨⟨q⟩, fun p1 hp1 => ?_⟩
    cbv
    refine ⟨_, hrd p1 hp1, ?_⟩
    cbv
    intro h0 U
    refine ci _ _ h0 _ (fun r hr1 => DoneP.quiet (Grows.refl h0) (fun M hM => ?_))
    have gM : Grows m M := MixP.grows U (Grows.refl m) (Grows.refl h0) hM
    have iM := i0.trans gM
    cases r with
    | false =>
      cbv
      intro M2 L2
      cbv
      exact hk _ _ ⟨fun e => (by cases e), fun e => absurd e (hno (fun e2 => of_decide_eq_false hr1 e2.1))⟩ (L2.grows iM)
    | true =>
      have hw : Wth x 0 las := of_decide_eq_true hr1
      cbv
      refine BinP.gt0 (fun q2 => ?_) (fun q2 => ?_)
      · obtain ⟨k, rfl⟩ : ∃ k, i = k + 1 := ⟨i - 1, by omega⟩
        obtain ⟨y, hy⟩ : ∃ y, l[k]? = some y := ⟨_, List.getElem?_eq_getElem (by omega)⟩
        obtain ⟨b', off', e', _, _, _, hrd'⟩ := (hx.grows iM).el (i := k) (x := encI y) (by rw [List.getElem?_map, hy]; rfl)
        obtain ⟨b'', off'', e'', _, _, _, hrd''⟩ := (hx.grows iM).el (i := k + 1) (x := encI x) (by rw [List.getElem?_map, hxi]; rfl)
        cases e'
        cases e''
        cbv
        refine BinP.dec (by omega) (by omega) (fun z hz => ?_)
        obtain rfl : z = k := by omega
        cbv
        refine ⟨⟨by omega⟩, fun p2 hp2 => ?_⟩
        cbv
        refine ⟨_, hrd' p2 hp2, ?_⟩
        cbv
        refine ⟨⟨q⟩, fun p3 hp3 => ?_⟩
        cbv
        refine ⟨_, hrd'' p3 hp3, ?_⟩
        cbv
        refine BinP.ofI (And.intro (fun q3 => ?_) (fun q3 => ?_))
        · have q3 : x ≤ y := q3
          cbv
          intro M2 L2
          cbv
          refine hk _ _ ⟨fun e => (by cases e), fun e => absurd e (hno (fun e2 => ?_))⟩ (L2.grows iM)
          have := e2.2 y (by omega) (by simpa using hy)
          omega
        · have q3 : y < x := q3
          cbv
          intro M2 L2
          cbv
          refine BinP.inc (by omega) (fun z2 hz2 => ?_)
          cbv
          refine ⟨(M2, z + 1 + 1), Less.cons (by rw [hz2]; rfl) (Less.cons rfl (Less.cons rfl (Less.nil _))), rfl, ⟨L2.grows iM, q, hst.2 ⟨hw, fun z3 _ h3 => ?_⟩⟩, (by show n - (z + 1 + 1) < n - (z + 1); omega)⟩
          have h3 : l[z]? = some z3 := by simpa using h3
          rw [hy] at h3
          cases h3
          exact q3
      · subst q2
        cbv
        intro M2 L2
        cbv
        refine BinP.inc (by omega) (fun z2 hz2 => ?_)
        cbv
        exact ⟨(M2, 0 + 1), Less.cons (by rw [hz2]; rfl) (Less.cons rfl (Less.cons rfl (Less.nil _))), rfl, ⟨L2.grows iM, q, hst.2 ⟨hw, fun z3 h3 _ => absurd rfl h3⟩⟩, (by show n - (0 + 1) < n - 0; omega)⟩
  · cbv
    rw [List.take_of_length_le (by omega)] at i2
    exact hk _ _ ⟨fun _ => i2, fun _ => rfl⟩ i0
theorem rLits (n : Int) (l : List LitS) (v : Value) (g : H) (S : Nat → Prop) (hr : RowAt g S 2 (l.map encL) v) (hl : l.length ≤ 1000000) (K : Value → H → Prop) (hk : ∀ b, (b = true ↔ LitsOk n l) → K (.bool b) g) :
    CallP E 60 [v, .int .i64 n] g K := by
  have ci := fun n b h K hk => rIn hE n b h K hk
  obtain ⟨a, N, cap, rfl, hn, hx, _⟩ := hr.ex
  rw [List.length_map] at hn
  refine CallP.ofG hE Try.func60 rfl rfl rfl rfl ?_
  have T := tbOk hE
  clear hE
  cbv
  refine LoopP.onZ T (fun x : Nat => [(5, .int .i64 (.ofNat x)), (0, .slice a N cap), (1, .int .i64 n)]) (fun _ => g) (fun x => x ≤ N ∧ ∀ y ∈ l.take x, Wth y.1 0 n) (fun x => N - x) 0 rfl (Less.cons rfl (Less.cons rfl (Less.cons rfl (Less.nil _)))) ⟨Nat.zero_le _, fun y hy => by simp at hy⟩ ?_
  rintro i ⟨i1, i2⟩
  cbv
  refine BinP.lt (fun q => ?_) (fun q => ?_)
  · obtain ⟨x, hxi⟩ : ∃ x, l[i]? = some x := ⟨_, List.getElem?_eq_getElem (by omega)⟩
    obtain ⟨b, off, rfl, _, _, _, hrd⟩ := hx.el (i := i) (x := encL x) (by rw [List.getElem?_map, hxi]; rfl)
    cbv
    refine ⟨⟨q⟩, fun p1 hp1 => ?_⟩
    cbv
    intro p2 hp2
    cbv
    refine ⟨_, (hrd p1 hp1).cell (i := 0) rfl hp2, ?_⟩
    cbv
    refine ci _ _ g _ (fun r hr1 => ?_)
    cases r with
    | false =>
      cbv
      exact hk _ ⟨fun e => (by cases e), fun e => absurd (e x (List.mem_of_getElem? hxi)) (of_decide_eq_false hr1)⟩
    | true =>
      cbv
      refine BinP.inc (by omega) (fun z2 hz2 => ?_)
      cbv
      exact ⟨i + 1, Less.cons (by rw [hz2]; rfl) (Less.cons rfl (Less.cons rfl (Less.nil _))), rfl, ⟨q, all_succ i2 hxi (of_decide_eq_true hr1)⟩, (by show N - (i + 1) < N - i; omega)⟩
  · cbv
    rw [List.take_of_length_le (by omega)] at i2
    exact hk _ ⟨fun _ => i2, fun _ => rfl⟩
theorem rFile (l : List Bs) (s : Bs) (v : Value) (g : H) (S : Nat → Prop) (hr : RowAt g S 1 (l.map encT) v) (hl : l.length ≤ 1000000) (K : Value → H → Prop) (hk : ∀ b, decide (s ∈ l) = b → K (.bool b) g) :
    CallP E 28 [v, .string ⟨⟨s⟩⟩] g K := by
  obtain ⟨a, n, cap, rfl, hn, hx, _⟩ := hr.ex
  rw [List.length_map] at hn
  refine CallP.ofG hE Try.func28 rfl rfl rfl rfl ?_
  have T := tbOk hE
  clear hE
  cbv
  refine LoopP.onZ T (fun x : Nat => [(5, .int .i64 (.ofNat x)), (0, .slice a n cap), (1, .string ⟨⟨s⟩⟩)]) (fun _ => g) (fun x => x ≤ n ∧ ∀ y ∈ l.take x, y ≠ s) (fun x => n - x) 0 rfl (Less.cons rfl (Less.cons rfl (Less.cons rfl (Less.nil _)))) ⟨Nat.zero_le _, fun y hy => by simp at hy⟩ ?_
  rintro i ⟨i1, i2⟩
  cbv
  refine BinP.lt (fun q => ?_) (fun q => ?_)
  · obtain ⟨x, hxi⟩ : ∃ x, l[i]? = some x := ⟨_, List.getElem?_eq_getElem (by omega)⟩
    obtain ⟨b, off, rfl, _, _, _, hrd⟩ := hx.el (i := i) (x := encT x) (by rw [List.getElem?_map, hxi]; rfl)
    cbv
    refine ⟨⟨q⟩, fun p1 hp1 => ?_⟩
    cbv
    refine ⟨_, hrd p1 hp1, ?_⟩
    cbv
    refine BinP.str (And.intro (fun q2 => ?_) (fun q2 => ?_))
    · have q2 : x = s := q2
      cbv
      exact hk _ (decide_eq_true (q2 ▸ List.mem_of_getElem? hxi))
    · have q2 : x ≠ s := q2
      cbv
      refine BinP.inc (by omega) (fun z2 hz2 => ?_)
      cbv
      exact ⟨i + 1, Less.cons (by rw [hz2]; rfl) (Less.cons rfl (Less.cons rfl (Less.nil _))), rfl, ⟨q, all_succ i2 hxi q2⟩, (by show n - (i + 1) < n - i; omega)⟩
  · cbv
    rw [List.take_of_length_le (by omega)] at i2
    exact hk _ (decide_eq_false (fun h => i2 s h rfl))
theorem rOp (s : Bs) (g : H) (K : Value → H → Prop) (hk : ∀ h' z, (z < 0 ↔ s ∉ ops6) → Grows g h' → K (.int .i64 z) h') :
    CallP E 61 [.string ⟨⟨s⟩⟩] g K := by
  refine CallP.ofG hE Try.func61 rfl rfl rfl rfl ?_
  have T := tbOk hE
  clear hE
  cbv
  intro m P
  have R : RowAt m (fun _ => True) 1 (ops6.map encT) (.slice (some ⟨g.next, 0, none⟩) 6 6) := .ofBlock (by rw [P.next]; exact Nat.lt_succ_self _) P.get (encT_len _) ⟨by decide, .inl (by decide)⟩
  have G := P.grows
  clear P
  generalize g.next = b1 at R
  cbv
  refine LoopP.onZ T (fun x : Nat => [(4, .int .i64 (.ofNat x)), (3, .slice (some ⟨b1, 0, none⟩) 6 6), (0, .string ⟨⟨s⟩⟩)]) (fun _ => m) (fun x => x ≤ 6 ∧ ∀ y ∈ ops6.take x, y ≠ s) (fun x => 6 - x) 0 rfl (Less.cons rfl (Less.cons rfl (Less.cons rfl (Less.nil _)))) ⟨Nat.zero_le _, fun y hy => by simp at hy⟩ ?_
  rintro i ⟨i1, i2⟩
  obtain ⟨a, n, cap, e, hn, hx, _⟩ := R.ex
  injection e with e1 e2 e3
  subst e1 e2 e3
  cbv
  refine BinP.ofN (And.intro (fun q => ?_) (fun q => ?_))
  · have q : i < 6 := q
    obtain ⟨x, hxi⟩ : ∃ x, ops6[i]? = some x := ⟨_, List.getElem?_eq_getElem (show i < ops6.length from q)⟩
    obtain ⟨b, off, e, _, _, _, hrd⟩ := hx.el (i := i) (x := encT x) (by rw [List.getElem?_map, hxi]; rfl)
    cases e
    cbv
    refine ⟨⟨q⟩, fun p1 hp1 => ?_⟩
    cbv
    refine ⟨_, hrd p1 hp1, ?_⟩
    cbv
    refine BinP.str (And.intro (fun q2 => ?_) (fun q2 => ?_))
    · have q2 : x = s := q2
      cbv
      exact hk _ _ ⟨fun h => absurd h (Int.not_lt.2 (Int.natCast_nonneg i)), fun h => absurd (q2 ▸ List.mem_of_getElem? hxi) h⟩ G
    · have q2 : x ≠ s := q2
      cbv
      refine BinP.inc (by omega) (fun z2 hz2 => ?_)
      cbv
      exact ⟨i + 1, Less.cons (by rw [hz2]; rfl) (Less.cons rfl (Less.cons rfl (Less.nil _))), rfl, ⟨q, all_succ i2 hxi q2⟩, (by show 6 - (i + 1) < 6 - i; omega)⟩
  · have q : 6 ≤ i := q
    obtain rfl : i = 6 := by omega
    cbv
    exact hk _ _ ⟨fun _ h => i2 s h rfl, fun _ => by decide⟩ G
end
end Go.Proofs.Ytknenadpkgajjaa.GEv

/- The reference's rule, by a symbolic run. -/
namespace Go.Proofs.Ytknenadpkgajjaa.GEv
open Go
set_option linter.unusedSimpArgs false
set_option linter.unusedVariables false
set_option maxRecDepth 100000
section
variable {E : Env} (hE : E = EG)
include hE
theorem rRule (p : PrS) (w : PrV) (x : RuleS) (c : List Value) (g : H) (S : Nat → Prop) (hp : IsPr g S p w) (hr : IsRule g S x c) (K : Value → H → Prop) (hk : ∀ h' r, (r = true ↔ RuleOk p x) → Grows g h' → K (.bool r) h') :
    CallP E 29 [.agg (prC p w).toArray, .agg c.toArray] g K := by
  have ci := fun n b h K hk => rIn hE n b h K hk
  have cl := fun n l v m hr hl K hk => rLits hE n l v m S hr hl K hk
  have cf := fun l s v m hr hl K hk => rFile hE l s v m S hr hl K hk
  have co := fun s m K hk => rOp hE s m K hk
  refine CallP.ofG hE Try.func29 rfl rfl rfl rfl ?_
  have T := tbOk hE
  clear hE
  obtain ⟨v1, v2, v3, rfl, r1, r2, r3, l1, l2, l3⟩ := hr.ex
  obtain ⟨a1, n1, c1, rfl, k1⟩ := r1.ex
  obtain ⟨a2, n2, c2, rfl, hn2, x2, k2⟩ := r2.ex
  obtain ⟨a3, n3, c3, rfl, hn3, x3, k3⟩ := r3.ex
  have r1 : RowAt g S 2 (x.ifs.map encL) (.slice a1 n1 c1) := ⟨_, _, _, rfl, k1⟩
  obtain ⟨af, nf, cf', ef, kf⟩ := hp.files.ex
  have hp5 : (prC p w)[5]? = some (.slice af nf cf') := by rw [← ef]; rfl
  have rf : RowAt g S 1 (p.files.map encT) (.slice af nf cf') := ⟨_, _, _, rfl, kf⟩
  have hlf := hp.lens.2.2.1
  rw [List.length_map] at hn2 hn3
  cbv
  intro m P
  have B1 : BoxP m g.next (prC p w) 36 := P.box
  have G1 := P.grows
  clear P
  generalize g.next = b1 at B1
  intro m2 P2
  have B2 : BoxP m2 m.next [.int .i64 x.st, .slice a1 n1 c1, .slice a2 n2 c2, .slice a3 n3 c3] 28 := P2.box
  have B1 := B1.grows P2.grows
  have G2 := G1.trans P2.grows
  clear P2 G1
  generalize m.next = b2 at B2
  have B1' := B1.get
  have B2' := B2.get
  cbv
  rintro _ rfl
  cbv
  refine ⟨_, rb (B2') rfl, ?_⟩
  cbv
  refine BinP.ofI (And.intro (fun q => ?_) (fun q => ?_))
  · have q : x.st < 1 := q
    cbv
    exact hk _ _ ⟨fun e => (by cases e), fun e => by have := e.st.1; omega⟩ G2
  have q : 1 ≤ x.st := q
  cbv
  rintro _ rfl
  cbv
  refine ⟨_, rb (B2') rfl, ?_⟩
  cbv
  refine BinP.ofI (And.intro (fun q2 => ?_) (fun q2 => ?_))
  · have q2 : 20 < x.st := q2
    cbv
    exact hk _ _ ⟨fun e => (by cases e), fun e => by have := e.st.2; omega⟩ G2
  have q2 : x.st ≤ 20 := q2
  cbv
  rintro _ rfl
  cbv
  refine ⟨_, rb (B2') rfl, ?_⟩
  cbv
  refine BinP.eq0 (fun q3 => ?_) (fun q3 => ?_)
  · cbv
    exact hk _ _ ⟨fun e => (by cases e), fun e => absurd (List.eq_nil_of_length_eq_zero (by omega)) e.ne⟩ G2
  cbv
  rintro _ rfl
  cbv
  refine ⟨_, rb (B2') rfl, ?_⟩
  cbv
  rintro _ rfl
  cbv
  refine ⟨_, rb (B1') rfl, ?_⟩
  cbv
  refine cl p.flags x.ifs _ m2 (r1.grows G2) l1 _ (fun b h1 => ?_)
  cases b with
  | false => cbv; exact hk _ _ ⟨fun e => (by cases e), fun e => absurd (h1.2 e.ifs) (by simp)⟩ G2
  | true =>
  have h1 := h1.1 rfl
  cbv
  refine LoopP.onZ T (fun y : H × Nat => [(5, .int .i64 (.ofNat y.2)), (3, .pointer (some ⟨b2, 0, none⟩)), (2, .pointer (some ⟨b1, 0, none⟩))]) (fun y => y.1) (fun y => Grows m2 y.1 ∧ y.2 ≤ n3 ∧ ∀ u ∈ x.thens.take y.2, Wth u.1 0 p.flags) (fun y => n3 - y.2) (m2, 0) rfl (Less.cons rfl (Less.cons rfl (Less.cons rfl (Less.nil _)))) ⟨Grows.refl _, Nat.zero_le _, fun u hu => by simp at hu⟩ ?_
  rintro ⟨m3, i⟩ ⟨i0, i1, i2⟩
  have i0 : Grows m2 m3 := i0
  have i1 : i ≤ n3 := i1
  have i2 : ∀ u ∈ x.thens.take i, Wth u.1 0 p.flags := i2
  have B3 := (B2.grows i0).get
  have B3p := (B1.grows i0).get
  cbv
  rintro _ rfl
  cbv
  refine ⟨_, rb (B3) rfl, ?_⟩
  cbv
  refine BinP.lt (fun q4 => ?_) (fun q4 => ?_)
  · obtain ⟨u, hui⟩ : ∃ u, x.thens[i]? = some u := ⟨_, List.getElem?_eq_getElem (by omega)⟩
    obtain ⟨b, off, rfl, _, _, _, hrd⟩ := (x3.grows (G2.trans i0)).el (i := i) (x := encL u) (by rw [List.getElem?_map, hui]; rfl)
    cbv
    refine DrawP.ofZ T [] (by kernel_rfl) ?_
    cbv
    rintro _ rfl
    cbv
    refine ⟨_, rb (B3) rfl, ?_⟩
    cbv
    refine ⟨⟨q4⟩, fun p1 hp1 => ?_⟩
    cbv
    intro p2 hp2
    cbv
    refine ⟨_, (hrd p1 hp1).cell (i := 0) rfl hp2, ?_⟩
    cbv
    rintro _ rfl
    cbv
    refine ⟨_, rb (B3p) rfl, ?_⟩
    cbv
    intro h0 U
    refine ci _ _ h0 _ (fun r hr1 => DoneP.quiet (Grows.refl h0) (fun M hM => ?_))
    have gM : Grows m3 M := MixP.grows U (Grows.refl m3) (Grows.refl h0) hM
    have iM := i0.trans gM
    cases r with
    | false =>
      cbv
      intro M2 L2
      cbv
      exact hk _ _ ⟨fun e => (by cases e), fun e => absurd (e.thens u (List.mem_of_getElem? hui)) (of_decide_eq_false hr1)⟩ (L2.grows (G2.trans iM))
    | true =>
      cbv
      intro M2 L2
      cbv
      refine BinP.inc (by omega) (fun z2 hz2 => ?_)
      cbv
      exact ⟨(M2, i + 1), Less.cons (by rw [hz2]; rfl) (Less.cons rfl (Less.cons rfl (Less.nil _))), rfl, ⟨L2.grows iM, q4, all_succ i2 hui (of_decide_eq_true hr1)⟩, (by show n3 - (i + 1) < n3 - i; omega)⟩
  rw [List.take_of_length_le (by omega)] at i2
  have h2 : LitsOk p.flags x.thens := i2
  clear i2
  have G3 := G2.trans i0
  have B2 := B2.grows i0
  have B1 := B1.grows i0
  clear i0 B3 B3p B1' B2' G2
  cbv
  refine LoopP.onZ T (fun y : H × Nat => [(6, .int .i64 (.ofNat y.2)), (3, .pointer (some ⟨b2, 0, none⟩)), (2, .pointer (some ⟨b1, 0, none⟩))]) (fun y => y.1) (fun y => Grows m3 y.1 ∧ y.2 ≤ n2 ∧ ∀ u ∈ x.conds.take y.2, CondOk p.files u) (fun y => n2 - y.2) (m3, 0) rfl (Less.cons rfl (Less.cons rfl (Less.cons rfl (Less.nil _)))) ⟨Grows.refl _, Nat.zero_le _, fun u hu => by simp at hu⟩ ?_
  rintro ⟨m4, j⟩ ⟨i0, i1, i2⟩
  have i0 : Grows m3 m4 := i0
  have i1 : j ≤ n2 := i1
  have i2 : ∀ u ∈ x.conds.take j, CondOk p.files u := i2
  have G4 := G3.trans i0
  have B3 := (B2.grows i0).get
  have B3p := (B1.grows i0).get
  cbv
  rintro _ rfl
  cbv
  refine ⟨_, rb (B3) rfl, ?_⟩
  cbv
  refine BinP.lt (fun q4 => ?_) (fun q4 => ?_)
  · obtain ⟨u, hui⟩ : ∃ u, x.conds[j]? = some u := ⟨_, List.getElem?_eq_getElem (by omega)⟩
    obtain ⟨b, off, rfl, _, _, _, hrd⟩ := (x2.grows G4).el (i := j) (x := encC u) (by rw [List.getElem?_map, hui]; rfl)
    cbv
    refine DrawP.ofZ T [] (by kernel_rfl) ?_
    cbv
    rintro _ rfl
    cbv
    refine ⟨_, rb B3p hp5, ?_⟩
    cbv
    rintro _ rfl
    cbv
    refine ⟨_, rb (B3) rfl, ?_⟩
    cbv
    refine ⟨⟨q4⟩, fun p1 hp1 => ?_⟩
    cbv
    intro p2 hp2
    cbv
    refine ⟨_, (hrd p1 hp1).cell (i := 0) rfl hp2, ?_⟩
    cbv
    intro h0 U
    have gu := U.like.grows (Grows.refl m4)
    refine cf p.files u.1 _ h0 (rf.grows (G4.trans gu)) hlf _ (fun r hr1 => DoneP.quiet (Grows.refl h0) (fun M hM => ?_))
    have gM : Grows m4 M := MixP.grows U (Grows.refl m4) (Grows.refl h0) hM
    have iM := i0.trans gM
    cases r with
    | false =>
      cbv
      intro M2 L2
      cbv
      exact hk _ _ ⟨fun e => (by cases e), fun e => absurd (e.conds u (List.mem_of_getElem? hui)).1 (of_decide_eq_false hr1)⟩ (L2.grows (G3.trans iM))
    | true =>
      have B5 := ((B2.grows i0).grows gM).get
      obtain ⟨b', off', e, _, _, _, hrd'⟩ := ((x2.grows G4).grows gM).el (i := j) (x := encC u) (by rw [List.getElem?_map, hui]; rfl)
      cases e
      cbv
      rintro _ rfl
      cbv
      refine ⟨_, rb (B5) rfl, ?_⟩
      cbv
      refine ⟨⟨q4⟩, fun p3 hp3 => ?_⟩
      cbv
      intro p4 hp4
      cbv
      refine ⟨_, (hrd' p3 hp3).cell (i := 1) rfl hp4, ?_⟩
      cbv
      intro h2' U2
      refine co u.2.1 h2' _ (fun h3 z hz g3 => DoneP.quiet g3 (fun M3 hM3 => ?_))
      have gM3 : Grows M M3 := MixP.grows U2 (Grows.refl M) g3 hM3
      have iM3 := iM.trans gM3
      cbv
      refine BinP.ofI (And.intro (fun q5 => ?_) (fun q5 => ?_))
      · have q5 : z < 0 := q5
        cbv
        intro M4 L4
        cbv
        exact hk _ _ ⟨fun e => (by cases e), fun e => absurd (e.conds u (List.mem_of_getElem? hui)).2 (hz.1 q5)⟩ (L4.grows (G3.trans iM3))
      · have q5 : 0 ≤ z := q5
        have hin : u.2.1 ∈ ops6 := Classical.byContradiction fun h => by have := hz.2 h; omega
        cbv
        intro M4 L4
        cbv
        refine BinP.inc (by omega) (fun z2 hz2 => ?_)
        cbv
        exact ⟨(M4, j + 1), Less.cons (by rw [hz2]; rfl) (Less.cons rfl (Less.cons rfl (Less.nil _))), rfl, ⟨L4.grows iM3, q4, all_succ i2 hui ⟨of_decide_eq_true hr1, hin⟩⟩, (by show n2 - (j + 1) < n2 - j; omega)⟩
  · cbv
    rw [List.take_of_length_le (by omega)] at i2
    exact hk _ _ ⟨fun _ => ⟨⟨q, by omega⟩, fun e => by rw [e] at hn3; simp at hn3; omega, h1, h2, i2⟩, fun _ => rfl⟩ G4
end
end Go.Proofs.Ytknenadpkgajjaa.GEv

/- The reference's strata: what it computes; 'max', 'min'. -/
namespace Go.Proofs.Ytknenadpkgajjaa.GEv
open Go
set_option linter.unusedSimpArgs false
set_option linter.unusedVariables false
set_option maxRecDepth 100000
theorem raw_max {E : Env} {l : L} {h : H} {dst ty pos after guard} {K : Value → H → Prop} {x y : Operand} {ts : Array TypeId} {a b : Int} (hx : evL l x = some (.int .i64 a)) (hy : evL l y = some (.int .i64 b)) (hk : ∀ r, r = max a b → K (.int .i64 r) h) : RawP E l h ⟨dst, .call ⟨.builtin .max, #[x, y], ts⟩, ty, pos, after, guard⟩ K := ⟨fun tm hv => by
  refine OpP.val ?_ (hk _ rfl)
  have q1 := evL_ok hv hx
  have q2 := evL_ok hv hy
  have e1 : evA' tm x = .int .i64 a := by simp [evA', q1]
  have e2 : evA' tm y = .int .i64 b := by simp [evA', q2]
  have h1 : allFlat tm (Op.operands (.call ⟨.builtin .max, #[x, y], ts⟩)).toList = true := by simp [Op.operands, Call.operands, allFlat, q1, q2, flat2, flat1, flat]
  have q' : evList tm (#[x, y] : Array Operand).toList = some [.int .i64 a, .int .i64 b] := by simp only [evList, q1, q2]
  have em : (if a < b then b else a) = max a b := by
    by_cases q : a < b
    · rw [if_pos q]; omega
    · rw [if_neg q]; omega
  have h2 : pureRun E.P (execOp (evA' tm) ⟨dst, .call ⟨.builtin .max, #[x, y], ts⟩, ty, pos, after, guard⟩) = some (.value (.int .i64 (max a b))) := by
    rw [← em]
    simp only [execOp]
    simp [resolve, invoke, builtin, Builtin.max_, Builtin.max2, e1, e2, pureRun, bind, pure, Sem.bind]
  simp only [evOp, hCall, hCallB, q', evBuiltin, evPure, h1, if_true, h2]
  rfl⟩
theorem raw_min {E : Env} {l : L} {h : H} {dst ty pos after guard} {K : Value → H → Prop} {x y : Operand} {ts : Array TypeId} {a b : Int} (hx : evL l x = some (.int .i64 a)) (hy : evL l y = some (.int .i64 b)) (hk : ∀ r, r = min a b → K (.int .i64 r) h) : RawP E l h ⟨dst, .call ⟨.builtin .min, #[x, y], ts⟩, ty, pos, after, guard⟩ K := ⟨fun tm hv => by
  refine OpP.val ?_ (hk _ rfl)
  have q1 := evL_ok hv hx
  have q2 := evL_ok hv hy
  have e1 : evA' tm x = .int .i64 a := by simp [evA', q1]
  have e2 : evA' tm y = .int .i64 b := by simp [evA', q2]
  have h1 : allFlat tm (Op.operands (.call ⟨.builtin .min, #[x, y], ts⟩)).toList = true := by simp [Op.operands, Call.operands, allFlat, q1, q2, flat2, flat1, flat]
  have q' : evList tm (#[x, y] : Array Operand).toList = some [.int .i64 a, .int .i64 b] := by simp only [evList, q1, q2]
  have em : (if b < a then b else a) = min a b := by
    by_cases q : b < a
    · rw [if_pos q]; omega
    · rw [if_neg q]; omega
  have h2 : pureRun E.P (execOp (evA' tm) ⟨dst, .call ⟨.builtin .min, #[x, y], ts⟩, ty, pos, after, guard⟩) = some (.value (.int .i64 (min a b))) := by
    rw [← em]
    simp only [execOp]
    simp [resolve, invoke, builtin, Builtin.min_, Builtin.min2, e1, e2, pureRun, bind, pure, Sem.bind]
  simp only [evOp, hCall, hCallB, q', evBuiltin, evPure, h1, if_true, h2]
  rfl⟩
theorem DrawP.less {E : Env} {nt id : Nat} {ops : Array Oper} {l l0 : L} {h : H} {kn : L → H → Prop} (hl : Less l0 l) (hd : DrawP E nt id ops l0 h kn) : DrawP E nt id ops l h kn := ⟨fun tm hv kr ke => hd.ok tm (hl.up hv) kr ke⟩
theorem put_mix {g m h0 m' M : H} {b : Nat} {o : AObj} (U : UpP m h0) (P : PutP h0 b o m') (hM : MixP m m' M) (hg : Grows g m) (hb : g.next ≤ b) : Grows g M ∧ M.m.get b = some o ∧ (∀ c, c ≠ b → M.m.get c = m.m.get c) ∧ M.next = m.next := by
  have hm0 : h0.m = m.m := by rw [U.eq]
  have hn0 : h0.next = m.next := by rw [U.eq]
  have hne : ∀ c, c ≠ b → M.m.get c = m.m.get c := fun c hc => by rw [hM.m, P.ne hc, hm0]
  have hnx : M.next = m.next := by rw [hM.next, P.next, hn0]
  refine ⟨⟨by rw [hnx]; exact hg.next, fun c hc => (hne c (by omega)).trans (hg.keep c hc), fun k h1 h2 => ?_⟩, by rw [hM.m]; exact P.get, hne, hnx⟩
  have hk : k ≤ m.next := Nat.le_trans h1 hg.next
  refine hM.low k hk (hg.low k h1 h2) ?_
  have : m'.low = (h0.put b (some o)).low := by rw [P.eq]
  rw [this, put_low]
  split
  · omega
  · rw [U.eq]; exact Nat.le_trans hk (top_ge _).2
theorem rep_one (v : Value) : ∀ n, rep [v] n = List.replicate n v
  | 0 => rfl
  | n + 1 => by rw [rep, rep_one v n]; rfl
theorem encIs_rep (n : Nat) (z : Int) : List.replicate n (Value.int .i64 z) = encIs (List.replicate n z) := by unfold encIs; rw [List.map_replicate]
theorem encIs_get {l : List Int} {i : Nat} {v : Int} (h : l[i]? = some v) : (encIs l)[i]? = some (.int .i64 v) := by unfold encIs; rw [List.getElem?_map, h]; rfl
theorem over_set {α : Type} (f : α → Value) : ∀ (l : List α) (i : Nat) (v : α), i < l.length → over (l.map f) i [f v] = (l.set i v).map f
  | [], i, v, h => by simp at h
  | a :: l, 0, v, h => by simp [over]
  | a :: l, i + 1, v, h => by
    have ih := over_set f l i v (by simpa using h)
    unfold over at ih ⊢
    simp only [List.map_cons, List.take_succ_cons, List.length_singleton, List.cons_append, List.set_cons_succ, List.map_cons] at ih ⊢
    rw [show i + 1 + 1 = (i + 1) + 1 by rfl, List.drop_succ_cons, ih]
theorem over_enc {l : List Int} {i : Nat} {v : Int} (h : i < l.length) : over (encIs l) i [.int .i64 v] = encIs (l.set i v) := over_set (.int .i64) l i v h
/-! ### the least and the greatest -/
def wrP (l : List RuleS) : List (Int × Int) := l.flatMap fun r => r.thens.map fun x => (x.1, r.st)
def rdP (l : List RuleS) : List (Int × Int) := l.flatMap fun r => r.ifs.map fun x => (x.1, r.st)
structure HiOk (F : Nat) (W : List (Int × Int)) (l : List Int) : Prop where
  len : l.length = F
  up : ∀ (f : Nat) v, l[f]? = some v → (∀ s, ((f : Int), s) ∈ W → s ≤ v) ∧ (v = 0 ∨ ((f : Int), v) ∈ W)
structure LoOk (F : Nat) (W : List (Int × Int)) (l : List Int) : Prop where
  len : l.length = F
  up : ∀ (f : Nat) v, l[f]? = some v → (∀ s, ((f : Int), s) ∈ W → v ≤ s) ∧ (v = 21 ∨ ((f : Int), v) ∈ W)
theorem HiOk.step {F : Nat} {W : List (Int × Int)} {l : List Int} (h : HiOk F W l) {f : Nat} {v s r : Int} (hv : l[f]? = some v) (hr : r = max v s) : HiOk F (W ++ [((f : Int), s)]) (l.set f r) := by
  refine ⟨by rw [List.length_set]; exact h.len, fun j u hu => ?_⟩
  have hf := (List.getElem?_eq_some_iff.1 hv).1
  by_cases e : j = f
  · subst e
    rw [List.getElem?_set_self hf] at hu
    injection hu with hu
    obtain ⟨h1, h2⟩ := h.up j v hv
    refine ⟨fun s' hs' => ?_, ?_⟩
    · rcases List.mem_append.1 hs' with q | q
      · have := h1 s' q; omega
      · rw [List.mem_singleton] at q; injection q with _ q; omega
    · by_cases hvs : v < s
      · right; rw [← hu, hr, show max v s = s by omega]; simp
      · rcases h2 with q | q
        · left; omega
        · right; rw [← hu, hr, show max v s = v by omega]; exact List.mem_append.2 (.inl q)
  · rw [List.getElem?_set_ne (by omega)] at hu
    obtain ⟨h1, h2⟩ := h.up j u hu
    refine ⟨fun s' hs' => ?_, h2.imp id fun q => List.mem_append.2 (.inl q)⟩
    rcases List.mem_append.1 hs' with q | q
    · exact h1 s' q
    · rw [List.mem_singleton] at q; injection q with q _; omega
theorem LoOk.step {F : Nat} {W : List (Int × Int)} {l : List Int} (h : LoOk F W l) {f : Nat} {v s r : Int} (hv : l[f]? = some v) (hr : r = min v s) : LoOk F (W ++ [((f : Int), s)]) (l.set f r) := by
  refine ⟨by rw [List.length_set]; exact h.len, fun j u hu => ?_⟩
  have hf := (List.getElem?_eq_some_iff.1 hv).1
  by_cases e : j = f
  · subst e
    rw [List.getElem?_set_self hf] at hu
    injection hu with hu
    obtain ⟨h1, h2⟩ := h.up j v hv
    refine ⟨fun s' hs' => ?_, ?_⟩
    · rcases List.mem_append.1 hs' with q | q
      · have := h1 s' q; omega
      · rw [List.mem_singleton] at q; injection q with _ q; omega
    · by_cases hvs : s < v
      · right; rw [← hu, hr, show min v s = s by omega]; simp
      · rcases h2 with q | q
        · left; omega
        · right; rw [← hu, hr, show min v s = v by omega]; exact List.mem_append.2 (.inl q)
  · rw [List.getElem?_set_ne (by omega)] at hu
    obtain ⟨h1, h2⟩ := h.up j u hu
    refine ⟨fun s' hs' => ?_, h2.imp id fun q => List.mem_append.2 (.inl q)⟩
    rcases List.mem_append.1 hs' with q | q
    · exact h1 s' q
    · rw [List.mem_singleton] at q; injection q with q _; omega
theorem HiOk.init (F : Nat) : HiOk F [] (List.replicate F 0) := ⟨by simp, fun f v hv => ⟨(fun s h => by cases h), .inl (by rw [List.getElem?_replicate] at hv; split at hv <;> cases hv; rfl)⟩⟩
theorem flatMap_take {α β : Type} {g : α → List β} {l : List α} {i : Nat} {x : α} (h : l[i]? = some x) : (l.take (i + 1)).flatMap g = (l.take i).flatMap g ++ g x := by
  have hi := (List.getElem?_eq_some_iff.1 h).1
  rw [List.take_succ_eq_append_getElem hi, List.flatMap_append, (List.getElem?_eq_some_iff.1 h).2]
  simp
theorem map_take_succ {α β : Type} {g : α → β} {l : List α} {i : Nat} {x : α} (h : l[i]? = some x) : (l.take (i + 1)).map g = (l.take i).map g ++ [g x] := by
  have hi := (List.getElem?_eq_some_iff.1 h).1
  rw [List.take_succ_eq_append_getElem hi, List.map_append, (List.getElem?_eq_some_iff.1 h).2]
  rfl
def LstOk (p : PrS) (W : List (Int × Int)) : Prop := ∀ x ∈ W, x.1 < p.lasting → x.2 = lastSt p.rules
theorem mem_wrP {l : List RuleS} {f s : Int} : (f, s) ∈ wrP l ↔ ∃ r ∈ l, ∃ x ∈ r.thens, x.1 = f ∧ r.st = s := by
  unfold wrP
  simp only [List.mem_flatMap, List.mem_map, Prod.mk.injEq]
theorem mem_rdP {l : List RuleS} {f s : Int} : (f, s) ∈ rdP l ↔ ∃ r ∈ l, ∃ x ∈ r.ifs, x.1 = f ∧ r.st = s := by
  unfold rdP
  simp only [List.mem_flatMap, List.mem_map, Prod.mk.injEq]
theorem strata_end {p : PrS} (hR : RulesOk p) {F : Nat} (hF : p.flags = .ofNat F) {hi lo : List Int} (h1 : HiOk F (wrP p.rules) hi) (h2 : LoOk F (rdP p.rules) lo) (h3 : LstOk p (wrP p.rules)) :
    (∀ (f : Nat) a b, p.lasting ≤ f → hi[f]? = some a → lo[f]? = some b → a < b) ↔ StrataOk p := by
  have hF : p.flags = (F : Int) := hF
  constructor
  · intro h
    refine ⟨fun r hr x hx hl => h3 (x.1, r.st) (mem_wrP.2 ⟨r, hr, x, hx, rfl, rfl⟩) hl, fun r hr r' hr' x hx y hy e hl => ?_⟩
    have h4 := (hR.ok r hr).thens x hx
    have h4 : 0 ≤ x.1 ∧ x.1 < p.flags := h4
    obtain ⟨i, hi0⟩ : ∃ i : Nat, x.1 = (i : Int) := ⟨x.1.toNat, by omega⟩
    obtain ⟨a, ha⟩ : ∃ a, hi[i]? = some a := ⟨_, List.getElem?_eq_getElem (by rw [h1.len]; omega)⟩
    obtain ⟨b, hb⟩ : ∃ a, lo[i]? = some a := ⟨_, List.getElem?_eq_getElem (by rw [h2.len]; omega)⟩
    have q1 := (h1.up i a ha).1 r.st (mem_wrP.2 ⟨r, hr, x, hx, hi0, rfl⟩)
    have q2 := (h2.up i b hb).1 r'.st (mem_rdP.2 ⟨r', hr', y, hy, by rw [← e, hi0], rfl⟩)
    have := h i a b (by omega) ha hb
    omega
  · intro h f a b hl ha hb
    rcases (h1.up f a ha).2 with q1 | q1
    · rcases (h2.up f b hb).2 with q2 | q2
      · omega
      · obtain ⟨r', hr', y, hy, e1, e2⟩ := mem_rdP.1 q2
        have := (hR.ok r' hr').st.1
        omega
    · obtain ⟨r, hr, x, hx, e1, e2⟩ := mem_wrP.1 q1
      rcases (h2.up f b hb).2 with q2 | q2
      · have := (hR.ok r hr).st.2
        omega
      · obtain ⟨r', hr', y, hy, e3, e4⟩ := mem_rdP.1 q2
        have := h.lap r hr r' hr' x hx y hy (by rw [e1, e3]) (by omega)
        omega
theorem strata_no {p : PrS} {W : List (Int × Int)} (hW : ∀ x ∈ W, x ∈ wrP p.rules) {x : Int × Int} (hx : x ∈ W) (h1 : x.1 < p.lasting) (h2 : x.2 ≠ lastSt p.rules) : ¬ StrataOk p := fun h => by
  obtain ⟨r, hr, y, hy, e1, e2⟩ := mem_wrP.1 (show (x.1, x.2) ∈ wrP p.rules from hW x hx)
  exact h2 (by rw [← e2]; exact h.lst r hr y hy (by omega))
end Go.Proofs.Ytknenadpkgajjaa.GEv

/- The reference's strata, by a symbolic run. -/
namespace Go.Proofs.Ytknenadpkgajjaa.GEv
open Go
set_option linter.unusedSimpArgs false
set_option linter.unusedVariables false
set_option maxRecDepth 100000
/-- A row of whole numbers, a block of its own. -/
structure ArrP (m : H) (b : Nat) (l : List Int) : Prop where
  lt : b < m.next
  get : m.m.get b = some (.cells (encIs l) (some 3) true 0)
theorem ArrP.grows {g m : H} {b : Nat} {l : List Int} (A : ArrP g b l) (G : Grows g m) : ArrP m b l := ⟨Nat.lt_of_lt_of_le A.lt G.next, (G.keep b A.lt).trans A.get⟩
theorem ArrP.keep {m M : H} {b c : Nat} {l : List Int} (A : ArrP m b l) (hk : ∀ c', c' ≠ c → M.m.get c' = m.m.get c') (hn : M.next = m.next) (hb : b ≠ c) : ArrP M b l := ⟨by rw [hn]; exact A.lt, (hk b hb).trans A.get⟩
theorem ArrP.like {m M : H} {b : Nat} {l : List Int} (A : ArrP m b l) (h1 : M.m = m.m) (h2 : M.next = m.next) : ArrP M b l := ⟨by rw [h2]; exact A.lt, by rw [h1]; exact A.get⟩
theorem ArrP.put {m m' : H} {b : Nat} {l : List Int} {i : Nat} {v : Int} (A : ArrP m b l) (hi : i < l.length) (P : PutP m b (.cells (over (encIs l) i [.int .i64 v]) (some 3) true 0) m') : ArrP m' b (l.set i v) := ⟨by rw [P.next]; exact A.lt, by rw [P.get, over_enc hi]⟩
theorem ArrP.new {h m : H} {F : Nat} {z : Int} (P : PushP h (.cells (rep [.int .i64 z] F) (some 3) true 0) m) : ArrP m h.next (List.replicate F z) := ⟨by rw [P.next]; exact Nat.lt_succ_self _, by rw [P.get, rep_one, encIs_rep]⟩
theorem set_fill {F i : Nat} {a b : Int} (h : i < F) : (List.replicate i a ++ List.replicate (F - i) b).set i a = List.replicate (i + 1) a ++ List.replicate (F - (i + 1)) b := by
  rw [List.set_append_right _ _ (by simp), List.length_replicate, Nat.sub_self, show F - i = (F - (i + 1)) + 1 by omega, List.replicate_succ, List.set_cons_zero, List.replicate_succ', List.append_assoc]
  rfl
theorem LoOk.init (F : Nat) : LoOk F [] (List.replicate F 21) := ⟨by simp, fun f v hv => ⟨(fun s h => by cases h), .inl (by rw [List.getElem?_replicate] at hv; split at hv <;> cases hv; rfl)⟩⟩
theorem key_of {A B : Prop} (f : A → B) (a : A) : B := f a
section
variable {E : Env} (hE : E = EG)
include hE
theorem rStrata (p : PrS) (w : PrV) (F La : Nat) (hF : p.flags = .ofNat F) (hL : p.lasting = .ofNat La) (hF2 : F ≤ 100000) (hR : RulesOk p) (g : H) (S : Nat → Prop) (hp : IsPr g S p w) (K : Value → H → Prop) (hk : ∀ h' r, (r = true ↔ StrataOk p) → Grows g h' → K (.bool r) h') :
    CallP E 30 [.agg (prC p w).toArray] g K := by
  obtain ⟨zs, hz1, hz2, hz3⟩ := hp.rules.ex
  have hlen := hp.lens.2.2.2.1
  obtain ⟨a, n, cap, hv, hn, hx, hcap⟩ := hz2.ex
  rw [List.length_map] at hn
  have hzl : p.rules.length = zs.length := by rw [← hz1, List.length_map]
  refine CallP.ofG hE Try.func30 rfl rfl rfl rfl ?_
  have T := tbOk hE
  clear hE
  cbv
  intro m0 P
  have B0 : BoxP m0 g.next (prC p w) 36 := P.box
  have G0 := P.grows
  clear P
  generalize g.next = b1 at B0
  have B0' := B0.get
  have hp6 : (prC p w)[6]? = some (.slice a n cap) := by rw [← hv]; rfl
  have hp0 : (prC p w)[0]? = some (.int .i64 (.ofNat F)) := by rw [← hF]; rfl
  have hp1' : (prC p w)[1]? = some (.int .i64 (.ofNat La)) := by rw [← hL]; rfl
  cbv
  rintro _ rfl
  cbv
  refine ⟨_, rb B0' hp6, ?_⟩
  cbv
  obtain ⟨ls, hls0⟩ : ∃ ls, ls = lastSt p.rules := ⟨_, rfl⟩
  apply key_of
  · intro key
    refine BinP.gt0 (fun q => ?_) (fun q => ?_)
    · cbv
      rintro _ rfl
      cbv
      refine ⟨_, rb B0' hp6, ?_⟩
      cbv
      rintro _ rfl
      cbv
      refine ⟨_, rb B0' hp6, ?_⟩
      cbv
      refine BinP.dec q (by clear key; omega) (fun z hz => ?_)
      obtain ⟨⟨x, c⟩, hzx⟩ : ∃ y, zs[z]? = some y := ⟨_, List.getElem?_eq_getElem (by clear key; omega)⟩
      have hpx : p.rules[z]? = some x := by rw [← hz1, List.getElem?_map, hzx]; rfl
      obtain ⟨b, off, rfl, _, _, _, hrd⟩ := (hx.grows G0).el (i := z) (x := c) (by rw [List.getElem?_map, hzx]; rfl)
      have hls : lastSt p.rules = x.st := by
        unfold lastSt
        rw [List.getLast?_eq_getElem?, (show p.rules.length - 1 = z by clear key; omega), hpx]
      have hxc : IsRule g S x c := hz3 _ (List.mem_of_getElem? hzx)
      obtain ⟨v1, v2, v3, rfl, _⟩ := hxc.ex
      cbv
      refine ⟨⟨(by clear key; omega)⟩, fun p1 hp1 => ?_⟩
      cbv
      intro p2 hp2
      cbv
      refine ⟨_, (hrd p1 hp1).cell (i := 0) rfl hp2, ?_⟩
      cbv
      exact DrawP.less (l0 := [(3, .int .i64 ls), (2, .bool false), (1, .pointer (some ⟨b1, 0, none⟩))]) (Less.cons (by rw [hls0, hls]; rfl) (Less.cons rfl (Less.cons rfl (Less.nil _)))) key
    · have hls : lastSt p.rules = 0 := by
        have : p.rules = [] := List.eq_nil_of_length_eq_zero (by clear key; omega)
        rw [this]; rfl
      cbv
      exact DrawP.less (l0 := [(3, .int .i64 ls), (2, .bool false), (1, .pointer (some ⟨b1, 0, none⟩))]) (Less.cons (by rw [hls0, hls]; rfl) (Less.cons rfl (Less.cons rfl (Less.nil _)))) key
  refine DrawP.ofZ T [] (by kernel_rfl) ?_
  cbv
  rintro _ rfl
  cbv
  refine ⟨_, rb B0' hp0, ?_⟩
  cbv
  intro h0 U
  cbv
  refine ⟨⟨Nat.le_refl _, by omega, by omega⟩, fun m1 P1 => DoneP.quiet P1.grows (fun M1 hM1 => ?_)⟩
  have GM1 : Grows m0 M1 := MixP.grows U (Grows.refl m0) P1.grows hM1
  have hb2 : h0.next = m0.next := by rw [U.eq]
  have A1 : ArrP M1 h0.next (List.replicate F 0) := (ArrP.new P1).like hM1.m hM1.next
  rw [hb2] at A1 ⊢
  obtain ⟨bh, hbh⟩ : ∃ b, b = m0.next := ⟨_, rfl⟩
  rw [← hbh] at A1 ⊢
  have B1 := (B0.grows GM1).get
  cbv
  rintro _ rfl
  cbv
  refine ⟨_, rb B1 hp0, ?_⟩
  cbv
  intro h1 U1
  cbv
  refine ⟨⟨Nat.le_refl _, by omega, by omega⟩, fun m2 P2 => DoneP.quiet P2.grows (fun M2 hM2 => ?_)⟩
  have GM2 : Grows M1 M2 := MixP.grows U1 (Grows.refl M1) P2.grows hM2
  have hb3 : h1.next = M1.next := by rw [U1.eq]
  have A2 : ArrP M2 h1.next (List.replicate F 0) := (ArrP.new P2).like hM2.m hM2.next
  rw [hb3] at A2 ⊢
  have hbl : bh < M1.next := A1.lt
  generalize M1.next = bl at A2 hbl
  have A1 := A1.grows GM2
  cbv
  intro M3 L3
  have A1 := A1.like L3.m L3.next
  have A2 := A2.like L3.m L3.next
  have G3 : Grows m0 M3 := L3.grows (GM1.trans GM2)
  clear L3 hM2 P2 U1 hM1 P1 U B1 GM1 GM2 hb2 hb3
  cbv
  refine LoopP.onZ T (fun y : H × Nat => [(6, .int .i64 (.ofNat y.2)), (5, .slice (some ⟨bl, 0, none⟩) F F), (4, .slice (some ⟨bh, 0, none⟩) F F), (3, .int .i64 ls), (2, .bool false), (1, .pointer (some ⟨b1, 0, none⟩))]) (fun y => y.1) (fun y => Grows m0 y.1 ∧ y.2 ≤ F ∧ ArrP y.1 bh (List.replicate F 0) ∧ ArrP y.1 bl (List.replicate y.2 21 ++ List.replicate (F - y.2) 0)) (fun y => F - y.2) (M3, 0) rfl (Less.cons rfl (Less.cons rfl (Less.cons rfl (Less.cons rfl (Less.cons rfl (Less.cons rfl (Less.nil _))))))) ⟨G3, Nat.zero_le _, A1, A2⟩ ?_
  rintro ⟨m, i⟩ ⟨i0, i1, i2, i3⟩
  have i0 : Grows m0 m := i0
  have i1 : i ≤ F := i1
  have i2 : ArrP m bh (List.replicate F 0) := i2
  have i3 : ArrP m bl (List.replicate i 21 ++ List.replicate (F - i) 0) := i3
  have B2 := (B0.grows i0).get
  clear A1 A2 G3
  cbv
  rintro _ rfl
  cbv
  refine ⟨_, rb B2 hp0, ?_⟩
  cbv
  refine BinP.lt (fun q => ?_) (fun q => ?_)
  · cbv
    refine ⟨⟨q⟩, fun p1 hp1 => ?_⟩
    obtain rfl : p1 = i := by omega
    cbv
    refine StoP.of i3.get (Nat.zero_le _) ?_ rfl (fun m' P => ?_)
    · rw [encIs_len]; simp; omega
    · have A2 := i3.put (by simp; omega) P
      rw [set_fill q] at A2
      have A1 := i2.keep (fun c hc => P.ne hc) P.next (by omega)
      have G4 := P.grows i0 (by omega)
      cbv
      refine BinP.inc (by omega) (fun z2 hz2 => ?_)
      cbv
      exact ⟨(m', p1 + 1), Less.cons (by rw [hz2]; rfl) (Less.cons rfl (Less.cons rfl (Less.cons rfl (Less.cons rfl (Less.cons rfl (Less.nil _)))))), rfl, ⟨G4, q, A1, A2⟩, (by show F - (p1 + 1) < F - p1; omega)⟩
  obtain rfl : F = i := by omega
  rw [Nat.sub_self, List.replicate_zero, List.append_nil] at i3
  clear i1 q B2
  cbv
  refine LoopP.onZ T (fun y : H × Nat × List Int × List Int => [(7, .int .i64 (.ofNat y.2.1)), (5, .slice (some ⟨bl, 0, none⟩) F F), (4, .slice (some ⟨bh, 0, none⟩) F F), (3, .int .i64 ls), (2, .bool false), (1, .pointer (some ⟨b1, 0, none⟩))]) (fun y => y.1) (fun y => Grows m0 y.1 ∧ y.2.1 ≤ n ∧ (ArrP y.1 bh y.2.2.1 ∧ ArrP y.1 bl y.2.2.2) ∧ HiOk F (wrP (p.rules.take y.2.1)) y.2.2.1 ∧ LoOk F (rdP (p.rules.take y.2.1)) y.2.2.2 ∧ LstOk p (wrP (p.rules.take y.2.1))) (fun y => n - y.2.1) (m, 0, List.replicate F 0, List.replicate F 21) rfl (Less.cons rfl (Less.cons rfl (Less.cons rfl (Less.cons rfl (Less.cons rfl (Less.cons rfl (Less.nil _))))))) ⟨i0, Nat.zero_le _, ⟨i2, i3⟩, HiOk.init _, LoOk.init _, fun x hx => by cases hx⟩ ?_
  rintro ⟨m1, i, hi, lo⟩ ⟨j0, j1, ⟨j2, j3⟩, j4, j5, j6⟩
  have j0 : Grows m0 m1 := j0
  have j1 : i ≤ n := j1
  have j2 : ArrP m1 bh hi := j2
  have j3 : ArrP m1 bl lo := j3
  have j4 : HiOk F (wrP (p.rules.take i)) hi := j4
  have j5 : LoOk F (rdP (p.rules.take i)) lo := j5
  have j6 : LstOk p (wrP (p.rules.take i)) := j6
  have B2 := (B0.grows j0).get
  clear i0 i2 i3
  cbv
  rintro _ rfl
  cbv
  refine ⟨_, rb B2 hp6, ?_⟩
  cbv
  refine BinP.lt (fun q => ?_) (fun q => ?_)
  · obtain ⟨⟨x, c⟩, hzx⟩ : ∃ y, zs[i]? = some y := ⟨_, List.getElem?_eq_getElem (by omega)⟩
    have hpx : p.rules[i]? = some x := by rw [← hz1, List.getElem?_map, hzx]; rfl
    have hxc : IsRule g S x c := hz3 _ (List.mem_of_getElem? hzx)
    have hro : RuleOk p x := hR.ok x (List.mem_of_getElem? hpx)
    obtain ⟨b, off, rfl, _, _, _, hrd⟩ := (hx.grows (G0.trans j0)).el (i := i) (x := c) (by rw [List.getElem?_map, hzx]; rfl)
    obtain ⟨v1, v2, v3, rfl, r1, r2, r3, l1, l2, l3⟩ := hxc.ex
    have hco := (hx.len [.int .i64 x.st, v1, v2, v3] (by rw [List.mem_map]; exact ⟨_, List.mem_of_getElem? hzx, rfl⟩)).2
    obtain ⟨a1, n1, c1, rfl, hn1, x1, kc1⟩ := r1.ex
    obtain ⟨a3, n3, c3, rfl, hn3, x3, kc3⟩ := r3.ex
    rw [List.length_map] at hn1 hn3
    cbv
    rintro _ rfl
    cbv
    refine ⟨_, rb B2 hp6, ?_⟩
    cbv
    refine ⟨⟨q⟩, fun p1 hp1 => ?_⟩
    cbv
    refine ⟨_, hrd p1 hp1, ?_⟩
    cbv
    intro m2 P2
    have C2 := P2.get
    have g2 := P2.grows
    have hlt : m1.next < m2.next := by rw [P2.next]; exact Nat.lt_succ_self _
    clear P2
    have hgm : m0.next ≤ m1.next := j0.next
    have hlh : bh < m1.next := j2.lt
    have hll : bl < m1.next := j3.lt
    generalize hb2 : m1.next = b2 at hlt C2 hgm hlh hll
    cbv
    refine StoP.of C2 (Nat.zero_le _) (Nat.le_of_ble_eq_true rfl) hco (fun m3 P3 => ?_)
    have C3 : BoxP m3 b2 [.int .i64 x.st, .slice a1 n1 c1, v2, .slice a3 n3 c3] 28 := ⟨by rw [P3.next]; exact hlt, P3.get⟩
    have i3 : Grows m0 m3 := P3.grows (j0.trans g2) hgm
    have A1 := (j2.grows g2).keep (fun c hc => P3.ne hc) P3.next (by omega)
    have A2 := (j3.grows g2).keep (fun c hc => P3.ne hc) P3.next (by omega)
    have hsub : ∀ y ∈ wrP (p.rules.take i), y ∈ wrP p.rules := fun y hy => by
      unfold wrP at hy ⊢
      rw [List.mem_flatMap] at hy ⊢
      obtain ⟨r, hr, hy⟩ := hy
      exact ⟨r, List.mem_of_mem_take hr, hy⟩
    have hsub2 : ∀ k, ∀ y ∈ wrP (p.rules.take i) ++ (x.thens.take k).map (fun u => (u.1, x.st)), y ∈ wrP p.rules := fun k y hy => by
      rcases List.mem_append.1 hy with hy | hy
      · exact hsub y hy
      · obtain ⟨u, hu, rfl⟩ := List.mem_map.1 hy
        exact mem_wrP.2 ⟨x, List.mem_of_getElem? hpx, u, List.mem_of_mem_take hu, rfl, rfl⟩
    clear P3 B2
    cbv
    refine LoopP.onZ T (fun y : H × Nat × List Int => [(9, .int .i64 (.ofNat y.2.1)), (8, .pointer (some ⟨b2, 0, none⟩)), (7, .int .i64 (.ofNat i)), (5, .slice (some ⟨bl, 0, none⟩) F F), (4, .slice (some ⟨bh, 0, none⟩) F F), (3, .int .i64 ls), (2, .bool false), (1, .pointer (some ⟨b1, 0, none⟩))]) (fun y => y.1) (fun y => (Grows m0 y.1 ∧ BoxP y.1 b2 [.int .i64 x.st, .slice a1 n1 c1, v2, .slice a3 n3 c3] 28) ∧ y.2.1 ≤ n3 ∧ (ArrP y.1 bh y.2.2 ∧ ArrP y.1 bl lo) ∧ HiOk F (wrP (p.rules.take i) ++ (x.thens.take y.2.1).map (fun u => (u.1, x.st))) y.2.2 ∧ LstOk p (wrP (p.rules.take i) ++ (x.thens.take y.2.1).map (fun u => (u.1, x.st)))) (fun y => n3 - y.2.1) (m3, 0, hi) rfl (Less.cons rfl (Less.cons rfl (Less.cons rfl (Less.cons rfl (Less.cons rfl (Less.cons rfl (Less.cons rfl (Less.cons rfl (Less.nil _))))))))) ⟨⟨i3, C3⟩, Nat.zero_le _, ⟨A1, A2⟩, by simpa using j4, by simpa using j6⟩ ?_
    rintro ⟨m4, k, hi4⟩ ⟨⟨k0, k1⟩, k2, ⟨k3, k4⟩, k5, k6⟩
    have k0 : Grows m0 m4 := k0
    have k1 : BoxP m4 b2 [.int .i64 x.st, .slice a1 n1 c1, v2, .slice a3 n3 c3] 28 := k1
    have k2 : k ≤ n3 := k2
    have k3 : ArrP m4 bh hi4 := k3
    have k4 : ArrP m4 bl lo := k4
    have k5 : HiOk F (wrP (p.rules.take i) ++ (x.thens.take k).map (fun u => (u.1, x.st))) hi4 := k5
    have k6 : LstOk p (wrP (p.rules.take i) ++ (x.thens.take k).map (fun u => (u.1, x.st))) := k6
    have C4 := k1.get
    have B4 := (B0.grows k0).get
    clear A1 A2 i3 C3
    cbv
    rintro _ rfl
    cbv
    refine ⟨_, rb (C4) rfl, ?_⟩
    cbv
    refine BinP.lt (fun q2 => ?_) (fun q2 => ?_)
    · obtain ⟨⟨xf, xb⟩, hui⟩ : ∃ u, x.thens[k]? = some u := ⟨_, List.getElem?_eq_getElem (by omega)⟩
      have hw : Wth xf 0 p.flags := hro.thens _ (List.mem_of_getElem? hui)
      obtain ⟨f, rfl⟩ : ∃ f : Nat, xf = .ofNat f := ⟨xf.toNat, by have := hw.1; exact (Int.toNat_of_nonneg this).symm⟩
      have hf : f < F := by have h1 := hw.2; rw [hF] at h1; exact Int.ofNat_lt.1 h1
      obtain ⟨v, hvf⟩ : ∃ v, hi4[f]? = some v := ⟨_, List.getElem?_eq_getElem (by rw [k5.len]; exact hf)⟩
      obtain ⟨b3, off3, rfl, _, _, _, hrd3⟩ := (x3.grows (G0.trans k0)).el (i := k) (x := encL (.ofNat f, xb)) (by rw [List.getElem?_map, hui]; rfl)
      cbv
      rintro _ rfl
      cbv
      refine ⟨_, rb (C4) rfl, ?_⟩
      cbv
      refine ⟨⟨q2⟩, fun p3 hp3 => ?_⟩
      cbv
      intro p4 hp4
      cbv
      refine ⟨_, (hrd3 p3 hp3).cell (i := 0) rfl hp4, ?_⟩
      cbv
      refine DrawP.ofZ T (List.replicate 10 false ++ [true]) (by kernel_rfl) ?_
      cbv
      refine ⟨⟨hf⟩, fun p5 hp5 => ?_⟩
      obtain rfl : p5 = f := by omega
      cbv
      refine ⟨_, rb k3.get (encIs_get hvf), ?_⟩
      cbv
      rintro _ rfl
      cbv
      refine ⟨_, rb (C4) rfl, ?_⟩
      cbv
      intro h0 U
      cbv
      refine raw_max rfl rfl (fun r hr => DoneP.quiet (Grows.refl _) (fun M hM => ?_))
      have gM : Grows m4 M := MixP.grows U (Grows.refl m4) (Grows.refl h0) hM
      have M0 := k0.trans gM
      have M1 := k1.grows gM
      have M3 := k3.grows gM
      have M4 := k4.grows gM
      clear hM U C4 B4
      cbv
      refine ⟨⟨hf⟩, fun p6 hp6' => ?_⟩
      obtain rfl : p6 = p5 := by omega
      cbv
      intro h1 U1
      cbv
      refine StoP.of (c := encIs hi4) (by rw [U1.eq]; exact M3.get) (Nat.zero_le _) (by rw [encIs_len, k5.len]; exact hf) rfl (fun h2 P2 => DoneP.loud (fun M' hM' => ?_))
      obtain ⟨e1, e2, e3, e4⟩ := put_mix U1 P2 hM' M0 (by omega)
      rw [over_enc (by rw [k5.len]; exact hf)] at e2
      have D3 : ArrP M' bh (hi4.set p6 r) := ⟨by rw [e4]; exact M3.lt, e2⟩
      have D4 := M4.keep e3 e4 (by omega)
      have D1 : BoxP M' b2 [.int .i64 x.st, .slice a1 n1 c1, v2, .slice (some ⟨b3, off3, none⟩) n3 c3] 28 := ⟨by rw [e4]; exact M1.lt, (e3 b2 (by omega)).trans M1.get⟩
      clear P2 hM' U1 M0 M1 M3 M4 e2 e3 e4
      cbv
      intro M5 L5
      have N0 := L5.grows e1
      have N1 : BoxP M5 b2 [.int .i64 x.st, .slice a1 n1 c1, v2, .slice (some ⟨b3, off3, none⟩) n3 c3] 28 := ⟨by rw [L5.next]; exact D1.lt, by rw [L5.m]; exact D1.get⟩
      have N3 := D3.like L5.m L5.next
      have N4 := D4.like L5.m L5.next
      have NB := (B0.grows N0).get
      have NC := N1.get
      clear L5 D1 D3 D4
      have hst := k5.step hvf hr
      have hmp : (x.thens.take (k + 1)).map (fun u => (u.1, x.st)) = (x.thens.take k).map (fun u => (u.1, x.st)) ++ [((p6 : Int), x.st)] := map_take_succ hui
      rw [List.append_assoc, ← hmp] at hst
      cbv
      rintro _ rfl
      cbv
      refine ⟨_, rb NB hp1', ?_⟩
      cbv
      have hnew : (Int.ofNat p6, x.st) ∈ wrP (p.rules.take i) ++ (x.thens.take (k + 1)).map (fun u => (u.1, x.st)) := by rw [hmp]; simp
      have hnext : ((p6 : Int) < p.lasting → x.st = ls) → LstOk p (wrP (p.rules.take i) ++ (x.thens.take (k + 1)).map (fun u => (u.1, x.st))) := fun h u hu hul => by
        rw [hmp, ← List.append_assoc] at hu
        rcases List.mem_append.1 hu with hu | hu
        · exact k6 u hu hul
        · rw [List.mem_singleton] at hu
          subst hu
          rw [← hls0]
          exact h hul
      refine BinP.ofN (And.intro (fun q3 => ?_) (fun q3 => ?_))
      · have q3 : p6 < La := q3
        cbv
        rintro _ rfl
        cbv
        refine ⟨_, rb (NC) rfl, ?_⟩
        cbv
        refine BinP.ofI (And.intro (fun q4 => ?_) (fun q4 => ?_))
        · have q4 : x.st = ls := q4
          cbv
          refine BinP.inc (by omega) (fun z2 hz2 => ?_)
          cbv
          exact ⟨(M5, k + 1, hi4.set p6 r), Less.cons (by rw [hz2]; rfl) (Less.cons rfl (Less.cons rfl (Less.cons rfl (Less.cons rfl (Less.cons rfl (Less.cons rfl (Less.cons rfl (Less.nil _)))))))), rfl, ⟨⟨N0, N1⟩, q2, ⟨N3, N4⟩, hst, hnext (fun _ => q4)⟩, (by show n3 - (k + 1) < n3 - k; omega)⟩
        · have q4 : x.st ≠ ls := q4
          cbv
          refine hk _ _ ⟨fun e => (by cases e), fun e => absurd e (strata_no (hsub2 (k + 1)) hnew ?_ ?_)⟩ (G0.trans N0)
          · rw [hL]; exact Int.ofNat_lt.2 q3
          · rw [← hls0]; exact q4
      · have q3 : La ≤ p6 := q3
        cbv
        refine BinP.inc (by omega) (fun z2 hz2 => ?_)
        cbv
        exact ⟨(M5, k + 1, hi4.set p6 r), Less.cons (by rw [hz2]; rfl) (Less.cons rfl (Less.cons rfl (Less.cons rfl (Less.cons rfl (Less.cons rfl (Less.cons rfl (Less.cons rfl (Less.nil _)))))))), rfl, ⟨⟨N0, N1⟩, q2, ⟨N3, N4⟩, hst, hnext (fun h => by rw [hL] at h; have := Int.ofNat_lt.1 h; omega)⟩, (by show n3 - (k + 1) < n3 - k; omega)⟩
    · have q2 : n3 ≤ k := q2
      have hwr : wrP (p.rules.take (i + 1)) = wrP (p.rules.take i) ++ (x.thens.take k).map (fun u => (u.1, x.st)) := by
        have ht : x.thens.take k = x.thens := List.take_of_length_le (by omega)
        rw [ht]
        exact flatMap_take hpx
      have hrd' : rdP (p.rules.take (i + 1)) = rdP (p.rules.take i) ++ x.ifs.map (fun u => (u.1, x.st)) := flatMap_take hpx
      rw [← hwr] at k5 k6
      cbv
      refine LoopP.onZ T (fun y : H × Nat × List Int => [(11, .int .i64 (.ofNat y.2.1)), (8, .pointer (some ⟨b2, 0, none⟩)), (7, .int .i64 (.ofNat i)), (5, .slice (some ⟨bl, 0, none⟩) F F), (4, .slice (some ⟨bh, 0, none⟩) F F), (3, .int .i64 ls), (2, .bool false), (1, .pointer (some ⟨b1, 0, none⟩))]) (fun y => y.1) (fun y => (Grows m0 y.1 ∧ BoxP y.1 b2 [.int .i64 x.st, .slice a1 n1 c1, v2, .slice a3 n3 c3] 28) ∧ y.2.1 ≤ n1 ∧ (ArrP y.1 bh hi4 ∧ ArrP y.1 bl y.2.2) ∧ LoOk F (rdP (p.rules.take i) ++ (x.ifs.take y.2.1).map (fun u => (u.1, x.st))) y.2.2) (fun y => n1 - y.2.1) (m4, 0, lo) rfl (Less.cons rfl (Less.cons rfl (Less.cons rfl (Less.cons rfl (Less.cons rfl (Less.cons rfl (Less.cons rfl (Less.cons rfl (Less.nil _))))))))) ⟨⟨k0, k1⟩, Nat.zero_le _, ⟨k3, k4⟩, by simpa using j5⟩ ?_
      rintro ⟨m5, k', lo4⟩ ⟨⟨s0, s1⟩, s2, ⟨s3, s4⟩, s5⟩
      have s0 : Grows m0 m5 := s0
      have s1 : BoxP m5 b2 [.int .i64 x.st, .slice a1 n1 c1, v2, .slice a3 n3 c3] 28 := s1
      have s2 : k' ≤ n1 := s2
      have s3 : ArrP m5 bh hi4 := s3
      have s4 : ArrP m5 bl lo4 := s4
      have s5 : LoOk F (rdP (p.rules.take i) ++ (x.ifs.take k').map (fun u => (u.1, x.st))) lo4 := s5
      have C5 := s1.get
      clear C4 B4
      cbv
      rintro _ rfl
      cbv
      refine ⟨_, rb (C5) rfl, ?_⟩
      cbv
      refine BinP.lt (fun q3 => ?_) (fun q3 => ?_)
      · obtain ⟨⟨xf, xb⟩, hui⟩ : ∃ u, x.ifs[k']? = some u := ⟨_, List.getElem?_eq_getElem (by omega)⟩
        have hw : Wth xf 0 p.flags := hro.ifs _ (List.mem_of_getElem? hui)
        obtain ⟨f, rfl⟩ : ∃ f : Nat, xf = .ofNat f := ⟨xf.toNat, by have := hw.1; exact (Int.toNat_of_nonneg this).symm⟩
        have hf : f < F := by have h1 := hw.2; rw [hF] at h1; exact Int.ofNat_lt.1 h1
        obtain ⟨v, hvf⟩ : ∃ v, lo4[f]? = some v := ⟨_, List.getElem?_eq_getElem (by rw [s5.len]; exact hf)⟩
        obtain ⟨b3, off3, rfl, _, _, _, hrd3⟩ := (x1.grows (G0.trans s0)).el (i := k') (x := encL (.ofNat f, xb)) (by rw [List.getElem?_map, hui]; rfl)
        cbv
        rintro _ rfl
        cbv
        refine ⟨_, rb (C5) rfl, ?_⟩
        cbv
        refine ⟨⟨q3⟩, fun p3 hp3 => ?_⟩
        cbv
        intro p4 hp4
        cbv
        refine ⟨_, (hrd3 p3 hp3).cell (i := 0) rfl hp4, ?_⟩
        cbv
        refine DrawP.ofZ T (List.replicate 10 false ++ [true]) (by kernel_rfl) ?_
        cbv
        refine ⟨⟨hf⟩, fun p5 hp5 => ?_⟩
        obtain rfl : p5 = f := by omega
        cbv
        refine ⟨_, rb s4.get (encIs_get hvf), ?_⟩
        cbv
        rintro _ rfl
        cbv
        refine ⟨_, rb (C5) rfl, ?_⟩
        cbv
        intro h0 U
        cbv
        refine raw_min rfl rfl (fun r hr => DoneP.quiet (Grows.refl _) (fun M hM => ?_))
        have gM : Grows m5 M := MixP.grows U (Grows.refl m5) (Grows.refl h0) hM
        have M0 := s0.trans gM
        have M1 := s1.grows gM
        have M3 := s3.grows gM
        have M4 := s4.grows gM
        clear hM U C5
        cbv
        refine ⟨⟨hf⟩, fun p6 hp6' => ?_⟩
        obtain rfl : p6 = p5 := by omega
        cbv
        intro h1 U1
        cbv
        refine StoP.of (c := encIs lo4) (by rw [U1.eq]; exact M4.get) (Nat.zero_le _) (by rw [encIs_len, s5.len]; exact hf) rfl (fun h2 P2 => DoneP.loud (fun M' hM' => ?_))
        obtain ⟨e1, e2, e3, e4⟩ := put_mix U1 P2 hM' M0 (by omega)
        rw [over_enc (by rw [s5.len]; exact hf)] at e2
        have D4 : ArrP M' bl (lo4.set p6 r) := ⟨by rw [e4]; exact M4.lt, e2⟩
        have D3 := M3.keep e3 e4 (by omega)
        have D1 := (⟨by rw [e4]; exact M1.lt, (e3 b2 (by omega)).trans M1.get⟩ : BoxP M' b2 _ _)
        clear P2 hM' U1 M0 M1 M3 M4 e2 e3 e4
        cbv
        intro M5 L5
        have N0 := L5.grows e1
        have N1 := (⟨by rw [L5.next]; exact D1.lt, by rw [L5.m]; exact D1.get⟩ : BoxP M5 b2 _ _)
        have N3 := D3.like L5.m L5.next
        have N4 := D4.like L5.m L5.next
        clear L5 D1 D3 D4
        have hst := s5.step hvf hr
        have hmp : (x.ifs.take (k' + 1)).map (fun u => (u.1, x.st)) = (x.ifs.take k').map (fun u => (u.1, x.st)) ++ [((p6 : Int), x.st)] := map_take_succ hui
        rw [List.append_assoc, ← hmp] at hst
        cbv
        refine BinP.inc (by omega) (fun z2 hz2 => ?_)
        cbv
        exact ⟨(M5, k' + 1, lo4.set p6 r), Less.cons (by rw [hz2]; rfl) (Less.cons rfl (Less.cons rfl (Less.cons rfl (Less.cons rfl (Less.cons rfl (Less.cons rfl (Less.cons rfl (Less.nil _)))))))), rfl, ⟨⟨N0, N1⟩, q3, ⟨N3, N4⟩, hst⟩, (by show n1 - (k' + 1) < n1 - k'; omega)⟩
      · have q3 : n1 ≤ k' := q3
        have ht : x.ifs.take k' = x.ifs := List.take_of_length_le (by omega)
        rw [ht, ← hrd'] at s5
        cbv
        refine BinP.inc (by omega) (fun z2 hz2 => ?_)
        cbv
        exact ⟨(m5, i + 1, hi4, lo4), Less.cons (by rw [hz2]; rfl) (Less.cons rfl (Less.cons rfl (Less.cons rfl (Less.cons rfl (Less.cons rfl (Less.nil _)))))), rfl, ⟨s0, q, ⟨s3, s4⟩, k5, s5, k6⟩, (by show n - (i + 1) < n - i; omega)⟩
  · have q : n ≤ i := q
    rw [List.take_of_length_le (by omega)] at j4 j5 j6
    have hend := strata_end hR hF j4 j5 j6
    have Gm1 := j0
    cbv
    rintro _ rfl
    cbv
    refine ⟨_, rb B2 hp1', ?_⟩
    cbv
    refine LoopP.onZ T (fun y : H × Nat => [(13, .int .i64 (.ofNat y.2)), (5, .slice (some ⟨bl, 0, none⟩) F F), (4, .slice (some ⟨bh, 0, none⟩) F F), (3, .int .i64 ls), (2, .bool false), (1, .pointer (some ⟨b1, 0, none⟩))]) (fun y => y.1) (fun y => Grows m0 y.1 ∧ La ≤ y.2 ∧ (ArrP y.1 bh hi ∧ ArrP y.1 bl lo) ∧ ∀ (f : Nat) a b, La ≤ f → f < y.2 → hi[f]? = some a → lo[f]? = some b → a < b) (fun y => F - y.2) (m1, La) rfl (Less.cons rfl (Less.cons rfl (Less.cons rfl (Less.cons rfl (Less.cons rfl (Less.cons rfl (Less.nil _))))))) ⟨j0, Nat.le_refl _, ⟨j2, j3⟩, fun f a b h1 h2 => by omega⟩ ?_
    rintro ⟨m2, f⟩ ⟨s0, s1, ⟨s2, s3⟩, s4⟩
    have s0 : Grows m0 m2 := s0
    have s1 : La ≤ f := s1
    have s2 : ArrP m2 bh hi := s2
    have s3 : ArrP m2 bl lo := s3
    have s4 : ∀ (f' : Nat) a b, La ≤ f' → f' < f → hi[f']? = some a → lo[f']? = some b → a < b := s4
    have C2 := (B0.grows s0).get
    cbv
    rintro _ rfl
    cbv
    refine ⟨_, rb C2 hp0, ?_⟩
    cbv
    refine BinP.ofN (And.intro (fun q2 => ?_) (fun q2 => ?_))
    · have q2 : f < F := q2
      obtain ⟨v, hvf⟩ : ∃ v, hi[f]? = some v := ⟨_, List.getElem?_eq_getElem (by rw [j4.len]; exact q2)⟩
      obtain ⟨u, huf⟩ : ∃ v, lo[f]? = some v := ⟨_, List.getElem?_eq_getElem (by rw [j5.len]; exact q2)⟩
      cbv
      refine DrawP.ofZ T [] (by kernel_rfl) ?_
      cbv
      refine ⟨⟨q2⟩, fun p1 hp1 => ?_⟩
      obtain rfl : p1 = f := by omega
      cbv
      refine ⟨_, rb s2.get (encIs_get hvf), ?_⟩
      cbv
      refine ⟨⟨q2⟩, fun p2 hp2 => ?_⟩
      obtain rfl : p2 = p1 := by omega
      cbv
      refine ⟨_, rb s3.get (encIs_get huf), ?_⟩
      cbv
      refine BinP.ofI (And.intro (fun q3 => ?_) (fun q3 => ?_))
      · have q3 : u ≤ v := q3
        cbv
        intro M L
        cbv
        exact hk _ _ ⟨fun e => (by cases e), fun e => absurd (hend.2 e p2 v u (by rw [hL]; exact Int.ofNat_le.2 s1) hvf huf) (by omega)⟩ (L.grows (G0.trans s0))
      · have q3 : v < u := q3
        cbv
        intro M L
        cbv
        refine BinP.inc (by omega) (fun z2 hz2 => ?_)
        cbv
        exact ⟨(M, p2 + 1), Less.cons (by rw [hz2]; rfl) (Less.cons rfl (Less.cons rfl (Less.cons rfl (Less.cons rfl (Less.cons rfl (Less.nil _)))))), rfl, ⟨L.grows s0, Nat.le_succ_of_le s1, ⟨s2.like L.m L.next, s3.like L.m L.next⟩, fun f' a b h1 h2 ha hb => by
          by_cases e : f' = p2
          · subst e; rw [hvf] at ha; rw [huf] at hb; cases ha; cases hb; exact q3
          · exact s4 f' a b h1 (by omega) ha hb⟩, (by show F - (p2 + 1) < F - p2; omega)⟩
    · have q2 : F ≤ f := q2
      cbv
      exact hk _ _ ⟨fun _ => hend.1 (fun f' a b h1 ha hb => s4 f' a b (by rw [hL] at h1; exact Int.ofNat_le.1 h1) (by have := (List.getElem?_eq_some_iff.1 ha).1; rw [j4.len] at this; omega) ha hb), fun _ => rfl⟩ (G0.trans s0)
end
end Go.Proofs.Ytknenadpkgajjaa.GEv

