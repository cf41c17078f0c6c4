-- Printed by this session's gprint.py (over the kit's print.py) out of the translation.
import Derived.Test.YtlbcnklieefhmaaPAx0
import Derived.Test.YtlbcnklieefhmaaPAx21
import Derived.Test.YtlbcnklieefhmaaPAx22
import Derived.Test.YtlbcnklieefhmaaPAx37
namespace Go.Proofs.Ytlbcnklieefhmaa.PA
open Go.RowKit Go.Proofs.YtlbcnklieefhmaaW.PrintWords Go.Proofs.YtlbcnklieefhmaaW.PrintLast Go.Proofs.YtlbcnklieefhmaaW.PrintMore
attribute [local go_sem] max2_int min2_int max_two min_two max_three min_three max_four min_four   -- for this text's walks alone
set_option linter.unusedVariables false
set_option linter.unusedSimpArgs false

/-! ### space_Same: function 21 -/
set_option linter.unusedSimpArgs false
def space_Same.f (k : Nat) (a0_0 a0_1 : ByteArray) (l0_2 : List S35) (l0_3 : List S26) (a0_4 : Int) (a1_0 a1_1 : ByteArray) (l1_2 : List S35) (l1_3 : List S26) (a1_4 : Int) : Option Bool := sentryref3_Same.f k a0_0 a0_1 l0_2 l0_3 a0_4 a1_0 a1_1 l1_2 l1_3 a1_4
theorem space_Same.mono : ∀ a0 a1 a2 a3 a4 a5 a6 a7 a8 a9 k, LeO (space_Same.f k a0 a1 a2 a3 a4 a5 a6 a7 a8 a9) (space_Same.f (k + 1) a0 a1 a2 a3 a4 a5 a6 a7 a8 a9) := fun a0 a1 a2 a3 a4 a5 a6 a7 a8 a9 k => sentryref3_Same.mono a0 a1 a2 a3 a4 a5 a6 a7 a8 a9 k
theorem eq_attrs (l0 l1 : List S35) (r : Bool) : ∀ (k : Nat) (i : Int), sentryref2_SameAttrs.l0 k l0 l1 i = some r → api_Attr.l0 k l0 l1 (l0.length : Int) i = some r
  | 0, i, h => by simp [sentryref2_SameAttrs.l0] at h
  | k + 1, i, h => by
    unfold sentryref2_SameAttrs.l0 at h
    unfold api_Attr.l0
    by_cases c1 : i < (l0.length : Int)
    · rw [if_pos c1] at h
      rw [if_pos c1]
      by_cases c2 : 0 ≤ i
      · rw [if_pos c2] at h
        rw [if_pos c2, if_pos c1]
        by_cases c3 : i < (l1.length : Int)
        · rw [if_pos c3] at h
          rw [if_pos c3]
          by_cases c4 : (!((((rd_T35 l0 i).f0).toList) == (((rd_T35 l1 i).f0).toList)) || (!((((rd_T35 l0 i).f1).toList) == (((rd_T35 l1 i).f1).toList)))) = true
          · rw [if_pos c4] at h
            rw [if_pos c4]
            exact h
          · rw [if_neg c4] at h
            rw [if_neg c4]
            exact eq_attrs l0 l1 r k _ h
        · rw [if_neg c3] at h; cases h
      · rw [if_neg c2] at h; cases h
    · rw [if_neg c1] at h
      rw [if_neg c1]
      exact h
theorem eq_attrs_f (l0 l1 : List S35) (r : Bool) (k : Nat) (h : sentryref2_SameAttrs.f k l0 l1 = some r) : api_Attr.f k l0 l1 = some r := by
  unfold sentryref2_SameAttrs.f at h
  unfold api_Attr.f
  by_cases c : (l0.length : Int) = (l1.length : Int)
  · rw [if_pos c] at h
    rw [if_pos c]
    exact eq_attrs l0 l1 r k 0 h
  · rw [if_neg c] at h
    rw [if_neg c]
    exact h
/-- the kids' lists, held against one another. -/
def kidsEq (k : Nat) (a0_0 a0_1 : ByteArray) (l0_2 : List S35) (l0_3 : List S26) (a0_4 : Int) (a1_0 a1_1 : ByteArray) (l1_2 : List S35) (l1_3 : List S26) (a1_4 : Int) : Option Bool := if l0_3.length = l1_3.length then sentryref3_Same.l0 k 0 a0_0 a0_1 l0_2 l0_3 a0_4 a1_0 a1_1 l1_2 l1_3 a1_4 else some false
theorem same_open {k : Nat} (a0_0 a0_1 : ByteArray) (l0_2 : List S35) (l0_3 : List S26) (a0_4 : Int) (a1_0 a1_1 : ByteArray) (l1_2 : List S35) (l1_3 : List S26) (a1_4 : Int) {r : Bool} (h : sentryref3_Same.f (k + 1) a0_0 a0_1 l0_2 l0_3 a0_4 a1_0 a1_1 l1_2 l1_3 a1_4 = some r) :
    (¬ a0_0.toList = a1_0.toList ∧ r = false) ∨ (a0_0.toList = a1_0.toList ∧ ¬ a0_1.toList = a1_1.toList ∧ r = false) ∨ (a0_0.toList = a1_0.toList ∧ a0_1.toList = a1_1.toList ∧ sentryref2_SameAttrs.f k l0_2 l1_2 = some false ∧ r = false)
      ∨ (a0_0.toList = a1_0.toList ∧ a0_1.toList = a1_1.toList ∧ sentryref2_SameAttrs.f k l0_2 l1_2 = some true ∧ ∃ m, m < k ∧ kidsEq m a0_0 a0_1 l0_2 l0_3 a0_4 a1_0 a1_1 l1_2 l1_3 a1_4 = some r) := by
  have hj : ∀ {r : Bool}, sentryref3_Same.j0 k true a0_0 a0_1 l0_2 l0_3 a0_4 a1_0 a1_1 l1_2 l1_3 a1_4 = some r → r = false := by
    intro r h
    cases k with
    | zero => simp [sentryref3_Same.j0] at h
    | succ k => simp only [sentryref3_Same.j0, if_true] at h; exact (Option.some.inj h).symm
  unfold sentryref3_Same.f at h
  by_cases c1 : a0_0.toList = a1_0.toList
  · rw [if_pos c1] at h
    by_cases c2 : a0_1.toList = a1_1.toList
    · rw [if_pos c2] at h
      obtain ⟨t, h1, h2⟩ := Option.bind_eq_some_iff.mp h
      cases t with
      | false => exact .inr (.inr (.inl ⟨c1, c2, h1, hj (by rw [if_neg (by decide)] at h2; exact h2)⟩))
      | true =>
        rw [if_pos rfl] at h2
        refine .inr (.inr (.inr ⟨c1, c2, h1, ?_⟩))
        cases k with
        | zero => simp [sentryref3_Same.j0] at h2
        | succ k =>
          refine ⟨k, by omega, ?_⟩
          unfold sentryref3_Same.j0 at h2
          unfold kidsEq
          by_cases c3 : l0_3.length = l1_3.length
          · rw [if_pos c3]
            rw [if_neg (by simp [c3])] at h2
            exact h2
          · rw [if_neg c3]
            rw [if_pos (by simpa using (show ¬ (l0_3.length : Int) = l1_3.length by omega))] at h2
            exact h2
    · rw [if_neg c2] at h
      exact .inr (.inl ⟨c1, c2, hj h⟩)
  · rw [if_neg c1] at h
    exact .inl ⟨c1, hj h⟩
theorem cell_keep {w : World} {a : Addr} {v : Value} (h : w.cell? a = some v) (o : Obj) : (w.alloc o).cell? a = some v := (World.cell?_alloc_lt w o a (World.block_lt_of_cell? w a h)).trans h
def SameClaim (k : Nat) : Prop := ∀ (a0_0 : ByteArray) (a0_1 : ByteArray) (A0_2 : Option Addr) (c0_2 : Nat) (l0_2 : List (S35)) (A0_3 : Option Addr) (c0_3 : Nat) (l0_3 : List (S26)) (a0_4 : Int) (a1_0 : ByteArray) (a1_1 : ByteArray) (A1_2 : Option Addr) (c1_2 : Nat) (l1_2 : List (S35)) (A1_3 : Option Addr) (c1_3 : Nat) (l1_3 : List (S26)) (a1_4 : Int) (r : Bool) (w : World) (hr0_2 : Kd.C k35 w A0_2 l0_2.length l0_2) (hc0_2 : l0_2.length ≤ c0_2) (hr0_3 : Kd.C k26 w A0_3 l0_3.length l0_3) (hc0_3 : l0_3.length ≤ c0_3) (hr1_2 : Kd.C k35 w A1_2 l1_2.length l1_2) (hc1_2 : l1_2.length ≤ c1_2) (hr1_3 : Kd.C k26 w A1_3 l1_3.length l1_3) (hc1_3 : l1_3.length ≤ c1_3) (_ : sentryref3_Same.f k a0_0 a0_1 l0_2 l0_3 a0_4 a1_0 a1_1 l1_2 l1_3 a1_4 = some r), Calls Try.prog 21 #[.agg #[.string a0_0, .string a0_1, .slice A0_2 l0_2.length c0_2, .slice A0_3 l0_3.length c0_3, .int .i64 a0_4], .agg #[.string a1_0, .string a1_1, .slice A1_2 l1_2.length c1_2, .slice A1_3 l1_3.length c1_3, .int .i64 a1_4]] w fun e w' => e = .returned (.bool r) ∧ Below w.heap.size w w'
set_option maxHeartbeats 4000000 in
set_option maxRecDepth 100000 in
theorem eqfunc_calls (K : Nat) (IH : ∀ m, m < K → SameClaim m) (a0_0 a0_1 : ByteArray) (l0_2 : List S35) (l0_3 : List S26) (a0_4 : Int) (a1_0 a1_1 : ByteArray) (l1_2 : List S35) (l1_3 : List S26) (a1_4 : Int) (A0_3 : Option Addr) (c0_3 : Nat) (A1_3 : Option Addr) (c1_3 : Nat) (r : Bool) (w : World) (hr0_3 : Kd.C k26 w A0_3 l0_3.length l0_3) (hr1_3 : Kd.C k26 w A1_3 l1_3.length l1_3)
    (h : kidsEq K a0_0 a0_1 l0_2 l0_3 a0_4 a1_0 a1_1 l1_2 l1_3 a1_4 = some r) : Calls Try.prog 28 #[.slice A0_3 l0_3.length c0_3, .slice A1_3 l1_3.length c1_3, .func (.func 21) #[] #[]] w fun e w' => e = .returned (.bool r) ∧ Below w.heap.size w w' := by
  have hu26 := Try.underlying26
  have HI := Aside0.mk IH
  have HR0 := Aside0.mk hr0_3
  have HR1 := Aside0.mk hr1_3
  clear IH hr0_3 hr1_3
  unfold kidsEq at h
  by_cases cl : l0_3.length = l1_3.length
  · rw [if_pos cl] at h
    have cl0 : ((l0_3.length : Int) != (l1_3.length : Int)) = false := bne_eq_false_iff_eq.mpr (by omega)
    have cl1 : ((l0_3.length : Int) == (l1_3.length : Int)) = true := beq_iff_eq.mpr (by omega)
    have H := Aside0.mk h
    clear h cl
    go_enter Try.func28, Try.ntmps28
    go_wp2
    go_loopg [17] K (fun kq v17 w' => ∃ i : Int, v17 = .int .i64 i ∧ Aside0 (sentryref3_Same.l0 kq i a0_0 a0_1 l0_2 l0_3 a0_4 a1_0 a1_1 l1_2 l1_3 a1_4 = some r) ∧ Aside0 (kq ≤ K) ∧ Aside0 (Below w.heap.size w w'))
    case atStart => exact ⟨0, rfl, H, ⟨Nat.le_refl _⟩, ⟨by repeat (first | exact Below.refl _ _ | apply below_alloc)⟩⟩
    case round =>
      clear H
      obtain ⟨i, rfl, HA, HK, HB⟩ := hrel
      cases gk with
      | zero => exact absurd HA.out (by simp [sentryref3_Same.l0])
      | succ k1 =>
        have h := HA.out
        clear HA
        unfold sentryref3_Same.l0 at h
        by_cases c1 : i < (l0_3.length : Int)
        · rw [if_pos c1] at h
          have c1b : decide (i < (l0_3.length : Int)) = true := decide_eq_true c1
          by_cases c2 : 0 ≤ i
          · rw [if_pos c2] at h
            by_cases c3 : i < (l1_3.length : Int)
            · rw [if_pos c3] at h
              obtain ⟨t, ht, h2⟩ := Option.bind_eq_some_iff.mp h
              have HT := Aside0.mk ht
              have H2 := Aside0.mk h2
              clear h ht h2
              obtain ⟨ad, X2, x2, X3, x3, ea, f0, f1, f2, f3, f4, l2, g2, l3, g3⟩ := at_T26 (Kd.C_below HR0.out HB.out) i c2 c1
              obtain ⟨bd, Y2, y2, Y3, y3, eb, q0, q1, q2, q3, q4, m2, n2, m3, n3⟩ := at_T26 (Kd.C_below HR1.out HB.out) i c2 c3
              subst ea eb
              replace q0 := fun o => cell_keep q0 o
              replace q1 := fun o => cell_keep q1 o
              replace q2 := fun o => cell_keep q2 o
              replace q3 := fun o => cell_keep q3 o
              replace q4 := fun o => cell_keep q4 o
              have HG := Aside0.mk (And.intro (And.intro l2 g2) (And.intro l3 g3))
              have HN := Aside0.mk (And.intro (And.intro m2 n2) (And.intro m3 n3))
              clear l2 g2 l3 g3 m2 n2 m3 n3
              have c2t : (0 ≤ i) = True := eq_true c2
              have c1t : (i < (l0_3.length : Int)) = True := eq_true c1
              have c3t : (i < (l1_3.length : Int)) = True := eq_true c3
              go_wp2_with (fail)
              have hb3 : Below w.heap.size w ((wr.alloc _).alloc _) := below_alloc (below_alloc HB.out (.cells #[.string (rd_T26 l0_3 i).f0, .string (rd_T26 l0_3 i).f1, .slice X2 (rd_T26 l0_3 i).f2.length x2, .slice X3 (rd_T26 l0_3 i).f3.length x3, .int .i64 (rd_T26 l0_3 i).f4] 26)) (.cells #[.string (rd_T26 l1_3 i).f0, .string (rd_T26 l1_3 i).f1, .slice Y2 (rd_T26 l1_3 i).f2.length y2, .slice Y3 (rd_T26 l1_3 i).f3.length y3, .int .i64 (rd_T26 l1_3 i).f4] 26)
              have HB3 := Aside0.mk hb3
              clear hb3
              refine (HI.out k1 (by have := HK.out; omega) _ _ X2 x2 _ X3 x3 _ _ _ _ Y2 y2 _ Y3 y3 _ _ t _ (Kd.C_alloc (Kd.C_alloc HG.out.1.2 _) _) HG.out.1.1 (Kd.C_alloc (Kd.C_alloc HG.out.2.2 _) _) HG.out.2.1 (Kd.C_alloc (Kd.C_alloc HN.out.1.2 _) _) HN.out.1.1 (Kd.C_alloc (Kd.C_alloc HN.out.2.2 _) _) HN.out.2.1 HT.out).mono ?_
              rintro e w2 ⟨rfl, hb2⟩
              have HB4 := Aside0.mk (below_step HB3.out hb2)
              clear hb2 HB3 HT HG HN f0 f1 f2 f3 f4 q0 q1 q2 q3 q4
              cases t with
              | true =>
                have h2 := H2.out
                rw [if_pos rfl] at h2
                have H3 := Aside0.mk h2
                clear h2 H2
                go_wp2
                go_roundg k1
                case measure => omega
                case rel => exact ⟨_, rfl, H3, ⟨by have := HK.out; omega⟩, HB4⟩
              | false =>
                have h2 := H2.out
                rw [if_neg (by decide)] at h2
                obtain rfl := Option.some.inj h2
                go_wp2
                go_ret
                exact ⟨rfl, HB4.out⟩
            · rw [if_neg c3] at h; cases h
          · rw [if_neg c2] at h; cases h
        · rw [if_neg c1] at h
          obtain rfl := Option.some.inj h
          have c1b : decide (i < (l0_3.length : Int)) = false := decide_eq_false c1
          go_wp2
          go_ret
          exact ⟨rfl, HB.out⟩
  · rw [if_neg cl] at h
    obtain rfl := Option.some.inj h
    have cl0 : ((l0_3.length : Int) != (l1_3.length : Int)) = true := bne_iff_ne.mpr (by omega)
    have cl1 : ((l0_3.length : Int) == (l1_3.length : Int)) = false := beq_eq_false_iff_ne.mpr (by omega)
    go_enter Try.func28, Try.ntmps28
    go_wp2
    go_ret
    exact ⟨rfl, by repeat (first | exact Below.refl _ _ | apply below_alloc)⟩
set_option maxHeartbeats 4000000 in
set_option maxRecDepth 100000 in
theorem space_Same.calls (k : Nat) : ∀ (a0_0 : ByteArray) (a0_1 : ByteArray) (A0_2 : Option Addr) (c0_2 : Nat) (l0_2 : List (S35)) (A0_3 : Option Addr) (c0_3 : Nat) (l0_3 : List (S26)) (a0_4 : Int) (a1_0 : ByteArray) (a1_1 : ByteArray) (A1_2 : Option Addr) (c1_2 : Nat) (l1_2 : List (S35)) (A1_3 : Option Addr) (c1_3 : Nat) (l1_3 : List (S26)) (a1_4 : Int) (r : Bool) (w : World) (hr0_2 : Kd.C k35 w A0_2 l0_2.length l0_2) (hc0_2 : l0_2.length ≤ c0_2) (hr0_3 : Kd.C k26 w A0_3 l0_3.length l0_3) (hc0_3 : l0_3.length ≤ c0_3) (hr1_2 : Kd.C k35 w A1_2 l1_2.length l1_2) (hc1_2 : l1_2.length ≤ c1_2) (hr1_3 : Kd.C k26 w A1_3 l1_3.length l1_3) (hc1_3 : l1_3.length ≤ c1_3) (_ : space_Same.f k a0_0 a0_1 l0_2 l0_3 a0_4 a1_0 a1_1 l1_2 l1_3 a1_4 = some r),
    Calls Try.prog 21 #[.agg #[.string a0_0, .string a0_1, .slice A0_2 l0_2.length c0_2, .slice A0_3 l0_3.length c0_3, .int .i64 a0_4], .agg #[.string a1_0, .string a1_1, .slice A1_2 l1_2.length c1_2, .slice A1_3 l1_3.length c1_3, .int .i64 a1_4]] w fun e w' => e = .returned (.bool r) ∧ Below w.heap.size w w' := by
  show SameClaim k
  induction k using Nat.strongRecOn with
  | _ k ih =>
  intro a0_0 a0_1 A0_2 c0_2 l0_2 A0_3 c0_3 l0_3 a0_4 a1_0 a1_1 A1_2 c1_2 l1_2 A1_3 c1_3 l1_3 a1_4 r w hr0_2 hc0_2 hr0_3 hc0_3 hr1_2 hc1_2 hr1_3 hc1_3 h
  cases k with
  | zero => exact absurd h (by simp [sentryref3_Same.f])
  | succ k =>
  have hu26 := Try.underlying26
  have HI := Aside0.mk ih
  have HR0_2 := Aside0.mk hr0_2
  have HC0_2 := Aside0.mk hc0_2
  have HR0_3 := Aside0.mk hr0_3
  have HR1_2 := Aside0.mk hr1_2
  have HC1_2 := Aside0.mk hc1_2
  have HR1_3 := Aside0.mk hr1_3
  have HB := Aside0.mk (Below.refl w.heap.size w)
  clear hr0_2 hc0_2 hr0_3 hc0_3 hr1_2 hc1_2 hr1_3 hc1_3 ih
  rcases same_open _ _ _ _ _ _ _ _ _ _ h with ⟨c1, rfl⟩ | ⟨c1, c2, rfl⟩ | ⟨c1, c2, c3, rfl⟩ | ⟨c1, c2, c3, m, hm, c4⟩
  · have c1b : (a0_0.toList == a1_0.toList) = false := beq_eq_false_iff_ne.mpr c1
    go_enter Try.func21, Try.ntmps21
    go_wp2
    go_ret
    exact ⟨rfl, by repeat (first | exact HB.out | apply below_alloc)⟩
  · have c1b : (a0_0.toList == a1_0.toList) = true := beq_iff_eq.mpr c1
    have c2b : (a0_1.toList == a1_1.toList) = false := beq_eq_false_iff_ne.mpr c2
    go_enter Try.func21, Try.ntmps21
    go_wp2
    go_ret
    exact ⟨rfl, by repeat (first | exact HB.out | apply below_alloc)⟩
  · have c1b : (a0_0.toList == a1_0.toList) = true := beq_iff_eq.mpr c1
    have c2b : (a0_1.toList == a1_1.toList) = true := beq_iff_eq.mpr c2
    have HQ := Aside0.mk (eq_attrs_f _ _ _ _ c3)
    clear c3 h
    go_enter Try.func21, Try.ntmps21
    go_wp2_with (fail)
    refine (api_Attr.calls k _ _ l0_2 _ _ l1_2 false _ (Kd.C_alloc (Kd.C_alloc HR0_2.out _) _) HC0_2.out (Kd.C_alloc (Kd.C_alloc HR1_2.out _) _) HC1_2.out HQ.out).mono ?_
    rintro e w1 ⟨rfl, ⟨nd, rfl⟩⟩
    go_wp2
    go_ret
    exact ⟨rfl, by repeat (first | exact HB.out | apply below_alloc | apply pw_below_drewN)⟩
  · have c1b : (a0_0.toList == a1_0.toList) = true := beq_iff_eq.mpr c1
    have c2b : (a0_1.toList == a1_1.toList) = true := beq_iff_eq.mpr c2
    have HQ := Aside0.mk (eq_attrs_f _ _ _ _ c3)
    have HM := Aside0.mk c4
    clear c3 h c4
    go_enter Try.func21, Try.ntmps21
    go_wp2_with (fail)
    refine (api_Attr.calls k _ _ l0_2 _ _ l1_2 true _ (Kd.C_alloc (Kd.C_alloc HR0_2.out _) _) HC0_2.out (Kd.C_alloc (Kd.C_alloc HR1_2.out _) _) HC1_2.out HQ.out).mono ?_
    rintro e w1 ⟨rfl, ⟨nd, rfl⟩⟩
    go_wp2_with (fail)
    refine (eqfunc_calls m (fun q hq => HI.out q (by omega)) _ _ _ _ _ _ _ _ _ _ _ _ _ _ r _ (Kd.C_drewN (Kd.C_alloc (Kd.C_alloc HR0_3.out _) _) _) (Kd.C_drewN (Kd.C_alloc (Kd.C_alloc HR1_3.out _) _) _) HM.out).mono ?_
    rintro e w2 ⟨rfl, hb2⟩
    have HB2 := Aside0.mk (below_step (by repeat (first | exact HB.out | apply below_alloc | apply pw_below_drewN) : Below w.heap.size w _) hb2)
    clear hb2
    go_wp2
    go_ret
    exact ⟨rfl, HB2.out⟩

end Go.Proofs.Ytlbcnklieefhmaa.PA
