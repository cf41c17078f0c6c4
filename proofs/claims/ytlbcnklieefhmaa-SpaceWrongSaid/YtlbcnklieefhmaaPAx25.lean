-- Printed by this session's gprint.py (over the kit's print.py) out of the translation.
import Derived.Test.YtlbcnklieefhmaaGLit
import Derived.Test.YtlbcnklieefhmaaPAx0
import Derived.Test.YtlbcnklieefhmaaPAx19
import Derived.Test.YtlbcnklieefhmaaPAx23
namespace Go.Proofs.Ytlbcnklieefhmaa.PA
open Go.RowKit Go.Proofs.YtlbcnklieefhmaaW.PrintWords Go.Proofs.YtlbcnklieefhmaaW.PrintLast Go.Proofs.YtlbcnklieefhmaaW.PrintMore
attribute [local go_sem] max2_int min2_int max_two min_two max_three min_three max_four min_four   -- for this text's walks alone
set_option linter.unusedVariables false
set_option linter.unusedSimpArgs false

/-! ### sentrylaw3_SpaceWrong: function 4 -/
open Go.Proofs.Ytlbcnklieefhmaa.GLit
set_option linter.unusedSimpArgs false
def wrongL : List S32 := [⟨⟨#[112, 58, 97]⟩, [], [], 0⟩, ⟨⟨#[120, 109, 108, 58, 97]⟩, [], [], 0⟩, ⟨⟨#[97]⟩, [⟨⟨#[112, 58, 120]⟩, ⟨#[49]⟩⟩], [], 0⟩, ⟨⟨#[97]⟩, [⟨⟨#[120, 109, 108, 110, 115, 58, 112]⟩, ⟨#[]⟩⟩], [], 0⟩, ⟨⟨#[97]⟩, [⟨⟨#[120, 109, 108, 110, 115, 58, 120, 109, 108]⟩, ⟨#[117]⟩⟩], [], 0⟩, ⟨⟨#[97]⟩, [⟨⟨#[120, 109, 108, 110, 115, 58, 120, 109, 108, 110, 115]⟩, ⟨#[117]⟩⟩], [], 0⟩, ⟨⟨#[120, 109, 108, 110, 115, 58, 97]⟩, [⟨⟨#[120, 109, 108, 110, 115, 58, 120, 109, 108, 110, 115]⟩, ⟨#[117]⟩⟩], [], 0⟩]
def wrongK (nm : ByteArray) (l : List S35) (a1 : Int) : List S32 := [⟨⟨#[99]⟩, [], [], -2⟩, ⟨nm, l, [], a1⟩, ⟨⟨#[113, 58, 100]⟩, [], [], -3⟩]
def wrongF (k : Nat) (x : S32) (a1 : Int) : Option Bool :=
  (space_Resolve.f k ⟨#[98]⟩ [] (wrongK x.f0 x.f1 a1) (-1)).bind fun r => if r.2.2.2.2.2.2 = 5 then (if r.2.2.2.2.2.1 = a1 then sentrylaw3_known.f k else some false) else some false
def sentrylaw3_SpaceWrong.f (k : Nat) (a0 a1 : Int) : Option Bool := if a0 < 0 then some true else if a0 ≥ 7 then some true else if a1 < 0 then some true else wrongF k (rd_T32 wrongL a0) a1
theorem sentrylaw3_SpaceWrong.mono : ∀ a0 a1 k, LeO (sentrylaw3_SpaceWrong.f k a0 a1) (sentrylaw3_SpaceWrong.f (k + 1) a0 a1) := fun a0 a1 k =>
  LeO.ite (LeO.refl _) (LeO.ite (LeO.refl _) (LeO.ite (LeO.refl _) (LeO.bind (space_Resolve.mono _ _ _ _ k) fun r => LeO.ite (LeO.ite (sentrylaw3_known.mono k) (LeO.refl _)) (LeO.refl _))))
theorem wrong_kids {w : World} {nm : ByteArray} {l : List S35} {a1 : Int} {g : Nat} {A : Option Addr} {c : Nat} (hg : w.heap[g]? = some (.cells #[.string ⟨#[99]⟩, .slice none 0 0, .slice none 0 0, .int .i64 (-2), .string nm, .slice A l.length c, .slice none 0 0, .int .i64 a1, .string ⟨#[113, 58, 100]⟩, .slice none 0 0, .slice none 0 0, .int .i64 (-3)] 32 (0, 0)))
    (hl : l.length ≤ c) (hA : k35.C w A l.length l) : k32.C w (some ⟨g, 0, none⟩) (wrongK nm l a1).length (wrongK nm l a1) :=
  C_block hg (.c4 (k32_mk w ⟨⟨#[99]⟩, [], [], -2⟩ (Nat.le_refl 0) (Kd.C_nil _ _) (Nat.le_refl 0) (Kd.C_nil _ _)) rfl (.c4 (k32_mk w ⟨nm, l, [], a1⟩ hl hA (Nat.le_refl 0) (Kd.C_nil _ _)) rfl (.c4 (k32_mk w ⟨⟨#[113, 58, 100]⟩, [], [], -3⟩ (Nat.le_refl 0) (Kd.C_nil _ _) (Nat.le_refl 0) (Kd.C_nil _ _)) rfl .nil))) (by simp [wrongK, maxLen])
theorem wrong_attr {w : World} {a b : ByteArray} {g : Nat} (hg : w.heap[g]? = some (.cells #[.string a, .string b] 35 (0, 0))) : k35.C w (some ⟨g, 0, none⟩) 1 [(⟨a, b⟩ : S35)] :=
  C_block hg (.c2 (k35_mk w ⟨a, b⟩) rfl .nil) (by simp [maxLen])
set_option maxHeartbeats 4000000 in
set_option maxRecDepth 100000 in
theorem wrong_w0 (k : Nat) (a1 : Int) (r : Bool) (w : World) (h2 : ¬ a1 < 0) (h : wrongF k (rd_T32 wrongL 0) a1 = some r) : Calls Try.prog 4 #[.int .i64 0, .int .i64 a1] w fun e w' => e = .returned (.bool r) ∧ Below w.heap.size w w' := by
  have c1 : decide (a1 < 0) = false := decide_eq_false h2
  have HB := Aside0.mk (Below.refl w.heap.size w)
  have HX := Aside0.mk h
  clear h
  obtain ⟨⟨r1, r2, r3, r4, r5, r6, r7⟩, hq, hr⟩ := Option.bind_eq_some_iff.mp HX.out
  simp only [rd_T32, wrongL, Int.toNat_zero, Int.toNat_one, Int.reduceToNat, List.getD_cons_succ, List.getD_cons_zero] at hq
  have HQ := Aside0.mk hq
  have HR := Aside0.mk hr
  clear hq hr HX
  go_enter Try.func4, Try.ntmps4
  go_wp2_with (fail)
  refine (space_Resolve.calls k _ none 0 [] (some ⟨w.heap.size + 7, 0, none⟩) 3 _ (-1) r1 r2 r3 r4 r5 r6 r7 _ (Kd.C_nil _ _) (Nat.le_refl _) (wrong_kids (A := none) (c := 0) ?hg ?hl ?hA) (Nat.le_refl 3) HQ.out).mono ?_
  case hg => refine alloc_at ?_; simp only [World.size_alloc]
  case hl => first | exact Nat.le_refl 0 | exact Nat.le_refl 1
  case hA => first | exact Kd.C_nil _ _ | exact wrong_attr (by repeat first | exact alloc_at (by first | (simp only [World.size_alloc]; done) | omega) | refine blk_alloc ?_ _)
  rintro e w1 ⟨v1, v2, rfl, hv1, hv2, hb⟩
  obtain ⟨Y1, yc1, rfl⟩ := Kd.R_slice hv1
  obtain ⟨Y2, yc2, rfl⟩ := Kd.R_slice hv2
  have HB1 := Aside0.mk (below_step (by repeat (first | exact Below.refl _ _ | apply below_alloc) : Below w.heap.size w _) hb)
  clear hv1 hv2 hb HB
  have hr := HR.out
  by_cases c5 : r7 = 5
  · subst c5
    simp only [if_true] at hr
    by_cases c6 : r6 = a1
    · subst c6
      simp only [if_true] at hr
      have HK := Aside0.mk hr
      clear hr HR HQ
      go_wp2_with (fail)
      refine (sentrylaw3_known.calls k r _ HK.out).mono ?_
      rintro e w2 ⟨rfl, hb2⟩
      have HB2 := Aside0.mk (below_step (below_alloc HB1.out _) hb2)
      clear hb2 HB1
      go_wp2
      go_ret
      exact ⟨rfl, HB2.out⟩
    · have c6b : (r6 == a1) = false := beq_eq_false_iff_ne.mpr c6
      rw [if_neg c6] at hr
      obtain rfl := Option.some.inj hr
      clear HR HQ
      go_wp2
      go_ret
      exact ⟨rfl, below_alloc HB1.out _⟩
  · have c5b : (r7 == 5) = false := beq_eq_false_iff_ne.mpr c5
    rw [if_neg c5] at hr
    obtain rfl := Option.some.inj hr
    clear HR HQ
    go_wp2
    go_ret
    exact ⟨rfl, below_alloc HB1.out _⟩
set_option maxHeartbeats 4000000 in
set_option maxRecDepth 100000 in
theorem wrong_w1 (k : Nat) (a1 : Int) (r : Bool) (w : World) (h2 : ¬ a1 < 0) (h : wrongF k (rd_T32 wrongL 1) a1 = some r) : Calls Try.prog 4 #[.int .i64 1, .int .i64 a1] w fun e w' => e = .returned (.bool r) ∧ Below w.heap.size w w' := by
  have c1 : decide (a1 < 0) = false := decide_eq_false h2
  have HB := Aside0.mk (Below.refl w.heap.size w)
  have HX := Aside0.mk h
  clear h
  obtain ⟨⟨r1, r2, r3, r4, r5, r6, r7⟩, hq, hr⟩ := Option.bind_eq_some_iff.mp HX.out
  simp only [rd_T32, wrongL, Int.toNat_zero, Int.toNat_one, Int.reduceToNat, List.getD_cons_succ, List.getD_cons_zero] at hq
  have HQ := Aside0.mk hq
  have HR := Aside0.mk hr
  clear hq hr HX
  go_enter Try.func4, Try.ntmps4
  go_wp2_with (fail)
  refine (space_Resolve.calls k _ none 0 [] (some ⟨w.heap.size + 7, 0, none⟩) 3 _ (-1) r1 r2 r3 r4 r5 r6 r7 _ (Kd.C_nil _ _) (Nat.le_refl _) (wrong_kids (A := none) (c := 0) ?hg ?hl ?hA) (Nat.le_refl 3) HQ.out).mono ?_
  case hg => refine alloc_at ?_; simp only [World.size_alloc]
  case hl => first | exact Nat.le_refl 0 | exact Nat.le_refl 1
  case hA => first | exact Kd.C_nil _ _ | exact wrong_attr (by repeat first | exact alloc_at (by first | (simp only [World.size_alloc]; done) | omega) | refine blk_alloc ?_ _)
  rintro e w1 ⟨v1, v2, rfl, hv1, hv2, hb⟩
  obtain ⟨Y1, yc1, rfl⟩ := Kd.R_slice hv1
  obtain ⟨Y2, yc2, rfl⟩ := Kd.R_slice hv2
  have HB1 := Aside0.mk (below_step (by repeat (first | exact Below.refl _ _ | apply below_alloc) : Below w.heap.size w _) hb)
  clear hv1 hv2 hb HB
  have hr := HR.out
  by_cases c5 : r7 = 5
  · subst c5
    simp only [if_true] at hr
    by_cases c6 : r6 = a1
    · subst c6
      simp only [if_true] at hr
      have HK := Aside0.mk hr
      clear hr HR HQ
      go_wp2_with (fail)
      refine (sentrylaw3_known.calls k r _ HK.out).mono ?_
      rintro e w2 ⟨rfl, hb2⟩
      have HB2 := Aside0.mk (below_step (below_alloc HB1.out _) hb2)
      clear hb2 HB1
      go_wp2
      go_ret
      exact ⟨rfl, HB2.out⟩
    · have c6b : (r6 == a1) = false := beq_eq_false_iff_ne.mpr c6
      rw [if_neg c6] at hr
      obtain rfl := Option.some.inj hr
      clear HR HQ
      go_wp2
      go_ret
      exact ⟨rfl, below_alloc HB1.out _⟩
  · have c5b : (r7 == 5) = false := beq_eq_false_iff_ne.mpr c5
    rw [if_neg c5] at hr
    obtain rfl := Option.some.inj hr
    clear HR HQ
    go_wp2
    go_ret
    exact ⟨rfl, below_alloc HB1.out _⟩
set_option maxHeartbeats 4000000 in
set_option maxRecDepth 100000 in
theorem wrong_w2 (k : Nat) (a1 : Int) (r : Bool) (w : World) (h2 : ¬ a1 < 0) (h : wrongF k (rd_T32 wrongL 2) a1 = some r) : Calls Try.prog 4 #[.int .i64 2, .int .i64 a1] w fun e w' => e = .returned (.bool r) ∧ Below w.heap.size w w' := by
  have c1 : decide (a1 < 0) = false := decide_eq_false h2
  have HB := Aside0.mk (Below.refl w.heap.size w)
  have HX := Aside0.mk h
  clear h
  obtain ⟨⟨r1, r2, r3, r4, r5, r6, r7⟩, hq, hr⟩ := Option.bind_eq_some_iff.mp HX.out
  simp only [rd_T32, wrongL, Int.toNat_zero, Int.toNat_one, Int.reduceToNat, List.getD_cons_succ, List.getD_cons_zero] at hq
  have HQ := Aside0.mk hq
  have HR := Aside0.mk hr
  clear hq hr HX
  go_enter Try.func4, Try.ntmps4
  go_wp2_with (fail)
  refine (space_Resolve.calls k _ none 0 [] (some ⟨w.heap.size + 7, 0, none⟩) 3 _ (-1) r1 r2 r3 r4 r5 r6 r7 _ (Kd.C_nil _ _) (Nat.le_refl _) (wrong_kids (A := (some ⟨w.heap.size, 0, none⟩)) (c := 1) ?hg ?hl ?hA) (Nat.le_refl 3) HQ.out).mono ?_
  case hg => refine alloc_at ?_; simp only [World.size_alloc]
  case hl => first | exact Nat.le_refl 0 | exact Nat.le_refl 1
  case hA => first | exact Kd.C_nil _ _ | exact wrong_attr (by repeat first | exact alloc_at (by first | (simp only [World.size_alloc]; done) | omega) | refine blk_alloc ?_ _)
  rintro e w1 ⟨v1, v2, rfl, hv1, hv2, hb⟩
  obtain ⟨Y1, yc1, rfl⟩ := Kd.R_slice hv1
  obtain ⟨Y2, yc2, rfl⟩ := Kd.R_slice hv2
  have HB1 := Aside0.mk (below_step (by repeat (first | exact Below.refl _ _ | apply below_alloc) : Below w.heap.size w _) hb)
  clear hv1 hv2 hb HB
  have hr := HR.out
  by_cases c5 : r7 = 5
  · subst c5
    simp only [if_true] at hr
    by_cases c6 : r6 = a1
    · subst c6
      simp only [if_true] at hr
      have HK := Aside0.mk hr
      clear hr HR HQ
      go_wp2_with (fail)
      refine (sentrylaw3_known.calls k r _ HK.out).mono ?_
      rintro e w2 ⟨rfl, hb2⟩
      have HB2 := Aside0.mk (below_step (below_alloc HB1.out _) hb2)
      clear hb2 HB1
      go_wp2
      go_ret
      exact ⟨rfl, HB2.out⟩
    · have c6b : (r6 == a1) = false := beq_eq_false_iff_ne.mpr c6
      rw [if_neg c6] at hr
      obtain rfl := Option.some.inj hr
      clear HR HQ
      go_wp2
      go_ret
      exact ⟨rfl, below_alloc HB1.out _⟩
  · have c5b : (r7 == 5) = false := beq_eq_false_iff_ne.mpr c5
    rw [if_neg c5] at hr
    obtain rfl := Option.some.inj hr
    clear HR HQ
    go_wp2
    go_ret
    exact ⟨rfl, below_alloc HB1.out _⟩
set_option maxHeartbeats 4000000 in
set_option maxRecDepth 100000 in
theorem wrong_w3 (k : Nat) (a1 : Int) (r : Bool) (w : World) (h2 : ¬ a1 < 0) (h : wrongF k (rd_T32 wrongL 3) a1 = some r) : Calls Try.prog 4 #[.int .i64 3, .int .i64 a1] w fun e w' => e = .returned (.bool r) ∧ Below w.heap.size w w' := by
  have c1 : decide (a1 < 0) = false := decide_eq_false h2
  have HB := Aside0.mk (Below.refl w.heap.size w)
  have HX := Aside0.mk h
  clear h
  obtain ⟨⟨r1, r2, r3, r4, r5, r6, r7⟩, hq, hr⟩ := Option.bind_eq_some_iff.mp HX.out
  simp only [rd_T32, wrongL, Int.toNat_zero, Int.toNat_one, Int.reduceToNat, List.getD_cons_succ, List.getD_cons_zero] at hq
  have HQ := Aside0.mk hq
  have HR := Aside0.mk hr
  clear hq hr HX
  go_enter Try.func4, Try.ntmps4
  go_wp2_with (fail)
  refine (space_Resolve.calls k _ none 0 [] (some ⟨w.heap.size + 7, 0, none⟩) 3 _ (-1) r1 r2 r3 r4 r5 r6 r7 _ (Kd.C_nil _ _) (Nat.le_refl _) (wrong_kids (A := (some ⟨w.heap.size + 1, 0, none⟩)) (c := 1) ?hg ?hl ?hA) (Nat.le_refl 3) HQ.out).mono ?_
  case hg => refine alloc_at ?_; simp only [World.size_alloc]
  case hl => first | exact Nat.le_refl 0 | exact Nat.le_refl 1
  case hA => first | exact Kd.C_nil _ _ | exact wrong_attr (by repeat first | exact alloc_at (by first | (simp only [World.size_alloc]; done) | omega) | refine blk_alloc ?_ _)
  rintro e w1 ⟨v1, v2, rfl, hv1, hv2, hb⟩
  obtain ⟨Y1, yc1, rfl⟩ := Kd.R_slice hv1
  obtain ⟨Y2, yc2, rfl⟩ := Kd.R_slice hv2
  have HB1 := Aside0.mk (below_step (by repeat (first | exact Below.refl _ _ | apply below_alloc) : Below w.heap.size w _) hb)
  clear hv1 hv2 hb HB
  have hr := HR.out
  by_cases c5 : r7 = 5
  · subst c5
    simp only [if_true] at hr
    by_cases c6 : r6 = a1
    · subst c6
      simp only [if_true] at hr
      have HK := Aside0.mk hr
      clear hr HR HQ
      go_wp2_with (fail)
      refine (sentrylaw3_known.calls k r _ HK.out).mono ?_
      rintro e w2 ⟨rfl, hb2⟩
      have HB2 := Aside0.mk (below_step (below_alloc HB1.out _) hb2)
      clear hb2 HB1
      go_wp2
      go_ret
      exact ⟨rfl, HB2.out⟩
    · have c6b : (r6 == a1) = false := beq_eq_false_iff_ne.mpr c6
      rw [if_neg c6] at hr
      obtain rfl := Option.some.inj hr
      clear HR HQ
      go_wp2
      go_ret
      exact ⟨rfl, below_alloc HB1.out _⟩
  · have c5b : (r7 == 5) = false := beq_eq_false_iff_ne.mpr c5
    rw [if_neg c5] at hr
    obtain rfl := Option.some.inj hr
    clear HR HQ
    go_wp2
    go_ret
    exact ⟨rfl, below_alloc HB1.out _⟩
set_option maxHeartbeats 4000000 in
set_option maxRecDepth 100000 in
theorem wrong_w4 (k : Nat) (a1 : Int) (r : Bool) (w : World) (h2 : ¬ a1 < 0) (h : wrongF k (rd_T32 wrongL 4) a1 = some r) : Calls Try.prog 4 #[.int .i64 4, .int .i64 a1] w fun e w' => e = .returned (.bool r) ∧ Below w.heap.size w w' := by
  have c1 : decide (a1 < 0) = false := decide_eq_false h2
  have HB := Aside0.mk (Below.refl w.heap.size w)
  have HX := Aside0.mk h
  clear h
  obtain ⟨⟨r1, r2, r3, r4, r5, r6, r7⟩, hq, hr⟩ := Option.bind_eq_some_iff.mp HX.out
  simp only [rd_T32, wrongL, Int.toNat_zero, Int.toNat_one, Int.reduceToNat, List.getD_cons_succ, List.getD_cons_zero] at hq
  have HQ := Aside0.mk hq
  have HR := Aside0.mk hr
  clear hq hr HX
  go_enter Try.func4, Try.ntmps4
  go_wp2_with (fail)
  refine (space_Resolve.calls k _ none 0 [] (some ⟨w.heap.size + 7, 0, none⟩) 3 _ (-1) r1 r2 r3 r4 r5 r6 r7 _ (Kd.C_nil _ _) (Nat.le_refl _) (wrong_kids (A := (some ⟨w.heap.size + 2, 0, none⟩)) (c := 1) ?hg ?hl ?hA) (Nat.le_refl 3) HQ.out).mono ?_
  case hg => refine alloc_at ?_; simp only [World.size_alloc]
  case hl => first | exact Nat.le_refl 0 | exact Nat.le_refl 1
  case hA => first | exact Kd.C_nil _ _ | exact wrong_attr (by repeat first | exact alloc_at (by first | (simp only [World.size_alloc]; done) | omega) | refine blk_alloc ?_ _)
  rintro e w1 ⟨v1, v2, rfl, hv1, hv2, hb⟩
  obtain ⟨Y1, yc1, rfl⟩ := Kd.R_slice hv1
  obtain ⟨Y2, yc2, rfl⟩ := Kd.R_slice hv2
  have HB1 := Aside0.mk (below_step (by repeat (first | exact Below.refl _ _ | apply below_alloc) : Below w.heap.size w _) hb)
  clear hv1 hv2 hb HB
  have hr := HR.out
  by_cases c5 : r7 = 5
  · subst c5
    simp only [if_true] at hr
    by_cases c6 : r6 = a1
    · subst c6
      simp only [if_true] at hr
      have HK := Aside0.mk hr
      clear hr HR HQ
      go_wp2_with (fail)
      refine (sentrylaw3_known.calls k r _ HK.out).mono ?_
      rintro e w2 ⟨rfl, hb2⟩
      have HB2 := Aside0.mk (below_step (below_alloc HB1.out _) hb2)
      clear hb2 HB1
      go_wp2
      go_ret
      exact ⟨rfl, HB2.out⟩
    · have c6b : (r6 == a1) = false := beq_eq_false_iff_ne.mpr c6
      rw [if_neg c6] at hr
      obtain rfl := Option.some.inj hr
      clear HR HQ
      go_wp2
      go_ret
      exact ⟨rfl, below_alloc HB1.out _⟩
  · have c5b : (r7 == 5) = false := beq_eq_false_iff_ne.mpr c5
    rw [if_neg c5] at hr
    obtain rfl := Option.some.inj hr
    clear HR HQ
    go_wp2
    go_ret
    exact ⟨rfl, below_alloc HB1.out _⟩
set_option maxHeartbeats 4000000 in
set_option maxRecDepth 100000 in
theorem wrong_w5 (k : Nat) (a1 : Int) (r : Bool) (w : World) (h2 : ¬ a1 < 0) (h : wrongF k (rd_T32 wrongL 5) a1 = some r) : Calls Try.prog 4 #[.int .i64 5, .int .i64 a1] w fun e w' => e = .returned (.bool r) ∧ Below w.heap.size w w' := by
  have c1 : decide (a1 < 0) = false := decide_eq_false h2
  have HB := Aside0.mk (Below.refl w.heap.size w)
  have HX := Aside0.mk h
  clear h
  obtain ⟨⟨r1, r2, r3, r4, r5, r6, r7⟩, hq, hr⟩ := Option.bind_eq_some_iff.mp HX.out
  simp only [rd_T32, wrongL, Int.toNat_zero, Int.toNat_one, Int.reduceToNat, List.getD_cons_succ, List.getD_cons_zero] at hq
  have HQ := Aside0.mk hq
  have HR := Aside0.mk hr
  clear hq hr HX
  go_enter Try.func4, Try.ntmps4
  go_wp2_with (fail)
  refine (space_Resolve.calls k _ none 0 [] (some ⟨w.heap.size + 7, 0, none⟩) 3 _ (-1) r1 r2 r3 r4 r5 r6 r7 _ (Kd.C_nil _ _) (Nat.le_refl _) (wrong_kids (A := (some ⟨w.heap.size + 3, 0, none⟩)) (c := 1) ?hg ?hl ?hA) (Nat.le_refl 3) HQ.out).mono ?_
  case hg => refine alloc_at ?_; simp only [World.size_alloc]
  case hl => first | exact Nat.le_refl 0 | exact Nat.le_refl 1
  case hA => first | exact Kd.C_nil _ _ | exact wrong_attr (by repeat first | exact alloc_at (by first | (simp only [World.size_alloc]; done) | omega) | refine blk_alloc ?_ _)
  rintro e w1 ⟨v1, v2, rfl, hv1, hv2, hb⟩
  obtain ⟨Y1, yc1, rfl⟩ := Kd.R_slice hv1
  obtain ⟨Y2, yc2, rfl⟩ := Kd.R_slice hv2
  have HB1 := Aside0.mk (below_step (by repeat (first | exact Below.refl _ _ | apply below_alloc) : Below w.heap.size w _) hb)
  clear hv1 hv2 hb HB
  have hr := HR.out
  by_cases c5 : r7 = 5
  · subst c5
    simp only [if_true] at hr
    by_cases c6 : r6 = a1
    · subst c6
      simp only [if_true] at hr
      have HK := Aside0.mk hr
      clear hr HR HQ
      go_wp2_with (fail)
      refine (sentrylaw3_known.calls k r _ HK.out).mono ?_
      rintro e w2 ⟨rfl, hb2⟩
      have HB2 := Aside0.mk (below_step (below_alloc HB1.out _) hb2)
      clear hb2 HB1
      go_wp2
      go_ret
      exact ⟨rfl, HB2.out⟩
    · have c6b : (r6 == a1) = false := beq_eq_false_iff_ne.mpr c6
      rw [if_neg c6] at hr
      obtain rfl := Option.some.inj hr
      clear HR HQ
      go_wp2
      go_ret
      exact ⟨rfl, below_alloc HB1.out _⟩
  · have c5b : (r7 == 5) = false := beq_eq_false_iff_ne.mpr c5
    rw [if_neg c5] at hr
    obtain rfl := Option.some.inj hr
    clear HR HQ
    go_wp2
    go_ret
    exact ⟨rfl, below_alloc HB1.out _⟩
set_option maxHeartbeats 4000000 in
set_option maxRecDepth 100000 in
theorem wrong_w6 (k : Nat) (a1 : Int) (r : Bool) (w : World) (h2 : ¬ a1 < 0) (h : wrongF k (rd_T32 wrongL 6) a1 = some r) : Calls Try.prog 4 #[.int .i64 6, .int .i64 a1] w fun e w' => e = .returned (.bool r) ∧ Below w.heap.size w w' := by
  have c1 : decide (a1 < 0) = false := decide_eq_false h2
  have HB := Aside0.mk (Below.refl w.heap.size w)
  have HX := Aside0.mk h
  clear h
  obtain ⟨⟨r1, r2, r3, r4, r5, r6, r7⟩, hq, hr⟩ := Option.bind_eq_some_iff.mp HX.out
  simp only [rd_T32, wrongL, Int.toNat_zero, Int.toNat_one, Int.reduceToNat, List.getD_cons_succ, List.getD_cons_zero] at hq
  have HQ := Aside0.mk hq
  have HR := Aside0.mk hr
  clear hq hr HX
  go_enter Try.func4, Try.ntmps4
  go_wp2_with (fail)
  refine (space_Resolve.calls k _ none 0 [] (some ⟨w.heap.size + 7, 0, none⟩) 3 _ (-1) r1 r2 r3 r4 r5 r6 r7 _ (Kd.C_nil _ _) (Nat.le_refl _) (wrong_kids (A := (some ⟨w.heap.size + 4, 0, none⟩)) (c := 1) ?hg ?hl ?hA) (Nat.le_refl 3) HQ.out).mono ?_
  case hg => refine alloc_at ?_; simp only [World.size_alloc]
  case hl => first | exact Nat.le_refl 0 | exact Nat.le_refl 1
  case hA => first | exact Kd.C_nil _ _ | exact wrong_attr (by repeat first | exact alloc_at (by first | (simp only [World.size_alloc]; done) | omega) | refine blk_alloc ?_ _)
  rintro e w1 ⟨v1, v2, rfl, hv1, hv2, hb⟩
  obtain ⟨Y1, yc1, rfl⟩ := Kd.R_slice hv1
  obtain ⟨Y2, yc2, rfl⟩ := Kd.R_slice hv2
  have HB1 := Aside0.mk (below_step (by repeat (first | exact Below.refl _ _ | apply below_alloc) : Below w.heap.size w _) hb)
  clear hv1 hv2 hb HB
  have hr := HR.out
  by_cases c5 : r7 = 5
  · subst c5
    simp only [if_true] at hr
    by_cases c6 : r6 = a1
    · subst c6
      simp only [if_true] at hr
      have HK := Aside0.mk hr
      clear hr HR HQ
      go_wp2_with (fail)
      refine (sentrylaw3_known.calls k r _ HK.out).mono ?_
      rintro e w2 ⟨rfl, hb2⟩
      have HB2 := Aside0.mk (below_step (below_alloc HB1.out _) hb2)
      clear hb2 HB1
      go_wp2
      go_ret
      exact ⟨rfl, HB2.out⟩
    · have c6b : (r6 == a1) = false := beq_eq_false_iff_ne.mpr c6
      rw [if_neg c6] at hr
      obtain rfl := Option.some.inj hr
      clear HR HQ
      go_wp2
      go_ret
      exact ⟨rfl, below_alloc HB1.out _⟩
  · have c5b : (r7 == 5) = false := beq_eq_false_iff_ne.mpr c5
    rw [if_neg c5] at hr
    obtain rfl := Option.some.inj hr
    clear HR HQ
    go_wp2
    go_ret
    exact ⟨rfl, below_alloc HB1.out _⟩
theorem wrong_walk (k : Nat) (a0 a1 : Int) (r : Bool) (w : World) (h0 : ¬ a0 < 0) (h1 : ¬ a0 ≥ 7) (h2 : ¬ a1 < 0) (h : wrongF k (rd_T32 wrongL a0) a1 = some r) : Calls Try.prog 4 #[.int .i64 a0, .int .i64 a1] w fun e w' => e = .returned (.bool r) ∧ Below w.heap.size w w' := by
  have e0 : a0 = 0 ∨ a0 = 1 ∨ a0 = 2 ∨ a0 = 3 ∨ a0 = 4 ∨ a0 = 5 ∨ a0 = 6 := by omega
  rcases e0 with rfl | rfl | rfl | rfl | rfl | rfl | rfl
  · exact wrong_w0 k a1 r w h2 h
  · exact wrong_w1 k a1 r w h2 h
  · exact wrong_w2 k a1 r w h2 h
  · exact wrong_w3 k a1 r w h2 h
  · exact wrong_w4 k a1 r w h2 h
  · exact wrong_w5 k a1 r w h2 h
  · exact wrong_w6 k a1 r w h2 h
set_option maxHeartbeats 4000000 in
set_option maxRecDepth 100000 in
theorem sentrylaw3_SpaceWrong.calls (k : Nat) (a0 a1 : Int) (r : Bool) (w : World) (h : sentrylaw3_SpaceWrong.f k a0 a1 = some r) : Calls Try.prog 4 #[.int .i64 a0, .int .i64 a1] w fun e w' => e = .returned (.bool r) ∧ Below w.heap.size w w' := by
  have HB := Aside0.mk (Below.refl w.heap.size w)
  have H := Aside0.mk h
  unfold sentrylaw3_SpaceWrong.f at h
  by_cases h0 : a0 < 0
  · rw [if_pos h0] at h
    obtain rfl := Option.some.inj h
    have c0 : decide (a0 < 0) = true := decide_eq_true h0
    clear H
    go_enter Try.func4, Try.ntmps4
    go_wp2
    go_ret
    exact ⟨rfl, by repeat (first | exact HB.out | apply below_alloc)⟩
  · rw [if_neg h0] at h
    by_cases h1 : a0 ≥ 7
    · rw [if_pos h1] at h
      obtain rfl := Option.some.inj h
      have c0 : decide (a0 < 0) = false := decide_eq_false h0
      have c1 : decide (a0 ≥ 7) = true := decide_eq_true h1
      clear H
      go_enter Try.func4, Try.ntmps4
      go_wp2
      go_ret
      exact ⟨rfl, by repeat (first | exact HB.out | apply below_alloc)⟩
    · rw [if_neg h1] at h
      by_cases h2 : a1 < 0
      · rw [if_pos h2] at h
        obtain rfl := Option.some.inj h
        have c0 : decide (a0 < 0) = false := decide_eq_false h0
        have c1 : decide (a0 ≥ 7) = false := decide_eq_false h1
        have c2 : decide (a1 < 0) = true := decide_eq_true h2
        clear H
        go_enter Try.func4, Try.ntmps4
        go_wp2
        go_ret
        exact ⟨rfl, by repeat (first | exact HB.out | apply below_alloc)⟩
      · rw [if_neg h2] at h
        exact wrong_walk k a0 a1 r w h0 h1 h2 h

end Go.Proofs.Ytlbcnklieefhmaa.PA
