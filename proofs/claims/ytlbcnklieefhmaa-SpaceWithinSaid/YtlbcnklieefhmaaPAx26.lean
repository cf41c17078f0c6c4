-- Printed by this session's gprint.py (over the kit's print.py) out of the translation.
import Derived.Test.YtlbcnklieefhmaaPAx0
import Derived.Test.YtlbcnklieefhmaaPAx19
import Derived.Test.YtlbcnklieefhmaaPAx23
namespace Go.Proofs.Ytlbcnklieefhmaa.PA
open Go.RowKit Go.Proofs.YtlbcnklieefhmaaW.PrintWords Go.Proofs.YtlbcnklieefhmaaW.PrintLast Go.Proofs.YtlbcnklieefhmaaW.PrintMore
attribute [local go_sem] max2_int min2_int max_two min_two max_three min_three max_four min_four   -- for this text's walks alone
set_option linter.unusedVariables false
set_option linter.unusedSimpArgs false

/-! ### sentrylaw3_SpaceWithin: function 5 -/
def sentrylaw3_SpaceWithin.j0 : Nat → ByteArray → ByteArray → Bool → Option (Bool)
  | 0, _, _, _ => none
  | k + 1, x0, x1, x16 => if x16 = true then (some true) else ((space_Resolve.f k (⟨#[97]⟩ : ByteArray) (([(⟨(⟨#[120, 109, 108, 110, 115]⟩ : ByteArray), x0⟩ : S35)] : List (S35))) (([(⟨(⟨#[98]⟩ : ByteArray), (([(⟨(⟨#[120, 109, 108, 110, 115]⟩ : ByteArray), x1⟩ : S35)] : List (S35))), (([(⟨(⟨#[99]⟩ : ByteArray), ([] : List (S35)), ([] : List (S32)), 0⟩ : S32)] : List (S32))), 0⟩ : S32), (⟨(⟨#[100]⟩ : ByteArray), ([] : List (S35)), ([] : List (S32)), 0⟩ : S32)] : List (S32))) 0).bind fun bt256 => (if bt256.2.2.2.2.2.2 = 0 then (if (bt256.2.2.2.1.length : Int) = 2 then (if 0 < (bt256.2.2.2.1.length : Int) then (if (((rd_T26 bt256.2.2.2.1 0).f3).length : Int) = 1 then (if bt256.1.toList = x0.toList then (if ((rd_T26 bt256.2.2.2.1 0).f0).toList = x1.toList then (if 0 < (((rd_T26 bt256.2.2.2.1 0).f3).length : Int) then (if ((rd_T26 ((rd_T26 bt256.2.2.2.1 0).f3) 0).f0).toList = x1.toList then (if 1 < (bt256.2.2.2.1.length : Int) then (if ((rd_T26 bt256.2.2.2.1 1).f0).toList = x0.toList then ((sentrylaw3_known.f k).bind fun t273 => (some t273)) else (some false)) else (none)) else (some false)) else (none)) else (some false)) else (some false)) else (some false)) else (none)) else (some false)) else (some false)))
def sentrylaw3_SpaceWithin.f (k : Nat) (a0 : ByteArray) (a1 : ByteArray) : Option (Bool) := if (a0.size : Int) > 50 then (sentrylaw3_SpaceWithin.j0 k a0 a1 true) else (sentrylaw3_SpaceWithin.j0 k a0 a1 (decide ((a1.size : Int) > 50)))
theorem sentrylaw3_SpaceWithin.mono_l : ∀ k, (∀ y0 y1 y2, LeO (sentrylaw3_SpaceWithin.j0 k y0 y1 y2) (sentrylaw3_SpaceWithin.j0 (k + 1) y0 y1 y2))
  | 0 => fun _ _ _ r h => by simp [sentrylaw3_SpaceWithin.j0] at h
  | k + 1 => by
    have ih0 := sentrylaw3_SpaceWithin.mono_l k
    · intro y0 y1 y2
      unfold sentrylaw3_SpaceWithin.j0
      repeat' first
      | (with_reducible exact ih0 _ _ _)
      | (with_reducible exact sentrylaw3_known.mono _)
      | (with_reducible exact space_Resolve.mono _ _ _ _ _)
      | (with_reducible exact LeO.refl _)
      | (with_reducible exact LeO.none _)
      | (with_reducible refine LeO.ite ?_ ?_)
      | (with_reducible refine LeO.bind ?_ (fun _ => ?_))
      | exact ih0 _ _ _
      | exact sentrylaw3_known.mono _
      | exact space_Resolve.mono _ _ _ _ _
      | exact LeO.none _
      | refine LeO.ite ?_ ?_
      | refine LeO.bind ?_ (fun _ => ?_)
theorem sentrylaw3_SpaceWithin.mono : ∀ a0 a1 k, LeO (sentrylaw3_SpaceWithin.f k a0 a1) (sentrylaw3_SpaceWithin.f (k + 1) a0 a1) := by
  intro a0 a1 k
  have ih0 := sentrylaw3_SpaceWithin.mono_l k
  unfold sentrylaw3_SpaceWithin.f
  repeat' first
      | (with_reducible exact ih0 _ _ _)
      | (with_reducible exact sentrylaw3_known.mono _)
      | (with_reducible exact space_Resolve.mono _ _ _ _ _)
      | (with_reducible exact LeO.refl _)
      | (with_reducible exact LeO.none _)
      | (with_reducible refine LeO.ite ?_ ?_)
      | (with_reducible refine LeO.bind ?_ (fun _ => ?_))
      | exact ih0 _ _ _
      | exact sentrylaw3_known.mono _
      | exact space_Resolve.mono _ _ _ _ _
      | exact LeO.none _
      | refine LeO.ite ?_ ?_
      | refine LeO.bind ?_ (fun _ => ?_)
set_option maxHeartbeats 8000000 in
set_option maxRecDepth 100000 in
theorem sentrylaw3_SpaceWithin.calls (k : Nat) (a0 : ByteArray) (a1 : ByteArray) (r : Bool) (w : World) (h : sentrylaw3_SpaceWithin.f k a0 a1 = some r) :
    Calls Try.prog 5 #[.string a0, .string a1] w fun e w' => e = .returned (.bool r) ∧ Below w.heap.size w w' := by
  have hu35 := Try.underlying35
  have hu32 := Try.underlying32
  have hu26 := Try.underlying26
  have HB := Aside0.mk (Below.refl w.heap.size w)
  have H : (if (a0.size : Int) > 50 then (sentrylaw3_SpaceWithin.j0 k a0 a1 true) else (sentrylaw3_SpaceWithin.j0 k a0 a1 (decide ((a1.size : Int) > 50)))) = some r := h
  clear h
  have HC3 := Aside0.mk H
  clear H
  go_enter Try.func5, Try.ntmps5
  go_upto_region 1 with (fail)
  go_cut [16] (fun v16 wc => ∃ (kq : Nat) (x16_2 : Bool), v16 = .bool x16_2 ∧ Aside0 (sentrylaw3_SpaceWithin.j0 kq a0 a1 x16_2 = some r) ∧ Aside0 (kq ≤ k) ∧ Aside0 (Below w.heap.size w wc))
  case first =>
    have H := HC3.out
    clear HC3
    by_cases c4 : (a0.size : Int) > 50
    · rw [if_pos c4] at H
      have c4b0 : decide (50 < (a0.size : Int)) = true := decide_eq_true c4
      have c4b1 : decide (50 < a0.size) = true := decide_eq_true (by omega)
      clear c4
      (first | rw [c4b0] | (simp only [i64_w, i32_w]; rw [c4b0]) | skip)
      have H' := Aside0.mk H
      clear H
      go_wp2
      go_meet
      case rel => exact ⟨_, (true), (by first | rfl | (simp; done) | (simp [*]; done)), H', ⟨by first | omega | exact Nat.le_refl _⟩, ⟨by repeat (first | (with_reducible first | exact HB.out | apply below_alloc | apply pw_below_drewN | apply below_drew1) | exact HB.out)⟩⟩
    · rw [if_neg c4] at H
      have c4b0 : decide (50 < (a0.size : Int)) = false := decide_eq_false c4
      have c4b1 : decide (50 < a0.size) = false := decide_eq_false (by omega)
      clear c4
      (first | rw [c4b0] | (simp only [i64_w, i32_w]; rw [c4b0]) | skip)
      have H' := Aside0.mk H
      clear H
      go_wp2
      go_meet
      case rel => exact ⟨_, (decide ((a1.size : Int) > 50)), (by first | rfl | (simp; done) | (simp [*]; done)), H', ⟨by first | omega | exact Nat.le_refl _⟩, ⟨by repeat (first | (with_reducible first | exact HB.out | apply below_alloc | apply pw_below_drewN | apply below_drew1) | exact HB.out)⟩⟩
  case rest =>
    clear HC3
    try clear p2
    try clear c4
    try clear c4b0
    try clear c4b1
    obtain ⟨kq, x16_2, rfl, HA, HJ2, HB⟩ := hcut
    cases kq with
    | zero => exact absurd HA.out (by simp [sentrylaw3_SpaceWithin.j0])
    | succ kj2 =>
      have H := HA.out
      clear HA
      simp only [sentrylaw3_SpaceWithin.j0] at H
      by_cases c5 : x16_2 = true
      · subst c5
        have H1 : (some true) = some r := by rw [if_pos rfl] at H; exact H
        clear H
        have H := H1
        clear H1
        obtain rfl := Option.some.inj H
        go_wp2
        go_ret
        exact ⟨by first | rfl | (simp [errW_none, errW_some] <;> rfl) | (simp [*, errW_none, errW_some] <;> rfl), by repeat (first | (with_reducible first | exact HB.out | apply below_alloc | apply pw_below_drewN | apply below_drew1) | exact HB.out)⟩
      · replace c5 := Bool.eq_false_iff.mpr c5
        subst c5
        have H1 : ((space_Resolve.f kj2 (⟨#[97]⟩ : ByteArray) (([(⟨(⟨#[120, 109, 108, 110, 115]⟩ : ByteArray), a0⟩ : S35)] : List (S35))) (([(⟨(⟨#[98]⟩ : ByteArray), (([(⟨(⟨#[120, 109, 108, 110, 115]⟩ : ByteArray), a1⟩ : S35)] : List (S35))), (([(⟨(⟨#[99]⟩ : ByteArray), ([] : List (S35)), ([] : List (S32)), 0⟩ : S32)] : List (S32))), 0⟩ : S32), (⟨(⟨#[100]⟩ : ByteArray), ([] : List (S35)), ([] : List (S32)), 0⟩ : S32)] : List (S32))) 0).bind fun bt256 => (if bt256.2.2.2.2.2.2 = 0 then (if (bt256.2.2.2.1.length : Int) = 2 then (if 0 < (bt256.2.2.2.1.length : Int) then (if (((rd_T26 bt256.2.2.2.1 0).f3).length : Int) = 1 then (if bt256.1.toList = a0.toList then (if ((rd_T26 bt256.2.2.2.1 0).f0).toList = a1.toList then (if 0 < (((rd_T26 bt256.2.2.2.1 0).f3).length : Int) then (if ((rd_T26 ((rd_T26 bt256.2.2.2.1 0).f3) 0).f0).toList = a1.toList then (if 1 < (bt256.2.2.2.1.length : Int) then (if ((rd_T26 bt256.2.2.2.1 1).f0).toList = a0.toList then ((sentrylaw3_known.f kj2).bind fun t273 => (some t273)) else (some false)) else (none)) else (some false)) else (none)) else (some false)) else (some false)) else (some false)) else (none)) else (some false)) else (some false))) = some r := by rw [if_neg (show ¬ (false = true) by decide)] at H; exact H
        clear H
        have H := H1
        clear H1
        obtain ⟨y243, hy243⟩ : ∃ y_ : List (S35), y_ = (([(⟨(⟨#[120, 109, 108, 110, 115]⟩ : ByteArray), a1⟩ : S35)] : List (S35))) := ⟨_, rfl⟩
        replace H : ((space_Resolve.f kj2 (⟨#[97]⟩ : ByteArray) (([(⟨(⟨#[120, 109, 108, 110, 115]⟩ : ByteArray), a0⟩ : S35)] : List (S35))) (([(⟨(⟨#[98]⟩ : ByteArray), y243, (([(⟨(⟨#[99]⟩ : ByteArray), ([] : List (S35)), ([] : List (S32)), 0⟩ : S32)] : List (S32))), 0⟩ : S32), (⟨(⟨#[100]⟩ : ByteArray), ([] : List (S35)), ([] : List (S32)), 0⟩ : S32)] : List (S32))) 0).bind fun bt256 => (if bt256.2.2.2.2.2.2 = 0 then (if (bt256.2.2.2.1.length : Int) = 2 then (if 0 < (bt256.2.2.2.1.length : Int) then (if (((rd_T26 bt256.2.2.2.1 0).f3).length : Int) = 1 then (if bt256.1.toList = a0.toList then (if ((rd_T26 bt256.2.2.2.1 0).f0).toList = a1.toList then (if 0 < (((rd_T26 bt256.2.2.2.1 0).f3).length : Int) then (if ((rd_T26 ((rd_T26 bt256.2.2.2.1 0).f3) 0).f0).toList = a1.toList then (if 1 < (bt256.2.2.2.1.length : Int) then (if ((rd_T26 bt256.2.2.2.1 1).f0).toList = a0.toList then ((sentrylaw3_known.f kj2).bind fun t273 => (some t273)) else (some false)) else (none)) else (some false)) else (none)) else (some false)) else (some false)) else (some false)) else (none)) else (some false)) else (some false))) = some r := by first | (rw [hy243]; with_reducible exact H) | (have H2_ := (Option.bind_some _ _).symm.trans H; rw [hy243]; with_reducible exact H2_) | (have H2_ := (Option.bind_some _ _).symm.trans H; with_reducible exact H2_) | with_reducible exact H | (rw [hy243]; exact H) | exact H
        have Ny243 := Aside0.mk hy243
        clear hy243
        obtain ⟨y246, hy246⟩ : ∃ y_ : List (S32), y_ = (([(⟨(⟨#[99]⟩ : ByteArray), ([] : List (S35)), ([] : List (S32)), 0⟩ : S32)] : List (S32))) := ⟨_, rfl⟩
        replace H : ((space_Resolve.f kj2 (⟨#[97]⟩ : ByteArray) (([(⟨(⟨#[120, 109, 108, 110, 115]⟩ : ByteArray), a0⟩ : S35)] : List (S35))) (([(⟨(⟨#[98]⟩ : ByteArray), y243, y246, 0⟩ : S32), (⟨(⟨#[100]⟩ : ByteArray), ([] : List (S35)), ([] : List (S32)), 0⟩ : S32)] : List (S32))) 0).bind fun bt256 => (if bt256.2.2.2.2.2.2 = 0 then (if (bt256.2.2.2.1.length : Int) = 2 then (if 0 < (bt256.2.2.2.1.length : Int) then (if (((rd_T26 bt256.2.2.2.1 0).f3).length : Int) = 1 then (if bt256.1.toList = a0.toList then (if ((rd_T26 bt256.2.2.2.1 0).f0).toList = a1.toList then (if 0 < (((rd_T26 bt256.2.2.2.1 0).f3).length : Int) then (if ((rd_T26 ((rd_T26 bt256.2.2.2.1 0).f3) 0).f0).toList = a1.toList then (if 1 < (bt256.2.2.2.1.length : Int) then (if ((rd_T26 bt256.2.2.2.1 1).f0).toList = a0.toList then ((sentrylaw3_known.f kj2).bind fun t273 => (some t273)) else (some false)) else (none)) else (some false)) else (none)) else (some false)) else (some false)) else (some false)) else (none)) else (some false)) else (some false))) = some r := by first | (rw [hy246]; with_reducible exact H) | (have H2_ := (Option.bind_some _ _).symm.trans H; rw [hy246]; with_reducible exact H2_) | (have H2_ := (Option.bind_some _ _).symm.trans H; with_reducible exact H2_) | with_reducible exact H | (rw [hy246]; exact H) | exact H
        have Ny246 := Aside0.mk hy246
        clear hy246
        obtain ⟨y250, hy250⟩ : ∃ y_ : List (S35), y_ = (([(⟨(⟨#[120, 109, 108, 110, 115]⟩ : ByteArray), a0⟩ : S35)] : List (S35))) := ⟨_, rfl⟩
        replace H : ((space_Resolve.f kj2 (⟨#[97]⟩ : ByteArray) y250 (([(⟨(⟨#[98]⟩ : ByteArray), y243, y246, 0⟩ : S32), (⟨(⟨#[100]⟩ : ByteArray), ([] : List (S35)), ([] : List (S32)), 0⟩ : S32)] : List (S32))) 0).bind fun bt256 => (if bt256.2.2.2.2.2.2 = 0 then (if (bt256.2.2.2.1.length : Int) = 2 then (if 0 < (bt256.2.2.2.1.length : Int) then (if (((rd_T26 bt256.2.2.2.1 0).f3).length : Int) = 1 then (if bt256.1.toList = a0.toList then (if ((rd_T26 bt256.2.2.2.1 0).f0).toList = a1.toList then (if 0 < (((rd_T26 bt256.2.2.2.1 0).f3).length : Int) then (if ((rd_T26 ((rd_T26 bt256.2.2.2.1 0).f3) 0).f0).toList = a1.toList then (if 1 < (bt256.2.2.2.1.length : Int) then (if ((rd_T26 bt256.2.2.2.1 1).f0).toList = a0.toList then ((sentrylaw3_known.f kj2).bind fun t273 => (some t273)) else (some false)) else (none)) else (some false)) else (none)) else (some false)) else (some false)) else (some false)) else (none)) else (some false)) else (some false))) = some r := by first | (rw [hy250]; with_reducible exact H) | (have H2_ := (Option.bind_some _ _).symm.trans H; rw [hy250]; with_reducible exact H2_) | (have H2_ := (Option.bind_some _ _).symm.trans H; with_reducible exact H2_) | with_reducible exact H | (rw [hy250]; exact H) | exact H
        have Ny250 := Aside0.mk hy250
        clear hy250
        obtain ⟨y253, hy253⟩ : ∃ y_ : List (S32), y_ = (([(⟨(⟨#[98]⟩ : ByteArray), y243, y246, 0⟩ : S32), (⟨(⟨#[100]⟩ : ByteArray), ([] : List (S35)), ([] : List (S32)), 0⟩ : S32)] : List (S32))) := ⟨_, rfl⟩
        replace H : ((space_Resolve.f kj2 (⟨#[97]⟩ : ByteArray) y250 y253 0).bind fun bt256 => (if bt256.2.2.2.2.2.2 = 0 then (if (bt256.2.2.2.1.length : Int) = 2 then (if 0 < (bt256.2.2.2.1.length : Int) then (if (((rd_T26 bt256.2.2.2.1 0).f3).length : Int) = 1 then (if bt256.1.toList = a0.toList then (if ((rd_T26 bt256.2.2.2.1 0).f0).toList = a1.toList then (if 0 < (((rd_T26 bt256.2.2.2.1 0).f3).length : Int) then (if ((rd_T26 ((rd_T26 bt256.2.2.2.1 0).f3) 0).f0).toList = a1.toList then (if 1 < (bt256.2.2.2.1.length : Int) then (if ((rd_T26 bt256.2.2.2.1 1).f0).toList = a0.toList then ((sentrylaw3_known.f kj2).bind fun t273 => (some t273)) else (some false)) else (none)) else (some false)) else (none)) else (some false)) else (some false)) else (some false)) else (none)) else (some false)) else (some false))) = some r := by first | (rw [hy253]; with_reducible exact H) | (have H2_ := (Option.bind_some _ _).symm.trans H; rw [hy253]; with_reducible exact H2_) | (have H2_ := (Option.bind_some _ _).symm.trans H; with_reducible exact H2_) | with_reducible exact H | (rw [hy253]; exact H) | exact H
        have Ny253 := Aside0.mk hy253
        clear hy253
        replace H := Option.bind_eq_some_iff.mp H
        obtain ⟨⟨t256, t257, t258, t261, t264, t265, t266⟩, A60, H⟩ := H
        replace H : (if t266 = 0 then (if (t261.length : Int) = 2 then (if 0 < (t261.length : Int) then (if (((rd_T26 t261 0).f3).length : Int) = 1 then (if t256.toList = a0.toList then (if ((rd_T26 t261 0).f0).toList = a1.toList then (if 0 < (((rd_T26 t261 0).f3).length : Int) then (if ((rd_T26 ((rd_T26 t261 0).f3) 0).f0).toList = a1.toList then (if 1 < (t261.length : Int) then (if ((rd_T26 t261 1).f0).toList = a0.toList then ((sentrylaw3_known.f kj2).bind fun t273 => (some t273)) else (some false)) else (none)) else (some false)) else (none)) else (some false)) else (some false)) else (some false)) else (none)) else (some false)) else (some false)) = some r := H
        have A6 := Aside0.mk A60
        clear A60
        by_cases c7 : t266 = 0
        · rw [if_pos c7] at H
          have c7b0 : (t266 == 0) = true := beq_iff_eq.mpr c7
          have c7b1 : (t266 != 0) = false := bne_eq_false_iff_eq.mpr c7
          clear c7
          by_cases c8 : (t261.length : Int) = 2
          · rw [if_pos c8] at H
            have c8b0 : ((t261.length : Int) == 2) = true := beq_iff_eq.mpr c8
            have c8b1 : ((t261.length : Int) != 2) = false := bne_eq_false_iff_eq.mpr c8
            clear c8
            by_cases c9 : 0 < (t261.length : Int)
            · rw [if_pos c9] at H
              have c9b0 : decide (0 < (t261.length : Int)) = true := decide_eq_true c9
              have c9b1 : decide (0 < t261.length) = true := decide_eq_true (by omega)
              clear c9
              have HC10 := Aside0.mk H
              clear H
              go_upto_if 51 with (first | ((with_reducible refine gate_dst (N := 19) rfl ?_); (try (refine gate_guard (by rfl) ?_; dsimp only)); refine Kd.R_lit k35 _ 35 ?hg (N := 19) ?hd (xs := ([(⟨(⟨#[120, 109, 108, 110, 115]⟩ : ByteArray), a1⟩ : S35)] : List (S35))) (inner := [.string (⟨#[120, 109, 108, 110, 115]⟩ : ByteArray), .string a1]) (ok := fun _ => True) (okp := fun _ => True) ?hr ?hp (fun _ hk => hk) trivial (Below.refl _ _) (Nat.le_refl _) (by simp) ?_; (case hd => rfl); (case hg => rfl); (case hr => first | (go_simp; done) | (go_simp; rfl)); (case hp => exact (Reps.c2 (show Kd.M k35 _ _ _ (⟨(⟨#[120, 109, 108, 110, 115]⟩ : ByteArray), a1⟩ : S35) [.string (⟨#[120, 109, 108, 110, 115]⟩ : ByteArray), .string a1] from (k35_mkM _ _ _ (⟨(⟨#[120, 109, 108, 110, 115]⟩ : ByteArray), a1⟩ : S35) )) (Reps.none _ _))); intro v244 w11 ho12 hb hg_ hnew_; clear hg_ hnew_; (first | rw [← Ny243.out] at ho12 | (simp only [Int.reduceToNat] at ho12; rw [← Ny243.out] at ho12)); have n0_ := Aside0.mk (Kd.R_lower ho12 (below_size (by repeat (first | (with_reducible first | exact HB.out | apply below_alloc | apply pw_below_drewN | apply below_drew1) | exact HB.out)))); have n1_ := Aside0.mk (below_step (by repeat (first | (with_reducible first | exact HB.out | apply below_alloc | apply pw_below_drewN | apply below_drew1) | exact HB.out)) hb); clear HB; have HO245 := n0_; have HB := n1_; clear n0_ n1_; clear hb ho12) | ((with_reducible refine gate_dst (N := 21) rfl ?_); (try (refine gate_guard (by rfl) ?_; dsimp only)); refine Kd.N_lit k32 _ 32 ?hg (N' := 21) ?hd (xs := ([(⟨(⟨#[99]⟩ : ByteArray), ([] : List (S35)), ([] : List (S32)), 0⟩ : S32)] : List (S32))) (inner := [.string (⟨#[99]⟩ : ByteArray), .slice none 0 0, .slice none 0 0, .int .i64 0]) (ok := (fun k_ => some k_ ≠ (v244 : Value).ownBlock)) (okp := (fun k_ => some k_ ≠ (v244 : Value).ownBlock)) ?hr ?hp (fun _ hk => hk) ((show ∀ k_, w11.heap.size ≤ k_ → (fun k_ => some k_ ≠ (v244 : Value).ownBlock) k_ from fun k_ hk => Kd.fresh' (Kd.R_lt (by (with_reducible repeat (first | apply Kd.R_alloc | apply Kd.R_drewN | apply Kd.R_drew)); exact HO245.out)) k_ hk) _ (Nat.le_refl _)) (Below.refl _ _) (Nat.le_refl _) (by simp) ?_; (case hd => rfl); (case hg => rfl); (case hr => first | (go_simp; done) | (go_simp; rfl)); (case hp => exact (Reps.c4 (show Kd.FK k32 _ _ (⟨(⟨#[99]⟩ : ByteArray), ([] : List (S35)), ([] : List (S32)), 0⟩ : S32) [.string (⟨#[99]⟩ : ByteArray), .slice none 0 0, .slice none 0 0, .int .i64 0] from (k32_mkF _ _ (⟨(⟨#[99]⟩ : ByteArray), ([] : List (S35)), ([] : List (S32)), 0⟩ : S32) (Nat.le_refl _) (Kd.F_nil _ _ _) (Nat.le_refl _) (Kd.F_nil _ _ _))) (Reps.none _ _))); intro v247 w13 ho14 hb hg_ hnew_; clear hg_ hnew_; (first | rw [← Ny246.out] at ho14 | (simp only [Int.reduceToNat] at ho14; rw [← Ny246.out] at ho14)); have n0_ := Aside0.mk (Kd.R_below (by (with_reducible repeat (first | apply Kd.R_alloc | apply Kd.R_drewN | apply Kd.R_drew)); exact HO245.out) hb); have n1_ := Aside0.mk (Kd.N_lower ho14 (below_size (by repeat (first | (with_reducible first | exact HB.out | apply below_alloc | apply pw_below_drewN | apply below_drew1) | exact HB.out)))); have n2_ := Aside0.mk (below_step (by repeat (first | (with_reducible first | exact HB.out | apply below_alloc | apply pw_below_drewN | apply below_drew1) | exact HB.out)) hb); clear HO245; clear HB; have HO245 := n0_; have HO248 := n1_; have HB := n2_; clear n0_ n1_ n2_; clear hb ho14; obtain ⟨Ao15, co15, eo15⟩ := Kd.N_slice HO248.out; subst eo15; obtain ⟨Ao16, co16, eo16⟩ := Kd.R_slice HO245.out; subst eo16) | ((with_reducible refine gate_dst (N := 5) rfl ?_); (try (refine gate_guard (by rfl) ?_; dsimp only)); refine box_event ?hg (N := 5) ?hd (cs := #[.string (⟨#[]⟩ : ByteArray), .slice none 0 0, .slice none 0 0, .int .i64 0]) (t := 32) ?hr ?_; (case hd => rfl); (case hg => rfl); (case hr => first | (go_simp; done) | (go_simp; rfl)); intro gb249 hg w17 hbox hb; have n0_ := Aside0.mk (Kd.R_below (by (with_reducible repeat (first | apply Kd.R_alloc | apply Kd.R_drewN | apply Kd.R_drew)); exact HO245.out) hb); have n1_ := Aside0.mk (Kd.N_below (Kd.N_elderB (by (with_reducible repeat (first | apply Kd.N_alloc | apply Kd.N_drewN | apply Kd.N_drew)); exact HO248.out) gb249 (Nat.le_of_eq hg.symm)) hb); have n2_ := Aside0.mk (below_step (by repeat (first | (with_reducible first | exact HB.out | apply below_alloc | apply pw_below_drewN | apply below_drew1) | exact HB.out)) hb); have n3_ := Aside0.mk (hbox); have n4_ := Aside0.mk ((by rw [hg]; exact (below_size (by repeat (first | (with_reducible first | exact HB.out | apply below_alloc | apply pw_below_drewN | apply below_drew1) | exact HB.out))) : w.heap.size ≤ gb249)); have n5_ := Aside0.mk ((by rw [hg]; exact (below_size (by repeat (first | (with_reducible first | exact HB.out | apply below_alloc | apply pw_below_drewN | apply below_drew1) | exact HB.out))) : w.heap.size ≤ gb249)); clear HO245; clear HO248; clear HB; have HO245 := n0_; have HO248 := n1_; have HB := n2_; have BK249 := n3_; have GW249 := n4_; have GE249 := n5_; clear n0_ n1_ n2_ n3_ n4_ n5_; clear hb hbox hg; have hcz18_0 : w17.cell? ⟨gb249, 0, none⟩ = some (.string (⟨#[]⟩ : ByteArray)) := (blk_cell BK249.out 0).trans rfl; have hcz18_1 : w17.cell? ⟨gb249, 1, none⟩ = some (.slice none 0 0) := (blk_cell BK249.out 1).trans rfl; have hcz18_2 : w17.cell? ⟨gb249, 2, none⟩ = some (.slice none 0 0) := (blk_cell BK249.out 2).trans rfl; have hcz18_3 : w17.cell? ⟨gb249, 3, none⟩ = some (.int .i64 0) := (blk_cell BK249.out 3).trans rfl; have hfz18_0 := blk_frozen BK249.out 0; have hfz18_1 := blk_frozen BK249.out 1; have hfz18_2 := blk_frozen BK249.out 2; have hfz18_3 := blk_frozen BK249.out 3) | ((with_reducible refine gate_dst (N := 26) rfl ?_); (try (refine gate_guard (by rfl) ?_; dsimp only)); refine Kd.R_lit k35 _ 35 ?hg (N := 26) ?hd (xs := ([(⟨(⟨#[120, 109, 108, 110, 115]⟩ : ByteArray), a0⟩ : S35)] : List (S35))) (inner := [.string (⟨#[120, 109, 108, 110, 115]⟩ : ByteArray), .string a0]) (ok := fun _ => True) (okp := fun _ => True) ?hr ?hp (fun _ hk => hk) trivial (Below.refl _ _) (Nat.le_refl _) (by simp) ?_; (case hd => rfl); (case hg => rfl); (case hr => first | (go_simp; done) | (go_simp; rfl)); (case hp => exact (Reps.c2 (show Kd.M k35 _ _ _ (⟨(⟨#[120, 109, 108, 110, 115]⟩ : ByteArray), a0⟩ : S35) [.string (⟨#[120, 109, 108, 110, 115]⟩ : ByteArray), .string a0] from (k35_mkM _ _ _ (⟨(⟨#[120, 109, 108, 110, 115]⟩ : ByteArray), a0⟩ : S35) )) (Reps.none _ _))); intro v251 w19 ho20 hb hg_ hnew_; clear hg_ hnew_; (first | rw [← Ny250.out] at ho20 | (simp only [Int.reduceToNat] at ho20; rw [← Ny250.out] at ho20)); have n0_ := Aside0.mk (Kd.R_elder' (by (with_reducible repeat (first | apply Kd.R_alloc | apply Kd.R_drewN | apply Kd.R_drew)); exact (Kd.R_mono (Kd.R_far (p := ⟨gb249, 3, none⟩) (Kd.R_far (p := ⟨gb249, 2, none⟩) (Kd.R_far (p := ⟨gb249, 1, none⟩) (Kd.R_far (p := ⟨gb249, 0, none⟩) (Kd.R_types HO245.out BK249.out (by decide)) (fun _ hk => hk.2) (.string (⟨#[98]⟩ : ByteArray))) (fun _ hk => hk.2) (.slice Ao16 y243.length co16)) (fun _ hk => hk.2) (.slice Ao15 y246.length co15)) (fun _ hk => hk.2) (.int .i64 0)) (fun _ h_ => h_.1))) (Kd.R_base ho20) hb); have n1_ := Aside0.mk (Kd.N_elder' (by (with_reducible repeat (first | apply Kd.N_alloc | apply Kd.N_drewN | apply Kd.N_drew)); exact (Kd.N_mono (Kd.N_far (p := ⟨gb249, 3, none⟩) (Kd.N_far (p := ⟨gb249, 2, none⟩) (Kd.N_far (p := ⟨gb249, 1, none⟩) (Kd.N_far (p := ⟨gb249, 0, none⟩) (Kd.N_mono HO248.out (fun k_ hk => (⟨hk, hk.2⟩ : _ ∧ k_ ≠ gb249))) (fun _ hk => hk.2) (.string (⟨#[98]⟩ : ByteArray))) (fun _ hk => hk.2) (.slice Ao16 y243.length co16)) (fun _ hk => hk.2) (.slice Ao15 y246.length co15)) (fun _ hk => hk.2) (.int .i64 0)) (fun _ h_ => h_.1))) (Kd.R_base ho20) hb); have n2_ := Aside0.mk (Kd.R_lower (Kd.R_new' ho20 (Kd.R_lt (by (with_reducible repeat (first | apply Kd.R_alloc | apply Kd.R_drewN | apply Kd.R_drew)); exact (Kd.R_mono (Kd.R_far (p := ⟨gb249, 3, none⟩) (Kd.R_far (p := ⟨gb249, 2, none⟩) (Kd.R_far (p := ⟨gb249, 1, none⟩) (Kd.R_far (p := ⟨gb249, 0, none⟩) (Kd.R_types HO245.out BK249.out (by decide)) (fun _ hk => hk.2) (.string (⟨#[98]⟩ : ByteArray))) (fun _ hk => hk.2) (.slice Ao16 y243.length co16)) (fun _ hk => hk.2) (.slice Ao15 y246.length co15)) (fun _ hk => hk.2) (.int .i64 0)) (fun _ h_ => h_.1))))) (below_size (by repeat (first | (with_reducible first | exact HB.out | apply below_alloc | apply pw_below_drewN | apply below_drew1 | refine below_set ?_ GE249.out) | exact HB.out)))); have n3_ := Aside0.mk (blk_below (g := gb249) (o := .cells #[.string (⟨#[98]⟩ : ByteArray), .slice Ao16 y243.length co16, .slice Ao15 y246.length co15, .int .i64 0] 32 (0, 0)) (by (with_reducible repeat (first | refine blk_drewN ?_ _ | refine blk_drew ?_ | refine blk_alloc ?_ _)); refine blk_put (cs := #[.string (⟨#[98]⟩ : ByteArray), .slice Ao16 y243.length co16, .slice Ao15 y246.length co15, .int .i64 0]) ?_ 3 _ rfl; (with_reducible repeat (first | refine blk_drewN ?_ _ | refine blk_drew ?_ | refine blk_alloc ?_ _)); refine blk_put (cs := #[.string (⟨#[98]⟩ : ByteArray), .slice Ao16 y243.length co16, .slice none 0 0, .int .i64 0]) ?_ 2 _ rfl; (with_reducible repeat (first | refine blk_drewN ?_ _ | refine blk_drew ?_ | refine blk_alloc ?_ _)); refine blk_put (cs := #[.string (⟨#[98]⟩ : ByteArray), .slice none 0 0, .slice none 0 0, .int .i64 0]) ?_ 1 _ rfl; (with_reducible repeat (first | refine blk_drewN ?_ _ | refine blk_drew ?_ | refine blk_alloc ?_ _)); refine blk_put (cs := #[.string (⟨#[]⟩ : ByteArray), .slice none 0 0, .slice none 0 0, .int .i64 0]) ?_ 0 _ rfl; (with_reducible repeat (first | refine blk_drewN ?_ _ | refine blk_drew ?_ | refine blk_alloc ?_ _)); exact BK249.out) hb); have n4_ := Aside0.mk (below_step (by repeat (first | (with_reducible first | exact HB.out | apply below_alloc | apply pw_below_drewN | apply below_drew1 | refine below_set ?_ GE249.out) | exact HB.out)) hb); clear HO245; clear HO248; clear BK249; clear HB; have HO245 := n0_; have HO248 := n1_; have HO252 := n2_; have BK249 := n3_; have HB := n4_; clear n0_ n1_ n2_ n3_ n4_; clear hb ho20; have hcz21_0 : w19.cell? ⟨gb249, 0, none⟩ = some (.string (⟨#[98]⟩ : ByteArray)) := (blk_cell BK249.out 0).trans rfl; have hcz21_1 : w19.cell? ⟨gb249, 1, none⟩ = some (.slice Ao16 y243.length co16) := (blk_cell BK249.out 1).trans rfl; have hcz21_2 : w19.cell? ⟨gb249, 2, none⟩ = some (.slice Ao15 y246.length co15) := (blk_cell BK249.out 2).trans rfl; have hcz21_3 : w19.cell? ⟨gb249, 3, none⟩ = some (.int .i64 0) := (blk_cell BK249.out 3).trans rfl; have hfz21_0 := blk_frozen BK249.out 0; have hfz21_1 := blk_frozen BK249.out 1; have hfz21_2 := blk_frozen BK249.out 2; have hfz21_3 := blk_frozen BK249.out 3) | ((with_reducible refine gate_dst (N := 29) rfl ?_); (try (refine gate_guard (by rfl) ?_; dsimp only)); refine Kd.N_lit k32 _ 32 ?hg (N' := 29) ?hd (xs := ([(⟨(⟨#[98]⟩ : ByteArray), y243, y246, 0⟩ : S32), (⟨(⟨#[100]⟩ : ByteArray), ([] : List (S35)), ([] : List (S32)), 0⟩ : S32)] : List (S32))) (inner := [.string (⟨#[98]⟩ : ByteArray), .slice Ao16 y243.length co16, .slice Ao15 y246.length co15, .int .i64 0, .string (⟨#[100]⟩ : ByteArray), .slice none 0 0, .slice none 0 0, .int .i64 0]) (ok := (fun k_ => some k_ ≠ (v251 : Value).ownBlock ∧ k_ ≠ gb249)) (okp := (fun k_ => some k_ ≠ (v251 : Value).ownBlock ∧ k_ ≠ gb249)) ?hr ?hp (fun _ hk => hk) ((show ∀ k_, w19.heap.size ≤ k_ → (fun k_ => some k_ ≠ (v251 : Value).ownBlock ∧ k_ ≠ gb249) k_ from fun k_ hk => ⟨Kd.fresh' (Kd.R_lt (by (with_reducible repeat (first | apply Kd.R_alloc | apply Kd.R_drewN | apply Kd.R_drew)); exact HO252.out)) k_ hk, Kd.freshB (g := gb249) (o := .cells #[.string (⟨#[98]⟩ : ByteArray), .slice Ao16 y243.length co16, .slice Ao15 y246.length co15, .int .i64 0] 32 (0, 0)) (by (with_reducible repeat (first | refine blk_drewN ?_ _ | refine blk_drew ?_ | refine blk_alloc ?_ _)); exact BK249.out) k_ hk⟩) _ (Nat.le_refl _)) (Below.refl _ _) (Nat.le_refl _) (by simp) ?_; (case hd => rfl); (case hg => rfl); (case hr => first | (go_simp; done) | (go_simp; rfl)); (case hp => exact (Reps.c4 (show Kd.FK k32 _ _ (⟨(⟨#[98]⟩ : ByteArray), y243, y246, 0⟩ : S32) [.string (⟨#[98]⟩ : ByteArray), .slice Ao16 y243.length co16, .slice Ao15 y246.length co15, .int .i64 0] from (k32_mkF _ _ (⟨(⟨#[98]⟩ : ByteArray), y243, y246, 0⟩ : S32) (Kd.R_reads' (Kd.R_mono (ok' := (fun k_ => some k_ ≠ (v251 : Value).ownBlock ∧ k_ ≠ gb249)) (Kd.R_types (HO245.out) BK249.out (by decide)) (fun k_ hk => ⟨hk.1.2, hk.2⟩))).2.1 (Kd.R_F (Kd.R_mono (ok' := (fun k_ => some k_ ≠ (v251 : Value).ownBlock ∧ k_ ≠ gb249)) (Kd.R_types (HO245.out) BK249.out (by decide)) (fun k_ hk => ⟨hk.1.2, hk.2⟩))) (Kd.N_reads' (Kd.N_mono (ok' := (fun k_ => some k_ ≠ (v251 : Value).ownBlock ∧ k_ ≠ gb249)) (HO248.out) (fun k_ hk => ⟨hk.2, hk.1.2⟩))).2.1 (Kd.N_F (Kd.N_mono (ok' := (fun k_ => some k_ ≠ (v251 : Value).ownBlock ∧ k_ ≠ gb249)) (HO248.out) (fun k_ hk => ⟨hk.2, hk.1.2⟩))))) (Reps.c4 (show Kd.FK k32 _ _ (⟨(⟨#[100]⟩ : ByteArray), ([] : List (S35)), ([] : List (S32)), 0⟩ : S32) [.string (⟨#[100]⟩ : ByteArray), .slice none 0 0, .slice none 0 0, .int .i64 0] from (k32_mkF _ _ (⟨(⟨#[100]⟩ : ByteArray), ([] : List (S35)), ([] : List (S32)), 0⟩ : S32) (Nat.le_refl _) (Kd.F_nil _ _ _) (Nat.le_refl _) (Kd.F_nil _ _ _))) (Reps.none _ _)))); intro v254 w22 ho23 hb hg_ hnew_; clear hg_ hnew_; (first | rw [← Ny253.out] at ho23 | (simp only [Int.reduceToNat] at ho23; rw [← Ny253.out] at ho23)); have n0_ := Aside0.mk (Kd.R_below (by (with_reducible repeat (first | apply Kd.R_alloc | apply Kd.R_drewN | apply Kd.R_drew)); exact HO252.out) hb); have n1_ := Aside0.mk (Kd.N_lower ho23 (below_size (by repeat (first | (with_reducible first | exact HB.out | apply below_alloc | apply pw_below_drewN | apply below_drew1 | refine below_set ?_ GE249.out) | exact HB.out)))); have n2_ := Aside0.mk (blk_below (g := gb249) (o := .cells #[.string (⟨#[98]⟩ : ByteArray), .slice Ao16 y243.length co16, .slice Ao15 y246.length co15, .int .i64 0] 32 (0, 0)) (by (with_reducible repeat (first | refine blk_drewN ?_ _ | refine blk_drew ?_ | refine blk_alloc ?_ _)); exact BK249.out) hb); have n3_ := Aside0.mk (below_step (by repeat (first | (with_reducible first | exact HB.out | apply below_alloc | apply pw_below_drewN | apply below_drew1 | refine below_set ?_ GE249.out) | exact HB.out)) hb); clear HO252; clear BK249; clear HB; clear HO245; clear HO248; have HO252 := n0_; have HO255 := n1_; have BK249 := n2_; have HB := n3_; clear n0_ n1_ n2_ n3_; clear hb ho23; obtain ⟨Ao24, co24, eo24⟩ := Kd.N_slice HO255.out; subst eo24; obtain ⟨Ao25, co25, eo25⟩ := Kd.R_slice HO252.out; subst eo25) | ((with_reducible refine gate_callee (f := 11) rfl ?_); refine goesL_ (some 31) rfl rfl Try.func11 (by kernel_rfl) rfl #[.agg #[.string (⟨#[97]⟩ : ByteArray), .slice Ao25 y250.length co25, .slice Ao24 y253.length co24, .int .i64 0]] rfl (by (try simp only [List.map_toArray, List.map_cons, List.map_nil]); first | done | rfl | (simp only [List.length_drop, List.length_take]; rfl)) ?_; (with_reducible refine (space_Resolve.calls kj2 (⟨#[97]⟩ : ByteArray) _ _ y250 _ _ y253 0 t256 t257 t258 t261 t264 t265 t266 _ ?side1 ?side2 ?side3 ?side4 A6.out).mono ?_); (case side1 => repeat (first | exact (Kd.R_reads' HO252.out).2.2 | (with_reducible refine Kd.C_alloc ?_ _) | (with_reducible refine Kd.C_drewN ?_ _) | (with_reducible refine Kd.C_drew ?_))); (case side2 => exact (Kd.R_reads' HO252.out).2.1); (case side3 => repeat (first | exact (Kd.N_reads' HO255.out).2.2 | (with_reducible refine Kd.C_alloc ?_ _) | (with_reducible refine Kd.C_drewN ?_ _) | (with_reducible refine Kd.C_drew ?_))); (case side4 => exact (Kd.N_reads' HO255.out).2.1); rintro e w26 ⟨v259, v262, rfl, ho0, ho1, hb⟩; refine ⟨_, rfl, ?_⟩; have n0_ := Aside0.mk (Kd.R_elder' (by (with_reducible repeat (first | apply Kd.R_alloc | apply Kd.R_drewN | apply Kd.R_drew)); exact HO252.out) (Kd.R_base ho0) hb); have n1_ := Aside0.mk (Kd.N_mono (Kd.N_told (Kd.N_told (Kd.N_old (by (with_reducible repeat (first | apply Kd.N_alloc | apply Kd.N_drewN | apply Kd.N_drew)); exact HO255.out) hb) (Kd.R_base ho0)) (by first | exact Kd.N_base ho1 | exact Kd.R_base ho1)) (fun _ h_ => h_.1)); have n2_ := Aside0.mk (Kd.R_lower (Kd.R_new' ho0 (Kd.R_lt (by (with_reducible repeat (first | apply Kd.R_alloc | apply Kd.R_drewN | apply Kd.R_drew)); exact HO252.out))) (below_size (by repeat (first | (with_reducible first | exact HB.out | apply below_alloc | apply pw_below_drewN | apply below_drew1 | refine below_set ?_ GE249.out) | exact HB.out)))); have n3_ := Aside0.mk (Kd.N_lower (Kd.N_mono (ok' := fun k_ => some k_ ≠ (v259 : Value).ownBlock ∧ some k_ ≠ (.slice Ao25 y250.length co25 : Value).ownBlock ∧ some k_ ≠ (.slice Ao24 y253.length co24 : Value).ownBlock ∧ k_ ≠ gb249) (Kd.R_N (Kd.R_bound ho1)) (fun k_ hk_ => ⟨hk_.1, (Kd.fresh' (Kd.R_lt (by (with_reducible repeat (first | apply Kd.R_alloc | apply Kd.R_drewN | apply Kd.R_drew)); exact HO252.out)) k_ hk_.2.1), (Kd.fresh' (Kd.N_lt (by (with_reducible repeat (first | apply Kd.N_alloc | apply Kd.N_drewN | apply Kd.N_drew)); exact HO255.out)) k_ hk_.2.1), (Kd.freshB (g := gb249) (o := .cells #[.string (⟨#[98]⟩ : ByteArray), .slice Ao16 y243.length co16, .slice Ao15 y246.length co15, .int .i64 0] 32 (0, 0)) (by (with_reducible repeat (first | refine blk_drewN ?_ _ | refine blk_drew ?_ | refine blk_alloc ?_ _)); exact BK249.out) k_ hk_.2.1)⟩)) (below_size (by repeat (first | (with_reducible first | exact HB.out | apply below_alloc | apply pw_below_drewN | apply below_drew1 | refine below_set ?_ GE249.out) | exact HB.out)))); have n4_ := Aside0.mk (blk_below (g := gb249) (o := .cells #[.string (⟨#[98]⟩ : ByteArray), .slice Ao16 y243.length co16, .slice Ao15 y246.length co15, .int .i64 0] 32 (0, 0)) (by (with_reducible repeat (first | refine blk_drewN ?_ _ | refine blk_drew ?_ | refine blk_alloc ?_ _)); exact BK249.out) hb); have n5_ := Aside0.mk (below_step (by repeat (first | (with_reducible first | exact HB.out | apply below_alloc | apply pw_below_drewN | apply below_drew1 | refine below_set ?_ GE249.out) | exact HB.out)) hb); clear HO252; clear HO255; clear BK249; clear HB; have HO252 := n0_; have HO255 := n1_; have HO260 := n2_; have HO263 := n3_; have BK249 := n4_; have HB := n5_; clear n0_ n1_ n2_ n3_ n4_ n5_; (try clear hb); (try clear hb2); (try clear hk); (try clear hi); (try clear ho0); (try clear ho1)) | ((with_reducible refine gate_dst (N := 6) rfl ?_); (try (refine gate_guard (by rfl) ?_; dsimp only)); refine box_event ?hg (N := 6) ?hd (cs := #[.string (⟨#[]⟩ : ByteArray), .string (⟨#[]⟩ : ByteArray), .slice none 0 0, .slice none 0 0, .int .i64 0]) (t := 26) ?hr ?_; (case hd => rfl); (case hg => rfl); (case hr => first | (go_simp; done) | (go_simp; rfl)); intro gb267 hg w27 hbox hb; have n0_ := Aside0.mk (Kd.R_below (by (with_reducible repeat (first | apply Kd.R_alloc | apply Kd.R_drewN | apply Kd.R_drew)); exact HO252.out) hb); have n1_ := Aside0.mk (Kd.N_below (Kd.N_elderB (by (with_reducible repeat (first | apply Kd.N_alloc | apply Kd.N_drewN | apply Kd.N_drew)); exact HO255.out) gb267 (Nat.le_of_eq hg.symm)) hb); have n2_ := Aside0.mk (Kd.R_below (by (with_reducible repeat (first | apply Kd.R_alloc | apply Kd.R_drewN | apply Kd.R_drew)); exact HO260.out) hb); have n3_ := Aside0.mk (Kd.N_below (Kd.N_elderB (by (with_reducible repeat (first | apply Kd.N_alloc | apply Kd.N_drewN | apply Kd.N_drew)); exact HO263.out) gb267 (Nat.le_of_eq hg.symm)) hb); have n4_ := Aside0.mk (blk_below (g := gb249) (o := .cells #[.string (⟨#[98]⟩ : ByteArray), .slice Ao16 y243.length co16, .slice Ao15 y246.length co15, .int .i64 0] 32 (0, 0)) (by (with_reducible repeat (first | refine blk_drewN ?_ _ | refine blk_drew ?_ | refine blk_alloc ?_ _)); exact BK249.out) hb); have n5_ := Aside0.mk (below_step (by repeat (first | (with_reducible first | exact HB.out | apply below_alloc | apply pw_below_drewN | apply below_drew1 | refine below_set ?_ GE249.out) | exact HB.out)) hb); have n6_ := Aside0.mk (hbox); have n7_ := Aside0.mk ((by rw [hg]; exact (below_size (by repeat (first | (with_reducible first | exact HB.out | apply below_alloc | apply pw_below_drewN | apply below_drew1 | refine below_set ?_ GE249.out) | exact HB.out))) : w.heap.size ≤ gb267)); have n8_ := Aside0.mk ((by rw [hg]; exact (below_size (by repeat (first | (with_reducible first | exact HB.out | apply below_alloc | apply pw_below_drewN | apply below_drew1 | refine below_set ?_ GE249.out) | exact HB.out))) : w.heap.size ≤ gb267)); have n9_ := Aside0.mk ((by rw [hg]; exact Nat.ne_of_lt (blk_lt (g := gb249) (o := .cells #[.string (⟨#[98]⟩ : ByteArray), .slice Ao16 y243.length co16, .slice Ao15 y246.length co15, .int .i64 0] 32 (0, 0)) (by (with_reducible repeat (first | refine blk_drewN ?_ _ | refine blk_drew ?_ | refine blk_alloc ?_ _)); exact BK249.out)) : gb249 ≠ gb267)); have n10_ := Aside0.mk ((by rw [hg]; exact Nat.ne_of_gt (blk_lt (g := gb249) (o := .cells #[.string (⟨#[98]⟩ : ByteArray), .slice Ao16 y243.length co16, .slice Ao15 y246.length co15, .int .i64 0] 32 (0, 0)) (by (with_reducible repeat (first | refine blk_drewN ?_ _ | refine blk_drew ?_ | refine blk_alloc ?_ _)); exact BK249.out)) : gb267 ≠ gb249)); clear HO252; clear HO255; clear HO260; clear HO263; clear BK249; clear HB; have HO252 := n0_; have HO255 := n1_; have HO260 := n2_; have HO263 := n3_; have BK249 := n4_; have HB := n5_; have BK267 := n6_; have GW267 := n7_; have GE267 := n8_; have NB249_267 := n9_; have NB267_249 := n10_; clear n0_ n1_ n2_ n3_ n4_ n5_ n6_ n7_ n8_ n9_ n10_; clear hb hbox hg; have hnb28 := NB267_249.out; have hnc28 := NB249_267.out; have hcz29_0 : w27.cell? ⟨gb267, 0, none⟩ = some (.string (⟨#[]⟩ : ByteArray)) := (blk_cell BK267.out 0).trans rfl; have hcz29_1 : w27.cell? ⟨gb267, 1, none⟩ = some (.string (⟨#[]⟩ : ByteArray)) := (blk_cell BK267.out 1).trans rfl; have hcz29_2 : w27.cell? ⟨gb267, 2, none⟩ = some (.slice none 0 0) := (blk_cell BK267.out 2).trans rfl; have hcz29_3 : w27.cell? ⟨gb267, 3, none⟩ = some (.slice none 0 0) := (blk_cell BK267.out 3).trans rfl; have hcz29_4 : w27.cell? ⟨gb267, 4, none⟩ = some (.int .i64 0) := (blk_cell BK267.out 4).trans rfl; have hfz29_0 := blk_frozen BK267.out 0; have hfz29_1 := blk_frozen BK267.out 1; have hfz29_2 := blk_frozen BK267.out 2; have hfz29_3 := blk_frozen BK267.out 3; have hfz29_4 := blk_frozen BK267.out 4; obtain ⟨Ao30, co30, eo30⟩ := Kd.R_slice HO260.out; subst eo30; obtain ⟨Ao31, co31, eo31⟩ := Kd.N_slice HO263.out; subst eo31) | ((with_reducible refine gate_store (t := 26) (p := 6) rfl ?_); refine store_event (t := 26) (p := 6) (v := ?vo_w32) (w1 := (((((w27.setCell ⟨gb267, 0, none⟩ (.string t256)).setCell ⟨gb267, 1, none⟩ (.string t257)).setCell ⟨gb267, 2, none⟩ (.slice Ao30 t258.length co30)).setCell ⟨gb267, 3, none⟩ (.slice Ao31 t261.length co31)).setCell ⟨gb267, 4, none⟩ (.int .i64 t264))) ?hg ?ho ?hn ?hr ?_; (case ho => rfl); (case hg => rfl); (case hn => rfl); (case hr => first | (go_simp; done) | (go_simp; rfl)); intro w32 hw; have n0_ : Aside0 (Kd.R k35 35 w32 w.heap.size (fun k_ => some k_ ≠ (.slice Ao30 t258.length co30 : Value).ownBlock) (.slice Ao25 y250.length co25) y250) := ⟨(by rw [hw]; exact (by (with_reducible repeat (first | apply Kd.R_alloc | apply Kd.R_drewN | apply Kd.R_drew)); exact Kd.R_mono (Kd.R_far (p := ⟨gb267, 4, none⟩) (Kd.R_far (p := ⟨gb267, 3, none⟩) (Kd.R_far (p := ⟨gb267, 2, none⟩) (Kd.R_far (p := ⟨gb267, 1, none⟩) (Kd.R_far (p := ⟨gb267, 0, none⟩) (Kd.R_types HO252.out BK267.out (by decide)) (fun _ hk => hk.2) (.string t256)) (fun _ hk => hk.2) (.string t257)) (fun _ hk => hk.2) (.slice Ao30 t258.length co30)) (fun _ hk => hk.2) (.slice Ao31 t261.length co31)) (fun _ hk => hk.2) (.int .i64 t264)) (fun _ hk => hk.1.2)))⟩; have n1_ : Aside0 (Kd.N k32 32 w32 w.heap.size (fun k_ => some k_ ≠ (.slice Ao25 y250.length co25 : Value).ownBlock ∧ some k_ ≠ (.slice Ao30 t258.length co30 : Value).ownBlock ∧ some k_ ≠ (.slice Ao31 t261.length co31 : Value).ownBlock ∧ k_ ≠ gb249 ∧ k_ ≠ gb267) (.slice Ao24 y253.length co24) y253) := ⟨(by rw [hw]; exact (by (with_reducible repeat (first | apply Kd.N_alloc | apply Kd.N_drewN | apply Kd.N_drew)); exact Kd.N_mono (Kd.N_far (p := ⟨gb267, 4, none⟩) (Kd.N_far (p := ⟨gb267, 3, none⟩) (Kd.N_far (p := ⟨gb267, 2, none⟩) (Kd.N_far (p := ⟨gb267, 1, none⟩) (Kd.N_far (p := ⟨gb267, 0, none⟩) (Kd.N_mono HO255.out (fun k_ hk => (⟨hk, hk.2⟩ : _ ∧ k_ ≠ gb267))) (fun _ hk => hk.2) (.string t256)) (fun _ hk => hk.2) (.string t257)) (fun _ hk => hk.2) (.slice Ao30 t258.length co30)) (fun _ hk => hk.2) (.slice Ao31 t261.length co31)) (fun _ hk => hk.2) (.int .i64 t264)) (fun _ hk => ⟨hk.1.1.1.1.1, ⟨hk.1.1.1.2, ⟨hk.1.1.2, ⟨hk.1.1.1.1.2, hk.1.2⟩⟩⟩⟩)))⟩; have n2_ : Aside0 (Kd.R k35 35 w32 w.heap.size (fun k_ => some k_ ≠ (.slice Ao25 y250.length co25 : Value).ownBlock) (.slice Ao30 t258.length co30) t258) := ⟨(by rw [hw]; exact (by (with_reducible repeat (first | apply Kd.R_alloc | apply Kd.R_drewN | apply Kd.R_drew)); exact Kd.R_mono (Kd.R_far (p := ⟨gb267, 4, none⟩) (Kd.R_far (p := ⟨gb267, 3, none⟩) (Kd.R_far (p := ⟨gb267, 2, none⟩) (Kd.R_far (p := ⟨gb267, 1, none⟩) (Kd.R_far (p := ⟨gb267, 0, none⟩) (Kd.R_types HO260.out BK267.out (by decide)) (fun _ hk => hk.2) (.string t256)) (fun _ hk => hk.2) (.string t257)) (fun _ hk => hk.2) (.slice Ao30 t258.length co30)) (fun _ hk => hk.2) (.slice Ao31 t261.length co31)) (fun _ hk => hk.2) (.int .i64 t264)) (fun _ hk => hk.1.2)))⟩; have n3_ : Aside0 (Kd.N k26 26 w32 w.heap.size (fun k_ => some k_ ≠ (.slice Ao25 y250.length co25 : Value).ownBlock ∧ some k_ ≠ (.slice Ao24 y253.length co24 : Value).ownBlock ∧ some k_ ≠ (.slice Ao30 t258.length co30 : Value).ownBlock ∧ k_ ≠ gb249 ∧ k_ ≠ gb267) (.slice Ao31 t261.length co31) t261) := ⟨(by rw [hw]; exact (by (with_reducible repeat (first | apply Kd.N_alloc | apply Kd.N_drewN | apply Kd.N_drew)); exact Kd.N_mono (Kd.N_far (p := ⟨gb267, 4, none⟩) (Kd.N_far (p := ⟨gb267, 3, none⟩) (Kd.N_far (p := ⟨gb267, 2, none⟩) (Kd.N_far (p := ⟨gb267, 1, none⟩) (Kd.N_far (p := ⟨gb267, 0, none⟩) (Kd.N_mono HO263.out (fun k_ hk => (⟨hk, hk.2⟩ : _ ∧ k_ ≠ gb267))) (fun _ hk => hk.2) (.string t256)) (fun _ hk => hk.2) (.string t257)) (fun _ hk => hk.2) (.slice Ao30 t258.length co30)) (fun _ hk => hk.2) (.slice Ao31 t261.length co31)) (fun _ hk => hk.2) (.int .i64 t264)) (fun _ hk => ⟨hk.1.1.2.1, ⟨hk.1.1.2.2.1, ⟨hk.1.1.1, ⟨hk.1.1.2.2.2, hk.1.2⟩⟩⟩⟩)))⟩; have n4_ : Aside0 (w32.heap[gb249]? = some (.cells #[.string (⟨#[98]⟩ : ByteArray), .slice Ao16 y243.length co16, .slice Ao15 y246.length co15, .int .i64 0] 32 (0, 0))) := ⟨(by rw [hw]; exact (by (with_reducible repeat (first | refine blk_drewN ?_ _ | refine blk_drew ?_ | refine blk_alloc ?_ _)); refine blk_far ?_ NB249_267.out _; (with_reducible repeat (first | refine blk_drewN ?_ _ | refine blk_drew ?_ | refine blk_alloc ?_ _)); refine blk_far ?_ NB249_267.out _; (with_reducible repeat (first | refine blk_drewN ?_ _ | refine blk_drew ?_ | refine blk_alloc ?_ _)); refine blk_far ?_ NB249_267.out _; (with_reducible repeat (first | refine blk_drewN ?_ _ | refine blk_drew ?_ | refine blk_alloc ?_ _)); refine blk_far ?_ NB249_267.out _; (with_reducible repeat (first | refine blk_drewN ?_ _ | refine blk_drew ?_ | refine blk_alloc ?_ _)); refine blk_far ?_ NB249_267.out _; (with_reducible repeat (first | refine blk_drewN ?_ _ | refine blk_drew ?_ | refine blk_alloc ?_ _)); exact BK249.out))⟩; have n5_ : Aside0 (w32.heap[gb267]? = some (.cells #[.string t256, .string t257, .slice Ao30 t258.length co30, .slice Ao31 t261.length co31, .int .i64 t264] 26 (0, 0))) := ⟨(by rw [hw]; exact (by (with_reducible repeat (first | refine blk_drewN ?_ _ | refine blk_drew ?_ | refine blk_alloc ?_ _)); refine blk_put (cs := #[.string t256, .string t257, .slice Ao30 t258.length co30, .slice Ao31 t261.length co31, .int .i64 0]) ?_ 4 _ rfl; (with_reducible repeat (first | refine blk_drewN ?_ _ | refine blk_drew ?_ | refine blk_alloc ?_ _)); refine blk_put (cs := #[.string t256, .string t257, .slice Ao30 t258.length co30, .slice none 0 0, .int .i64 0]) ?_ 3 _ rfl; (with_reducible repeat (first | refine blk_drewN ?_ _ | refine blk_drew ?_ | refine blk_alloc ?_ _)); refine blk_put (cs := #[.string t256, .string t257, .slice none 0 0, .slice none 0 0, .int .i64 0]) ?_ 2 _ rfl; (with_reducible repeat (first | refine blk_drewN ?_ _ | refine blk_drew ?_ | refine blk_alloc ?_ _)); refine blk_put (cs := #[.string t256, .string (⟨#[]⟩ : ByteArray), .slice none 0 0, .slice none 0 0, .int .i64 0]) ?_ 1 _ rfl; (with_reducible repeat (first | refine blk_drewN ?_ _ | refine blk_drew ?_ | refine blk_alloc ?_ _)); refine blk_put (cs := #[.string (⟨#[]⟩ : ByteArray), .string (⟨#[]⟩ : ByteArray), .slice none 0 0, .slice none 0 0, .int .i64 0]) ?_ 0 _ rfl; (with_reducible repeat (first | refine blk_drewN ?_ _ | refine blk_drew ?_ | refine blk_alloc ?_ _)); exact BK267.out))⟩; have n6_ : Aside0 (Below w.heap.size w w32) := ⟨(by rw [hw]; exact (by repeat (first | (with_reducible first | exact HB.out | apply below_alloc | apply pw_below_drewN | apply below_drew1 | refine below_set ?_ GE249.out | refine below_set ?_ GE267.out) | exact HB.out)))⟩; clear hw; clear HO252; clear HO255; clear HO260; clear HO263; clear BK249; clear BK267; clear HB; have HO252 := n0_; have HO255 := n1_; have HO260 := n2_; have HO263 := n3_; have BK249 := n4_; have BK267 := n5_; have HB := n6_; clear n0_ n1_ n2_ n3_ n4_ n5_ n6_; have hcz33_0 : w32.cell? ⟨gb267, 0, none⟩ = some (.string t256) := (blk_cell BK267.out 0).trans rfl; have hcz33_1 : w32.cell? ⟨gb267, 1, none⟩ = some (.string t257) := (blk_cell BK267.out 1).trans rfl; have hcz33_2 : w32.cell? ⟨gb267, 2, none⟩ = some (.slice Ao30 t258.length co30) := (blk_cell BK267.out 2).trans rfl; have hcz33_3 : w32.cell? ⟨gb267, 3, none⟩ = some (.slice Ao31 t261.length co31) := (blk_cell BK267.out 3).trans rfl; have hcz33_4 : w32.cell? ⟨gb267, 4, none⟩ = some (.int .i64 t264) := (blk_cell BK267.out 4).trans rfl; have hfz33_0 := blk_frozen BK267.out 0; have hfz33_1 := blk_frozen BK267.out 1; have hfz33_2 := blk_frozen BK267.out 2; have hfz33_3 := blk_frozen BK267.out 3; have hfz33_4 := blk_frozen BK267.out 4; have p268 : 0 ≤ (0 : Int) := (by omega); have q268 : 0 < (t261.length : Int) := of_decide_eq_true (by first | (with_reducible assumption) | assumption); obtain ⟨ad268, A268_2, c268_2, A268_3, c268_3, e268, hx268_0, hx268_1, hx268_2, hx268_3, hx268_4, hl268_2, hi268_2, hl268_3, hi268_3⟩ := at_T26 (Kd.N_reads' HO263.out).2.2 0 p268 q268; cases e268; obtain ⟨ce268, hce268, hMe268, hcc268⟩ := Kd.N_get HO263.out z26 0 p268 (by first | exact q268 | exact of_decide_eq_true (by first | (with_reducible assumption) | assumption) | (have e_ := (Kd.N_reads' HO263.out).1; omega)); obtain ⟨ua268_2, uc268_2, ua268_3, uc268_3, rfl, ul268_2, ge268_2, ul268_3, ge268_3⟩ := k26_openF hMe268; have hv268_2 := hcc268 2 _ rfl; rw [add_field _ _ 2 (by omega)] at hv268_2; replace hv268_2 := Option.some.inj (hv268_2.symm.trans hx268_2); injection hv268_2 with hva_ hvn_ hvc_; rw [hva_] at ge268_2; rw [hvc_] at ul268_2; have HL268_2 := Aside0.mk (show Kd.V k35 35 _ w.heap.size _ _ ((rd_T26 t261 0).f2) from Kd.V_mk ul268_2 ge268_2); clear hva_ hvn_ hvc_ ge268_2 ul268_2; have hv268_3 := hcc268 3 _ rfl; rw [add_field _ _ 3 (by omega)] at hv268_3; replace hv268_3 := Option.some.inj (hv268_3.symm.trans hx268_3); injection hv268_3 with hva_ hvn_ hvc_; rw [hva_] at ge268_3; rw [hvc_] at ul268_3; have HL268_3 := Aside0.mk (show Kd.V k26 26 _ w.heap.size _ _ ((rd_T26 t261 0).f3) from Kd.V_mk ul268_3 ge268_3); clear hva_ hvn_ hvc_ ge268_3 ul268_3; clear hcc268 hce268; have qi268 : (0 < t261.length) = True := eq_true (by omega); (try rw [show ((0 : Int)).toNat = 0 from rfl] at hx268_0); (try rw [show 0 * 5 = 0 from rfl] at hx268_0); (try rw [Addr.add_zero'] at hx268_0); (try rw [show ((0 : Int)).toNat = 0 from rfl] at hx268_1); (try rw [show 0 * 5 = 0 from rfl] at hx268_1); (try rw [Addr.add_zero'] at hx268_1); (try rw [show ((0 : Int)).toNat = 0 from rfl] at hx268_2); (try rw [show 0 * 5 = 0 from rfl] at hx268_2); (try rw [Addr.add_zero'] at hx268_2); (try rw [show ((0 : Int)).toNat = 0 from rfl] at hx268_3); (try rw [show 0 * 5 = 0 from rfl] at hx268_3); (try rw [Addr.add_zero'] at hx268_3); (try rw [show ((0 : Int)).toNat = 0 from rfl] at hx268_4); (try rw [show 0 * 5 = 0 from rfl] at hx268_4); (try rw [Addr.add_zero'] at hx268_4); have HR268_2 := Aside0.mk hi268_2; have HC268_2 := Aside0.mk hl268_2; clear hi268_2 hl268_2; have HR268_3 := Aside0.mk hi268_3; have HC268_3 := Aside0.mk hl268_3; clear hi268_3 hl268_3; replace p268 := eq_true p268; replace q268 := eq_true q268))
              have H := HC10.out
              clear HC10
              (try clear hx268_0)
              (try clear hx268_1)
              (try clear hx268_2)
              (try clear hx268_3)
              (try clear hx268_4)
              by_cases c34 : (((rd_T26 t261 0).f3).length : Int) = 1
              · rw [if_pos c34] at H
                have c34b0 : ((((rd_T26 t261 0).f3).length : Int) == 1) = true := beq_iff_eq.mpr c34
                have c34b1 : ((((rd_T26 t261 0).f3).length : Int) != 1) = false := bne_eq_false_iff_eq.mpr c34
                clear c34
                by_cases c35 : t256.toList = a0.toList
                · rw [if_pos c35] at H
                  have c35b0 : (t256.toList == a0.toList) = true := beq_iff_eq.mpr c35
                  have c35b1 : (t256.toList != a0.toList) = false := bne_eq_false_iff_eq.mpr c35
                  clear c35
                  by_cases c36 : ((rd_T26 t261 0).f0).toList = a1.toList
                  · rw [if_pos c36] at H
                    have c36b0 : (((rd_T26 t261 0).f0).toList == a1.toList) = true := beq_iff_eq.mpr c36
                    have c36b1 : (((rd_T26 t261 0).f0).toList != a1.toList) = false := bne_eq_false_iff_eq.mpr c36
                    clear c36
                    by_cases c37 : 0 < (((rd_T26 t261 0).f3).length : Int)
                    · rw [if_pos c37] at H
                      have c37b0 : decide (0 < (((rd_T26 t261 0).f3).length : Int)) = true := decide_eq_true c37
                      have c37b1 : decide (0 < ((rd_T26 t261 0).f3).length) = true := decide_eq_true (by omega)
                      clear c37
                      by_cases c38 : ((rd_T26 ((rd_T26 t261 0).f3) 0).f0).toList = a1.toList
                      · rw [if_pos c38] at H
                        have c38b0 : (((rd_T26 ((rd_T26 t261 0).f3) 0).f0).toList == a1.toList) = true := beq_iff_eq.mpr c38
                        have c38b1 : (((rd_T26 ((rd_T26 t261 0).f3) 0).f0).toList != a1.toList) = false := bne_eq_false_iff_eq.mpr c38
                        clear c38
                        by_cases c39 : 1 < (t261.length : Int)
                        · rw [if_pos c39] at H
                          have c39b0 : decide (1 < (t261.length : Int)) = true := decide_eq_true c39
                          have c39b1 : decide (1 < t261.length) = true := decide_eq_true (by omega)
                          clear c39
                          by_cases c40 : ((rd_T26 t261 1).f0).toList = a0.toList
                          · rw [if_pos c40] at H
                            have c40b0 : (((rd_T26 t261 1).f0).toList == a0.toList) = true := beq_iff_eq.mpr c40
                            have c40b1 : (((rd_T26 t261 1).f0).toList != a0.toList) = false := bne_eq_false_iff_eq.mpr c40
                            clear c40
                            replace H := Option.bind_eq_some_iff.mp H
                            obtain ⟨t273, A410, H⟩ := H
                            replace H : (some t273) = some r := H
                            have A41 := Aside0.mk A410
                            clear A410
                            obtain rfl := Option.some.inj H
                            have hnb42 := NB267_249.out
                            have hnc42 := NB249_267.out
                            have hcz43_0 : w32.cell? ⟨gb267, 0, none⟩ = some (.string t256) := (blk_cell BK267.out 0).trans rfl
                            have hcz43_1 : w32.cell? ⟨gb267, 1, none⟩ = some (.string t257) := (blk_cell BK267.out 1).trans rfl
                            have hcz43_2 : w32.cell? ⟨gb267, 2, none⟩ = some (.slice Ao30 t258.length co30) := (blk_cell BK267.out 2).trans rfl
                            have hcz43_3 : w32.cell? ⟨gb267, 3, none⟩ = some (.slice (some ad268) t261.length co31) := (blk_cell BK267.out 3).trans rfl
                            have hcz43_4 : w32.cell? ⟨gb267, 4, none⟩ = some (.int .i64 t264) := (blk_cell BK267.out 4).trans rfl
                            have hfz43_0 := blk_frozen BK267.out 0
                            have hfz43_1 := blk_frozen BK267.out 1
                            have hfz43_2 := blk_frozen BK267.out 2
                            have hfz43_3 := blk_frozen BK267.out 3
                            have hfz43_4 := blk_frozen BK267.out 4
                            have p269 : 0 ≤ (0 : Int) := (by omega)
                            have q269 : 0 < (t261.length : Int) := of_decide_eq_true (by first | (with_reducible assumption) | assumption)
                            obtain ⟨ad269, A269_2, c269_2, A269_3, c269_3, e269, hx269_0, hx269_1, hx269_2, hx269_3, hx269_4, hl269_2, hi269_2, hl269_3, hi269_3⟩ := at_T26 (Kd.N_reads' HO263.out).2.2 0 p269 q269
                            obtain rfl : ad268 = ad269 := (by injection e269)
                            obtain ⟨ce269, hce269, hMe269, hcc269⟩ := Kd.N_get HO263.out z26 0 p269 (by first | exact q269 | exact of_decide_eq_true (by first | (with_reducible assumption) | assumption) | (have e_ := (Kd.N_reads' HO263.out).1; omega))
                            obtain ⟨ua269_2, uc269_2, ua269_3, uc269_3, rfl, ul269_2, ge269_2, ul269_3, ge269_3⟩ := k26_openF hMe269
                            have hv269_2 := hcc269 2 _ rfl
                            rw [add_field _ _ 2 (by omega)] at hv269_2
                            replace hv269_2 := Option.some.inj (hv269_2.symm.trans hx269_2)
                            injection hv269_2 with hva_ hvn_ hvc_
                            rw [hva_] at ge269_2
                            rw [hvc_] at ul269_2
                            have HL269_2 := Aside0.mk (show Kd.V k35 35 _ w.heap.size _ _ ((rd_T26 t261 0).f2) from Kd.V_mk ul269_2 ge269_2)
                            clear hva_ hvn_ hvc_ ge269_2 ul269_2
                            have hv269_3 := hcc269 3 _ rfl
                            rw [add_field _ _ 3 (by omega)] at hv269_3
                            replace hv269_3 := Option.some.inj (hv269_3.symm.trans hx269_3)
                            injection hv269_3 with hva_ hvn_ hvc_
                            rw [hva_] at ge269_3
                            rw [hvc_] at ul269_3
                            have HL269_3 := Aside0.mk (show Kd.V k26 26 _ w.heap.size _ _ ((rd_T26 t261 0).f3) from Kd.V_mk ul269_3 ge269_3)
                            clear hva_ hvn_ hvc_ ge269_3 ul269_3
                            clear hcc269 hce269
                            have qi269 : (0 < t261.length) = True := eq_true (by omega)
                            (try rw [show ((0 : Int)).toNat = 0 from rfl] at hx269_0)
                            (try rw [show 0 * 5 = 0 from rfl] at hx269_0)
                            (try rw [Addr.add_zero'] at hx269_0)
                            (try rw [show ((0 : Int)).toNat = 0 from rfl] at hx269_1)
                            (try rw [show 0 * 5 = 0 from rfl] at hx269_1)
                            (try rw [Addr.add_zero'] at hx269_1)
                            (try rw [show ((0 : Int)).toNat = 0 from rfl] at hx269_2)
                            (try rw [show 0 * 5 = 0 from rfl] at hx269_2)
                            (try rw [Addr.add_zero'] at hx269_2)
                            (try rw [show ((0 : Int)).toNat = 0 from rfl] at hx269_3)
                            (try rw [show 0 * 5 = 0 from rfl] at hx269_3)
                            (try rw [Addr.add_zero'] at hx269_3)
                            (try rw [show ((0 : Int)).toNat = 0 from rfl] at hx269_4)
                            (try rw [show 0 * 5 = 0 from rfl] at hx269_4)
                            (try rw [Addr.add_zero'] at hx269_4)
                            have HR269_2 := Aside0.mk hi269_2
                            have HC269_2 := Aside0.mk hl269_2
                            clear hi269_2 hl269_2
                            have HR269_3 := Aside0.mk hi269_3
                            have HC269_3 := Aside0.mk hl269_3
                            clear hi269_3 hl269_3
                            replace p269 := eq_true p269
                            replace q269 := eq_true q269
                            have p270 : 0 ≤ (0 : Int) := (by omega)
                            have q270 : 0 < (t261.length : Int) := of_decide_eq_true (by first | (with_reducible assumption) | assumption)
                            obtain ⟨ad270, A270_2, c270_2, A270_3, c270_3, e270, hx270_0, hx270_1, hx270_2, hx270_3, hx270_4, hl270_2, hi270_2, hl270_3, hi270_3⟩ := at_T26 (Kd.N_reads' HO263.out).2.2 0 p270 q270
                            obtain rfl : ad268 = ad270 := (by injection e270)
                            obtain ⟨ce270, hce270, hMe270, hcc270⟩ := Kd.N_get HO263.out z26 0 p270 (by first | exact q270 | exact of_decide_eq_true (by first | (with_reducible assumption) | assumption) | (have e_ := (Kd.N_reads' HO263.out).1; omega))
                            obtain ⟨ua270_2, uc270_2, ua270_3, uc270_3, rfl, ul270_2, ge270_2, ul270_3, ge270_3⟩ := k26_openF hMe270
                            have hv270_2 := hcc270 2 _ rfl
                            rw [add_field _ _ 2 (by omega)] at hv270_2
                            replace hv270_2 := Option.some.inj (hv270_2.symm.trans hx270_2)
                            injection hv270_2 with hva_ hvn_ hvc_
                            rw [hva_] at ge270_2
                            rw [hvc_] at ul270_2
                            have HL270_2 := Aside0.mk (show Kd.V k35 35 _ w.heap.size _ _ ((rd_T26 t261 0).f2) from Kd.V_mk ul270_2 ge270_2)
                            clear hva_ hvn_ hvc_ ge270_2 ul270_2
                            have hv270_3 := hcc270 3 _ rfl
                            rw [add_field _ _ 3 (by omega)] at hv270_3
                            replace hv270_3 := Option.some.inj (hv270_3.symm.trans hx270_3)
                            injection hv270_3 with hva_ hvn_ hvc_
                            rw [hva_] at ge270_3
                            rw [hvc_] at ul270_3
                            have HL270_3 := Aside0.mk (show Kd.V k26 26 _ w.heap.size _ _ ((rd_T26 t261 0).f3) from Kd.V_mk ul270_3 ge270_3)
                            clear hva_ hvn_ hvc_ ge270_3 ul270_3
                            clear hcc270 hce270
                            have qi270 : (0 < t261.length) = True := eq_true (by omega)
                            (try rw [show ((0 : Int)).toNat = 0 from rfl] at hx270_0)
                            (try rw [show 0 * 5 = 0 from rfl] at hx270_0)
                            (try rw [Addr.add_zero'] at hx270_0)
                            (try rw [show ((0 : Int)).toNat = 0 from rfl] at hx270_1)
                            (try rw [show 0 * 5 = 0 from rfl] at hx270_1)
                            (try rw [Addr.add_zero'] at hx270_1)
                            (try rw [show ((0 : Int)).toNat = 0 from rfl] at hx270_2)
                            (try rw [show 0 * 5 = 0 from rfl] at hx270_2)
                            (try rw [Addr.add_zero'] at hx270_2)
                            (try rw [show ((0 : Int)).toNat = 0 from rfl] at hx270_3)
                            (try rw [show 0 * 5 = 0 from rfl] at hx270_3)
                            (try rw [Addr.add_zero'] at hx270_3)
                            (try rw [show ((0 : Int)).toNat = 0 from rfl] at hx270_4)
                            (try rw [show 0 * 5 = 0 from rfl] at hx270_4)
                            (try rw [Addr.add_zero'] at hx270_4)
                            have HR270_2 := Aside0.mk hi270_2
                            have HC270_2 := Aside0.mk hl270_2
                            clear hi270_2 hl270_2
                            have HR270_3 := Aside0.mk hi270_3
                            have HC270_3 := Aside0.mk hl270_3
                            clear hi270_3 hl270_3
                            replace p270 := eq_true p270
                            replace q270 := eq_true q270
                            have ea_ := Option.some.inj (hx269_2.symm.trans hx270_2)
                            injection ea_ with ea_ en_ ec_
                            subst ea_
                            subst ec_
                            clear en_
                            have ea_ := Option.some.inj (hx269_3.symm.trans hx270_3)
                            injection ea_ with ea_ en_ ec_
                            subst ea_
                            subst ec_
                            clear en_
                            have p271 : 0 ≤ (0 : Int) := (by omega)
                            have q271 : 0 < (((rd_T26 t261 0).f3).length : Int) := of_decide_eq_true (by first | (with_reducible assumption) | assumption)
                            obtain ⟨ad271, A271_2, c271_2, A271_3, c271_3, e271, hx271_0, hx271_1, hx271_2, hx271_3, hx271_4, hl271_2, hi271_2, hl271_3, hi271_3⟩ := at_T26 (by repeat (first | (with_reducible exact HR270_3.out) | (with_reducible refine Kd.C_alloc ?_ _) | (with_reducible refine Kd.C_drewN ?_ _) | (with_reducible refine Kd.C_drew ?_) | exact HR270_3.out)) 0 p271 q271
                            cases e271
                            obtain ⟨ce271, hce271, hMe271, hcc271⟩ := Kd.V_get HL270_3.out z26 0 p271 (by first | exact q271 | exact of_decide_eq_true (by first | (with_reducible assumption) | assumption) | (have e_ := (Kd.V_reads' HL270_3.out).1; omega))
                            obtain ⟨ua271_2, uc271_2, ua271_3, uc271_3, rfl, ul271_2, ge271_2, ul271_3, ge271_3⟩ := k26_openF hMe271
                            have hv271_2 := hcc271 2 _ rfl
                            rw [add_field _ _ 2 (by omega)] at hv271_2
                            replace hv271_2 := Option.some.inj (hv271_2.symm.trans hx271_2)
                            injection hv271_2 with hva_ hvn_ hvc_
                            rw [hva_] at ge271_2
                            rw [hvc_] at ul271_2
                            have HL271_2 := Aside0.mk (show Kd.V k35 35 _ w.heap.size _ _ ((rd_T26 ((rd_T26 t261 0).f3) 0).f2) from Kd.V_mk ul271_2 ge271_2)
                            clear hva_ hvn_ hvc_ ge271_2 ul271_2
                            have hv271_3 := hcc271 3 _ rfl
                            rw [add_field _ _ 3 (by omega)] at hv271_3
                            replace hv271_3 := Option.some.inj (hv271_3.symm.trans hx271_3)
                            injection hv271_3 with hva_ hvn_ hvc_
                            rw [hva_] at ge271_3
                            rw [hvc_] at ul271_3
                            have HL271_3 := Aside0.mk (show Kd.V k26 26 _ w.heap.size _ _ ((rd_T26 ((rd_T26 t261 0).f3) 0).f3) from Kd.V_mk ul271_3 ge271_3)
                            clear hva_ hvn_ hvc_ ge271_3 ul271_3
                            clear hcc271 hce271
                            have qi271 : (0 < ((rd_T26 t261 0).f3).length) = True := eq_true (by omega)
                            (try rw [show ((0 : Int)).toNat = 0 from rfl] at hx271_0)
                            (try rw [show 0 * 5 = 0 from rfl] at hx271_0)
                            (try rw [Addr.add_zero'] at hx271_0)
                            (try rw [show ((0 : Int)).toNat = 0 from rfl] at hx271_1)
                            (try rw [show 0 * 5 = 0 from rfl] at hx271_1)
                            (try rw [Addr.add_zero'] at hx271_1)
                            (try rw [show ((0 : Int)).toNat = 0 from rfl] at hx271_2)
                            (try rw [show 0 * 5 = 0 from rfl] at hx271_2)
                            (try rw [Addr.add_zero'] at hx271_2)
                            (try rw [show ((0 : Int)).toNat = 0 from rfl] at hx271_3)
                            (try rw [show 0 * 5 = 0 from rfl] at hx271_3)
                            (try rw [Addr.add_zero'] at hx271_3)
                            (try rw [show ((0 : Int)).toNat = 0 from rfl] at hx271_4)
                            (try rw [show 0 * 5 = 0 from rfl] at hx271_4)
                            (try rw [Addr.add_zero'] at hx271_4)
                            have HR271_2 := Aside0.mk hi271_2
                            have HC271_2 := Aside0.mk hl271_2
                            clear hi271_2 hl271_2
                            have HR271_3 := Aside0.mk hi271_3
                            have HC271_3 := Aside0.mk hl271_3
                            clear hi271_3 hl271_3
                            replace p271 := eq_true p271
                            replace q271 := eq_true q271
                            have p272 : 0 ≤ (1 : Int) := (by omega)
                            have q272 : 1 < (t261.length : Int) := of_decide_eq_true (by first | (with_reducible assumption) | assumption)
                            obtain ⟨ad272, A272_2, c272_2, A272_3, c272_3, e272, hx272_0, hx272_1, hx272_2, hx272_3, hx272_4, hl272_2, hi272_2, hl272_3, hi272_3⟩ := at_T26 (Kd.N_reads' HO263.out).2.2 1 p272 q272
                            obtain rfl : ad268 = ad272 := (by injection e272)
                            obtain ⟨ce272, hce272, hMe272, hcc272⟩ := Kd.N_get HO263.out z26 1 p272 (by first | exact q272 | exact of_decide_eq_true (by first | (with_reducible assumption) | assumption) | (have e_ := (Kd.N_reads' HO263.out).1; omega))
                            obtain ⟨ua272_2, uc272_2, ua272_3, uc272_3, rfl, ul272_2, ge272_2, ul272_3, ge272_3⟩ := k26_openF hMe272
                            have hv272_2 := hcc272 2 _ rfl
                            rw [add_field _ _ 2 (by omega)] at hv272_2
                            replace hv272_2 := Option.some.inj (hv272_2.symm.trans hx272_2)
                            injection hv272_2 with hva_ hvn_ hvc_
                            rw [hva_] at ge272_2
                            rw [hvc_] at ul272_2
                            have HL272_2 := Aside0.mk (show Kd.V k35 35 _ w.heap.size _ _ ((rd_T26 t261 1).f2) from Kd.V_mk ul272_2 ge272_2)
                            clear hva_ hvn_ hvc_ ge272_2 ul272_2
                            have hv272_3 := hcc272 3 _ rfl
                            rw [add_field _ _ 3 (by omega)] at hv272_3
                            replace hv272_3 := Option.some.inj (hv272_3.symm.trans hx272_3)
                            injection hv272_3 with hva_ hvn_ hvc_
                            rw [hva_] at ge272_3
                            rw [hvc_] at ul272_3
                            have HL272_3 := Aside0.mk (show Kd.V k26 26 _ w.heap.size _ _ ((rd_T26 t261 1).f3) from Kd.V_mk ul272_3 ge272_3)
                            clear hva_ hvn_ hvc_ ge272_3 ul272_3
                            clear hcc272 hce272
                            (try simp only [show (1 : Int).toNat = 1 from rfl, Nat.reduceMul, Nat.reduceEqDiff, Go.Addr.add, ↓reduceIte] at hx272_0)
                            (try simp only [show (1 : Int).toNat = 1 from rfl, Nat.reduceMul, Nat.reduceEqDiff, Go.Addr.add, ↓reduceIte] at hx272_1)
                            (try simp only [show (1 : Int).toNat = 1 from rfl, Nat.reduceMul, Nat.reduceEqDiff, Go.Addr.add, ↓reduceIte] at hx272_2)
                            (try simp only [show (1 : Int).toNat = 1 from rfl, Nat.reduceMul, Nat.reduceEqDiff, Go.Addr.add, ↓reduceIte] at hx272_3)
                            (try simp only [show (1 : Int).toNat = 1 from rfl, Nat.reduceMul, Nat.reduceEqDiff, Go.Addr.add, ↓reduceIte] at hx272_4)
                            have qi272 : (1 < t261.length) = True := eq_true (by omega)
                            (try rw [show ((1 : Int)).toNat = 1 from rfl] at hx272_0)
                            (try rw [show 1 * 5 = 5 from rfl] at hx272_0)
                            (try rw [show ((1 : Int)).toNat = 1 from rfl] at hx272_1)
                            (try rw [show 1 * 5 = 5 from rfl] at hx272_1)
                            (try rw [show ((1 : Int)).toNat = 1 from rfl] at hx272_2)
                            (try rw [show 1 * 5 = 5 from rfl] at hx272_2)
                            (try rw [show ((1 : Int)).toNat = 1 from rfl] at hx272_3)
                            (try rw [show 1 * 5 = 5 from rfl] at hx272_3)
                            (try rw [show ((1 : Int)).toNat = 1 from rfl] at hx272_4)
                            (try rw [show 1 * 5 = 5 from rfl] at hx272_4)
                            have HR272_2 := Aside0.mk hi272_2
                            have HC272_2 := Aside0.mk hl272_2
                            clear hi272_2 hl272_2
                            have HR272_3 := Aside0.mk hi272_3
                            have HC272_3 := Aside0.mk hl272_3
                            clear hi272_3 hl272_3
                            replace p272 := eq_true p272
                            replace q272 := eq_true q272
                            go_wp2_with (first | (go_at_call 14; (with_reducible refine (sentrylaw3_known.calls kj2  t273 _ A41.out).mono ?_); rintro e w44 ⟨rfl, hb⟩; have n0_ := Aside0.mk (Kd.R_below (by (with_reducible repeat (first | apply Kd.R_alloc | apply Kd.R_drewN | apply Kd.R_drew)); exact HO252.out) hb); have n1_ := Aside0.mk (Kd.N_below (by (with_reducible repeat (first | apply Kd.N_alloc | apply Kd.N_drewN | apply Kd.N_drew)); exact HO255.out) hb); have n2_ := Aside0.mk (Kd.R_below (by (with_reducible repeat (first | apply Kd.R_alloc | apply Kd.R_drewN | apply Kd.R_drew)); exact HO260.out) hb); have n3_ := Aside0.mk (Kd.N_below (by (with_reducible repeat (first | apply Kd.N_alloc | apply Kd.N_drewN | apply Kd.N_drew)); exact HO263.out) hb); have n4_ := Aside0.mk (Kd.V_below (by (with_reducible repeat (first | apply Kd.V_alloc | apply Kd.V_drewN | apply Kd.V_drew)); exact HL268_2.out) hb); have n5_ := Aside0.mk (Kd.V_below (by (with_reducible repeat (first | apply Kd.V_alloc | apply Kd.V_drewN | apply Kd.V_drew)); exact HL268_3.out) hb); have n6_ := Aside0.mk (Kd.V_below (by (with_reducible repeat (first | apply Kd.V_alloc | apply Kd.V_drewN | apply Kd.V_drew)); exact HL269_2.out) hb); have n7_ := Aside0.mk (Kd.V_below (by (with_reducible repeat (first | apply Kd.V_alloc | apply Kd.V_drewN | apply Kd.V_drew)); exact HL269_3.out) hb); have n8_ := Aside0.mk (Kd.V_below (by (with_reducible repeat (first | apply Kd.V_alloc | apply Kd.V_drewN | apply Kd.V_drew)); exact HL270_2.out) hb); have n9_ := Aside0.mk (Kd.V_below (by (with_reducible repeat (first | apply Kd.V_alloc | apply Kd.V_drewN | apply Kd.V_drew)); exact HL270_3.out) hb); have n10_ := Aside0.mk (Kd.V_below (by (with_reducible repeat (first | apply Kd.V_alloc | apply Kd.V_drewN | apply Kd.V_drew)); exact HL271_2.out) hb); have n11_ := Aside0.mk (Kd.V_below (by (with_reducible repeat (first | apply Kd.V_alloc | apply Kd.V_drewN | apply Kd.V_drew)); exact HL271_3.out) hb); have n12_ := Aside0.mk (Kd.V_below (by (with_reducible repeat (first | apply Kd.V_alloc | apply Kd.V_drewN | apply Kd.V_drew)); exact HL272_2.out) hb); have n13_ := Aside0.mk (Kd.V_below (by (with_reducible repeat (first | apply Kd.V_alloc | apply Kd.V_drewN | apply Kd.V_drew)); exact HL272_3.out) hb); have n14_ := Aside0.mk (blk_below (g := gb249) (o := .cells #[.string (⟨#[98]⟩ : ByteArray), .slice Ao16 y243.length co16, .slice Ao15 y246.length co15, .int .i64 0] 32 (0, 0)) (by (with_reducible repeat (first | refine blk_drewN ?_ _ | refine blk_drew ?_ | refine blk_alloc ?_ _)); exact BK249.out) hb); have n15_ := Aside0.mk (blk_below (g := gb267) (o := .cells #[.string t256, .string t257, .slice Ao30 t258.length co30, .slice (some ad268) t261.length co31, .int .i64 t264] 26 (0, 0)) (by (with_reducible repeat (first | refine blk_drewN ?_ _ | refine blk_drew ?_ | refine blk_alloc ?_ _)); exact BK267.out) hb); have n16_ := Aside0.mk (Kd.C_below (by repeat (first | (with_reducible exact HR268_2.out) | (with_reducible refine Kd.C_alloc ?_ _) | (with_reducible refine Kd.C_drewN ?_ _) | (with_reducible refine Kd.C_drew ?_) | exact HR268_2.out)) hb); have n17_ := Aside0.mk (Kd.C_below (by repeat (first | (with_reducible exact HR268_3.out) | (with_reducible refine Kd.C_alloc ?_ _) | (with_reducible refine Kd.C_drewN ?_ _) | (with_reducible refine Kd.C_drew ?_) | exact HR268_3.out)) hb); have n18_ := Aside0.mk (Kd.C_below (by repeat (first | (with_reducible exact HR269_2.out) | (with_reducible refine Kd.C_alloc ?_ _) | (with_reducible refine Kd.C_drewN ?_ _) | (with_reducible refine Kd.C_drew ?_) | exact HR269_2.out)) hb); have n19_ := Aside0.mk (Kd.C_below (by repeat (first | (with_reducible exact HR269_3.out) | (with_reducible refine Kd.C_alloc ?_ _) | (with_reducible refine Kd.C_drewN ?_ _) | (with_reducible refine Kd.C_drew ?_) | exact HR269_3.out)) hb); have n20_ := Aside0.mk (Kd.C_below (by repeat (first | (with_reducible exact HR270_2.out) | (with_reducible refine Kd.C_alloc ?_ _) | (with_reducible refine Kd.C_drewN ?_ _) | (with_reducible refine Kd.C_drew ?_) | exact HR270_2.out)) hb); have n21_ := Aside0.mk (Kd.C_below (by repeat (first | (with_reducible exact HR270_3.out) | (with_reducible refine Kd.C_alloc ?_ _) | (with_reducible refine Kd.C_drewN ?_ _) | (with_reducible refine Kd.C_drew ?_) | exact HR270_3.out)) hb); have n22_ := Aside0.mk (Kd.C_below (by repeat (first | (with_reducible exact HR271_2.out) | (with_reducible refine Kd.C_alloc ?_ _) | (with_reducible refine Kd.C_drewN ?_ _) | (with_reducible refine Kd.C_drew ?_) | exact HR271_2.out)) hb); have n23_ := Aside0.mk (Kd.C_below (by repeat (first | (with_reducible exact HR271_3.out) | (with_reducible refine Kd.C_alloc ?_ _) | (with_reducible refine Kd.C_drewN ?_ _) | (with_reducible refine Kd.C_drew ?_) | exact HR271_3.out)) hb); have n24_ := Aside0.mk (Kd.C_below (by repeat (first | (with_reducible exact HR272_2.out) | (with_reducible refine Kd.C_alloc ?_ _) | (with_reducible refine Kd.C_drewN ?_ _) | (with_reducible refine Kd.C_drew ?_) | exact HR272_2.out)) hb); have n25_ := Aside0.mk (Kd.C_below (by repeat (first | (with_reducible exact HR272_3.out) | (with_reducible refine Kd.C_alloc ?_ _) | (with_reducible refine Kd.C_drewN ?_ _) | (with_reducible refine Kd.C_drew ?_) | exact HR272_3.out)) hb); have n26_ := Aside0.mk (below_step (by repeat (first | (with_reducible first | exact HB.out | apply below_alloc | apply pw_below_drewN | apply below_drew1 | refine below_set ?_ GE249.out | refine below_set ?_ GE267.out) | exact HB.out)) hb); clear HO252; clear HO255; clear HO260; clear HO263; clear HL268_2; clear HL268_3; clear HL269_2; clear HL269_3; clear HL270_2; clear HL270_3; clear HL271_2; clear HL271_3; clear HL272_2; clear HL272_3; clear BK249; clear BK267; clear HR268_2; clear HR268_3; clear HR269_2; clear HR269_3; clear HR270_2; clear HR270_3; clear HR271_2; clear HR271_3; clear HR272_2; clear HR272_3; clear HB; have HO252 := n0_; have HO255 := n1_; have HO260 := n2_; have HO263 := n3_; have HL268_2 := n4_; have HL268_3 := n5_; have HL269_2 := n6_; have HL269_3 := n7_; have HL270_2 := n8_; have HL270_3 := n9_; have HL271_2 := n10_; have HL271_3 := n11_; have HL272_2 := n12_; have HL272_3 := n13_; have BK249 := n14_; have BK267 := n15_; have HR268_2 := n16_; have HR268_3 := n17_; have HR269_2 := n18_; have HR269_3 := n19_; have HR270_2 := n20_; have HR270_3 := n21_; have HR271_2 := n22_; have HR271_3 := n23_; have HR272_2 := n24_; have HR272_3 := n25_; have HB := n26_; clear n0_ n1_ n2_ n3_ n4_ n5_ n6_ n7_ n8_ n9_ n10_ n11_ n12_ n13_ n14_ n15_ n16_ n17_ n18_ n19_ n20_ n21_ n22_ n23_ n24_ n25_ n26_; (try clear hb); (try clear hb2); (try clear hk); (try clear hi)))
                            go_ret
                            exact ⟨by first | rfl | (simp [errW_none, errW_some] <;> rfl) | (simp [*, errW_none, errW_some] <;> rfl), by repeat (first | (with_reducible first | exact HB.out | apply below_alloc | apply pw_below_drewN | apply below_drew1 | refine below_set ?_ GE249.out | refine below_set ?_ GE267.out) | exact HB.out)⟩
                          · rw [if_neg c40] at H
                            have c40b0 : (((rd_T26 t261 1).f0).toList == a0.toList) = false := beq_eq_false_iff_ne.mpr c40
                            have c40b1 : (((rd_T26 t261 1).f0).toList != a0.toList) = true := bne_iff_ne.mpr c40
                            obtain rfl := Option.some.inj H
                            have hnb45 := NB267_249.out
                            have hnc45 := NB249_267.out
                            have hcz46_0 : w32.cell? ⟨gb267, 0, none⟩ = some (.string t256) := (blk_cell BK267.out 0).trans rfl
                            have hcz46_1 : w32.cell? ⟨gb267, 1, none⟩ = some (.string t257) := (blk_cell BK267.out 1).trans rfl
                            have hcz46_2 : w32.cell? ⟨gb267, 2, none⟩ = some (.slice Ao30 t258.length co30) := (blk_cell BK267.out 2).trans rfl
                            have hcz46_3 : w32.cell? ⟨gb267, 3, none⟩ = some (.slice (some ad268) t261.length co31) := (blk_cell BK267.out 3).trans rfl
                            have hcz46_4 : w32.cell? ⟨gb267, 4, none⟩ = some (.int .i64 t264) := (blk_cell BK267.out 4).trans rfl
                            have hfz46_0 := blk_frozen BK267.out 0
                            have hfz46_1 := blk_frozen BK267.out 1
                            have hfz46_2 := blk_frozen BK267.out 2
                            have hfz46_3 := blk_frozen BK267.out 3
                            have hfz46_4 := blk_frozen BK267.out 4
                            have p269 : 0 ≤ (0 : Int) := (by omega)
                            have q269 : 0 < (t261.length : Int) := of_decide_eq_true (by first | (with_reducible assumption) | assumption)
                            obtain ⟨ad269, A269_2, c269_2, A269_3, c269_3, e269, hx269_0, hx269_1, hx269_2, hx269_3, hx269_4, hl269_2, hi269_2, hl269_3, hi269_3⟩ := at_T26 (Kd.N_reads' HO263.out).2.2 0 p269 q269
                            obtain rfl : ad268 = ad269 := (by injection e269)
                            obtain ⟨ce269, hce269, hMe269, hcc269⟩ := Kd.N_get HO263.out z26 0 p269 (by first | exact q269 | exact of_decide_eq_true (by first | (with_reducible assumption) | assumption) | (have e_ := (Kd.N_reads' HO263.out).1; omega))
                            obtain ⟨ua269_2, uc269_2, ua269_3, uc269_3, rfl, ul269_2, ge269_2, ul269_3, ge269_3⟩ := k26_openF hMe269
                            have hv269_2 := hcc269 2 _ rfl
                            rw [add_field _ _ 2 (by omega)] at hv269_2
                            replace hv269_2 := Option.some.inj (hv269_2.symm.trans hx269_2)
                            injection hv269_2 with hva_ hvn_ hvc_
                            rw [hva_] at ge269_2
                            rw [hvc_] at ul269_2
                            have HL269_2 := Aside0.mk (show Kd.V k35 35 _ w.heap.size _ _ ((rd_T26 t261 0).f2) from Kd.V_mk ul269_2 ge269_2)
                            clear hva_ hvn_ hvc_ ge269_2 ul269_2
                            have hv269_3 := hcc269 3 _ rfl
                            rw [add_field _ _ 3 (by omega)] at hv269_3
                            replace hv269_3 := Option.some.inj (hv269_3.symm.trans hx269_3)
                            injection hv269_3 with hva_ hvn_ hvc_
                            rw [hva_] at ge269_3
                            rw [hvc_] at ul269_3
                            have HL269_3 := Aside0.mk (show Kd.V k26 26 _ w.heap.size _ _ ((rd_T26 t261 0).f3) from Kd.V_mk ul269_3 ge269_3)
                            clear hva_ hvn_ hvc_ ge269_3 ul269_3
                            clear hcc269 hce269
                            have qi269 : (0 < t261.length) = True := eq_true (by omega)
                            (try rw [show ((0 : Int)).toNat = 0 from rfl] at hx269_0)
                            (try rw [show 0 * 5 = 0 from rfl] at hx269_0)
                            (try rw [Addr.add_zero'] at hx269_0)
                            (try rw [show ((0 : Int)).toNat = 0 from rfl] at hx269_1)
                            (try rw [show 0 * 5 = 0 from rfl] at hx269_1)
                            (try rw [Addr.add_zero'] at hx269_1)
                            (try rw [show ((0 : Int)).toNat = 0 from rfl] at hx269_2)
                            (try rw [show 0 * 5 = 0 from rfl] at hx269_2)
                            (try rw [Addr.add_zero'] at hx269_2)
                            (try rw [show ((0 : Int)).toNat = 0 from rfl] at hx269_3)
                            (try rw [show 0 * 5 = 0 from rfl] at hx269_3)
                            (try rw [Addr.add_zero'] at hx269_3)
                            (try rw [show ((0 : Int)).toNat = 0 from rfl] at hx269_4)
                            (try rw [show 0 * 5 = 0 from rfl] at hx269_4)
                            (try rw [Addr.add_zero'] at hx269_4)
                            have HR269_2 := Aside0.mk hi269_2
                            have HC269_2 := Aside0.mk hl269_2
                            clear hi269_2 hl269_2
                            have HR269_3 := Aside0.mk hi269_3
                            have HC269_3 := Aside0.mk hl269_3
                            clear hi269_3 hl269_3
                            replace p269 := eq_true p269
                            replace q269 := eq_true q269
                            have p270 : 0 ≤ (0 : Int) := (by omega)
                            have q270 : 0 < (t261.length : Int) := of_decide_eq_true (by first | (with_reducible assumption) | assumption)
                            obtain ⟨ad270, A270_2, c270_2, A270_3, c270_3, e270, hx270_0, hx270_1, hx270_2, hx270_3, hx270_4, hl270_2, hi270_2, hl270_3, hi270_3⟩ := at_T26 (Kd.N_reads' HO263.out).2.2 0 p270 q270
                            obtain rfl : ad268 = ad270 := (by injection e270)
                            obtain ⟨ce270, hce270, hMe270, hcc270⟩ := Kd.N_get HO263.out z26 0 p270 (by first | exact q270 | exact of_decide_eq_true (by first | (with_reducible assumption) | assumption) | (have e_ := (Kd.N_reads' HO263.out).1; omega))
                            obtain ⟨ua270_2, uc270_2, ua270_3, uc270_3, rfl, ul270_2, ge270_2, ul270_3, ge270_3⟩ := k26_openF hMe270
                            have hv270_2 := hcc270 2 _ rfl
                            rw [add_field _ _ 2 (by omega)] at hv270_2
                            replace hv270_2 := Option.some.inj (hv270_2.symm.trans hx270_2)
                            injection hv270_2 with hva_ hvn_ hvc_
                            rw [hva_] at ge270_2
                            rw [hvc_] at ul270_2
                            have HL270_2 := Aside0.mk (show Kd.V k35 35 _ w.heap.size _ _ ((rd_T26 t261 0).f2) from Kd.V_mk ul270_2 ge270_2)
                            clear hva_ hvn_ hvc_ ge270_2 ul270_2
                            have hv270_3 := hcc270 3 _ rfl
                            rw [add_field _ _ 3 (by omega)] at hv270_3
                            replace hv270_3 := Option.some.inj (hv270_3.symm.trans hx270_3)
                            injection hv270_3 with hva_ hvn_ hvc_
                            rw [hva_] at ge270_3
                            rw [hvc_] at ul270_3
                            have HL270_3 := Aside0.mk (show Kd.V k26 26 _ w.heap.size _ _ ((rd_T26 t261 0).f3) from Kd.V_mk ul270_3 ge270_3)
                            clear hva_ hvn_ hvc_ ge270_3 ul270_3
                            clear hcc270 hce270
                            have qi270 : (0 < t261.length) = True := eq_true (by omega)
                            (try rw [show ((0 : Int)).toNat = 0 from rfl] at hx270_0)
                            (try rw [show 0 * 5 = 0 from rfl] at hx270_0)
                            (try rw [Addr.add_zero'] at hx270_0)
                            (try rw [show ((0 : Int)).toNat = 0 from rfl] at hx270_1)
                            (try rw [show 0 * 5 = 0 from rfl] at hx270_1)
                            (try rw [Addr.add_zero'] at hx270_1)
                            (try rw [show ((0 : Int)).toNat = 0 from rfl] at hx270_2)
                            (try rw [show 0 * 5 = 0 from rfl] at hx270_2)
                            (try rw [Addr.add_zero'] at hx270_2)
                            (try rw [show ((0 : Int)).toNat = 0 from rfl] at hx270_3)
                            (try rw [show 0 * 5 = 0 from rfl] at hx270_3)
                            (try rw [Addr.add_zero'] at hx270_3)
                            (try rw [show ((0 : Int)).toNat = 0 from rfl] at hx270_4)
                            (try rw [show 0 * 5 = 0 from rfl] at hx270_4)
                            (try rw [Addr.add_zero'] at hx270_4)
                            have HR270_2 := Aside0.mk hi270_2
                            have HC270_2 := Aside0.mk hl270_2
                            clear hi270_2 hl270_2
                            have HR270_3 := Aside0.mk hi270_3
                            have HC270_3 := Aside0.mk hl270_3
                            clear hi270_3 hl270_3
                            replace p270 := eq_true p270
                            replace q270 := eq_true q270
                            have ea_ := Option.some.inj (hx269_2.symm.trans hx270_2)
                            injection ea_ with ea_ en_ ec_
                            subst ea_
                            subst ec_
                            clear en_
                            have ea_ := Option.some.inj (hx269_3.symm.trans hx270_3)
                            injection ea_ with ea_ en_ ec_
                            subst ea_
                            subst ec_
                            clear en_
                            have p271 : 0 ≤ (0 : Int) := (by omega)
                            have q271 : 0 < (((rd_T26 t261 0).f3).length : Int) := of_decide_eq_true (by first | (with_reducible assumption) | assumption)
                            obtain ⟨ad271, A271_2, c271_2, A271_3, c271_3, e271, hx271_0, hx271_1, hx271_2, hx271_3, hx271_4, hl271_2, hi271_2, hl271_3, hi271_3⟩ := at_T26 (by repeat (first | (with_reducible exact HR270_3.out) | (with_reducible refine Kd.C_alloc ?_ _) | (with_reducible refine Kd.C_drewN ?_ _) | (with_reducible refine Kd.C_drew ?_) | exact HR270_3.out)) 0 p271 q271
                            cases e271
                            obtain ⟨ce271, hce271, hMe271, hcc271⟩ := Kd.V_get HL270_3.out z26 0 p271 (by first | exact q271 | exact of_decide_eq_true (by first | (with_reducible assumption) | assumption) | (have e_ := (Kd.V_reads' HL270_3.out).1; omega))
                            obtain ⟨ua271_2, uc271_2, ua271_3, uc271_3, rfl, ul271_2, ge271_2, ul271_3, ge271_3⟩ := k26_openF hMe271
                            have hv271_2 := hcc271 2 _ rfl
                            rw [add_field _ _ 2 (by omega)] at hv271_2
                            replace hv271_2 := Option.some.inj (hv271_2.symm.trans hx271_2)
                            injection hv271_2 with hva_ hvn_ hvc_
                            rw [hva_] at ge271_2
                            rw [hvc_] at ul271_2
                            have HL271_2 := Aside0.mk (show Kd.V k35 35 _ w.heap.size _ _ ((rd_T26 ((rd_T26 t261 0).f3) 0).f2) from Kd.V_mk ul271_2 ge271_2)
                            clear hva_ hvn_ hvc_ ge271_2 ul271_2
                            have hv271_3 := hcc271 3 _ rfl
                            rw [add_field _ _ 3 (by omega)] at hv271_3
                            replace hv271_3 := Option.some.inj (hv271_3.symm.trans hx271_3)
                            injection hv271_3 with hva_ hvn_ hvc_
                            rw [hva_] at ge271_3
                            rw [hvc_] at ul271_3
                            have HL271_3 := Aside0.mk (show Kd.V k26 26 _ w.heap.size _ _ ((rd_T26 ((rd_T26 t261 0).f3) 0).f3) from Kd.V_mk ul271_3 ge271_3)
                            clear hva_ hvn_ hvc_ ge271_3 ul271_3
                            clear hcc271 hce271
                            have qi271 : (0 < ((rd_T26 t261 0).f3).length) = True := eq_true (by omega)
                            (try rw [show ((0 : Int)).toNat = 0 from rfl] at hx271_0)
                            (try rw [show 0 * 5 = 0 from rfl] at hx271_0)
                            (try rw [Addr.add_zero'] at hx271_0)
                            (try rw [show ((0 : Int)).toNat = 0 from rfl] at hx271_1)
                            (try rw [show 0 * 5 = 0 from rfl] at hx271_1)
                            (try rw [Addr.add_zero'] at hx271_1)
                            (try rw [show ((0 : Int)).toNat = 0 from rfl] at hx271_2)
                            (try rw [show 0 * 5 = 0 from rfl] at hx271_2)
                            (try rw [Addr.add_zero'] at hx271_2)
                            (try rw [show ((0 : Int)).toNat = 0 from rfl] at hx271_3)
                            (try rw [show 0 * 5 = 0 from rfl] at hx271_3)
                            (try rw [Addr.add_zero'] at hx271_3)
                            (try rw [show ((0 : Int)).toNat = 0 from rfl] at hx271_4)
                            (try rw [show 0 * 5 = 0 from rfl] at hx271_4)
                            (try rw [Addr.add_zero'] at hx271_4)
                            have HR271_2 := Aside0.mk hi271_2
                            have HC271_2 := Aside0.mk hl271_2
                            clear hi271_2 hl271_2
                            have HR271_3 := Aside0.mk hi271_3
                            have HC271_3 := Aside0.mk hl271_3
                            clear hi271_3 hl271_3
                            replace p271 := eq_true p271
                            replace q271 := eq_true q271
                            have p272 : 0 ≤ (1 : Int) := (by omega)
                            have q272 : 1 < (t261.length : Int) := of_decide_eq_true (by first | (with_reducible assumption) | assumption)
                            obtain ⟨ad272, A272_2, c272_2, A272_3, c272_3, e272, hx272_0, hx272_1, hx272_2, hx272_3, hx272_4, hl272_2, hi272_2, hl272_3, hi272_3⟩ := at_T26 (Kd.N_reads' HO263.out).2.2 1 p272 q272
                            obtain rfl : ad268 = ad272 := (by injection e272)
                            obtain ⟨ce272, hce272, hMe272, hcc272⟩ := Kd.N_get HO263.out z26 1 p272 (by first | exact q272 | exact of_decide_eq_true (by first | (with_reducible assumption) | assumption) | (have e_ := (Kd.N_reads' HO263.out).1; omega))
                            obtain ⟨ua272_2, uc272_2, ua272_3, uc272_3, rfl, ul272_2, ge272_2, ul272_3, ge272_3⟩ := k26_openF hMe272
                            have hv272_2 := hcc272 2 _ rfl
                            rw [add_field _ _ 2 (by omega)] at hv272_2
                            replace hv272_2 := Option.some.inj (hv272_2.symm.trans hx272_2)
                            injection hv272_2 with hva_ hvn_ hvc_
                            rw [hva_] at ge272_2
                            rw [hvc_] at ul272_2
                            have HL272_2 := Aside0.mk (show Kd.V k35 35 _ w.heap.size _ _ ((rd_T26 t261 1).f2) from Kd.V_mk ul272_2 ge272_2)
                            clear hva_ hvn_ hvc_ ge272_2 ul272_2
                            have hv272_3 := hcc272 3 _ rfl
                            rw [add_field _ _ 3 (by omega)] at hv272_3
                            replace hv272_3 := Option.some.inj (hv272_3.symm.trans hx272_3)
                            injection hv272_3 with hva_ hvn_ hvc_
                            rw [hva_] at ge272_3
                            rw [hvc_] at ul272_3
                            have HL272_3 := Aside0.mk (show Kd.V k26 26 _ w.heap.size _ _ ((rd_T26 t261 1).f3) from Kd.V_mk ul272_3 ge272_3)
                            clear hva_ hvn_ hvc_ ge272_3 ul272_3
                            clear hcc272 hce272
                            (try simp only [show (1 : Int).toNat = 1 from rfl, Nat.reduceMul, Nat.reduceEqDiff, Go.Addr.add, ↓reduceIte] at hx272_0)
                            (try simp only [show (1 : Int).toNat = 1 from rfl, Nat.reduceMul, Nat.reduceEqDiff, Go.Addr.add, ↓reduceIte] at hx272_1)
                            (try simp only [show (1 : Int).toNat = 1 from rfl, Nat.reduceMul, Nat.reduceEqDiff, Go.Addr.add, ↓reduceIte] at hx272_2)
                            (try simp only [show (1 : Int).toNat = 1 from rfl, Nat.reduceMul, Nat.reduceEqDiff, Go.Addr.add, ↓reduceIte] at hx272_3)
                            (try simp only [show (1 : Int).toNat = 1 from rfl, Nat.reduceMul, Nat.reduceEqDiff, Go.Addr.add, ↓reduceIte] at hx272_4)
                            have qi272 : (1 < t261.length) = True := eq_true (by omega)
                            (try rw [show ((1 : Int)).toNat = 1 from rfl] at hx272_0)
                            (try rw [show 1 * 5 = 5 from rfl] at hx272_0)
                            (try rw [show ((1 : Int)).toNat = 1 from rfl] at hx272_1)
                            (try rw [show 1 * 5 = 5 from rfl] at hx272_1)
                            (try rw [show ((1 : Int)).toNat = 1 from rfl] at hx272_2)
                            (try rw [show 1 * 5 = 5 from rfl] at hx272_2)
                            (try rw [show ((1 : Int)).toNat = 1 from rfl] at hx272_3)
                            (try rw [show 1 * 5 = 5 from rfl] at hx272_3)
                            (try rw [show ((1 : Int)).toNat = 1 from rfl] at hx272_4)
                            (try rw [show 1 * 5 = 5 from rfl] at hx272_4)
                            have HR272_2 := Aside0.mk hi272_2
                            have HC272_2 := Aside0.mk hl272_2
                            clear hi272_2 hl272_2
                            have HR272_3 := Aside0.mk hi272_3
                            have HC272_3 := Aside0.mk hl272_3
                            clear hi272_3 hl272_3
                            replace p272 := eq_true p272
                            replace q272 := eq_true q272
                            go_wp2
                            go_ret
                            exact ⟨by first | rfl | (simp [errW_none, errW_some] <;> rfl) | (simp [*, errW_none, errW_some] <;> rfl), by repeat (first | (with_reducible first | exact HB.out | apply below_alloc | apply pw_below_drewN | apply below_drew1 | refine below_set ?_ GE249.out | refine below_set ?_ GE267.out) | exact HB.out)⟩
                        · rw [if_neg c39] at H
                          exact absurd H (by simp)
                      · rw [if_neg c38] at H
                        have c38b0 : (((rd_T26 ((rd_T26 t261 0).f3) 0).f0).toList == a1.toList) = false := beq_eq_false_iff_ne.mpr c38
                        have c38b1 : (((rd_T26 ((rd_T26 t261 0).f3) 0).f0).toList != a1.toList) = true := bne_iff_ne.mpr c38
                        obtain rfl := Option.some.inj H
                        have hnb47 := NB267_249.out
                        have hnc47 := NB249_267.out
                        have hcz48_0 : w32.cell? ⟨gb267, 0, none⟩ = some (.string t256) := (blk_cell BK267.out 0).trans rfl
                        have hcz48_1 : w32.cell? ⟨gb267, 1, none⟩ = some (.string t257) := (blk_cell BK267.out 1).trans rfl
                        have hcz48_2 : w32.cell? ⟨gb267, 2, none⟩ = some (.slice Ao30 t258.length co30) := (blk_cell BK267.out 2).trans rfl
                        have hcz48_3 : w32.cell? ⟨gb267, 3, none⟩ = some (.slice (some ad268) t261.length co31) := (blk_cell BK267.out 3).trans rfl
                        have hcz48_4 : w32.cell? ⟨gb267, 4, none⟩ = some (.int .i64 t264) := (blk_cell BK267.out 4).trans rfl
                        have hfz48_0 := blk_frozen BK267.out 0
                        have hfz48_1 := blk_frozen BK267.out 1
                        have hfz48_2 := blk_frozen BK267.out 2
                        have hfz48_3 := blk_frozen BK267.out 3
                        have hfz48_4 := blk_frozen BK267.out 4
                        have p269 : 0 ≤ (0 : Int) := (by omega)
                        have q269 : 0 < (t261.length : Int) := of_decide_eq_true (by first | (with_reducible assumption) | assumption)
                        obtain ⟨ad269, A269_2, c269_2, A269_3, c269_3, e269, hx269_0, hx269_1, hx269_2, hx269_3, hx269_4, hl269_2, hi269_2, hl269_3, hi269_3⟩ := at_T26 (Kd.N_reads' HO263.out).2.2 0 p269 q269
                        obtain rfl : ad268 = ad269 := (by injection e269)
                        obtain ⟨ce269, hce269, hMe269, hcc269⟩ := Kd.N_get HO263.out z26 0 p269 (by first | exact q269 | exact of_decide_eq_true (by first | (with_reducible assumption) | assumption) | (have e_ := (Kd.N_reads' HO263.out).1; omega))
                        obtain ⟨ua269_2, uc269_2, ua269_3, uc269_3, rfl, ul269_2, ge269_2, ul269_3, ge269_3⟩ := k26_openF hMe269
                        have hv269_2 := hcc269 2 _ rfl
                        rw [add_field _ _ 2 (by omega)] at hv269_2
                        replace hv269_2 := Option.some.inj (hv269_2.symm.trans hx269_2)
                        injection hv269_2 with hva_ hvn_ hvc_
                        rw [hva_] at ge269_2
                        rw [hvc_] at ul269_2
                        have HL269_2 := Aside0.mk (show Kd.V k35 35 _ w.heap.size _ _ ((rd_T26 t261 0).f2) from Kd.V_mk ul269_2 ge269_2)
                        clear hva_ hvn_ hvc_ ge269_2 ul269_2
                        have hv269_3 := hcc269 3 _ rfl
                        rw [add_field _ _ 3 (by omega)] at hv269_3
                        replace hv269_3 := Option.some.inj (hv269_3.symm.trans hx269_3)
                        injection hv269_3 with hva_ hvn_ hvc_
                        rw [hva_] at ge269_3
                        rw [hvc_] at ul269_3
                        have HL269_3 := Aside0.mk (show Kd.V k26 26 _ w.heap.size _ _ ((rd_T26 t261 0).f3) from Kd.V_mk ul269_3 ge269_3)
                        clear hva_ hvn_ hvc_ ge269_3 ul269_3
                        clear hcc269 hce269
                        have qi269 : (0 < t261.length) = True := eq_true (by omega)
                        (try rw [show ((0 : Int)).toNat = 0 from rfl] at hx269_0)
                        (try rw [show 0 * 5 = 0 from rfl] at hx269_0)
                        (try rw [Addr.add_zero'] at hx269_0)
                        (try rw [show ((0 : Int)).toNat = 0 from rfl] at hx269_1)
                        (try rw [show 0 * 5 = 0 from rfl] at hx269_1)
                        (try rw [Addr.add_zero'] at hx269_1)
                        (try rw [show ((0 : Int)).toNat = 0 from rfl] at hx269_2)
                        (try rw [show 0 * 5 = 0 from rfl] at hx269_2)
                        (try rw [Addr.add_zero'] at hx269_2)
                        (try rw [show ((0 : Int)).toNat = 0 from rfl] at hx269_3)
                        (try rw [show 0 * 5 = 0 from rfl] at hx269_3)
                        (try rw [Addr.add_zero'] at hx269_3)
                        (try rw [show ((0 : Int)).toNat = 0 from rfl] at hx269_4)
                        (try rw [show 0 * 5 = 0 from rfl] at hx269_4)
                        (try rw [Addr.add_zero'] at hx269_4)
                        have HR269_2 := Aside0.mk hi269_2
                        have HC269_2 := Aside0.mk hl269_2
                        clear hi269_2 hl269_2
                        have HR269_3 := Aside0.mk hi269_3
                        have HC269_3 := Aside0.mk hl269_3
                        clear hi269_3 hl269_3
                        replace p269 := eq_true p269
                        replace q269 := eq_true q269
                        have p270 : 0 ≤ (0 : Int) := (by omega)
                        have q270 : 0 < (t261.length : Int) := of_decide_eq_true (by first | (with_reducible assumption) | assumption)
                        obtain ⟨ad270, A270_2, c270_2, A270_3, c270_3, e270, hx270_0, hx270_1, hx270_2, hx270_3, hx270_4, hl270_2, hi270_2, hl270_3, hi270_3⟩ := at_T26 (Kd.N_reads' HO263.out).2.2 0 p270 q270
                        obtain rfl : ad268 = ad270 := (by injection e270)
                        obtain ⟨ce270, hce270, hMe270, hcc270⟩ := Kd.N_get HO263.out z26 0 p270 (by first | exact q270 | exact of_decide_eq_true (by first | (with_reducible assumption) | assumption) | (have e_ := (Kd.N_reads' HO263.out).1; omega))
                        obtain ⟨ua270_2, uc270_2, ua270_3, uc270_3, rfl, ul270_2, ge270_2, ul270_3, ge270_3⟩ := k26_openF hMe270
                        have hv270_2 := hcc270 2 _ rfl
                        rw [add_field _ _ 2 (by omega)] at hv270_2
                        replace hv270_2 := Option.some.inj (hv270_2.symm.trans hx270_2)
                        injection hv270_2 with hva_ hvn_ hvc_
                        rw [hva_] at ge270_2
                        rw [hvc_] at ul270_2
                        have HL270_2 := Aside0.mk (show Kd.V k35 35 _ w.heap.size _ _ ((rd_T26 t261 0).f2) from Kd.V_mk ul270_2 ge270_2)
                        clear hva_ hvn_ hvc_ ge270_2 ul270_2
                        have hv270_3 := hcc270 3 _ rfl
                        rw [add_field _ _ 3 (by omega)] at hv270_3
                        replace hv270_3 := Option.some.inj (hv270_3.symm.trans hx270_3)
                        injection hv270_3 with hva_ hvn_ hvc_
                        rw [hva_] at ge270_3
                        rw [hvc_] at ul270_3
                        have HL270_3 := Aside0.mk (show Kd.V k26 26 _ w.heap.size _ _ ((rd_T26 t261 0).f3) from Kd.V_mk ul270_3 ge270_3)
                        clear hva_ hvn_ hvc_ ge270_3 ul270_3
                        clear hcc270 hce270
                        have qi270 : (0 < t261.length) = True := eq_true (by omega)
                        (try rw [show ((0 : Int)).toNat = 0 from rfl] at hx270_0)
                        (try rw [show 0 * 5 = 0 from rfl] at hx270_0)
                        (try rw [Addr.add_zero'] at hx270_0)
                        (try rw [show ((0 : Int)).toNat = 0 from rfl] at hx270_1)
                        (try rw [show 0 * 5 = 0 from rfl] at hx270_1)
                        (try rw [Addr.add_zero'] at hx270_1)
                        (try rw [show ((0 : Int)).toNat = 0 from rfl] at hx270_2)
                        (try rw [show 0 * 5 = 0 from rfl] at hx270_2)
                        (try rw [Addr.add_zero'] at hx270_2)
                        (try rw [show ((0 : Int)).toNat = 0 from rfl] at hx270_3)
                        (try rw [show 0 * 5 = 0 from rfl] at hx270_3)
                        (try rw [Addr.add_zero'] at hx270_3)
                        (try rw [show ((0 : Int)).toNat = 0 from rfl] at hx270_4)
                        (try rw [show 0 * 5 = 0 from rfl] at hx270_4)
                        (try rw [Addr.add_zero'] at hx270_4)
                        have HR270_2 := Aside0.mk hi270_2
                        have HC270_2 := Aside0.mk hl270_2
                        clear hi270_2 hl270_2
                        have HR270_3 := Aside0.mk hi270_3
                        have HC270_3 := Aside0.mk hl270_3
                        clear hi270_3 hl270_3
                        replace p270 := eq_true p270
                        replace q270 := eq_true q270
                        have ea_ := Option.some.inj (hx269_2.symm.trans hx270_2)
                        injection ea_ with ea_ en_ ec_
                        subst ea_
                        subst ec_
                        clear en_
                        have ea_ := Option.some.inj (hx269_3.symm.trans hx270_3)
                        injection ea_ with ea_ en_ ec_
                        subst ea_
                        subst ec_
                        clear en_
                        have p271 : 0 ≤ (0 : Int) := (by omega)
                        have q271 : 0 < (((rd_T26 t261 0).f3).length : Int) := of_decide_eq_true (by first | (with_reducible assumption) | assumption)
                        obtain ⟨ad271, A271_2, c271_2, A271_3, c271_3, e271, hx271_0, hx271_1, hx271_2, hx271_3, hx271_4, hl271_2, hi271_2, hl271_3, hi271_3⟩ := at_T26 (by repeat (first | (with_reducible exact HR270_3.out) | (with_reducible refine Kd.C_alloc ?_ _) | (with_reducible refine Kd.C_drewN ?_ _) | (with_reducible refine Kd.C_drew ?_) | exact HR270_3.out)) 0 p271 q271
                        cases e271
                        obtain ⟨ce271, hce271, hMe271, hcc271⟩ := Kd.V_get HL270_3.out z26 0 p271 (by first | exact q271 | exact of_decide_eq_true (by first | (with_reducible assumption) | assumption) | (have e_ := (Kd.V_reads' HL270_3.out).1; omega))
                        obtain ⟨ua271_2, uc271_2, ua271_3, uc271_3, rfl, ul271_2, ge271_2, ul271_3, ge271_3⟩ := k26_openF hMe271
                        have hv271_2 := hcc271 2 _ rfl
                        rw [add_field _ _ 2 (by omega)] at hv271_2
                        replace hv271_2 := Option.some.inj (hv271_2.symm.trans hx271_2)
                        injection hv271_2 with hva_ hvn_ hvc_
                        rw [hva_] at ge271_2
                        rw [hvc_] at ul271_2
                        have HL271_2 := Aside0.mk (show Kd.V k35 35 _ w.heap.size _ _ ((rd_T26 ((rd_T26 t261 0).f3) 0).f2) from Kd.V_mk ul271_2 ge271_2)
                        clear hva_ hvn_ hvc_ ge271_2 ul271_2
                        have hv271_3 := hcc271 3 _ rfl
                        rw [add_field _ _ 3 (by omega)] at hv271_3
                        replace hv271_3 := Option.some.inj (hv271_3.symm.trans hx271_3)
                        injection hv271_3 with hva_ hvn_ hvc_
                        rw [hva_] at ge271_3
                        rw [hvc_] at ul271_3
                        have HL271_3 := Aside0.mk (show Kd.V k26 26 _ w.heap.size _ _ ((rd_T26 ((rd_T26 t261 0).f3) 0).f3) from Kd.V_mk ul271_3 ge271_3)
                        clear hva_ hvn_ hvc_ ge271_3 ul271_3
                        clear hcc271 hce271
                        have qi271 : (0 < ((rd_T26 t261 0).f3).length) = True := eq_true (by omega)
                        (try rw [show ((0 : Int)).toNat = 0 from rfl] at hx271_0)
                        (try rw [show 0 * 5 = 0 from rfl] at hx271_0)
                        (try rw [Addr.add_zero'] at hx271_0)
                        (try rw [show ((0 : Int)).toNat = 0 from rfl] at hx271_1)
                        (try rw [show 0 * 5 = 0 from rfl] at hx271_1)
                        (try rw [Addr.add_zero'] at hx271_1)
                        (try rw [show ((0 : Int)).toNat = 0 from rfl] at hx271_2)
                        (try rw [show 0 * 5 = 0 from rfl] at hx271_2)
                        (try rw [Addr.add_zero'] at hx271_2)
                        (try rw [show ((0 : Int)).toNat = 0 from rfl] at hx271_3)
                        (try rw [show 0 * 5 = 0 from rfl] at hx271_3)
                        (try rw [Addr.add_zero'] at hx271_3)
                        (try rw [show ((0 : Int)).toNat = 0 from rfl] at hx271_4)
                        (try rw [show 0 * 5 = 0 from rfl] at hx271_4)
                        (try rw [Addr.add_zero'] at hx271_4)
                        have HR271_2 := Aside0.mk hi271_2
                        have HC271_2 := Aside0.mk hl271_2
                        clear hi271_2 hl271_2
                        have HR271_3 := Aside0.mk hi271_3
                        have HC271_3 := Aside0.mk hl271_3
                        clear hi271_3 hl271_3
                        replace p271 := eq_true p271
                        replace q271 := eq_true q271
                        go_wp2
                        go_ret
                        exact ⟨by first | rfl | (simp [errW_none, errW_some] <;> rfl) | (simp [*, errW_none, errW_some] <;> rfl), by repeat (first | (with_reducible first | exact HB.out | apply below_alloc | apply pw_below_drewN | apply below_drew1 | refine below_set ?_ GE249.out | refine below_set ?_ GE267.out) | exact HB.out)⟩
                    · rw [if_neg c37] at H
                      exact absurd H (by simp)
                  · rw [if_neg c36] at H
                    have c36b0 : (((rd_T26 t261 0).f0).toList == a1.toList) = false := beq_eq_false_iff_ne.mpr c36
                    have c36b1 : (((rd_T26 t261 0).f0).toList != a1.toList) = true := bne_iff_ne.mpr c36
                    obtain rfl := Option.some.inj H
                    have hnb49 := NB267_249.out
                    have hnc49 := NB249_267.out
                    have hcz50_0 : w32.cell? ⟨gb267, 0, none⟩ = some (.string t256) := (blk_cell BK267.out 0).trans rfl
                    have hcz50_1 : w32.cell? ⟨gb267, 1, none⟩ = some (.string t257) := (blk_cell BK267.out 1).trans rfl
                    have hcz50_2 : w32.cell? ⟨gb267, 2, none⟩ = some (.slice Ao30 t258.length co30) := (blk_cell BK267.out 2).trans rfl
                    have hcz50_3 : w32.cell? ⟨gb267, 3, none⟩ = some (.slice (some ad268) t261.length co31) := (blk_cell BK267.out 3).trans rfl
                    have hcz50_4 : w32.cell? ⟨gb267, 4, none⟩ = some (.int .i64 t264) := (blk_cell BK267.out 4).trans rfl
                    have hfz50_0 := blk_frozen BK267.out 0
                    have hfz50_1 := blk_frozen BK267.out 1
                    have hfz50_2 := blk_frozen BK267.out 2
                    have hfz50_3 := blk_frozen BK267.out 3
                    have hfz50_4 := blk_frozen BK267.out 4
                    have p269 : 0 ≤ (0 : Int) := (by omega)
                    have q269 : 0 < (t261.length : Int) := of_decide_eq_true (by first | (with_reducible assumption) | assumption)
                    obtain ⟨ad269, A269_2, c269_2, A269_3, c269_3, e269, hx269_0, hx269_1, hx269_2, hx269_3, hx269_4, hl269_2, hi269_2, hl269_3, hi269_3⟩ := at_T26 (Kd.N_reads' HO263.out).2.2 0 p269 q269
                    obtain rfl : ad268 = ad269 := (by injection e269)
                    obtain ⟨ce269, hce269, hMe269, hcc269⟩ := Kd.N_get HO263.out z26 0 p269 (by first | exact q269 | exact of_decide_eq_true (by first | (with_reducible assumption) | assumption) | (have e_ := (Kd.N_reads' HO263.out).1; omega))
                    obtain ⟨ua269_2, uc269_2, ua269_3, uc269_3, rfl, ul269_2, ge269_2, ul269_3, ge269_3⟩ := k26_openF hMe269
                    have hv269_2 := hcc269 2 _ rfl
                    rw [add_field _ _ 2 (by omega)] at hv269_2
                    replace hv269_2 := Option.some.inj (hv269_2.symm.trans hx269_2)
                    injection hv269_2 with hva_ hvn_ hvc_
                    rw [hva_] at ge269_2
                    rw [hvc_] at ul269_2
                    have HL269_2 := Aside0.mk (show Kd.V k35 35 _ w.heap.size _ _ ((rd_T26 t261 0).f2) from Kd.V_mk ul269_2 ge269_2)
                    clear hva_ hvn_ hvc_ ge269_2 ul269_2
                    have hv269_3 := hcc269 3 _ rfl
                    rw [add_field _ _ 3 (by omega)] at hv269_3
                    replace hv269_3 := Option.some.inj (hv269_3.symm.trans hx269_3)
                    injection hv269_3 with hva_ hvn_ hvc_
                    rw [hva_] at ge269_3
                    rw [hvc_] at ul269_3
                    have HL269_3 := Aside0.mk (show Kd.V k26 26 _ w.heap.size _ _ ((rd_T26 t261 0).f3) from Kd.V_mk ul269_3 ge269_3)
                    clear hva_ hvn_ hvc_ ge269_3 ul269_3
                    clear hcc269 hce269
                    have qi269 : (0 < t261.length) = True := eq_true (by omega)
                    (try rw [show ((0 : Int)).toNat = 0 from rfl] at hx269_0)
                    (try rw [show 0 * 5 = 0 from rfl] at hx269_0)
                    (try rw [Addr.add_zero'] at hx269_0)
                    (try rw [show ((0 : Int)).toNat = 0 from rfl] at hx269_1)
                    (try rw [show 0 * 5 = 0 from rfl] at hx269_1)
                    (try rw [Addr.add_zero'] at hx269_1)
                    (try rw [show ((0 : Int)).toNat = 0 from rfl] at hx269_2)
                    (try rw [show 0 * 5 = 0 from rfl] at hx269_2)
                    (try rw [Addr.add_zero'] at hx269_2)
                    (try rw [show ((0 : Int)).toNat = 0 from rfl] at hx269_3)
                    (try rw [show 0 * 5 = 0 from rfl] at hx269_3)
                    (try rw [Addr.add_zero'] at hx269_3)
                    (try rw [show ((0 : Int)).toNat = 0 from rfl] at hx269_4)
                    (try rw [show 0 * 5 = 0 from rfl] at hx269_4)
                    (try rw [Addr.add_zero'] at hx269_4)
                    have HR269_2 := Aside0.mk hi269_2
                    have HC269_2 := Aside0.mk hl269_2
                    clear hi269_2 hl269_2
                    have HR269_3 := Aside0.mk hi269_3
                    have HC269_3 := Aside0.mk hl269_3
                    clear hi269_3 hl269_3
                    replace p269 := eq_true p269
                    replace q269 := eq_true q269
                    go_wp2
                    go_ret
                    exact ⟨by first | rfl | (simp [errW_none, errW_some] <;> rfl) | (simp [*, errW_none, errW_some] <;> rfl), by repeat (first | (with_reducible first | exact HB.out | apply below_alloc | apply pw_below_drewN | apply below_drew1 | refine below_set ?_ GE249.out | refine below_set ?_ GE267.out) | exact HB.out)⟩
                · rw [if_neg c35] at H
                  have c35b0 : (t256.toList == a0.toList) = false := beq_eq_false_iff_ne.mpr c35
                  have c35b1 : (t256.toList != a0.toList) = true := bne_iff_ne.mpr c35
                  obtain rfl := Option.some.inj H
                  have hnb51 := NB267_249.out
                  have hnc51 := NB249_267.out
                  have hcz52_0 : w32.cell? ⟨gb267, 0, none⟩ = some (.string t256) := (blk_cell BK267.out 0).trans rfl
                  have hcz52_1 : w32.cell? ⟨gb267, 1, none⟩ = some (.string t257) := (blk_cell BK267.out 1).trans rfl
                  have hcz52_2 : w32.cell? ⟨gb267, 2, none⟩ = some (.slice Ao30 t258.length co30) := (blk_cell BK267.out 2).trans rfl
                  have hcz52_3 : w32.cell? ⟨gb267, 3, none⟩ = some (.slice (some ad268) t261.length co31) := (blk_cell BK267.out 3).trans rfl
                  have hcz52_4 : w32.cell? ⟨gb267, 4, none⟩ = some (.int .i64 t264) := (blk_cell BK267.out 4).trans rfl
                  have hfz52_0 := blk_frozen BK267.out 0
                  have hfz52_1 := blk_frozen BK267.out 1
                  have hfz52_2 := blk_frozen BK267.out 2
                  have hfz52_3 := blk_frozen BK267.out 3
                  have hfz52_4 := blk_frozen BK267.out 4
                  go_wp2
                  go_ret
                  exact ⟨by first | rfl | (simp [errW_none, errW_some] <;> rfl) | (simp [*, errW_none, errW_some] <;> rfl), by repeat (first | (with_reducible first | exact HB.out | apply below_alloc | apply pw_below_drewN | apply below_drew1 | refine below_set ?_ GE249.out | refine below_set ?_ GE267.out) | exact HB.out)⟩
              · rw [if_neg c34] at H
                have c34b0 : ((((rd_T26 t261 0).f3).length : Int) == 1) = false := beq_eq_false_iff_ne.mpr c34
                have c34b1 : ((((rd_T26 t261 0).f3).length : Int) != 1) = true := bne_iff_ne.mpr c34
                obtain rfl := Option.some.inj H
                go_wp2
                go_ret
                exact ⟨by first | rfl | (simp [errW_none, errW_some] <;> rfl) | (simp [*, errW_none, errW_some] <;> rfl), by repeat (first | (with_reducible first | exact HB.out | apply below_alloc | apply pw_below_drewN | apply below_drew1 | refine below_set ?_ GE249.out | refine below_set ?_ GE267.out) | exact HB.out)⟩
            · rw [if_neg c9] at H
              exact absurd H (by simp)
          · rw [if_neg c8] at H
            have c8b0 : ((t261.length : Int) == 2) = false := beq_eq_false_iff_ne.mpr c8
            have c8b1 : ((t261.length : Int) != 2) = true := bne_iff_ne.mpr c8
            have HC53 := Aside0.mk H
            clear H
            go_upto_if 51 with (first | ((with_reducible refine gate_dst (N := 19) rfl ?_); (try (refine gate_guard (by rfl) ?_; dsimp only)); refine Kd.R_lit k35 _ 35 ?hg (N := 19) ?hd (xs := ([(⟨(⟨#[120, 109, 108, 110, 115]⟩ : ByteArray), a1⟩ : S35)] : List (S35))) (inner := [.string (⟨#[120, 109, 108, 110, 115]⟩ : ByteArray), .string a1]) (ok := fun _ => True) (okp := fun _ => True) ?hr ?hp (fun _ hk => hk) trivial (Below.refl _ _) (Nat.le_refl _) (by simp) ?_; (case hd => rfl); (case hg => rfl); (case hr => first | (go_simp; done) | (go_simp; rfl)); (case hp => exact (Reps.c2 (show Kd.M k35 _ _ _ (⟨(⟨#[120, 109, 108, 110, 115]⟩ : ByteArray), a1⟩ : S35) [.string (⟨#[120, 109, 108, 110, 115]⟩ : ByteArray), .string a1] from (k35_mkM _ _ _ (⟨(⟨#[120, 109, 108, 110, 115]⟩ : ByteArray), a1⟩ : S35) )) (Reps.none _ _))); intro v244 w54 ho55 hb hg_ hnew_; clear hg_ hnew_; (first | rw [← Ny243.out] at ho55 | (simp only [Int.reduceToNat] at ho55; rw [← Ny243.out] at ho55)); have n0_ := Aside0.mk (Kd.R_lower ho55 (below_size (by repeat (first | (with_reducible first | exact HB.out | apply below_alloc | apply pw_below_drewN | apply below_drew1) | exact HB.out)))); have n1_ := Aside0.mk (below_step (by repeat (first | (with_reducible first | exact HB.out | apply below_alloc | apply pw_below_drewN | apply below_drew1) | exact HB.out)) hb); clear HB; have HO245 := n0_; have HB := n1_; clear n0_ n1_; clear hb ho55) | ((with_reducible refine gate_dst (N := 21) rfl ?_); (try (refine gate_guard (by rfl) ?_; dsimp only)); refine Kd.N_lit k32 _ 32 ?hg (N' := 21) ?hd (xs := ([(⟨(⟨#[99]⟩ : ByteArray), ([] : List (S35)), ([] : List (S32)), 0⟩ : S32)] : List (S32))) (inner := [.string (⟨#[99]⟩ : ByteArray), .slice none 0 0, .slice none 0 0, .int .i64 0]) (ok := (fun k_ => some k_ ≠ (v244 : Value).ownBlock)) (okp := (fun k_ => some k_ ≠ (v244 : Value).ownBlock)) ?hr ?hp (fun _ hk => hk) ((show ∀ k_, w54.heap.size ≤ k_ → (fun k_ => some k_ ≠ (v244 : Value).ownBlock) k_ from fun k_ hk => Kd.fresh' (Kd.R_lt (by (with_reducible repeat (first | apply Kd.R_alloc | apply Kd.R_drewN | apply Kd.R_drew)); exact HO245.out)) k_ hk) _ (Nat.le_refl _)) (Below.refl _ _) (Nat.le_refl _) (by simp) ?_; (case hd => rfl); (case hg => rfl); (case hr => first | (go_simp; done) | (go_simp; rfl)); (case hp => exact (Reps.c4 (show Kd.FK k32 _ _ (⟨(⟨#[99]⟩ : ByteArray), ([] : List (S35)), ([] : List (S32)), 0⟩ : S32) [.string (⟨#[99]⟩ : ByteArray), .slice none 0 0, .slice none 0 0, .int .i64 0] from (k32_mkF _ _ (⟨(⟨#[99]⟩ : ByteArray), ([] : List (S35)), ([] : List (S32)), 0⟩ : S32) (Nat.le_refl _) (Kd.F_nil _ _ _) (Nat.le_refl _) (Kd.F_nil _ _ _))) (Reps.none _ _))); intro v247 w56 ho57 hb hg_ hnew_; clear hg_ hnew_; (first | rw [← Ny246.out] at ho57 | (simp only [Int.reduceToNat] at ho57; rw [← Ny246.out] at ho57)); have n0_ := Aside0.mk (Kd.R_below (by (with_reducible repeat (first | apply Kd.R_alloc | apply Kd.R_drewN | apply Kd.R_drew)); exact HO245.out) hb); have n1_ := Aside0.mk (Kd.N_lower ho57 (below_size (by repeat (first | (with_reducible first | exact HB.out | apply below_alloc | apply pw_below_drewN | apply below_drew1) | exact HB.out)))); have n2_ := Aside0.mk (below_step (by repeat (first | (with_reducible first | exact HB.out | apply below_alloc | apply pw_below_drewN | apply below_drew1) | exact HB.out)) hb); clear HO245; clear HB; have HO245 := n0_; have HO248 := n1_; have HB := n2_; clear n0_ n1_ n2_; clear hb ho57; obtain ⟨Ao58, co58, eo58⟩ := Kd.N_slice HO248.out; subst eo58; obtain ⟨Ao59, co59, eo59⟩ := Kd.R_slice HO245.out; subst eo59) | ((with_reducible refine gate_dst (N := 5) rfl ?_); (try (refine gate_guard (by rfl) ?_; dsimp only)); refine box_event ?hg (N := 5) ?hd (cs := #[.string (⟨#[]⟩ : ByteArray), .slice none 0 0, .slice none 0 0, .int .i64 0]) (t := 32) ?hr ?_; (case hd => rfl); (case hg => rfl); (case hr => first | (go_simp; done) | (go_simp; rfl)); intro gb249 hg w60 hbox hb; have n0_ := Aside0.mk (Kd.R_below (by (with_reducible repeat (first | apply Kd.R_alloc | apply Kd.R_drewN | apply Kd.R_drew)); exact HO245.out) hb); have n1_ := Aside0.mk (Kd.N_below (Kd.N_elderB (by (with_reducible repeat (first | apply Kd.N_alloc | apply Kd.N_drewN | apply Kd.N_drew)); exact HO248.out) gb249 (Nat.le_of_eq hg.symm)) hb); have n2_ := Aside0.mk (below_step (by repeat (first | (with_reducible first | exact HB.out | apply below_alloc | apply pw_below_drewN | apply below_drew1) | exact HB.out)) hb); have n3_ := Aside0.mk (hbox); have n4_ := Aside0.mk ((by rw [hg]; exact (below_size (by repeat (first | (with_reducible first | exact HB.out | apply below_alloc | apply pw_below_drewN | apply below_drew1) | exact HB.out))) : w.heap.size ≤ gb249)); have n5_ := Aside0.mk ((by rw [hg]; exact (below_size (by repeat (first | (with_reducible first | exact HB.out | apply below_alloc | apply pw_below_drewN | apply below_drew1) | exact HB.out))) : w.heap.size ≤ gb249)); clear HO245; clear HO248; clear HB; have HO245 := n0_; have HO248 := n1_; have HB := n2_; have BK249 := n3_; have GW249 := n4_; have GE249 := n5_; clear n0_ n1_ n2_ n3_ n4_ n5_; clear hb hbox hg; have hcz61_0 : w60.cell? ⟨gb249, 0, none⟩ = some (.string (⟨#[]⟩ : ByteArray)) := (blk_cell BK249.out 0).trans rfl; have hcz61_1 : w60.cell? ⟨gb249, 1, none⟩ = some (.slice none 0 0) := (blk_cell BK249.out 1).trans rfl; have hcz61_2 : w60.cell? ⟨gb249, 2, none⟩ = some (.slice none 0 0) := (blk_cell BK249.out 2).trans rfl; have hcz61_3 : w60.cell? ⟨gb249, 3, none⟩ = some (.int .i64 0) := (blk_cell BK249.out 3).trans rfl; have hfz61_0 := blk_frozen BK249.out 0; have hfz61_1 := blk_frozen BK249.out 1; have hfz61_2 := blk_frozen BK249.out 2; have hfz61_3 := blk_frozen BK249.out 3) | ((with_reducible refine gate_dst (N := 26) rfl ?_); (try (refine gate_guard (by rfl) ?_; dsimp only)); refine Kd.R_lit k35 _ 35 ?hg (N := 26) ?hd (xs := ([(⟨(⟨#[120, 109, 108, 110, 115]⟩ : ByteArray), a0⟩ : S35)] : List (S35))) (inner := [.string (⟨#[120, 109, 108, 110, 115]⟩ : ByteArray), .string a0]) (ok := fun _ => True) (okp := fun _ => True) ?hr ?hp (fun _ hk => hk) trivial (Below.refl _ _) (Nat.le_refl _) (by simp) ?_; (case hd => rfl); (case hg => rfl); (case hr => first | (go_simp; done) | (go_simp; rfl)); (case hp => exact (Reps.c2 (show Kd.M k35 _ _ _ (⟨(⟨#[120, 109, 108, 110, 115]⟩ : ByteArray), a0⟩ : S35) [.string (⟨#[120, 109, 108, 110, 115]⟩ : ByteArray), .string a0] from (k35_mkM _ _ _ (⟨(⟨#[120, 109, 108, 110, 115]⟩ : ByteArray), a0⟩ : S35) )) (Reps.none _ _))); intro v251 w62 ho63 hb hg_ hnew_; clear hg_ hnew_; (first | rw [← Ny250.out] at ho63 | (simp only [Int.reduceToNat] at ho63; rw [← Ny250.out] at ho63)); have n0_ := Aside0.mk (Kd.R_elder' (by (with_reducible repeat (first | apply Kd.R_alloc | apply Kd.R_drewN | apply Kd.R_drew)); exact (Kd.R_mono (Kd.R_far (p := ⟨gb249, 3, none⟩) (Kd.R_far (p := ⟨gb249, 2, none⟩) (Kd.R_far (p := ⟨gb249, 1, none⟩) (Kd.R_far (p := ⟨gb249, 0, none⟩) (Kd.R_types HO245.out BK249.out (by decide)) (fun _ hk => hk.2) (.string (⟨#[98]⟩ : ByteArray))) (fun _ hk => hk.2) (.slice Ao59 y243.length co59)) (fun _ hk => hk.2) (.slice Ao58 y246.length co58)) (fun _ hk => hk.2) (.int .i64 0)) (fun _ h_ => h_.1))) (Kd.R_base ho63) hb); have n1_ := Aside0.mk (Kd.N_elder' (by (with_reducible repeat (first | apply Kd.N_alloc | apply Kd.N_drewN | apply Kd.N_drew)); exact (Kd.N_mono (Kd.N_far (p := ⟨gb249, 3, none⟩) (Kd.N_far (p := ⟨gb249, 2, none⟩) (Kd.N_far (p := ⟨gb249, 1, none⟩) (Kd.N_far (p := ⟨gb249, 0, none⟩) (Kd.N_mono HO248.out (fun k_ hk => (⟨hk, hk.2⟩ : _ ∧ k_ ≠ gb249))) (fun _ hk => hk.2) (.string (⟨#[98]⟩ : ByteArray))) (fun _ hk => hk.2) (.slice Ao59 y243.length co59)) (fun _ hk => hk.2) (.slice Ao58 y246.length co58)) (fun _ hk => hk.2) (.int .i64 0)) (fun _ h_ => h_.1))) (Kd.R_base ho63) hb); have n2_ := Aside0.mk (Kd.R_lower (Kd.R_new' ho63 (Kd.R_lt (by (with_reducible repeat (first | apply Kd.R_alloc | apply Kd.R_drewN | apply Kd.R_drew)); exact (Kd.R_mono (Kd.R_far (p := ⟨gb249, 3, none⟩) (Kd.R_far (p := ⟨gb249, 2, none⟩) (Kd.R_far (p := ⟨gb249, 1, none⟩) (Kd.R_far (p := ⟨gb249, 0, none⟩) (Kd.R_types HO245.out BK249.out (by decide)) (fun _ hk => hk.2) (.string (⟨#[98]⟩ : ByteArray))) (fun _ hk => hk.2) (.slice Ao59 y243.length co59)) (fun _ hk => hk.2) (.slice Ao58 y246.length co58)) (fun _ hk => hk.2) (.int .i64 0)) (fun _ h_ => h_.1))))) (below_size (by repeat (first | (with_reducible first | exact HB.out | apply below_alloc | apply pw_below_drewN | apply below_drew1 | refine below_set ?_ GE249.out) | exact HB.out)))); have n3_ := Aside0.mk (blk_below (g := gb249) (o := .cells #[.string (⟨#[98]⟩ : ByteArray), .slice Ao59 y243.length co59, .slice Ao58 y246.length co58, .int .i64 0] 32 (0, 0)) (by (with_reducible repeat (first | refine blk_drewN ?_ _ | refine blk_drew ?_ | refine blk_alloc ?_ _)); refine blk_put (cs := #[.string (⟨#[98]⟩ : ByteArray), .slice Ao59 y243.length co59, .slice Ao58 y246.length co58, .int .i64 0]) ?_ 3 _ rfl; (with_reducible repeat (first | refine blk_drewN ?_ _ | refine blk_drew ?_ | refine blk_alloc ?_ _)); refine blk_put (cs := #[.string (⟨#[98]⟩ : ByteArray), .slice Ao59 y243.length co59, .slice none 0 0, .int .i64 0]) ?_ 2 _ rfl; (with_reducible repeat (first | refine blk_drewN ?_ _ | refine blk_drew ?_ | refine blk_alloc ?_ _)); refine blk_put (cs := #[.string (⟨#[98]⟩ : ByteArray), .slice none 0 0, .slice none 0 0, .int .i64 0]) ?_ 1 _ rfl; (with_reducible repeat (first | refine blk_drewN ?_ _ | refine blk_drew ?_ | refine blk_alloc ?_ _)); refine blk_put (cs := #[.string (⟨#[]⟩ : ByteArray), .slice none 0 0, .slice none 0 0, .int .i64 0]) ?_ 0 _ rfl; (with_reducible repeat (first | refine blk_drewN ?_ _ | refine blk_drew ?_ | refine blk_alloc ?_ _)); exact BK249.out) hb); have n4_ := Aside0.mk (below_step (by repeat (first | (with_reducible first | exact HB.out | apply below_alloc | apply pw_below_drewN | apply below_drew1 | refine below_set ?_ GE249.out) | exact HB.out)) hb); clear HO245; clear HO248; clear BK249; clear HB; have HO245 := n0_; have HO248 := n1_; have HO252 := n2_; have BK249 := n3_; have HB := n4_; clear n0_ n1_ n2_ n3_ n4_; clear hb ho63; have hcz64_0 : w62.cell? ⟨gb249, 0, none⟩ = some (.string (⟨#[98]⟩ : ByteArray)) := (blk_cell BK249.out 0).trans rfl; have hcz64_1 : w62.cell? ⟨gb249, 1, none⟩ = some (.slice Ao59 y243.length co59) := (blk_cell BK249.out 1).trans rfl; have hcz64_2 : w62.cell? ⟨gb249, 2, none⟩ = some (.slice Ao58 y246.length co58) := (blk_cell BK249.out 2).trans rfl; have hcz64_3 : w62.cell? ⟨gb249, 3, none⟩ = some (.int .i64 0) := (blk_cell BK249.out 3).trans rfl; have hfz64_0 := blk_frozen BK249.out 0; have hfz64_1 := blk_frozen BK249.out 1; have hfz64_2 := blk_frozen BK249.out 2; have hfz64_3 := blk_frozen BK249.out 3) | ((with_reducible refine gate_dst (N := 29) rfl ?_); (try (refine gate_guard (by rfl) ?_; dsimp only)); refine Kd.N_lit k32 _ 32 ?hg (N' := 29) ?hd (xs := ([(⟨(⟨#[98]⟩ : ByteArray), y243, y246, 0⟩ : S32), (⟨(⟨#[100]⟩ : ByteArray), ([] : List (S35)), ([] : List (S32)), 0⟩ : S32)] : List (S32))) (inner := [.string (⟨#[98]⟩ : ByteArray), .slice Ao59 y243.length co59, .slice Ao58 y246.length co58, .int .i64 0, .string (⟨#[100]⟩ : ByteArray), .slice none 0 0, .slice none 0 0, .int .i64 0]) (ok := (fun k_ => some k_ ≠ (v251 : Value).ownBlock ∧ k_ ≠ gb249)) (okp := (fun k_ => some k_ ≠ (v251 : Value).ownBlock ∧ k_ ≠ gb249)) ?hr ?hp (fun _ hk => hk) ((show ∀ k_, w62.heap.size ≤ k_ → (fun k_ => some k_ ≠ (v251 : Value).ownBlock ∧ k_ ≠ gb249) k_ from fun k_ hk => ⟨Kd.fresh' (Kd.R_lt (by (with_reducible repeat (first | apply Kd.R_alloc | apply Kd.R_drewN | apply Kd.R_drew)); exact HO252.out)) k_ hk, Kd.freshB (g := gb249) (o := .cells #[.string (⟨#[98]⟩ : ByteArray), .slice Ao59 y243.length co59, .slice Ao58 y246.length co58, .int .i64 0] 32 (0, 0)) (by (with_reducible repeat (first | refine blk_drewN ?_ _ | refine blk_drew ?_ | refine blk_alloc ?_ _)); exact BK249.out) k_ hk⟩) _ (Nat.le_refl _)) (Below.refl _ _) (Nat.le_refl _) (by simp) ?_; (case hd => rfl); (case hg => rfl); (case hr => first | (go_simp; done) | (go_simp; rfl)); (case hp => exact (Reps.c4 (show Kd.FK k32 _ _ (⟨(⟨#[98]⟩ : ByteArray), y243, y246, 0⟩ : S32) [.string (⟨#[98]⟩ : ByteArray), .slice Ao59 y243.length co59, .slice Ao58 y246.length co58, .int .i64 0] from (k32_mkF _ _ (⟨(⟨#[98]⟩ : ByteArray), y243, y246, 0⟩ : S32) (Kd.R_reads' (Kd.R_mono (ok' := (fun k_ => some k_ ≠ (v251 : Value).ownBlock ∧ k_ ≠ gb249)) (Kd.R_types (HO245.out) BK249.out (by decide)) (fun k_ hk => ⟨hk.1.2, hk.2⟩))).2.1 (Kd.R_F (Kd.R_mono (ok' := (fun k_ => some k_ ≠ (v251 : Value).ownBlock ∧ k_ ≠ gb249)) (Kd.R_types (HO245.out) BK249.out (by decide)) (fun k_ hk => ⟨hk.1.2, hk.2⟩))) (Kd.N_reads' (Kd.N_mono (ok' := (fun k_ => some k_ ≠ (v251 : Value).ownBlock ∧ k_ ≠ gb249)) (HO248.out) (fun k_ hk => ⟨hk.2, hk.1.2⟩))).2.1 (Kd.N_F (Kd.N_mono (ok' := (fun k_ => some k_ ≠ (v251 : Value).ownBlock ∧ k_ ≠ gb249)) (HO248.out) (fun k_ hk => ⟨hk.2, hk.1.2⟩))))) (Reps.c4 (show Kd.FK k32 _ _ (⟨(⟨#[100]⟩ : ByteArray), ([] : List (S35)), ([] : List (S32)), 0⟩ : S32) [.string (⟨#[100]⟩ : ByteArray), .slice none 0 0, .slice none 0 0, .int .i64 0] from (k32_mkF _ _ (⟨(⟨#[100]⟩ : ByteArray), ([] : List (S35)), ([] : List (S32)), 0⟩ : S32) (Nat.le_refl _) (Kd.F_nil _ _ _) (Nat.le_refl _) (Kd.F_nil _ _ _))) (Reps.none _ _)))); intro v254 w65 ho66 hb hg_ hnew_; clear hg_ hnew_; (first | rw [← Ny253.out] at ho66 | (simp only [Int.reduceToNat] at ho66; rw [← Ny253.out] at ho66)); have n0_ := Aside0.mk (Kd.R_below (by (with_reducible repeat (first | apply Kd.R_alloc | apply Kd.R_drewN | apply Kd.R_drew)); exact HO252.out) hb); have n1_ := Aside0.mk (Kd.N_lower ho66 (below_size (by repeat (first | (with_reducible first | exact HB.out | apply below_alloc | apply pw_below_drewN | apply below_drew1 | refine below_set ?_ GE249.out) | exact HB.out)))); have n2_ := Aside0.mk (blk_below (g := gb249) (o := .cells #[.string (⟨#[98]⟩ : ByteArray), .slice Ao59 y243.length co59, .slice Ao58 y246.length co58, .int .i64 0] 32 (0, 0)) (by (with_reducible repeat (first | refine blk_drewN ?_ _ | refine blk_drew ?_ | refine blk_alloc ?_ _)); exact BK249.out) hb); have n3_ := Aside0.mk (below_step (by repeat (first | (with_reducible first | exact HB.out | apply below_alloc | apply pw_below_drewN | apply below_drew1 | refine below_set ?_ GE249.out) | exact HB.out)) hb); clear HO252; clear BK249; clear HB; clear HO245; clear HO248; have HO252 := n0_; have HO255 := n1_; have BK249 := n2_; have HB := n3_; clear n0_ n1_ n2_ n3_; clear hb ho66; obtain ⟨Ao67, co67, eo67⟩ := Kd.N_slice HO255.out; subst eo67; obtain ⟨Ao68, co68, eo68⟩ := Kd.R_slice HO252.out; subst eo68) | ((with_reducible refine gate_callee (f := 11) rfl ?_); refine goesL_ (some 31) rfl rfl Try.func11 (by kernel_rfl) rfl #[.agg #[.string (⟨#[97]⟩ : ByteArray), .slice Ao68 y250.length co68, .slice Ao67 y253.length co67, .int .i64 0]] rfl (by (try simp only [List.map_toArray, List.map_cons, List.map_nil]); first | done | rfl | (simp only [List.length_drop, List.length_take]; rfl)) ?_; (with_reducible refine (space_Resolve.calls kj2 (⟨#[97]⟩ : ByteArray) _ _ y250 _ _ y253 0 t256 t257 t258 t261 t264 t265 t266 _ ?side1 ?side2 ?side3 ?side4 A6.out).mono ?_); (case side1 => repeat (first | exact (Kd.R_reads' HO252.out).2.2 | (with_reducible refine Kd.C_alloc ?_ _) | (with_reducible refine Kd.C_drewN ?_ _) | (with_reducible refine Kd.C_drew ?_))); (case side2 => exact (Kd.R_reads' HO252.out).2.1); (case side3 => repeat (first | exact (Kd.N_reads' HO255.out).2.2 | (with_reducible refine Kd.C_alloc ?_ _) | (with_reducible refine Kd.C_drewN ?_ _) | (with_reducible refine Kd.C_drew ?_))); (case side4 => exact (Kd.N_reads' HO255.out).2.1); rintro e w69 ⟨v259, v262, rfl, ho0, ho1, hb⟩; refine ⟨_, rfl, ?_⟩; have n0_ := Aside0.mk (Kd.R_elder' (by (with_reducible repeat (first | apply Kd.R_alloc | apply Kd.R_drewN | apply Kd.R_drew)); exact HO252.out) (Kd.R_base ho0) hb); have n1_ := Aside0.mk (Kd.N_mono (Kd.N_told (Kd.N_told (Kd.N_old (by (with_reducible repeat (first | apply Kd.N_alloc | apply Kd.N_drewN | apply Kd.N_drew)); exact HO255.out) hb) (Kd.R_base ho0)) (by first | exact Kd.N_base ho1 | exact Kd.R_base ho1)) (fun _ h_ => h_.1)); have n2_ := Aside0.mk (Kd.R_lower (Kd.R_new' ho0 (Kd.R_lt (by (with_reducible repeat (first | apply Kd.R_alloc | apply Kd.R_drewN | apply Kd.R_drew)); exact HO252.out))) (below_size (by repeat (first | (with_reducible first | exact HB.out | apply below_alloc | apply pw_below_drewN | apply below_drew1 | refine below_set ?_ GE249.out) | exact HB.out)))); have n3_ := Aside0.mk (Kd.N_lower (Kd.N_mono (ok' := fun k_ => some k_ ≠ (v259 : Value).ownBlock ∧ some k_ ≠ (.slice Ao68 y250.length co68 : Value).ownBlock ∧ some k_ ≠ (.slice Ao67 y253.length co67 : Value).ownBlock ∧ k_ ≠ gb249) (Kd.R_N (Kd.R_bound ho1)) (fun k_ hk_ => ⟨hk_.1, (Kd.fresh' (Kd.R_lt (by (with_reducible repeat (first | apply Kd.R_alloc | apply Kd.R_drewN | apply Kd.R_drew)); exact HO252.out)) k_ hk_.2.1), (Kd.fresh' (Kd.N_lt (by (with_reducible repeat (first | apply Kd.N_alloc | apply Kd.N_drewN | apply Kd.N_drew)); exact HO255.out)) k_ hk_.2.1), (Kd.freshB (g := gb249) (o := .cells #[.string (⟨#[98]⟩ : ByteArray), .slice Ao59 y243.length co59, .slice Ao58 y246.length co58, .int .i64 0] 32 (0, 0)) (by (with_reducible repeat (first | refine blk_drewN ?_ _ | refine blk_drew ?_ | refine blk_alloc ?_ _)); exact BK249.out) k_ hk_.2.1)⟩)) (below_size (by repeat (first | (with_reducible first | exact HB.out | apply below_alloc | apply pw_below_drewN | apply below_drew1 | refine below_set ?_ GE249.out) | exact HB.out)))); have n4_ := Aside0.mk (blk_below (g := gb249) (o := .cells #[.string (⟨#[98]⟩ : ByteArray), .slice Ao59 y243.length co59, .slice Ao58 y246.length co58, .int .i64 0] 32 (0, 0)) (by (with_reducible repeat (first | refine blk_drewN ?_ _ | refine blk_drew ?_ | refine blk_alloc ?_ _)); exact BK249.out) hb); have n5_ := Aside0.mk (below_step (by repeat (first | (with_reducible first | exact HB.out | apply below_alloc | apply pw_below_drewN | apply below_drew1 | refine below_set ?_ GE249.out) | exact HB.out)) hb); clear HO252; clear HO255; clear BK249; clear HB; have HO252 := n0_; have HO255 := n1_; have HO260 := n2_; have HO263 := n3_; have BK249 := n4_; have HB := n5_; clear n0_ n1_ n2_ n3_ n4_ n5_; (try clear hb); (try clear hb2); (try clear hk); (try clear hi); (try clear ho0); (try clear ho1)) | ((with_reducible refine gate_dst (N := 6) rfl ?_); (try (refine gate_guard (by rfl) ?_; dsimp only)); refine box_event ?hg (N := 6) ?hd (cs := #[.string (⟨#[]⟩ : ByteArray), .string (⟨#[]⟩ : ByteArray), .slice none 0 0, .slice none 0 0, .int .i64 0]) (t := 26) ?hr ?_; (case hd => rfl); (case hg => rfl); (case hr => first | (go_simp; done) | (go_simp; rfl)); intro gb267 hg w70 hbox hb; have n0_ := Aside0.mk (Kd.R_below (by (with_reducible repeat (first | apply Kd.R_alloc | apply Kd.R_drewN | apply Kd.R_drew)); exact HO252.out) hb); have n1_ := Aside0.mk (Kd.N_below (Kd.N_elderB (by (with_reducible repeat (first | apply Kd.N_alloc | apply Kd.N_drewN | apply Kd.N_drew)); exact HO255.out) gb267 (Nat.le_of_eq hg.symm)) hb); have n2_ := Aside0.mk (Kd.R_below (by (with_reducible repeat (first | apply Kd.R_alloc | apply Kd.R_drewN | apply Kd.R_drew)); exact HO260.out) hb); have n3_ := Aside0.mk (Kd.N_below (Kd.N_elderB (by (with_reducible repeat (first | apply Kd.N_alloc | apply Kd.N_drewN | apply Kd.N_drew)); exact HO263.out) gb267 (Nat.le_of_eq hg.symm)) hb); have n4_ := Aside0.mk (blk_below (g := gb249) (o := .cells #[.string (⟨#[98]⟩ : ByteArray), .slice Ao59 y243.length co59, .slice Ao58 y246.length co58, .int .i64 0] 32 (0, 0)) (by (with_reducible repeat (first | refine blk_drewN ?_ _ | refine blk_drew ?_ | refine blk_alloc ?_ _)); exact BK249.out) hb); have n5_ := Aside0.mk (below_step (by repeat (first | (with_reducible first | exact HB.out | apply below_alloc | apply pw_below_drewN | apply below_drew1 | refine below_set ?_ GE249.out) | exact HB.out)) hb); have n6_ := Aside0.mk (hbox); have n7_ := Aside0.mk ((by rw [hg]; exact (below_size (by repeat (first | (with_reducible first | exact HB.out | apply below_alloc | apply pw_below_drewN | apply below_drew1 | refine below_set ?_ GE249.out) | exact HB.out))) : w.heap.size ≤ gb267)); have n8_ := Aside0.mk ((by rw [hg]; exact (below_size (by repeat (first | (with_reducible first | exact HB.out | apply below_alloc | apply pw_below_drewN | apply below_drew1 | refine below_set ?_ GE249.out) | exact HB.out))) : w.heap.size ≤ gb267)); have n9_ := Aside0.mk ((by rw [hg]; exact Nat.ne_of_lt (blk_lt (g := gb249) (o := .cells #[.string (⟨#[98]⟩ : ByteArray), .slice Ao59 y243.length co59, .slice Ao58 y246.length co58, .int .i64 0] 32 (0, 0)) (by (with_reducible repeat (first | refine blk_drewN ?_ _ | refine blk_drew ?_ | refine blk_alloc ?_ _)); exact BK249.out)) : gb249 ≠ gb267)); have n10_ := Aside0.mk ((by rw [hg]; exact Nat.ne_of_gt (blk_lt (g := gb249) (o := .cells #[.string (⟨#[98]⟩ : ByteArray), .slice Ao59 y243.length co59, .slice Ao58 y246.length co58, .int .i64 0] 32 (0, 0)) (by (with_reducible repeat (first | refine blk_drewN ?_ _ | refine blk_drew ?_ | refine blk_alloc ?_ _)); exact BK249.out)) : gb267 ≠ gb249)); clear HO252; clear HO255; clear HO260; clear HO263; clear BK249; clear HB; have HO252 := n0_; have HO255 := n1_; have HO260 := n2_; have HO263 := n3_; have BK249 := n4_; have HB := n5_; have BK267 := n6_; have GW267 := n7_; have GE267 := n8_; have NB249_267 := n9_; have NB267_249 := n10_; clear n0_ n1_ n2_ n3_ n4_ n5_ n6_ n7_ n8_ n9_ n10_; clear hb hbox hg; have hnb71 := NB267_249.out; have hnc71 := NB249_267.out; have hcz72_0 : w70.cell? ⟨gb267, 0, none⟩ = some (.string (⟨#[]⟩ : ByteArray)) := (blk_cell BK267.out 0).trans rfl; have hcz72_1 : w70.cell? ⟨gb267, 1, none⟩ = some (.string (⟨#[]⟩ : ByteArray)) := (blk_cell BK267.out 1).trans rfl; have hcz72_2 : w70.cell? ⟨gb267, 2, none⟩ = some (.slice none 0 0) := (blk_cell BK267.out 2).trans rfl; have hcz72_3 : w70.cell? ⟨gb267, 3, none⟩ = some (.slice none 0 0) := (blk_cell BK267.out 3).trans rfl; have hcz72_4 : w70.cell? ⟨gb267, 4, none⟩ = some (.int .i64 0) := (blk_cell BK267.out 4).trans rfl; have hfz72_0 := blk_frozen BK267.out 0; have hfz72_1 := blk_frozen BK267.out 1; have hfz72_2 := blk_frozen BK267.out 2; have hfz72_3 := blk_frozen BK267.out 3; have hfz72_4 := blk_frozen BK267.out 4; obtain ⟨Ao73, co73, eo73⟩ := Kd.R_slice HO260.out; subst eo73; obtain ⟨Ao74, co74, eo74⟩ := Kd.N_slice HO263.out; subst eo74))
            have H := HC53.out
            clear HC53
            obtain rfl := Option.some.inj H
            go_wp2
            go_ret
            exact ⟨by first | rfl | (simp [errW_none, errW_some] <;> rfl) | (simp [*, errW_none, errW_some] <;> rfl), by repeat (first | (with_reducible first | exact HB.out | apply below_alloc | apply pw_below_drewN | apply below_drew1 | refine below_set ?_ GE249.out | refine below_set ?_ GE267.out) | exact HB.out)⟩
        · rw [if_neg c7] at H
          have c7b0 : (t266 == 0) = false := beq_eq_false_iff_ne.mpr c7
          have c7b1 : (t266 != 0) = true := bne_iff_ne.mpr c7
          have HC75 := Aside0.mk H
          clear H
          go_upto_if 51 with (first | ((with_reducible refine gate_dst (N := 19) rfl ?_); (try (refine gate_guard (by rfl) ?_; dsimp only)); refine Kd.R_lit k35 _ 35 ?hg (N := 19) ?hd (xs := ([(⟨(⟨#[120, 109, 108, 110, 115]⟩ : ByteArray), a1⟩ : S35)] : List (S35))) (inner := [.string (⟨#[120, 109, 108, 110, 115]⟩ : ByteArray), .string a1]) (ok := fun _ => True) (okp := fun _ => True) ?hr ?hp (fun _ hk => hk) trivial (Below.refl _ _) (Nat.le_refl _) (by simp) ?_; (case hd => rfl); (case hg => rfl); (case hr => first | (go_simp; done) | (go_simp; rfl)); (case hp => exact (Reps.c2 (show Kd.M k35 _ _ _ (⟨(⟨#[120, 109, 108, 110, 115]⟩ : ByteArray), a1⟩ : S35) [.string (⟨#[120, 109, 108, 110, 115]⟩ : ByteArray), .string a1] from (k35_mkM _ _ _ (⟨(⟨#[120, 109, 108, 110, 115]⟩ : ByteArray), a1⟩ : S35) )) (Reps.none _ _))); intro v244 w76 ho77 hb hg_ hnew_; clear hg_ hnew_; (first | rw [← Ny243.out] at ho77 | (simp only [Int.reduceToNat] at ho77; rw [← Ny243.out] at ho77)); have n0_ := Aside0.mk (Kd.R_lower ho77 (below_size (by repeat (first | (with_reducible first | exact HB.out | apply below_alloc | apply pw_below_drewN | apply below_drew1) | exact HB.out)))); have n1_ := Aside0.mk (below_step (by repeat (first | (with_reducible first | exact HB.out | apply below_alloc | apply pw_below_drewN | apply below_drew1) | exact HB.out)) hb); clear HB; have HO245 := n0_; have HB := n1_; clear n0_ n1_; clear hb ho77) | ((with_reducible refine gate_dst (N := 21) rfl ?_); (try (refine gate_guard (by rfl) ?_; dsimp only)); refine Kd.N_lit k32 _ 32 ?hg (N' := 21) ?hd (xs := ([(⟨(⟨#[99]⟩ : ByteArray), ([] : List (S35)), ([] : List (S32)), 0⟩ : S32)] : List (S32))) (inner := [.string (⟨#[99]⟩ : ByteArray), .slice none 0 0, .slice none 0 0, .int .i64 0]) (ok := (fun k_ => some k_ ≠ (v244 : Value).ownBlock)) (okp := (fun k_ => some k_ ≠ (v244 : Value).ownBlock)) ?hr ?hp (fun _ hk => hk) ((show ∀ k_, w76.heap.size ≤ k_ → (fun k_ => some k_ ≠ (v244 : Value).ownBlock) k_ from fun k_ hk => Kd.fresh' (Kd.R_lt (by (with_reducible repeat (first | apply Kd.R_alloc | apply Kd.R_drewN | apply Kd.R_drew)); exact HO245.out)) k_ hk) _ (Nat.le_refl _)) (Below.refl _ _) (Nat.le_refl _) (by simp) ?_; (case hd => rfl); (case hg => rfl); (case hr => first | (go_simp; done) | (go_simp; rfl)); (case hp => exact (Reps.c4 (show Kd.FK k32 _ _ (⟨(⟨#[99]⟩ : ByteArray), ([] : List (S35)), ([] : List (S32)), 0⟩ : S32) [.string (⟨#[99]⟩ : ByteArray), .slice none 0 0, .slice none 0 0, .int .i64 0] from (k32_mkF _ _ (⟨(⟨#[99]⟩ : ByteArray), ([] : List (S35)), ([] : List (S32)), 0⟩ : S32) (Nat.le_refl _) (Kd.F_nil _ _ _) (Nat.le_refl _) (Kd.F_nil _ _ _))) (Reps.none _ _))); intro v247 w78 ho79 hb hg_ hnew_; clear hg_ hnew_; (first | rw [← Ny246.out] at ho79 | (simp only [Int.reduceToNat] at ho79; rw [← Ny246.out] at ho79)); have n0_ := Aside0.mk (Kd.R_below (by (with_reducible repeat (first | apply Kd.R_alloc | apply Kd.R_drewN | apply Kd.R_drew)); exact HO245.out) hb); have n1_ := Aside0.mk (Kd.N_lower ho79 (below_size (by repeat (first | (with_reducible first | exact HB.out | apply below_alloc | apply pw_below_drewN | apply below_drew1) | exact HB.out)))); have n2_ := Aside0.mk (below_step (by repeat (first | (with_reducible first | exact HB.out | apply below_alloc | apply pw_below_drewN | apply below_drew1) | exact HB.out)) hb); clear HO245; clear HB; have HO245 := n0_; have HO248 := n1_; have HB := n2_; clear n0_ n1_ n2_; clear hb ho79; obtain ⟨Ao80, co80, eo80⟩ := Kd.N_slice HO248.out; subst eo80; obtain ⟨Ao81, co81, eo81⟩ := Kd.R_slice HO245.out; subst eo81) | ((with_reducible refine gate_dst (N := 5) rfl ?_); (try (refine gate_guard (by rfl) ?_; dsimp only)); refine box_event ?hg (N := 5) ?hd (cs := #[.string (⟨#[]⟩ : ByteArray), .slice none 0 0, .slice none 0 0, .int .i64 0]) (t := 32) ?hr ?_; (case hd => rfl); (case hg => rfl); (case hr => first | (go_simp; done) | (go_simp; rfl)); intro gb249 hg w82 hbox hb; have n0_ := Aside0.mk (Kd.R_below (by (with_reducible repeat (first | apply Kd.R_alloc | apply Kd.R_drewN | apply Kd.R_drew)); exact HO245.out) hb); have n1_ := Aside0.mk (Kd.N_below (Kd.N_elderB (by (with_reducible repeat (first | apply Kd.N_alloc | apply Kd.N_drewN | apply Kd.N_drew)); exact HO248.out) gb249 (Nat.le_of_eq hg.symm)) hb); have n2_ := Aside0.mk (below_step (by repeat (first | (with_reducible first | exact HB.out | apply below_alloc | apply pw_below_drewN | apply below_drew1) | exact HB.out)) hb); have n3_ := Aside0.mk (hbox); have n4_ := Aside0.mk ((by rw [hg]; exact (below_size (by repeat (first | (with_reducible first | exact HB.out | apply below_alloc | apply pw_below_drewN | apply below_drew1) | exact HB.out))) : w.heap.size ≤ gb249)); have n5_ := Aside0.mk ((by rw [hg]; exact (below_size (by repeat (first | (with_reducible first | exact HB.out | apply below_alloc | apply pw_below_drewN | apply below_drew1) | exact HB.out))) : w.heap.size ≤ gb249)); clear HO245; clear HO248; clear HB; have HO245 := n0_; have HO248 := n1_; have HB := n2_; have BK249 := n3_; have GW249 := n4_; have GE249 := n5_; clear n0_ n1_ n2_ n3_ n4_ n5_; clear hb hbox hg; have hcz83_0 : w82.cell? ⟨gb249, 0, none⟩ = some (.string (⟨#[]⟩ : ByteArray)) := (blk_cell BK249.out 0).trans rfl; have hcz83_1 : w82.cell? ⟨gb249, 1, none⟩ = some (.slice none 0 0) := (blk_cell BK249.out 1).trans rfl; have hcz83_2 : w82.cell? ⟨gb249, 2, none⟩ = some (.slice none 0 0) := (blk_cell BK249.out 2).trans rfl; have hcz83_3 : w82.cell? ⟨gb249, 3, none⟩ = some (.int .i64 0) := (blk_cell BK249.out 3).trans rfl; have hfz83_0 := blk_frozen BK249.out 0; have hfz83_1 := blk_frozen BK249.out 1; have hfz83_2 := blk_frozen BK249.out 2; have hfz83_3 := blk_frozen BK249.out 3) | ((with_reducible refine gate_dst (N := 26) rfl ?_); (try (refine gate_guard (by rfl) ?_; dsimp only)); refine Kd.R_lit k35 _ 35 ?hg (N := 26) ?hd (xs := ([(⟨(⟨#[120, 109, 108, 110, 115]⟩ : ByteArray), a0⟩ : S35)] : List (S35))) (inner := [.string (⟨#[120, 109, 108, 110, 115]⟩ : ByteArray), .string a0]) (ok := fun _ => True) (okp := fun _ => True) ?hr ?hp (fun _ hk => hk) trivial (Below.refl _ _) (Nat.le_refl _) (by simp) ?_; (case hd => rfl); (case hg => rfl); (case hr => first | (go_simp; done) | (go_simp; rfl)); (case hp => exact (Reps.c2 (show Kd.M k35 _ _ _ (⟨(⟨#[120, 109, 108, 110, 115]⟩ : ByteArray), a0⟩ : S35) [.string (⟨#[120, 109, 108, 110, 115]⟩ : ByteArray), .string a0] from (k35_mkM _ _ _ (⟨(⟨#[120, 109, 108, 110, 115]⟩ : ByteArray), a0⟩ : S35) )) (Reps.none _ _))); intro v251 w84 ho85 hb hg_ hnew_; clear hg_ hnew_; (first | rw [← Ny250.out] at ho85 | (simp only [Int.reduceToNat] at ho85; rw [← Ny250.out] at ho85)); have n0_ := Aside0.mk (Kd.R_elder' (by (with_reducible repeat (first | apply Kd.R_alloc | apply Kd.R_drewN | apply Kd.R_drew)); exact (Kd.R_mono (Kd.R_far (p := ⟨gb249, 3, none⟩) (Kd.R_far (p := ⟨gb249, 2, none⟩) (Kd.R_far (p := ⟨gb249, 1, none⟩) (Kd.R_far (p := ⟨gb249, 0, none⟩) (Kd.R_types HO245.out BK249.out (by decide)) (fun _ hk => hk.2) (.string (⟨#[98]⟩ : ByteArray))) (fun _ hk => hk.2) (.slice Ao81 y243.length co81)) (fun _ hk => hk.2) (.slice Ao80 y246.length co80)) (fun _ hk => hk.2) (.int .i64 0)) (fun _ h_ => h_.1))) (Kd.R_base ho85) hb); have n1_ := Aside0.mk (Kd.N_elder' (by (with_reducible repeat (first | apply Kd.N_alloc | apply Kd.N_drewN | apply Kd.N_drew)); exact (Kd.N_mono (Kd.N_far (p := ⟨gb249, 3, none⟩) (Kd.N_far (p := ⟨gb249, 2, none⟩) (Kd.N_far (p := ⟨gb249, 1, none⟩) (Kd.N_far (p := ⟨gb249, 0, none⟩) (Kd.N_mono HO248.out (fun k_ hk => (⟨hk, hk.2⟩ : _ ∧ k_ ≠ gb249))) (fun _ hk => hk.2) (.string (⟨#[98]⟩ : ByteArray))) (fun _ hk => hk.2) (.slice Ao81 y243.length co81)) (fun _ hk => hk.2) (.slice Ao80 y246.length co80)) (fun _ hk => hk.2) (.int .i64 0)) (fun _ h_ => h_.1))) (Kd.R_base ho85) hb); have n2_ := Aside0.mk (Kd.R_lower (Kd.R_new' ho85 (Kd.R_lt (by (with_reducible repeat (first | apply Kd.R_alloc | apply Kd.R_drewN | apply Kd.R_drew)); exact (Kd.R_mono (Kd.R_far (p := ⟨gb249, 3, none⟩) (Kd.R_far (p := ⟨gb249, 2, none⟩) (Kd.R_far (p := ⟨gb249, 1, none⟩) (Kd.R_far (p := ⟨gb249, 0, none⟩) (Kd.R_types HO245.out BK249.out (by decide)) (fun _ hk => hk.2) (.string (⟨#[98]⟩ : ByteArray))) (fun _ hk => hk.2) (.slice Ao81 y243.length co81)) (fun _ hk => hk.2) (.slice Ao80 y246.length co80)) (fun _ hk => hk.2) (.int .i64 0)) (fun _ h_ => h_.1))))) (below_size (by repeat (first | (with_reducible first | exact HB.out | apply below_alloc | apply pw_below_drewN | apply below_drew1 | refine below_set ?_ GE249.out) | exact HB.out)))); have n3_ := Aside0.mk (blk_below (g := gb249) (o := .cells #[.string (⟨#[98]⟩ : ByteArray), .slice Ao81 y243.length co81, .slice Ao80 y246.length co80, .int .i64 0] 32 (0, 0)) (by (with_reducible repeat (first | refine blk_drewN ?_ _ | refine blk_drew ?_ | refine blk_alloc ?_ _)); refine blk_put (cs := #[.string (⟨#[98]⟩ : ByteArray), .slice Ao81 y243.length co81, .slice Ao80 y246.length co80, .int .i64 0]) ?_ 3 _ rfl; (with_reducible repeat (first | refine blk_drewN ?_ _ | refine blk_drew ?_ | refine blk_alloc ?_ _)); refine blk_put (cs := #[.string (⟨#[98]⟩ : ByteArray), .slice Ao81 y243.length co81, .slice none 0 0, .int .i64 0]) ?_ 2 _ rfl; (with_reducible repeat (first | refine blk_drewN ?_ _ | refine blk_drew ?_ | refine blk_alloc ?_ _)); refine blk_put (cs := #[.string (⟨#[98]⟩ : ByteArray), .slice none 0 0, .slice none 0 0, .int .i64 0]) ?_ 1 _ rfl; (with_reducible repeat (first | refine blk_drewN ?_ _ | refine blk_drew ?_ | refine blk_alloc ?_ _)); refine blk_put (cs := #[.string (⟨#[]⟩ : ByteArray), .slice none 0 0, .slice none 0 0, .int .i64 0]) ?_ 0 _ rfl; (with_reducible repeat (first | refine blk_drewN ?_ _ | refine blk_drew ?_ | refine blk_alloc ?_ _)); exact BK249.out) hb); have n4_ := Aside0.mk (below_step (by repeat (first | (with_reducible first | exact HB.out | apply below_alloc | apply pw_below_drewN | apply below_drew1 | refine below_set ?_ GE249.out) | exact HB.out)) hb); clear HO245; clear HO248; clear BK249; clear HB; have HO245 := n0_; have HO248 := n1_; have HO252 := n2_; have BK249 := n3_; have HB := n4_; clear n0_ n1_ n2_ n3_ n4_; clear hb ho85; have hcz86_0 : w84.cell? ⟨gb249, 0, none⟩ = some (.string (⟨#[98]⟩ : ByteArray)) := (blk_cell BK249.out 0).trans rfl; have hcz86_1 : w84.cell? ⟨gb249, 1, none⟩ = some (.slice Ao81 y243.length co81) := (blk_cell BK249.out 1).trans rfl; have hcz86_2 : w84.cell? ⟨gb249, 2, none⟩ = some (.slice Ao80 y246.length co80) := (blk_cell BK249.out 2).trans rfl; have hcz86_3 : w84.cell? ⟨gb249, 3, none⟩ = some (.int .i64 0) := (blk_cell BK249.out 3).trans rfl; have hfz86_0 := blk_frozen BK249.out 0; have hfz86_1 := blk_frozen BK249.out 1; have hfz86_2 := blk_frozen BK249.out 2; have hfz86_3 := blk_frozen BK249.out 3) | ((with_reducible refine gate_dst (N := 29) rfl ?_); (try (refine gate_guard (by rfl) ?_; dsimp only)); refine Kd.N_lit k32 _ 32 ?hg (N' := 29) ?hd (xs := ([(⟨(⟨#[98]⟩ : ByteArray), y243, y246, 0⟩ : S32), (⟨(⟨#[100]⟩ : ByteArray), ([] : List (S35)), ([] : List (S32)), 0⟩ : S32)] : List (S32))) (inner := [.string (⟨#[98]⟩ : ByteArray), .slice Ao81 y243.length co81, .slice Ao80 y246.length co80, .int .i64 0, .string (⟨#[100]⟩ : ByteArray), .slice none 0 0, .slice none 0 0, .int .i64 0]) (ok := (fun k_ => some k_ ≠ (v251 : Value).ownBlock ∧ k_ ≠ gb249)) (okp := (fun k_ => some k_ ≠ (v251 : Value).ownBlock ∧ k_ ≠ gb249)) ?hr ?hp (fun _ hk => hk) ((show ∀ k_, w84.heap.size ≤ k_ → (fun k_ => some k_ ≠ (v251 : Value).ownBlock ∧ k_ ≠ gb249) k_ from fun k_ hk => ⟨Kd.fresh' (Kd.R_lt (by (with_reducible repeat (first | apply Kd.R_alloc | apply Kd.R_drewN | apply Kd.R_drew)); exact HO252.out)) k_ hk, Kd.freshB (g := gb249) (o := .cells #[.string (⟨#[98]⟩ : ByteArray), .slice Ao81 y243.length co81, .slice Ao80 y246.length co80, .int .i64 0] 32 (0, 0)) (by (with_reducible repeat (first | refine blk_drewN ?_ _ | refine blk_drew ?_ | refine blk_alloc ?_ _)); exact BK249.out) k_ hk⟩) _ (Nat.le_refl _)) (Below.refl _ _) (Nat.le_refl _) (by simp) ?_; (case hd => rfl); (case hg => rfl); (case hr => first | (go_simp; done) | (go_simp; rfl)); (case hp => exact (Reps.c4 (show Kd.FK k32 _ _ (⟨(⟨#[98]⟩ : ByteArray), y243, y246, 0⟩ : S32) [.string (⟨#[98]⟩ : ByteArray), .slice Ao81 y243.length co81, .slice Ao80 y246.length co80, .int .i64 0] from (k32_mkF _ _ (⟨(⟨#[98]⟩ : ByteArray), y243, y246, 0⟩ : S32) (Kd.R_reads' (Kd.R_mono (ok' := (fun k_ => some k_ ≠ (v251 : Value).ownBlock ∧ k_ ≠ gb249)) (Kd.R_types (HO245.out) BK249.out (by decide)) (fun k_ hk => ⟨hk.1.2, hk.2⟩))).2.1 (Kd.R_F (Kd.R_mono (ok' := (fun k_ => some k_ ≠ (v251 : Value).ownBlock ∧ k_ ≠ gb249)) (Kd.R_types (HO245.out) BK249.out (by decide)) (fun k_ hk => ⟨hk.1.2, hk.2⟩))) (Kd.N_reads' (Kd.N_mono (ok' := (fun k_ => some k_ ≠ (v251 : Value).ownBlock ∧ k_ ≠ gb249)) (HO248.out) (fun k_ hk => ⟨hk.2, hk.1.2⟩))).2.1 (Kd.N_F (Kd.N_mono (ok' := (fun k_ => some k_ ≠ (v251 : Value).ownBlock ∧ k_ ≠ gb249)) (HO248.out) (fun k_ hk => ⟨hk.2, hk.1.2⟩))))) (Reps.c4 (show Kd.FK k32 _ _ (⟨(⟨#[100]⟩ : ByteArray), ([] : List (S35)), ([] : List (S32)), 0⟩ : S32) [.string (⟨#[100]⟩ : ByteArray), .slice none 0 0, .slice none 0 0, .int .i64 0] from (k32_mkF _ _ (⟨(⟨#[100]⟩ : ByteArray), ([] : List (S35)), ([] : List (S32)), 0⟩ : S32) (Nat.le_refl _) (Kd.F_nil _ _ _) (Nat.le_refl _) (Kd.F_nil _ _ _))) (Reps.none _ _)))); intro v254 w87 ho88 hb hg_ hnew_; clear hg_ hnew_; (first | rw [← Ny253.out] at ho88 | (simp only [Int.reduceToNat] at ho88; rw [← Ny253.out] at ho88)); have n0_ := Aside0.mk (Kd.R_below (by (with_reducible repeat (first | apply Kd.R_alloc | apply Kd.R_drewN | apply Kd.R_drew)); exact HO252.out) hb); have n1_ := Aside0.mk (Kd.N_lower ho88 (below_size (by repeat (first | (with_reducible first | exact HB.out | apply below_alloc | apply pw_below_drewN | apply below_drew1 | refine below_set ?_ GE249.out) | exact HB.out)))); have n2_ := Aside0.mk (blk_below (g := gb249) (o := .cells #[.string (⟨#[98]⟩ : ByteArray), .slice Ao81 y243.length co81, .slice Ao80 y246.length co80, .int .i64 0] 32 (0, 0)) (by (with_reducible repeat (first | refine blk_drewN ?_ _ | refine blk_drew ?_ | refine blk_alloc ?_ _)); exact BK249.out) hb); have n3_ := Aside0.mk (below_step (by repeat (first | (with_reducible first | exact HB.out | apply below_alloc | apply pw_below_drewN | apply below_drew1 | refine below_set ?_ GE249.out) | exact HB.out)) hb); clear HO252; clear BK249; clear HB; clear HO245; clear HO248; have HO252 := n0_; have HO255 := n1_; have BK249 := n2_; have HB := n3_; clear n0_ n1_ n2_ n3_; clear hb ho88; obtain ⟨Ao89, co89, eo89⟩ := Kd.N_slice HO255.out; subst eo89; obtain ⟨Ao90, co90, eo90⟩ := Kd.R_slice HO252.out; subst eo90) | ((with_reducible refine gate_callee (f := 11) rfl ?_); refine goesL_ (some 31) rfl rfl Try.func11 (by kernel_rfl) rfl #[.agg #[.string (⟨#[97]⟩ : ByteArray), .slice Ao90 y250.length co90, .slice Ao89 y253.length co89, .int .i64 0]] rfl (by (try simp only [List.map_toArray, List.map_cons, List.map_nil]); first | done | rfl | (simp only [List.length_drop, List.length_take]; rfl)) ?_; (with_reducible refine (space_Resolve.calls kj2 (⟨#[97]⟩ : ByteArray) _ _ y250 _ _ y253 0 t256 t257 t258 t261 t264 t265 t266 _ ?side1 ?side2 ?side3 ?side4 A6.out).mono ?_); (case side1 => repeat (first | exact (Kd.R_reads' HO252.out).2.2 | (with_reducible refine Kd.C_alloc ?_ _) | (with_reducible refine Kd.C_drewN ?_ _) | (with_reducible refine Kd.C_drew ?_))); (case side2 => exact (Kd.R_reads' HO252.out).2.1); (case side3 => repeat (first | exact (Kd.N_reads' HO255.out).2.2 | (with_reducible refine Kd.C_alloc ?_ _) | (with_reducible refine Kd.C_drewN ?_ _) | (with_reducible refine Kd.C_drew ?_))); (case side4 => exact (Kd.N_reads' HO255.out).2.1); rintro e w91 ⟨v259, v262, rfl, ho0, ho1, hb⟩; refine ⟨_, rfl, ?_⟩; have n0_ := Aside0.mk (Kd.R_elder' (by (with_reducible repeat (first | apply Kd.R_alloc | apply Kd.R_drewN | apply Kd.R_drew)); exact HO252.out) (Kd.R_base ho0) hb); have n1_ := Aside0.mk (Kd.N_mono (Kd.N_told (Kd.N_told (Kd.N_old (by (with_reducible repeat (first | apply Kd.N_alloc | apply Kd.N_drewN | apply Kd.N_drew)); exact HO255.out) hb) (Kd.R_base ho0)) (by first | exact Kd.N_base ho1 | exact Kd.R_base ho1)) (fun _ h_ => h_.1)); have n2_ := Aside0.mk (Kd.R_lower (Kd.R_new' ho0 (Kd.R_lt (by (with_reducible repeat (first | apply Kd.R_alloc | apply Kd.R_drewN | apply Kd.R_drew)); exact HO252.out))) (below_size (by repeat (first | (with_reducible first | exact HB.out | apply below_alloc | apply pw_below_drewN | apply below_drew1 | refine below_set ?_ GE249.out) | exact HB.out)))); have n3_ := Aside0.mk (Kd.N_lower (Kd.N_mono (ok' := fun k_ => some k_ ≠ (v259 : Value).ownBlock ∧ some k_ ≠ (.slice Ao90 y250.length co90 : Value).ownBlock ∧ some k_ ≠ (.slice Ao89 y253.length co89 : Value).ownBlock ∧ k_ ≠ gb249) (Kd.R_N (Kd.R_bound ho1)) (fun k_ hk_ => ⟨hk_.1, (Kd.fresh' (Kd.R_lt (by (with_reducible repeat (first | apply Kd.R_alloc | apply Kd.R_drewN | apply Kd.R_drew)); exact HO252.out)) k_ hk_.2.1), (Kd.fresh' (Kd.N_lt (by (with_reducible repeat (first | apply Kd.N_alloc | apply Kd.N_drewN | apply Kd.N_drew)); exact HO255.out)) k_ hk_.2.1), (Kd.freshB (g := gb249) (o := .cells #[.string (⟨#[98]⟩ : ByteArray), .slice Ao81 y243.length co81, .slice Ao80 y246.length co80, .int .i64 0] 32 (0, 0)) (by (with_reducible repeat (first | refine blk_drewN ?_ _ | refine blk_drew ?_ | refine blk_alloc ?_ _)); exact BK249.out) k_ hk_.2.1)⟩)) (below_size (by repeat (first | (with_reducible first | exact HB.out | apply below_alloc | apply pw_below_drewN | apply below_drew1 | refine below_set ?_ GE249.out) | exact HB.out)))); have n4_ := Aside0.mk (blk_below (g := gb249) (o := .cells #[.string (⟨#[98]⟩ : ByteArray), .slice Ao81 y243.length co81, .slice Ao80 y246.length co80, .int .i64 0] 32 (0, 0)) (by (with_reducible repeat (first | refine blk_drewN ?_ _ | refine blk_drew ?_ | refine blk_alloc ?_ _)); exact BK249.out) hb); have n5_ := Aside0.mk (below_step (by repeat (first | (with_reducible first | exact HB.out | apply below_alloc | apply pw_below_drewN | apply below_drew1 | refine below_set ?_ GE249.out) | exact HB.out)) hb); clear HO252; clear HO255; clear BK249; clear HB; have HO252 := n0_; have HO255 := n1_; have HO260 := n2_; have HO263 := n3_; have BK249 := n4_; have HB := n5_; clear n0_ n1_ n2_ n3_ n4_ n5_; (try clear hb); (try clear hb2); (try clear hk); (try clear hi); (try clear ho0); (try clear ho1)) | ((with_reducible refine gate_dst (N := 6) rfl ?_); (try (refine gate_guard (by rfl) ?_; dsimp only)); refine box_event ?hg (N := 6) ?hd (cs := #[.string (⟨#[]⟩ : ByteArray), .string (⟨#[]⟩ : ByteArray), .slice none 0 0, .slice none 0 0, .int .i64 0]) (t := 26) ?hr ?_; (case hd => rfl); (case hg => rfl); (case hr => first | (go_simp; done) | (go_simp; rfl)); intro gb267 hg w92 hbox hb; have n0_ := Aside0.mk (Kd.R_below (by (with_reducible repeat (first | apply Kd.R_alloc | apply Kd.R_drewN | apply Kd.R_drew)); exact HO252.out) hb); have n1_ := Aside0.mk (Kd.N_below (Kd.N_elderB (by (with_reducible repeat (first | apply Kd.N_alloc | apply Kd.N_drewN | apply Kd.N_drew)); exact HO255.out) gb267 (Nat.le_of_eq hg.symm)) hb); have n2_ := Aside0.mk (Kd.R_below (by (with_reducible repeat (first | apply Kd.R_alloc | apply Kd.R_drewN | apply Kd.R_drew)); exact HO260.out) hb); have n3_ := Aside0.mk (Kd.N_below (Kd.N_elderB (by (with_reducible repeat (first | apply Kd.N_alloc | apply Kd.N_drewN | apply Kd.N_drew)); exact HO263.out) gb267 (Nat.le_of_eq hg.symm)) hb); have n4_ := Aside0.mk (blk_below (g := gb249) (o := .cells #[.string (⟨#[98]⟩ : ByteArray), .slice Ao81 y243.length co81, .slice Ao80 y246.length co80, .int .i64 0] 32 (0, 0)) (by (with_reducible repeat (first | refine blk_drewN ?_ _ | refine blk_drew ?_ | refine blk_alloc ?_ _)); exact BK249.out) hb); have n5_ := Aside0.mk (below_step (by repeat (first | (with_reducible first | exact HB.out | apply below_alloc | apply pw_below_drewN | apply below_drew1 | refine below_set ?_ GE249.out) | exact HB.out)) hb); have n6_ := Aside0.mk (hbox); have n7_ := Aside0.mk ((by rw [hg]; exact (below_size (by repeat (first | (with_reducible first | exact HB.out | apply below_alloc | apply pw_below_drewN | apply below_drew1 | refine below_set ?_ GE249.out) | exact HB.out))) : w.heap.size ≤ gb267)); have n8_ := Aside0.mk ((by rw [hg]; exact (below_size (by repeat (first | (with_reducible first | exact HB.out | apply below_alloc | apply pw_below_drewN | apply below_drew1 | refine below_set ?_ GE249.out) | exact HB.out))) : w.heap.size ≤ gb267)); have n9_ := Aside0.mk ((by rw [hg]; exact Nat.ne_of_lt (blk_lt (g := gb249) (o := .cells #[.string (⟨#[98]⟩ : ByteArray), .slice Ao81 y243.length co81, .slice Ao80 y246.length co80, .int .i64 0] 32 (0, 0)) (by (with_reducible repeat (first | refine blk_drewN ?_ _ | refine blk_drew ?_ | refine blk_alloc ?_ _)); exact BK249.out)) : gb249 ≠ gb267)); have n10_ := Aside0.mk ((by rw [hg]; exact Nat.ne_of_gt (blk_lt (g := gb249) (o := .cells #[.string (⟨#[98]⟩ : ByteArray), .slice Ao81 y243.length co81, .slice Ao80 y246.length co80, .int .i64 0] 32 (0, 0)) (by (with_reducible repeat (first | refine blk_drewN ?_ _ | refine blk_drew ?_ | refine blk_alloc ?_ _)); exact BK249.out)) : gb267 ≠ gb249)); clear HO252; clear HO255; clear HO260; clear HO263; clear BK249; clear HB; have HO252 := n0_; have HO255 := n1_; have HO260 := n2_; have HO263 := n3_; have BK249 := n4_; have HB := n5_; have BK267 := n6_; have GW267 := n7_; have GE267 := n8_; have NB249_267 := n9_; have NB267_249 := n10_; clear n0_ n1_ n2_ n3_ n4_ n5_ n6_ n7_ n8_ n9_ n10_; clear hb hbox hg; have hnb93 := NB267_249.out; have hnc93 := NB249_267.out; have hcz94_0 : w92.cell? ⟨gb267, 0, none⟩ = some (.string (⟨#[]⟩ : ByteArray)) := (blk_cell BK267.out 0).trans rfl; have hcz94_1 : w92.cell? ⟨gb267, 1, none⟩ = some (.string (⟨#[]⟩ : ByteArray)) := (blk_cell BK267.out 1).trans rfl; have hcz94_2 : w92.cell? ⟨gb267, 2, none⟩ = some (.slice none 0 0) := (blk_cell BK267.out 2).trans rfl; have hcz94_3 : w92.cell? ⟨gb267, 3, none⟩ = some (.slice none 0 0) := (blk_cell BK267.out 3).trans rfl; have hcz94_4 : w92.cell? ⟨gb267, 4, none⟩ = some (.int .i64 0) := (blk_cell BK267.out 4).trans rfl; have hfz94_0 := blk_frozen BK267.out 0; have hfz94_1 := blk_frozen BK267.out 1; have hfz94_2 := blk_frozen BK267.out 2; have hfz94_3 := blk_frozen BK267.out 3; have hfz94_4 := blk_frozen BK267.out 4; obtain ⟨Ao95, co95, eo95⟩ := Kd.R_slice HO260.out; subst eo95; obtain ⟨Ao96, co96, eo96⟩ := Kd.N_slice HO263.out; subst eo96))
          have H := HC75.out
          clear HC75
          obtain rfl := Option.some.inj H
          go_wp2
          go_ret
          exact ⟨by first | rfl | (simp [errW_none, errW_some] <;> rfl) | (simp [*, errW_none, errW_some] <;> rfl), by repeat (first | (with_reducible first | exact HB.out | apply below_alloc | apply pw_below_drewN | apply below_drew1 | refine below_set ?_ GE249.out | refine below_set ?_ GE267.out) | exact HB.out)⟩

/-- THE ONE PURE STATEMENT of sentrylaw3_SpaceWithin: yours. -/
def sentrylaw3_SpaceWithin.Pure : Prop := ∀ (a0 : ByteArray) (a1 : ByteArray), a0.size ≤ 140737488351232 → a1.size ≤ 140737488351232 → ∃ k, sentrylaw3_SpaceWithin.f k a0 a1 = some true
theorem sentrylaw3_SpaceWithin.walk (P : sentrylaw3_SpaceWithin.Pure) (a0 : ByteArray) (a1 : ByteArray) (w : World) (w0 : a0.size ≤ 140737488351232) (w1 : a1.size ≤ 140737488351232) :
    Calls Try.prog 5 #[.string a0, .string a1] w fun e w' => e = .returned (.bool true) ∧ Below w.heap.size w w' := by
  obtain ⟨k, h⟩ := P a0 a1 w0 w1
  refine (sentrylaw3_SpaceWithin.calls k a0 a1 true w h).mono ?_
  rintro e w' ⟨rfl, hd⟩
  exact ⟨rfl, hd⟩

end Go.Proofs.Ytlbcnklieefhmaa.PA
