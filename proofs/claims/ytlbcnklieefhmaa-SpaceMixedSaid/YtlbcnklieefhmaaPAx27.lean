-- Printed by this session's gprint.py (over the kit's print.py) out of the translation.
import Derived.Test.YtlbcnklieefhmaaGLit
import Derived.Test.YtlbcnklieefhmaaPAx0
import Derived.Test.YtlbcnklieefhmaaPAx19
import Derived.Test.YtlbcnklieefhmaaPAx23
namespace Go.Proofs.Ytlbcnklieefhmaa.PA
open Go.RowKit Go.Proofs.YtlbcnklieefhmaaW.PrintWords Go.Proofs.YtlbcnklieefhmaaW.PrintLast Go.Proofs.YtlbcnklieefhmaaW.PrintMore
attribute [local go_sem] max2_int min2_int max_two min_two max_three min_three max_four min_four   -- for this text's walks alone
set_option linter.unusedVariables false
set_option linter.unusedSimpArgs false

/-! ### sentrylaw3_SpaceMixed: function 6 -/
open Go.Proofs.Ytlbcnklieefhmaa.GLit
set_option linter.unusedSimpArgs false
theorem mix_cell {w : World} {a : Addr} {v : Value} (h : w.cell? a = some v) (o : Obj) : (w.alloc o).cell? a = some v := (World.cell?_alloc_lt w o a (World.block_lt_of_cell? w a h)).trans h
def mixL (u v : ByteArray) : List S35 := [⟨⟨#[120, 109, 108, 110, 115, 58, 112]⟩, u⟩, ⟨⟨#[120, 109, 108, 110, 115, 58, 113]⟩, v⟩, ⟨⟨#[120, 109, 108, 110, 115]⟩, v⟩]
def mixK (way : Int) (v : ByteArray) : S32 := if way = 0 then ⟨⟨#[112, 58, 98]⟩, [], [], 0⟩ else if way = 1 then ⟨⟨#[113, 58, 98]⟩, [], [], 0⟩ else if way = 2 then ⟨⟨#[98]⟩, [], [], 0⟩ else ⟨⟨#[112, 58, 98]⟩, [⟨⟨#[120, 109, 108, 110, 115, 58, 112]⟩, v⟩], [], 0⟩
def mixW (way : Int) (u v : ByteArray) : ByteArray := if way = 0 then u else v
def mixA (k : Nat) (want u : ByteArray) (r : ByteArray × ByteArray × List S35 × List S26 × Int × Int × Int) : Option Bool :=
  if r.2.2.2.2.2.2 = 0 then (if r.1 = u then (if r.2.2.1.length = 0 then (if r.2.2.2.1.length = 1 then (if (rd_T26 r.2.2.2.1 0).f0 = want then (if (rd_T26 r.2.2.2.1 0).f1 = (⟨#[98]⟩ : ByteArray) then sentrylaw3_known.f k else none) else none) else none) else none) else none) else none
def mixF (k : Nat) (kid : S32) (want u v : ByteArray) : Option Bool :=
  (space_Resolve.f k ⟨#[112, 58, 97]⟩ (mixL u v) [kid] 0).bind fun r => mixA k want u r
def sentrylaw3_SpaceMixed.f (k : Nat) (a0 a1 : ByteArray) (a2 : Int) : Option Bool :=
  if a0.toList = ([] : List UInt8) then some true else if a1.toList = ([] : List UInt8) then some true else if (a0.size : Int) > 50 then some true else if (a1.size : Int) > 50 then some true else if a2 < 0 then some true else if a2 > 3 then some true else mixF k (mixK a2 a1) (mixW a2 a0 a1) a0 a1
theorem sentrylaw3_SpaceMixed.mono : ∀ a0 a1 a2 k, LeO (sentrylaw3_SpaceMixed.f k a0 a1 a2) (sentrylaw3_SpaceMixed.f (k + 1) a0 a1 a2) := fun a0 a1 a2 k =>
  .ite (.refl _) (.ite (.refl _) (.ite (.refl _) (.ite (.refl _) (.ite (.refl _) (.ite (.refl _) (.bind (space_Resolve.mono _ _ _ _ k) fun r => .ite (.ite (.ite (.ite (.ite (.ite (sentrylaw3_known.mono k) (.refl _)) (.refl _)) (.refl _)) (.refl _)) (.refl _)) (.refl _)))))))
theorem mixA_open {k : Nat} {want u r1 r2 : ByteArray} {r3 : List S35} {r4 : List S26} {r5 r6 r7 : Int} {b : Bool} (h : mixA k want u (r1, r2, r3, r4, r5, r6, r7) = some b) :
    0 = r7 ∧ u = r1 ∧ [] = r3 ∧ (∃ x : S26, r4 = [x] ∧ x.f0 = want ∧ x.f1 = (⟨#[98]⟩ : ByteArray)) ∧ sentrylaw3_known.f k = some b := by
  unfold mixA at h
  dsimp only at h
  by_cases c1 : r7 = 0
  · rw [if_pos c1] at h
    by_cases c2 : r1 = u
    · rw [if_pos c2] at h
      by_cases c3 : r3.length = 0
      · rw [if_pos c3] at h
        by_cases c4 : r4.length = 1
        · rw [if_pos c4] at h
          obtain ⟨x, rfl⟩ := List.length_eq_one_iff.mp c4
          by_cases c5 : (rd_T26 [x] 0).f0 = want
          · rw [if_pos c5] at h
            by_cases c6 : (rd_T26 [x] 0).f1 = (⟨#[98]⟩ : ByteArray)
            · rw [if_pos c6] at h
              exact ⟨c1.symm, c2.symm, (List.length_eq_zero_iff.mp c3).symm, ⟨x, rfl, c5, c6⟩, h⟩
            · rw [if_neg c6] at h; cases h
          · rw [if_neg c5] at h; cases h
        · rw [if_neg c4] at h; cases h
      · rw [if_neg c3] at h; cases h
    · rw [if_neg c2] at h; cases h
  · rw [if_neg c1] at h; cases h
theorem mix_attrs {w : World} {u v : ByteArray} {g : Nat} (hg : w.heap[g]? = some (.cells #[.string ⟨#[120, 109, 108, 110, 115, 58, 112]⟩, .string u, .string ⟨#[120, 109, 108, 110, 115, 58, 113]⟩, .string v, .string ⟨#[120, 109, 108, 110, 115]⟩, .string v] 35 (0, 0))) : k35.C w (some ⟨g, 0, none⟩) 3 (mixL u v) :=
  C_block hg (.c2 (k35_mk w ⟨⟨#[120, 109, 108, 110, 115, 58, 112]⟩, u⟩) rfl (.c2 (k35_mk w ⟨⟨#[120, 109, 108, 110, 115, 58, 113]⟩, v⟩) rfl (.c2 (k35_mk w ⟨⟨#[120, 109, 108, 110, 115]⟩, v⟩) rfl .nil))) (by simp [mixL, maxLen])
theorem mix_attr {w : World} {v : ByteArray} {g : Nat} (hg : w.heap[g]? = some (.cells #[.string ⟨#[120, 109, 108, 110, 115, 58, 112]⟩, .string v] 35 (0, 0))) : k35.C w (some ⟨g, 0, none⟩) 1 [(⟨⟨#[120, 109, 108, 110, 115, 58, 112]⟩, v⟩ : S35)] :=
  C_block hg (.c2 (k35_mk w ⟨⟨#[120, 109, 108, 110, 115, 58, 112]⟩, v⟩) rfl .nil) (by simp [maxLen])
theorem mix_kid {w : World} {nm : ByteArray} {l : List S35} {g : Nat} {A : Option Addr} {c : Nat} (hg : w.heap[g]? = some (.cells #[.string nm, .slice A l.length c, .slice none 0 0, .int .i64 0] 32 (0, 0)))
    (hl : l.length ≤ c) (hA : k35.C w A l.length l) : k32.C w (some ⟨g, 0, none⟩) 1 [(⟨nm, l, [], 0⟩ : S32)] :=
  C_block hg (.c4 (k32_mk w ⟨nm, l, [], 0⟩ hl hA (Nat.le_refl 0) (Kd.C_nil _ _)) rfl .nil) (by simp [maxLen])
set_option maxHeartbeats 4000000 in
set_option maxRecDepth 100000 in
theorem mix_w0 (k : Nat) (u v : ByteArray) (r : Bool) (w : World) (h1 : ¬ u.toList = ([] : List UInt8)) (h2 : ¬ v.toList = ([] : List UInt8)) (h3 : ¬ (u.size : Int) > 50) (h4 : ¬ (v.size : Int) > 50) (h : mixF k (⟨⟨#[112, 58, 98]⟩, [], [], 0⟩ : S32) u u v = some r) : Calls Try.prog 6 #[.string u, .string v, .int .i64 0] w fun e w' => e = .returned (.bool r) ∧ Below w.heap.size w w' := by
  have c1 : (u.toList == ([] : List UInt8)) = false := beq_eq_false_iff_ne.mpr h1
  have c2 : (v.toList == ([] : List UInt8)) = false := beq_eq_false_iff_ne.mpr h2
  have c3 : decide (50 < (u.size : Int)) = false := decide_eq_false h3
  have c3' : decide (50 < u.size) = false := decide_eq_false (by omega)
  have c4 : decide (50 < (v.size : Int)) = false := decide_eq_false h4
  have c4' : decide (50 < v.size) = false := decide_eq_false (by omega)
  clear h1 h2 h3 h4
  have HB := Aside0.mk (Below.refl w.heap.size w)
  obtain ⟨⟨r1, r2, r3, r4, r5, r6, r7⟩, hq, hr⟩ := Option.bind_eq_some_iff.mp h
  clear h
  obtain ⟨rfl, rfl, rfl, ⟨x, rfl, e1, e2⟩, hk⟩ := mixA_open hr
  clear hr
  have HQ := Aside0.mk hq
  have HK := Aside0.mk hk
  clear hq hk
  go_enter Try.func6, Try.ntmps6
  go_wp2_with (fail)
  refine (space_Resolve.calls k _ (some ⟨w.heap.size, 0, none⟩) 3 _ (some ⟨w.heap.size + 5, 0, none⟩) 1 _ 0 _ _ _ _ _ _ _ _ (mix_attrs ?hg1) (Nat.le_refl 3) (mix_kid (l := []) (A := none) (c := 0) ?hg2 (Nat.le_refl 0) ?hA) (Nat.le_refl 1) HQ.out).mono ?_
  case hg1 => repeat first | exact alloc_at (by first | (simp only [World.size_alloc]; done) | omega) | refine blk_alloc ?_ _
  case hg2 => repeat first | exact alloc_at (by first | (simp only [World.size_alloc]; done) | omega) | refine blk_alloc ?_ _
  case hA => first | exact Kd.C_nil _ _ | exact mix_attr (by repeat first | exact alloc_at (by first | (simp only [World.size_alloc]; done) | omega) | refine blk_alloc ?_ _)
  rintro e w1 ⟨v1, v2, rfl, hv1, hv2, hb⟩
  obtain ⟨Y1, yc1, rfl⟩ := Kd.R_slice hv1
  obtain ⟨Y2, yc2, rfl⟩ := Kd.R_slice hv2
  have HB1 := Aside0.mk (below_step (by repeat (first | exact Below.refl _ _ | apply below_alloc) : Below w.heap.size w _) hb)
  obtain ⟨ad, A2, d2, A3, d3, ea, f0, f1, _, _, _, _⟩ := at_T26 (Kd.R_reads' hv2).2.2 0 (by omega) (by simp)
  subst ea
  rw [show ((0 : Int)).toNat = 0 from rfl, show 0 * 5 = 0 from rfl, Addr.add_zero'] at f0 f1
  have g0 : ∀ o, (w1.alloc o).cell? ad = some (.string u) := fun o => mix_cell (f0.trans (congrArg (fun z => some (Value.string z)) e1)) o
  have g1 : ∀ o, (w1.alloc o).cell? ⟨ad.block, ad.off + 1, none⟩ = some (.string ⟨#[98]⟩) := fun o => mix_cell (f1.trans (congrArg (fun z => some (Value.string z)) e2)) o
  clear hv1 hv2 hb HB f0 f1 HQ
  go_wp2_with (fail)
  refine (sentrylaw3_known.calls k r _ HK.out).mono ?_
  rintro e w2 ⟨rfl, hb2⟩
  have HB2 := Aside0.mk (below_step (below_alloc HB1.out _) hb2)
  clear hb2 HB1
  go_wp2
  go_ret
  exact ⟨rfl, HB2.out⟩
set_option maxHeartbeats 4000000 in
set_option maxRecDepth 100000 in
theorem mix_w1 (k : Nat) (u v : ByteArray) (r : Bool) (w : World) (h1 : ¬ u.toList = ([] : List UInt8)) (h2 : ¬ v.toList = ([] : List UInt8)) (h3 : ¬ (u.size : Int) > 50) (h4 : ¬ (v.size : Int) > 50) (h : mixF k (⟨⟨#[113, 58, 98]⟩, [], [], 0⟩ : S32) v u v = some r) : Calls Try.prog 6 #[.string u, .string v, .int .i64 1] w fun e w' => e = .returned (.bool r) ∧ Below w.heap.size w w' := by
  have c1 : (u.toList == ([] : List UInt8)) = false := beq_eq_false_iff_ne.mpr h1
  have c2 : (v.toList == ([] : List UInt8)) = false := beq_eq_false_iff_ne.mpr h2
  have c3 : decide (50 < (u.size : Int)) = false := decide_eq_false h3
  have c3' : decide (50 < u.size) = false := decide_eq_false (by omega)
  have c4 : decide (50 < (v.size : Int)) = false := decide_eq_false h4
  have c4' : decide (50 < v.size) = false := decide_eq_false (by omega)
  clear h1 h2 h3 h4
  have HB := Aside0.mk (Below.refl w.heap.size w)
  obtain ⟨⟨r1, r2, r3, r4, r5, r6, r7⟩, hq, hr⟩ := Option.bind_eq_some_iff.mp h
  clear h
  obtain ⟨rfl, rfl, rfl, ⟨x, rfl, e1, e2⟩, hk⟩ := mixA_open hr
  clear hr
  have HQ := Aside0.mk hq
  have HK := Aside0.mk hk
  clear hq hk
  go_enter Try.func6, Try.ntmps6
  go_wp2_with (fail)
  refine (space_Resolve.calls k _ (some ⟨w.heap.size, 0, none⟩) 3 _ (some ⟨w.heap.size + 5, 0, none⟩) 1 _ 0 _ _ _ _ _ _ _ _ (mix_attrs ?hg1) (Nat.le_refl 3) (mix_kid (l := []) (A := none) (c := 0) ?hg2 (Nat.le_refl 0) ?hA) (Nat.le_refl 1) HQ.out).mono ?_
  case hg1 => repeat first | exact alloc_at (by first | (simp only [World.size_alloc]; done) | omega) | refine blk_alloc ?_ _
  case hg2 => repeat first | exact alloc_at (by first | (simp only [World.size_alloc]; done) | omega) | refine blk_alloc ?_ _
  case hA => first | exact Kd.C_nil _ _ | exact mix_attr (by repeat first | exact alloc_at (by first | (simp only [World.size_alloc]; done) | omega) | refine blk_alloc ?_ _)
  rintro e w1 ⟨v1, v2, rfl, hv1, hv2, hb⟩
  obtain ⟨Y1, yc1, rfl⟩ := Kd.R_slice hv1
  obtain ⟨Y2, yc2, rfl⟩ := Kd.R_slice hv2
  have HB1 := Aside0.mk (below_step (by repeat (first | exact Below.refl _ _ | apply below_alloc) : Below w.heap.size w _) hb)
  obtain ⟨ad, A2, d2, A3, d3, ea, f0, f1, _, _, _, _⟩ := at_T26 (Kd.R_reads' hv2).2.2 0 (by omega) (by simp)
  subst ea
  rw [show ((0 : Int)).toNat = 0 from rfl, show 0 * 5 = 0 from rfl, Addr.add_zero'] at f0 f1
  have g0 : ∀ o, (w1.alloc o).cell? ad = some (.string v) := fun o => mix_cell (f0.trans (congrArg (fun z => some (Value.string z)) e1)) o
  have g1 : ∀ o, (w1.alloc o).cell? ⟨ad.block, ad.off + 1, none⟩ = some (.string ⟨#[98]⟩) := fun o => mix_cell (f1.trans (congrArg (fun z => some (Value.string z)) e2)) o
  clear hv1 hv2 hb HB f0 f1 HQ
  go_wp2_with (fail)
  refine (sentrylaw3_known.calls k r _ HK.out).mono ?_
  rintro e w2 ⟨rfl, hb2⟩
  have HB2 := Aside0.mk (below_step (below_alloc HB1.out _) hb2)
  clear hb2 HB1
  go_wp2
  go_ret
  exact ⟨rfl, HB2.out⟩
set_option maxHeartbeats 4000000 in
set_option maxRecDepth 100000 in
theorem mix_w2 (k : Nat) (u v : ByteArray) (r : Bool) (w : World) (h1 : ¬ u.toList = ([] : List UInt8)) (h2 : ¬ v.toList = ([] : List UInt8)) (h3 : ¬ (u.size : Int) > 50) (h4 : ¬ (v.size : Int) > 50) (h : mixF k (⟨⟨#[98]⟩, [], [], 0⟩ : S32) v u v = some r) : Calls Try.prog 6 #[.string u, .string v, .int .i64 2] w fun e w' => e = .returned (.bool r) ∧ Below w.heap.size w w' := by
  have c1 : (u.toList == ([] : List UInt8)) = false := beq_eq_false_iff_ne.mpr h1
  have c2 : (v.toList == ([] : List UInt8)) = false := beq_eq_false_iff_ne.mpr h2
  have c3 : decide (50 < (u.size : Int)) = false := decide_eq_false h3
  have c3' : decide (50 < u.size) = false := decide_eq_false (by omega)
  have c4 : decide (50 < (v.size : Int)) = false := decide_eq_false h4
  have c4' : decide (50 < v.size) = false := decide_eq_false (by omega)
  clear h1 h2 h3 h4
  have HB := Aside0.mk (Below.refl w.heap.size w)
  obtain ⟨⟨r1, r2, r3, r4, r5, r6, r7⟩, hq, hr⟩ := Option.bind_eq_some_iff.mp h
  clear h
  obtain ⟨rfl, rfl, rfl, ⟨x, rfl, e1, e2⟩, hk⟩ := mixA_open hr
  clear hr
  have HQ := Aside0.mk hq
  have HK := Aside0.mk hk
  clear hq hk
  go_enter Try.func6, Try.ntmps6
  go_wp2_with (fail)
  refine (space_Resolve.calls k _ (some ⟨w.heap.size, 0, none⟩) 3 _ (some ⟨w.heap.size + 5, 0, none⟩) 1 _ 0 _ _ _ _ _ _ _ _ (mix_attrs ?hg1) (Nat.le_refl 3) (mix_kid (l := []) (A := none) (c := 0) ?hg2 (Nat.le_refl 0) ?hA) (Nat.le_refl 1) HQ.out).mono ?_
  case hg1 => repeat first | exact alloc_at (by first | (simp only [World.size_alloc]; done) | omega) | refine blk_alloc ?_ _
  case hg2 => repeat first | exact alloc_at (by first | (simp only [World.size_alloc]; done) | omega) | refine blk_alloc ?_ _
  case hA => first | exact Kd.C_nil _ _ | exact mix_attr (by repeat first | exact alloc_at (by first | (simp only [World.size_alloc]; done) | omega) | refine blk_alloc ?_ _)
  rintro e w1 ⟨v1, v2, rfl, hv1, hv2, hb⟩
  obtain ⟨Y1, yc1, rfl⟩ := Kd.R_slice hv1
  obtain ⟨Y2, yc2, rfl⟩ := Kd.R_slice hv2
  have HB1 := Aside0.mk (below_step (by repeat (first | exact Below.refl _ _ | apply below_alloc) : Below w.heap.size w _) hb)
  obtain ⟨ad, A2, d2, A3, d3, ea, f0, f1, _, _, _, _⟩ := at_T26 (Kd.R_reads' hv2).2.2 0 (by omega) (by simp)
  subst ea
  rw [show ((0 : Int)).toNat = 0 from rfl, show 0 * 5 = 0 from rfl, Addr.add_zero'] at f0 f1
  have g0 : ∀ o, (w1.alloc o).cell? ad = some (.string v) := fun o => mix_cell (f0.trans (congrArg (fun z => some (Value.string z)) e1)) o
  have g1 : ∀ o, (w1.alloc o).cell? ⟨ad.block, ad.off + 1, none⟩ = some (.string ⟨#[98]⟩) := fun o => mix_cell (f1.trans (congrArg (fun z => some (Value.string z)) e2)) o
  clear hv1 hv2 hb HB f0 f1 HQ
  go_wp2_with (fail)
  refine (sentrylaw3_known.calls k r _ HK.out).mono ?_
  rintro e w2 ⟨rfl, hb2⟩
  have HB2 := Aside0.mk (below_step (below_alloc HB1.out _) hb2)
  clear hb2 HB1
  go_wp2
  go_ret
  exact ⟨rfl, HB2.out⟩
set_option maxHeartbeats 4000000 in
set_option maxRecDepth 100000 in
theorem mix_w3 (k : Nat) (u v : ByteArray) (r : Bool) (w : World) (h1 : ¬ u.toList = ([] : List UInt8)) (h2 : ¬ v.toList = ([] : List UInt8)) (h3 : ¬ (u.size : Int) > 50) (h4 : ¬ (v.size : Int) > 50) (h : mixF k (⟨⟨#[112, 58, 98]⟩, [⟨⟨#[120, 109, 108, 110, 115, 58, 112]⟩, v⟩], [], 0⟩ : S32) v u v = some r) : Calls Try.prog 6 #[.string u, .string v, .int .i64 3] w fun e w' => e = .returned (.bool r) ∧ Below w.heap.size w w' := by
  have c1 : (u.toList == ([] : List UInt8)) = false := beq_eq_false_iff_ne.mpr h1
  have c2 : (v.toList == ([] : List UInt8)) = false := beq_eq_false_iff_ne.mpr h2
  have c3 : decide (50 < (u.size : Int)) = false := decide_eq_false h3
  have c3' : decide (50 < u.size) = false := decide_eq_false (by omega)
  have c4 : decide (50 < (v.size : Int)) = false := decide_eq_false h4
  have c4' : decide (50 < v.size) = false := decide_eq_false (by omega)
  clear h1 h2 h3 h4
  have HB := Aside0.mk (Below.refl w.heap.size w)
  obtain ⟨⟨r1, r2, r3, r4, r5, r6, r7⟩, hq, hr⟩ := Option.bind_eq_some_iff.mp h
  clear h
  obtain ⟨rfl, rfl, rfl, ⟨x, rfl, e1, e2⟩, hk⟩ := mixA_open hr
  clear hr
  have HQ := Aside0.mk hq
  have HK := Aside0.mk hk
  clear hq hk
  go_enter Try.func6, Try.ntmps6
  go_wp2_with (fail)
  refine (space_Resolve.calls k _ (some ⟨w.heap.size, 0, none⟩) 3 _ (some ⟨w.heap.size + 6, 0, none⟩) 1 _ 0 _ _ _ _ _ _ _ _ (mix_attrs ?hg1) (Nat.le_refl 3) (mix_kid (l := [⟨⟨#[120, 109, 108, 110, 115, 58, 112]⟩, v⟩]) (A := some ⟨w.heap.size + 5, 0, none⟩) (c := 1) ?hg2 (Nat.le_refl 1) ?hA) (Nat.le_refl 1) HQ.out).mono ?_
  case hg1 => repeat first | exact alloc_at (by first | (simp only [World.size_alloc]; done) | omega) | refine blk_alloc ?_ _
  case hg2 => repeat first | exact alloc_at (by first | (simp only [World.size_alloc]; done) | omega) | refine blk_alloc ?_ _
  case hA => first | exact Kd.C_nil _ _ | exact mix_attr (by repeat first | exact alloc_at (by first | (simp only [World.size_alloc]; done) | omega) | refine blk_alloc ?_ _)
  rintro e w1 ⟨v1, v2, rfl, hv1, hv2, hb⟩
  obtain ⟨Y1, yc1, rfl⟩ := Kd.R_slice hv1
  obtain ⟨Y2, yc2, rfl⟩ := Kd.R_slice hv2
  have HB1 := Aside0.mk (below_step (by repeat (first | exact Below.refl _ _ | apply below_alloc) : Below w.heap.size w _) hb)
  obtain ⟨ad, A2, d2, A3, d3, ea, f0, f1, _, _, _, _⟩ := at_T26 (Kd.R_reads' hv2).2.2 0 (by omega) (by simp)
  subst ea
  rw [show ((0 : Int)).toNat = 0 from rfl, show 0 * 5 = 0 from rfl, Addr.add_zero'] at f0 f1
  have g0 : ∀ o, (w1.alloc o).cell? ad = some (.string v) := fun o => mix_cell (f0.trans (congrArg (fun z => some (Value.string z)) e1)) o
  have g1 : ∀ o, (w1.alloc o).cell? ⟨ad.block, ad.off + 1, none⟩ = some (.string ⟨#[98]⟩) := fun o => mix_cell (f1.trans (congrArg (fun z => some (Value.string z)) e2)) o
  clear hv1 hv2 hb HB f0 f1 HQ
  go_wp2_with (fail)
  refine (sentrylaw3_known.calls k r _ HK.out).mono ?_
  rintro e w2 ⟨rfl, hb2⟩
  have HB2 := Aside0.mk (below_step (below_alloc HB1.out _) hb2)
  clear hb2 HB1
  go_wp2
  go_ret
  exact ⟨rfl, HB2.out⟩
set_option maxHeartbeats 4000000 in
set_option maxRecDepth 100000 in
theorem sentrylaw3_SpaceMixed.calls (k : Nat) (a0 a1 : ByteArray) (a2 : Int) (r : Bool) (w : World) (h : sentrylaw3_SpaceMixed.f k a0 a1 a2 = some r) : Calls Try.prog 6 #[.string a0, .string a1, .int .i64 a2] w fun e w' => e = .returned (.bool r) ∧ Below w.heap.size w w' := by
  have HB := Aside0.mk (Below.refl w.heap.size w)
  unfold sentrylaw3_SpaceMixed.f at h
  by_cases h1 : a0.toList = ([] : List UInt8)
  · rw [if_pos h1] at h
    obtain rfl := Option.some.inj h
    have h1b : (a0.toList == ([] : List UInt8)) = true := beq_iff_eq.mpr h1
    go_enter Try.func6, Try.ntmps6
    go_wp2
    go_ret
    exact ⟨rfl, by repeat (first | exact HB.out | apply below_alloc)⟩
  · rw [if_neg h1] at h
    by_cases h2 : a1.toList = ([] : List UInt8)
    · rw [if_pos h2] at h
      obtain rfl := Option.some.inj h
      have h1b : (a0.toList == ([] : List UInt8)) = false := beq_eq_false_iff_ne.mpr h1
      have h2b : (a1.toList == ([] : List UInt8)) = true := beq_iff_eq.mpr h2
      go_enter Try.func6, Try.ntmps6
      go_wp2
      go_ret
      exact ⟨rfl, by repeat (first | exact HB.out | apply below_alloc)⟩
    · rw [if_neg h2] at h
      by_cases h3 : (a0.size : Int) > 50
      · rw [if_pos h3] at h
        obtain rfl := Option.some.inj h
        have h1b : (a0.toList == ([] : List UInt8)) = false := beq_eq_false_iff_ne.mpr h1
        have h2b : (a1.toList == ([] : List UInt8)) = false := beq_eq_false_iff_ne.mpr h2
        have h3b : decide (50 < (a0.size : Int)) = true := decide_eq_true h3
        have h3c : decide (50 < a0.size) = true := decide_eq_true (by omega)
        go_enter Try.func6, Try.ntmps6
        go_wp2
        go_ret
        exact ⟨rfl, by repeat (first | exact HB.out | apply below_alloc)⟩
      · rw [if_neg h3] at h
        by_cases h4 : (a1.size : Int) > 50
        · rw [if_pos h4] at h
          obtain rfl := Option.some.inj h
          have h1b : (a0.toList == ([] : List UInt8)) = false := beq_eq_false_iff_ne.mpr h1
          have h2b : (a1.toList == ([] : List UInt8)) = false := beq_eq_false_iff_ne.mpr h2
          have h3b : decide (50 < (a0.size : Int)) = false := decide_eq_false h3
          have h3c : decide (50 < a0.size) = false := decide_eq_false (by omega)
          have h4b : decide (50 < (a1.size : Int)) = true := decide_eq_true h4
          have h4c : decide (50 < a1.size) = true := decide_eq_true (by omega)
          go_enter Try.func6, Try.ntmps6
          go_wp2
          go_ret
          exact ⟨rfl, by repeat (first | exact HB.out | apply below_alloc)⟩
        · rw [if_neg h4] at h
          by_cases h5 : a2 < 0
          · rw [if_pos h5] at h
            obtain rfl := Option.some.inj h
            have h1b : (a0.toList == ([] : List UInt8)) = false := beq_eq_false_iff_ne.mpr h1
            have h2b : (a1.toList == ([] : List UInt8)) = false := beq_eq_false_iff_ne.mpr h2
            have h3b : decide (50 < (a0.size : Int)) = false := decide_eq_false h3
            have h3c : decide (50 < a0.size) = false := decide_eq_false (by omega)
            have h4b : decide (50 < (a1.size : Int)) = false := decide_eq_false h4
            have h4c : decide (50 < a1.size) = false := decide_eq_false (by omega)
            have h5b : decide (a2 < 0) = true := decide_eq_true h5
            go_enter Try.func6, Try.ntmps6
            go_wp2
            go_ret
            exact ⟨rfl, by repeat (first | exact HB.out | apply below_alloc)⟩
          · rw [if_neg h5] at h
            by_cases h6 : a2 > 3
            · rw [if_pos h6] at h
              obtain rfl := Option.some.inj h
              have h1b : (a0.toList == ([] : List UInt8)) = false := beq_eq_false_iff_ne.mpr h1
              have h2b : (a1.toList == ([] : List UInt8)) = false := beq_eq_false_iff_ne.mpr h2
              have h3b : decide (50 < (a0.size : Int)) = false := decide_eq_false h3
              have h3c : decide (50 < a0.size) = false := decide_eq_false (by omega)
              have h4b : decide (50 < (a1.size : Int)) = false := decide_eq_false h4
              have h4c : decide (50 < a1.size) = false := decide_eq_false (by omega)
              have h5b : decide (a2 < 0) = false := decide_eq_false h5
              have h6b : decide (3 < a2) = true := decide_eq_true h6
              go_enter Try.func6, Try.ntmps6
              go_wp2
              go_ret
              exact ⟨rfl, by repeat (first | exact HB.out | apply below_alloc)⟩
            · rw [if_neg h6] at h
              have e0 : a2 = 0 ∨ a2 = 1 ∨ a2 = 2 ∨ a2 = 3 := by omega
              rcases e0 with rfl | rfl | rfl | rfl
              · exact mix_w0 k a0 a1 r w h1 h2 h3 h4 (by simpa [mixK, mixW] using h)
              · exact mix_w1 k a0 a1 r w h1 h2 h3 h4 (by simpa [mixK, mixW] using h)
              · exact mix_w2 k a0 a1 r w h1 h2 h3 h4 (by simpa [mixK, mixW] using h)
              · exact mix_w3 k a0 a1 r w h1 h2 h3 h4 (by simpa [mixK, mixW] using h)

end Go.Proofs.Ytlbcnklieefhmaa.PA
