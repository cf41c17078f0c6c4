/- RulesSame, part 11: the words, the walks and the plain laws that the proof rests on. -/
import Derived.Test.YtknenadpkgajjaaQRulesSame10
section
namespace Go.Proofs.Ytknenadpkgajjaa.PA
open Go.RowKit Go.Proofs.YtknenadpkgajjaaW.PrintWords Go.Proofs.YtknenadpkgajjaaW.PrintLast Go.Proofs.YtknenadpkgajjaaW.PrintMore
attribute [local go_sem] max2_int min2_int max_two min_two max_three min_three max_four min_four   -- for this text's walks alone
set_option linter.unusedVariables false
set_option linter.unusedSimpArgs false
/-! ### rules_sameRule: function 44 -/
def rules_sameRule.f (k : Nat) (a0_0 : Int) (l0_1 : List (S39)) (l0_2 : List (S41)) (l0_3 : List (S23)) (a1_0 : Int) (l1_1 : List (S39)) (l1_2 : List (S41)) (l1_3 : List (S23)) : Option (Bool) := if a0_0 = a1_0 then ((api_Lit_66.f k l0_1 l1_1).bind fun t382 => (if t382 = true then ((api_Cond_67.f k l0_2 l1_2).bind fun t383 => (if t383 = true then ((api_Set_68.f k l0_3 l1_3).bind fun t384 => (some t384)) else (some false))) else (some false))) else (some false)
theorem rules_sameRule.mono : ∀ a0 a1 a2 a3 a4 a5 a6 a7 k, LeO (rules_sameRule.f k a0 a1 a2 a3 a4 a5 a6 a7) (rules_sameRule.f (k + 1) a0 a1 a2 a3 a4 a5 a6 a7) := by
  intro a0 a1 a2 a3 a4 a5 a6 a7 k
  unfold rules_sameRule.f
  repeat' first
      | (with_reducible exact api_Cond_67.mono _ _ _)
      | (with_reducible exact api_Lit_66.mono _ _ _)
      | (with_reducible exact api_Set_68.mono _ _ _)
      | (with_reducible exact LeO.refl _)
      | (with_reducible exact LeO.none _)
      | (with_reducible refine LeO.ite ?_ ?_)
      | (with_reducible refine LeO.bind ?_ (fun _ => ?_))
      | exact api_Cond_67.mono _ _ _
      | exact api_Lit_66.mono _ _ _
      | exact api_Set_68.mono _ _ _
      | exact LeO.none _
      | refine LeO.ite ?_ ?_
      | refine LeO.bind ?_ (fun _ => ?_)
set_option maxHeartbeats 8000000 in
set_option maxRecDepth 100000 in
theorem rules_sameRule.calls (k : Nat) (a0_0 : Int) (A0_1 : Option Addr) (c0_1 : Nat) (l0_1 : List (S39)) (A0_2 : Option Addr) (c0_2 : Nat) (l0_2 : List (S41)) (A0_3 : Option Addr) (c0_3 : Nat) (l0_3 : List (S23)) (a1_0 : Int) (A1_1 : Option Addr) (c1_1 : Nat) (l1_1 : List (S39)) (A1_2 : Option Addr) (c1_2 : Nat) (l1_2 : List (S41)) (A1_3 : Option Addr) (c1_3 : Nat) (l1_3 : List (S23)) (r : Bool) (w : World) (hr0_1 : Kd.C k39 w A0_1 l0_1.length l0_1) (hc0_1 : l0_1.length ≤ c0_1) (hr0_2 : Kd.C k41 w A0_2 l0_2.length l0_2) (hc0_2 : l0_2.length ≤ c0_2) (hr0_3 : Kd.C k23 w A0_3 l0_3.length l0_3) (hc0_3 : l0_3.length ≤ c0_3) (hr1_1 : Kd.C k39 w A1_1 l1_1.length l1_1) (hc1_1 : l1_1.length ≤ c1_1) (hr1_2 : Kd.C k41 w A1_2 l1_2.length l1_2) (hc1_2 : l1_2.length ≤ c1_2) (hr1_3 : Kd.C k23 w A1_3 l1_3.length l1_3) (hc1_3 : l1_3.length ≤ c1_3) (h : rules_sameRule.f k a0_0 l0_1 l0_2 l0_3 a1_0 l1_1 l1_2 l1_3 = some r) :
    Calls Try.prog 44 #[.agg #[.int .i64 a0_0, .slice A0_1 l0_1.length c0_1, .slice A0_2 l0_2.length c0_2, .slice A0_3 l0_3.length c0_3], .agg #[.int .i64 a1_0, .slice A1_1 l1_1.length c1_1, .slice A1_2 l1_2.length c1_2, .slice A1_3 l1_3.length c1_3]] w fun e w' => e = .returned (.bool r) ∧ Below w.heap.size w w' := by
  have hu28 := Try.underlying28
  have HR0_1 := Aside0.mk hr0_1
  have HC0_1 := Aside0.mk hc0_1
  clear hr0_1 hc0_1
  have HR0_2 := Aside0.mk hr0_2
  have HC0_2 := Aside0.mk hc0_2
  clear hr0_2 hc0_2
  have HR0_3 := Aside0.mk hr0_3
  have HC0_3 := Aside0.mk hc0_3
  clear hr0_3 hc0_3
  have HR1_1 := Aside0.mk hr1_1
  have HC1_1 := Aside0.mk hc1_1
  clear hr1_1 hc1_1
  have HR1_2 := Aside0.mk hr1_2
  have HC1_2 := Aside0.mk hc1_2
  clear hr1_2 hc1_2
  have HR1_3 := Aside0.mk hr1_3
  have HC1_3 := Aside0.mk hc1_3
  clear hr1_3 hc1_3
  have HB := Aside0.mk (Below.refl w.heap.size w)
  have H : (if a0_0 = a1_0 then ((api_Lit_66.f k l0_1 l1_1).bind fun t382 => (if t382 = true then ((api_Cond_67.f k l0_2 l1_2).bind fun t383 => (if t383 = true then ((api_Set_68.f k l0_3 l1_3).bind fun t384 => (some t384)) else (some false))) else (some false))) else (some false)) = some r := h
  clear h
  by_cases c3 : a0_0 = a1_0
  · rw [if_pos c3] at H
    have c3b0 : (a0_0 == a1_0) = true := beq_iff_eq.mpr c3
    have c3b1 : (a0_0 != a1_0) = false := bne_eq_false_iff_eq.mpr c3
    clear c3
    replace H := Option.bind_eq_some_iff.mp H
    obtain ⟨t382, A40, H⟩ := H
    replace H : (if t382 = true then ((api_Cond_67.f k l0_2 l1_2).bind fun t383 => (if t383 = true then ((api_Set_68.f k l0_3 l1_3).bind fun t384 => (some t384)) else (some false))) else (some false)) = some r := H
    have A4 := Aside0.mk A40
    clear A40
    by_cases c5 : t382 = true
    · subst c5
      have H1 : ((api_Cond_67.f k l0_2 l1_2).bind fun t383 => (if t383 = true then ((api_Set_68.f k l0_3 l1_3).bind fun t384 => (some t384)) else (some false))) = some r := by rw [if_pos rfl] at H; exact H
      clear H
      have H := H1
      clear H1
      replace H := Option.bind_eq_some_iff.mp H
      obtain ⟨t383, A60, H⟩ := H
      replace H : (if t383 = true then ((api_Set_68.f k l0_3 l1_3).bind fun t384 => (some t384)) else (some false)) = some r := H
      have A6 := Aside0.mk A60
      clear A60
      by_cases c7 : t383 = true
      · subst c7
        have H1 : ((api_Set_68.f k l0_3 l1_3).bind fun t384 => (some t384)) = some r := by rw [if_pos rfl] at H; exact H
        clear H
        have H := H1
        clear H1
        replace H := Option.bind_eq_some_iff.mp H
        obtain ⟨t384, A80, H⟩ := H
        replace H : (some t384) = some r := H
        have A8 := Aside0.mk A80
        clear A80
        obtain rfl := Option.some.inj H
        go_enter Try.func44, Try.ntmps44
        go_wp2_with (first | ((with_reducible refine gate_dst (N := 2) rfl ?_); refine box_event ?hg (N := 2) ?hd (cs := #[.int .i64 a0_0, .slice A0_1 l0_1.length c0_1, .slice A0_2 l0_2.length c0_2, .slice A0_3 l0_3.length c0_3]) (t := 28) ?hr ?_; (case hd => rfl); (case hg => rfl); (case hr => first | (go_simp; done) | (go_simp; rfl)); intro gb380 hg w9 hbox hb; have n0_ := Aside0.mk (below_step (by repeat (first | (with_reducible first | exact HB.out | apply below_alloc | apply pw_below_drewN | apply below_drew1) | exact HB.out)) hb); have n1_ := Aside0.mk (hbox); have n2_ := Aside0.mk ((by rw [hg]; exact (below_size (by repeat (first | (with_reducible first | exact HB.out | apply below_alloc | apply pw_below_drewN | apply below_drew1) | exact HB.out))) : w.heap.size ≤ gb380)); have n3_ := Aside0.mk ((by rw [hg]; exact (below_size (by repeat (first | (with_reducible first | exact HB.out | apply below_alloc | apply pw_below_drewN | apply below_drew1) | exact HB.out))) : w.heap.size ≤ gb380)); clear HB; have HB := n0_; have BK380 := n1_; have GW380 := n2_; have GE380 := n3_; clear n0_ n1_ n2_ n3_; clear hb hbox hg) | ((with_reducible refine gate_dst (N := 3) rfl ?_); refine box_event ?hg (N := 3) ?hd (cs := #[.int .i64 a1_0, .slice A1_1 l1_1.length c1_1, .slice A1_2 l1_2.length c1_2, .slice A1_3 l1_3.length c1_3]) (t := 28) ?hr ?_; (case hd => rfl); (case hg => rfl); (case hr => first | (go_simp; done) | (go_simp; rfl)); intro gb381 hg w10 hbox hb; have n0_ := Aside0.mk (blk_below (g := gb380) (o := .cells #[.int .i64 a0_0, .slice A0_1 l0_1.length c0_1, .slice A0_2 l0_2.length c0_2, .slice A0_3 l0_3.length c0_3] 28 (0, 0)) (by (with_reducible repeat (first | refine blk_drewN ?_ _ | refine blk_drew ?_ | refine blk_alloc ?_ _)); exact BK380.out) hb); have n1_ := Aside0.mk (below_step (by repeat (first | (with_reducible first | exact HB.out | apply below_alloc | apply pw_below_drewN | apply below_drew1 | refine below_set ?_ GE380.out) | exact HB.out)) hb); have n2_ := Aside0.mk (hbox); have n3_ := Aside0.mk ((by rw [hg]; exact (below_size (by repeat (first | (with_reducible first | exact HB.out | apply below_alloc | apply pw_below_drewN | apply below_drew1 | refine below_set ?_ GE380.out) | exact HB.out))) : w.heap.size ≤ gb381)); have n4_ := Aside0.mk ((by rw [hg]; exact (below_size (by repeat (first | (with_reducible first | exact HB.out | apply below_alloc | apply pw_below_drewN | apply below_drew1 | refine below_set ?_ GE380.out) | exact HB.out))) : w.heap.size ≤ gb381)); have n5_ := Aside0.mk ((by rw [hg]; exact Nat.ne_of_lt (blk_lt (g := gb380) (o := .cells #[.int .i64 a0_0, .slice A0_1 l0_1.length c0_1, .slice A0_2 l0_2.length c0_2, .slice A0_3 l0_3.length c0_3] 28 (0, 0)) (by (with_reducible repeat (first | refine blk_drewN ?_ _ | refine blk_drew ?_ | refine blk_alloc ?_ _)); exact BK380.out)) : gb380 ≠ gb381)); have n6_ := Aside0.mk ((by rw [hg]; exact Nat.ne_of_gt (blk_lt (g := gb380) (o := .cells #[.int .i64 a0_0, .slice A0_1 l0_1.length c0_1, .slice A0_2 l0_2.length c0_2, .slice A0_3 l0_3.length c0_3] 28 (0, 0)) (by (with_reducible repeat (first | refine blk_drewN ?_ _ | refine blk_drew ?_ | refine blk_alloc ?_ _)); exact BK380.out)) : gb381 ≠ gb380)); clear BK380; clear HB; have BK380 := n0_; have HB := n1_; have BK381 := n2_; have GW381 := n3_; have GE381 := n4_; have NB380_381 := n5_; have NB381_380 := n6_; clear n0_ n1_ n2_ n3_ n4_ n5_ n6_; clear hb hbox hg; have hnb11 := NB380_381.out; have hnc11 := NB381_380.out; have hcz12_0 : w10.cell? ⟨gb380, 0, none⟩ = some (.int .i64 a0_0) := (blk_cell BK380.out 0).trans rfl; have hcz12_1 : w10.cell? ⟨gb380, 1, none⟩ = some (.slice A0_1 l0_1.length c0_1) := (blk_cell BK380.out 1).trans rfl; have hcz12_2 : w10.cell? ⟨gb380, 2, none⟩ = some (.slice A0_2 l0_2.length c0_2) := (blk_cell BK380.out 2).trans rfl; have hcz12_3 : w10.cell? ⟨gb380, 3, none⟩ = some (.slice A0_3 l0_3.length c0_3) := (blk_cell BK380.out 3).trans rfl; have hfz12_0 := blk_frozen BK380.out 0; have hfz12_1 := blk_frozen BK380.out 1; have hfz12_2 := blk_frozen BK380.out 2; have hfz12_3 := blk_frozen BK380.out 3; have hcz13_0 : w10.cell? ⟨gb381, 0, none⟩ = some (.int .i64 a1_0) := (blk_cell BK381.out 0).trans rfl; have hcz13_1 : w10.cell? ⟨gb381, 1, none⟩ = some (.slice A1_1 l1_1.length c1_1) := (blk_cell BK381.out 1).trans rfl; have hcz13_2 : w10.cell? ⟨gb381, 2, none⟩ = some (.slice A1_2 l1_2.length c1_2) := (blk_cell BK381.out 2).trans rfl; have hcz13_3 : w10.cell? ⟨gb381, 3, none⟩ = some (.slice A1_3 l1_3.length c1_3) := (blk_cell BK381.out 3).trans rfl; have hfz13_0 := blk_frozen BK381.out 0; have hfz13_1 := blk_frozen BK381.out 1; have hfz13_2 := blk_frozen BK381.out 2; have hfz13_3 := blk_frozen BK381.out 3) | (go_at_call 66; (with_reducible refine (api_Lit_66.calls k _ _ l0_1 _ _ l1_1 true _ ?side1 ?side2 ?side3 ?side4 A4.out).mono ?_); (case side1 => repeat (first | exact (Kd.C_below HR0_1.out HB.out) | (with_reducible refine Kd.C_alloc ?_ _) | (with_reducible refine Kd.C_drewN ?_ _) | (with_reducible refine Kd.C_drew ?_))); (case side2 => exact HC0_1.out); (case side3 => repeat (first | exact (Kd.C_below HR1_1.out HB.out) | (with_reducible refine Kd.C_alloc ?_ _) | (with_reducible refine Kd.C_drewN ?_ _) | (with_reducible refine Kd.C_drew ?_))); (case side4 => exact HC1_1.out); rintro e w' ⟨rfl, ⟨nd, rfl⟩⟩) | (go_at_call 67; (with_reducible refine (api_Cond_67.calls k _ _ l0_2 _ _ l1_2 true _ ?side1 ?side2 ?side3 ?side4 A6.out).mono ?_); (case side1 => repeat (first | exact (Kd.C_below HR0_2.out (by repeat (first | (with_reducible first | exact HB.out | apply below_alloc | apply pw_below_drewN | apply below_drew1 | refine below_set ?_ GE380.out | refine below_set ?_ GE381.out) | exact HB.out))) | (with_reducible refine Kd.C_alloc ?_ _) | (with_reducible refine Kd.C_drewN ?_ _) | (with_reducible refine Kd.C_drew ?_))); (case side2 => exact HC0_2.out); (case side3 => repeat (first | exact (Kd.C_below HR1_2.out (by repeat (first | (with_reducible first | exact HB.out | apply below_alloc | apply pw_below_drewN | apply below_drew1 | refine below_set ?_ GE380.out | refine below_set ?_ GE381.out) | exact HB.out))) | (with_reducible refine Kd.C_alloc ?_ _) | (with_reducible refine Kd.C_drewN ?_ _) | (with_reducible refine Kd.C_drew ?_))); (case side4 => exact HC1_2.out); rintro e w' ⟨rfl, ⟨nd, rfl⟩⟩) | (go_at_call 68; (with_reducible refine (api_Set_68.calls k _ _ l0_3 _ _ l1_3 t384 _ ?side1 ?side2 ?side3 ?side4 A8.out).mono ?_); (case side1 => repeat (first | exact (Kd.C_below HR0_3.out (by repeat (first | (with_reducible first | exact HB.out | apply below_alloc | apply pw_below_drewN | apply below_drew1 | refine below_set ?_ GE380.out | refine below_set ?_ GE381.out) | exact HB.out))) | (with_reducible refine Kd.C_alloc ?_ _) | (with_reducible refine Kd.C_drewN ?_ _) | (with_reducible refine Kd.C_drew ?_))); (case side2 => exact HC0_3.out); (case side3 => repeat (first | exact (Kd.C_below HR1_3.out (by repeat (first | (with_reducible first | exact HB.out | apply below_alloc | apply pw_below_drewN | apply below_drew1 | refine below_set ?_ GE380.out | refine below_set ?_ GE381.out) | exact HB.out))) | (with_reducible refine Kd.C_alloc ?_ _) | (with_reducible refine Kd.C_drewN ?_ _) | (with_reducible refine Kd.C_drew ?_))); (case side4 => exact HC1_3.out); rintro e w' ⟨rfl, ⟨nd, rfl⟩⟩))
        go_ret
        exact ⟨by first | rfl | (simp [errW_none, errW_some] <;> rfl) | (simp [*, errW_none, errW_some] <;> rfl), by repeat (first | (with_reducible first | exact HB.out | apply below_alloc | apply pw_below_drewN | apply below_drew1 | refine below_set ?_ GE380.out | refine below_set ?_ GE381.out) | exact HB.out)⟩
      · replace c7 := Bool.eq_false_iff.mpr c7
        subst c7
        have H1 : (some false) = some r := by rw [if_neg (show ¬ (false = true) by decide)] at H; exact H
        clear H
        have H := H1
        clear H1
        obtain rfl := Option.some.inj H
        go_enter Try.func44, Try.ntmps44
        go_wp2_with (first | ((with_reducible refine gate_dst (N := 2) rfl ?_); refine box_event ?hg (N := 2) ?hd (cs := #[.int .i64 a0_0, .slice A0_1 l0_1.length c0_1, .slice A0_2 l0_2.length c0_2, .slice A0_3 l0_3.length c0_3]) (t := 28) ?hr ?_; (case hd => rfl); (case hg => rfl); (case hr => first | (go_simp; done) | (go_simp; rfl)); intro gb380 hg w14 hbox hb; have n0_ := Aside0.mk (below_step (by repeat (first | (with_reducible first | exact HB.out | apply below_alloc | apply pw_below_drewN | apply below_drew1) | exact HB.out)) hb); have n1_ := Aside0.mk (hbox); have n2_ := Aside0.mk ((by rw [hg]; exact (below_size (by repeat (first | (with_reducible first | exact HB.out | apply below_alloc | apply pw_below_drewN | apply below_drew1) | exact HB.out))) : w.heap.size ≤ gb380)); have n3_ := Aside0.mk ((by rw [hg]; exact (below_size (by repeat (first | (with_reducible first | exact HB.out | apply below_alloc | apply pw_below_drewN | apply below_drew1) | exact HB.out))) : w.heap.size ≤ gb380)); clear HB; have HB := n0_; have BK380 := n1_; have GW380 := n2_; have GE380 := n3_; clear n0_ n1_ n2_ n3_; clear hb hbox hg) | ((with_reducible refine gate_dst (N := 3) rfl ?_); refine box_event ?hg (N := 3) ?hd (cs := #[.int .i64 a1_0, .slice A1_1 l1_1.length c1_1, .slice A1_2 l1_2.length c1_2, .slice A1_3 l1_3.length c1_3]) (t := 28) ?hr ?_; (case hd => rfl); (case hg => rfl); (case hr => first | (go_simp; done) | (go_simp; rfl)); intro gb381 hg w15 hbox hb; have n0_ := Aside0.mk (blk_below (g := gb380) (o := .cells #[.int .i64 a0_0, .slice A0_1 l0_1.length c0_1, .slice A0_2 l0_2.length c0_2, .slice A0_3 l0_3.length c0_3] 28 (0, 0)) (by (with_reducible repeat (first | refine blk_drewN ?_ _ | refine blk_drew ?_ | refine blk_alloc ?_ _)); exact BK380.out) hb); have n1_ := Aside0.mk (below_step (by repeat (first | (with_reducible first | exact HB.out | apply below_alloc | apply pw_below_drewN | apply below_drew1 | refine below_set ?_ GE380.out) | exact HB.out)) hb); have n2_ := Aside0.mk (hbox); have n3_ := Aside0.mk ((by rw [hg]; exact (below_size (by repeat (first | (with_reducible first | exact HB.out | apply below_alloc | apply pw_below_drewN | apply below_drew1 | refine below_set ?_ GE380.out) | exact HB.out))) : w.heap.size ≤ gb381)); have n4_ := Aside0.mk ((by rw [hg]; exact (below_size (by repeat (first | (with_reducible first | exact HB.out | apply below_alloc | apply pw_below_drewN | apply below_drew1 | refine below_set ?_ GE380.out) | exact HB.out))) : w.heap.size ≤ gb381)); have n5_ := Aside0.mk ((by rw [hg]; exact Nat.ne_of_lt (blk_lt (g := gb380) (o := .cells #[.int .i64 a0_0, .slice A0_1 l0_1.length c0_1, .slice A0_2 l0_2.length c0_2, .slice A0_3 l0_3.length c0_3] 28 (0, 0)) (by (with_reducible repeat (first | refine blk_drewN ?_ _ | refine blk_drew ?_ | refine blk_alloc ?_ _)); exact BK380.out)) : gb380 ≠ gb381)); have n6_ := Aside0.mk ((by rw [hg]; exact Nat.ne_of_gt (blk_lt (g := gb380) (o := .cells #[.int .i64 a0_0, .slice A0_1 l0_1.length c0_1, .slice A0_2 l0_2.length c0_2, .slice A0_3 l0_3.length c0_3] 28 (0, 0)) (by (with_reducible repeat (first | refine blk_drewN ?_ _ | refine blk_drew ?_ | refine blk_alloc ?_ _)); exact BK380.out)) : gb381 ≠ gb380)); clear BK380; clear HB; have BK380 := n0_; have HB := n1_; have BK381 := n2_; have GW381 := n3_; have GE381 := n4_; have NB380_381 := n5_; have NB381_380 := n6_; clear n0_ n1_ n2_ n3_ n4_ n5_ n6_; clear hb hbox hg; have hnb16 := NB380_381.out; have hnc16 := NB381_380.out; have hcz17_0 : w15.cell? ⟨gb380, 0, none⟩ = some (.int .i64 a0_0) := (blk_cell BK380.out 0).trans rfl; have hcz17_1 : w15.cell? ⟨gb380, 1, none⟩ = some (.slice A0_1 l0_1.length c0_1) := (blk_cell BK380.out 1).trans rfl; have hcz17_2 : w15.cell? ⟨gb380, 2, none⟩ = some (.slice A0_2 l0_2.length c0_2) := (blk_cell BK380.out 2).trans rfl; have hcz17_3 : w15.cell? ⟨gb380, 3, none⟩ = some (.slice A0_3 l0_3.length c0_3) := (blk_cell BK380.out 3).trans rfl; have hfz17_0 := blk_frozen BK380.out 0; have hfz17_1 := blk_frozen BK380.out 1; have hfz17_2 := blk_frozen BK380.out 2; have hfz17_3 := blk_frozen BK380.out 3; have hcz18_0 : w15.cell? ⟨gb381, 0, none⟩ = some (.int .i64 a1_0) := (blk_cell BK381.out 0).trans rfl; have hcz18_1 : w15.cell? ⟨gb381, 1, none⟩ = some (.slice A1_1 l1_1.length c1_1) := (blk_cell BK381.out 1).trans rfl; have hcz18_2 : w15.cell? ⟨gb381, 2, none⟩ = some (.slice A1_2 l1_2.length c1_2) := (blk_cell BK381.out 2).trans rfl; have hcz18_3 : w15.cell? ⟨gb381, 3, none⟩ = some (.slice A1_3 l1_3.length c1_3) := (blk_cell BK381.out 3).trans rfl; have hfz18_0 := blk_frozen BK381.out 0; have hfz18_1 := blk_frozen BK381.out 1; have hfz18_2 := blk_frozen BK381.out 2; have hfz18_3 := blk_frozen BK381.out 3) | (go_at_call 66; (with_reducible refine (api_Lit_66.calls k _ _ l0_1 _ _ l1_1 true _ ?side1 ?side2 ?side3 ?side4 A4.out).mono ?_); (case side1 => repeat (first | exact (Kd.C_below HR0_1.out HB.out) | (with_reducible refine Kd.C_alloc ?_ _) | (with_reducible refine Kd.C_drewN ?_ _) | (with_reducible refine Kd.C_drew ?_))); (case side2 => exact HC0_1.out); (case side3 => repeat (first | exact (Kd.C_below HR1_1.out HB.out) | (with_reducible refine Kd.C_alloc ?_ _) | (with_reducible refine Kd.C_drewN ?_ _) | (with_reducible refine Kd.C_drew ?_))); (case side4 => exact HC1_1.out); rintro e w' ⟨rfl, ⟨nd, rfl⟩⟩) | (go_at_call 67; (with_reducible refine (api_Cond_67.calls k _ _ l0_2 _ _ l1_2 false _ ?side1 ?side2 ?side3 ?side4 A6.out).mono ?_); (case side1 => repeat (first | exact (Kd.C_below HR0_2.out (by repeat (first | (with_reducible first | exact HB.out | apply below_alloc | apply pw_below_drewN | apply below_drew1 | refine below_set ?_ GE380.out | refine below_set ?_ GE381.out) | exact HB.out))) | (with_reducible refine Kd.C_alloc ?_ _) | (with_reducible refine Kd.C_drewN ?_ _) | (with_reducible refine Kd.C_drew ?_))); (case side2 => exact HC0_2.out); (case side3 => repeat (first | exact (Kd.C_below HR1_2.out (by repeat (first | (with_reducible first | exact HB.out | apply below_alloc | apply pw_below_drewN | apply below_drew1 | refine below_set ?_ GE380.out | refine below_set ?_ GE381.out) | exact HB.out))) | (with_reducible refine Kd.C_alloc ?_ _) | (with_reducible refine Kd.C_drewN ?_ _) | (with_reducible refine Kd.C_drew ?_))); (case side4 => exact HC1_2.out); rintro e w' ⟨rfl, ⟨nd, rfl⟩⟩))
        go_ret
        exact ⟨by first | rfl | (simp [errW_none, errW_some] <;> rfl) | (simp [*, errW_none, errW_some] <;> rfl), by repeat (first | (with_reducible first | exact HB.out | apply below_alloc | apply pw_below_drewN | apply below_drew1 | refine below_set ?_ GE380.out | refine below_set ?_ GE381.out) | exact HB.out)⟩
    · replace c5 := Bool.eq_false_iff.mpr c5
      subst c5
      have H1 : (some false) = some r := by rw [if_neg (show ¬ (false = true) by decide)] at H; exact H
      clear H
      have H := H1
      clear H1
      obtain rfl := Option.some.inj H
      go_enter Try.func44, Try.ntmps44
      go_wp2_with (first | ((with_reducible refine gate_dst (N := 2) rfl ?_); refine box_event ?hg (N := 2) ?hd (cs := #[.int .i64 a0_0, .slice A0_1 l0_1.length c0_1, .slice A0_2 l0_2.length c0_2, .slice A0_3 l0_3.length c0_3]) (t := 28) ?hr ?_; (case hd => rfl); (case hg => rfl); (case hr => first | (go_simp; done) | (go_simp; rfl)); intro gb380 hg w19 hbox hb; have n0_ := Aside0.mk (below_step (by repeat (first | (with_reducible first | exact HB.out | apply below_alloc | apply pw_below_drewN | apply below_drew1) | exact HB.out)) hb); have n1_ := Aside0.mk (hbox); have n2_ := Aside0.mk ((by rw [hg]; exact (below_size (by repeat (first | (with_reducible first | exact HB.out | apply below_alloc | apply pw_below_drewN | apply below_drew1) | exact HB.out))) : w.heap.size ≤ gb380)); have n3_ := Aside0.mk ((by rw [hg]; exact (below_size (by repeat (first | (with_reducible first | exact HB.out | apply below_alloc | apply pw_below_drewN | apply below_drew1) | exact HB.out))) : w.heap.size ≤ gb380)); clear HB; have HB := n0_; have BK380 := n1_; have GW380 := n2_; have GE380 := n3_; clear n0_ n1_ n2_ n3_; clear hb hbox hg) | ((with_reducible refine gate_dst (N := 3) rfl ?_); refine box_event ?hg (N := 3) ?hd (cs := #[.int .i64 a1_0, .slice A1_1 l1_1.length c1_1, .slice A1_2 l1_2.length c1_2, .slice A1_3 l1_3.length c1_3]) (t := 28) ?hr ?_; (case hd => rfl); (case hg => rfl); (case hr => first | (go_simp; done) | (go_simp; rfl)); intro gb381 hg w20 hbox hb; have n0_ := Aside0.mk (blk_below (g := gb380) (o := .cells #[.int .i64 a0_0, .slice A0_1 l0_1.length c0_1, .slice A0_2 l0_2.length c0_2, .slice A0_3 l0_3.length c0_3] 28 (0, 0)) (by (with_reducible repeat (first | refine blk_drewN ?_ _ | refine blk_drew ?_ | refine blk_alloc ?_ _)); exact BK380.out) hb); have n1_ := Aside0.mk (below_step (by repeat (first | (with_reducible first | exact HB.out | apply below_alloc | apply pw_below_drewN | apply below_drew1 | refine below_set ?_ GE380.out) | exact HB.out)) hb); have n2_ := Aside0.mk (hbox); have n3_ := Aside0.mk ((by rw [hg]; exact (below_size (by repeat (first | (with_reducible first | exact HB.out | apply below_alloc | apply pw_below_drewN | apply below_drew1 | refine below_set ?_ GE380.out) | exact HB.out))) : w.heap.size ≤ gb381)); have n4_ := Aside0.mk ((by rw [hg]; exact (below_size (by repeat (first | (with_reducible first | exact HB.out | apply below_alloc | apply pw_below_drewN | apply below_drew1 | refine below_set ?_ GE380.out) | exact HB.out))) : w.heap.size ≤ gb381)); have n5_ := Aside0.mk ((by rw [hg]; exact Nat.ne_of_lt (blk_lt (g := gb380) (o := .cells #[.int .i64 a0_0, .slice A0_1 l0_1.length c0_1, .slice A0_2 l0_2.length c0_2, .slice A0_3 l0_3.length c0_3] 28 (0, 0)) (by (with_reducible repeat (first | refine blk_drewN ?_ _ | refine blk_drew ?_ | refine blk_alloc ?_ _)); exact BK380.out)) : gb380 ≠ gb381)); have n6_ := Aside0.mk ((by rw [hg]; exact Nat.ne_of_gt (blk_lt (g := gb380) (o := .cells #[.int .i64 a0_0, .slice A0_1 l0_1.length c0_1, .slice A0_2 l0_2.length c0_2, .slice A0_3 l0_3.length c0_3] 28 (0, 0)) (by (with_reducible repeat (first | refine blk_drewN ?_ _ | refine blk_drew ?_ | refine blk_alloc ?_ _)); exact BK380.out)) : gb381 ≠ gb380)); clear BK380; clear HB; have BK380 := n0_; have HB := n1_; have BK381 := n2_; have GW381 := n3_; have GE381 := n4_; have NB380_381 := n5_; have NB381_380 := n6_; clear n0_ n1_ n2_ n3_ n4_ n5_ n6_; clear hb hbox hg; have hnb21 := NB380_381.out; have hnc21 := NB381_380.out; have hcz22_0 : w20.cell? ⟨gb380, 0, none⟩ = some (.int .i64 a0_0) := (blk_cell BK380.out 0).trans rfl; have hcz22_1 : w20.cell? ⟨gb380, 1, none⟩ = some (.slice A0_1 l0_1.length c0_1) := (blk_cell BK380.out 1).trans rfl; have hcz22_2 : w20.cell? ⟨gb380, 2, none⟩ = some (.slice A0_2 l0_2.length c0_2) := (blk_cell BK380.out 2).trans rfl; have hcz22_3 : w20.cell? ⟨gb380, 3, none⟩ = some (.slice A0_3 l0_3.length c0_3) := (blk_cell BK380.out 3).trans rfl; have hfz22_0 := blk_frozen BK380.out 0; have hfz22_1 := blk_frozen BK380.out 1; have hfz22_2 := blk_frozen BK380.out 2; have hfz22_3 := blk_frozen BK380.out 3; have hcz23_0 : w20.cell? ⟨gb381, 0, none⟩ = some (.int .i64 a1_0) := (blk_cell BK381.out 0).trans rfl; have hcz23_1 : w20.cell? ⟨gb381, 1, none⟩ = some (.slice A1_1 l1_1.length c1_1) := (blk_cell BK381.out 1).trans rfl; have hcz23_2 : w20.cell? ⟨gb381, 2, none⟩ = some (.slice A1_2 l1_2.length c1_2) := (blk_cell BK381.out 2).trans rfl; have hcz23_3 : w20.cell? ⟨gb381, 3, none⟩ = some (.slice A1_3 l1_3.length c1_3) := (blk_cell BK381.out 3).trans rfl; have hfz23_0 := blk_frozen BK381.out 0; have hfz23_1 := blk_frozen BK381.out 1; have hfz23_2 := blk_frozen BK381.out 2; have hfz23_3 := blk_frozen BK381.out 3) | (go_at_call 66; (with_reducible refine (api_Lit_66.calls k _ _ l0_1 _ _ l1_1 false _ ?side1 ?side2 ?side3 ?side4 A4.out).mono ?_); (case side1 => repeat (first | exact (Kd.C_below HR0_1.out HB.out) | (with_reducible refine Kd.C_alloc ?_ _) | (with_reducible refine Kd.C_drewN ?_ _) | (with_reducible refine Kd.C_drew ?_))); (case side2 => exact HC0_1.out); (case side3 => repeat (first | exact (Kd.C_below HR1_1.out HB.out) | (with_reducible refine Kd.C_alloc ?_ _) | (with_reducible refine Kd.C_drewN ?_ _) | (with_reducible refine Kd.C_drew ?_))); (case side4 => exact HC1_1.out); rintro e w' ⟨rfl, ⟨nd, rfl⟩⟩))
      go_ret
      exact ⟨by first | rfl | (simp [errW_none, errW_some] <;> rfl) | (simp [*, errW_none, errW_some] <;> rfl), by repeat (first | (with_reducible first | exact HB.out | apply below_alloc | apply pw_below_drewN | apply below_drew1 | refine below_set ?_ GE380.out | refine below_set ?_ GE381.out) | exact HB.out)⟩
  · rw [if_neg c3] at H
    have c3b0 : (a0_0 == a1_0) = false := beq_eq_false_iff_ne.mpr c3
    have c3b1 : (a0_0 != a1_0) = true := bne_iff_ne.mpr c3
    obtain rfl := Option.some.inj H
    go_enter Try.func44, Try.ntmps44
    go_wp2_with (first | ((with_reducible refine gate_dst (N := 2) rfl ?_); refine box_event ?hg (N := 2) ?hd (cs := #[.int .i64 a0_0, .slice A0_1 l0_1.length c0_1, .slice A0_2 l0_2.length c0_2, .slice A0_3 l0_3.length c0_3]) (t := 28) ?hr ?_; (case hd => rfl); (case hg => rfl); (case hr => first | (go_simp; done) | (go_simp; rfl)); intro gb380 hg w24 hbox hb; have n0_ := Aside0.mk (below_step (by repeat (first | (with_reducible first | exact HB.out | apply below_alloc | apply pw_below_drewN | apply below_drew1) | exact HB.out)) hb); have n1_ := Aside0.mk (hbox); have n2_ := Aside0.mk ((by rw [hg]; exact (below_size (by repeat (first | (with_reducible first | exact HB.out | apply below_alloc | apply pw_below_drewN | apply below_drew1) | exact HB.out))) : w.heap.size ≤ gb380)); have n3_ := Aside0.mk ((by rw [hg]; exact (below_size (by repeat (first | (with_reducible first | exact HB.out | apply below_alloc | apply pw_below_drewN | apply below_drew1) | exact HB.out))) : w.heap.size ≤ gb380)); clear HB; have HB := n0_; have BK380 := n1_; have GW380 := n2_; have GE380 := n3_; clear n0_ n1_ n2_ n3_; clear hb hbox hg) | ((with_reducible refine gate_dst (N := 3) rfl ?_); refine box_event ?hg (N := 3) ?hd (cs := #[.int .i64 a1_0, .slice A1_1 l1_1.length c1_1, .slice A1_2 l1_2.length c1_2, .slice A1_3 l1_3.length c1_3]) (t := 28) ?hr ?_; (case hd => rfl); (case hg => rfl); (case hr => first | (go_simp; done) | (go_simp; rfl)); intro gb381 hg w25 hbox hb; have n0_ := Aside0.mk (blk_below (g := gb380) (o := .cells #[.int .i64 a0_0, .slice A0_1 l0_1.length c0_1, .slice A0_2 l0_2.length c0_2, .slice A0_3 l0_3.length c0_3] 28 (0, 0)) (by (with_reducible repeat (first | refine blk_drewN ?_ _ | refine blk_drew ?_ | refine blk_alloc ?_ _)); exact BK380.out) hb); have n1_ := Aside0.mk (below_step (by repeat (first | (with_reducible first | exact HB.out | apply below_alloc | apply pw_below_drewN | apply below_drew1 | refine below_set ?_ GE380.out) | exact HB.out)) hb); have n2_ := Aside0.mk (hbox); have n3_ := Aside0.mk ((by rw [hg]; exact (below_size (by repeat (first | (with_reducible first | exact HB.out | apply below_alloc | apply pw_below_drewN | apply below_drew1 | refine below_set ?_ GE380.out) | exact HB.out))) : w.heap.size ≤ gb381)); have n4_ := Aside0.mk ((by rw [hg]; exact (below_size (by repeat (first | (with_reducible first | exact HB.out | apply below_alloc | apply pw_below_drewN | apply below_drew1 | refine below_set ?_ GE380.out) | exact HB.out))) : w.heap.size ≤ gb381)); have n5_ := Aside0.mk ((by rw [hg]; exact Nat.ne_of_lt (blk_lt (g := gb380) (o := .cells #[.int .i64 a0_0, .slice A0_1 l0_1.length c0_1, .slice A0_2 l0_2.length c0_2, .slice A0_3 l0_3.length c0_3] 28 (0, 0)) (by (with_reducible repeat (first | refine blk_drewN ?_ _ | refine blk_drew ?_ | refine blk_alloc ?_ _)); exact BK380.out)) : gb380 ≠ gb381)); have n6_ := Aside0.mk ((by rw [hg]; exact Nat.ne_of_gt (blk_lt (g := gb380) (o := .cells #[.int .i64 a0_0, .slice A0_1 l0_1.length c0_1, .slice A0_2 l0_2.length c0_2, .slice A0_3 l0_3.length c0_3] 28 (0, 0)) (by (with_reducible repeat (first | refine blk_drewN ?_ _ | refine blk_drew ?_ | refine blk_alloc ?_ _)); exact BK380.out)) : gb381 ≠ gb380)); clear BK380; clear HB; have BK380 := n0_; have HB := n1_; have BK381 := n2_; have GW381 := n3_; have GE381 := n4_; have NB380_381 := n5_; have NB381_380 := n6_; clear n0_ n1_ n2_ n3_ n4_ n5_ n6_; clear hb hbox hg; have hnb26 := NB380_381.out; have hnc26 := NB381_380.out; have hcz27_0 : w25.cell? ⟨gb380, 0, none⟩ = some (.int .i64 a0_0) := (blk_cell BK380.out 0).trans rfl; have hcz27_1 : w25.cell? ⟨gb380, 1, none⟩ = some (.slice A0_1 l0_1.length c0_1) := (blk_cell BK380.out 1).trans rfl; have hcz27_2 : w25.cell? ⟨gb380, 2, none⟩ = some (.slice A0_2 l0_2.length c0_2) := (blk_cell BK380.out 2).trans rfl; have hcz27_3 : w25.cell? ⟨gb380, 3, none⟩ = some (.slice A0_3 l0_3.length c0_3) := (blk_cell BK380.out 3).trans rfl; have hfz27_0 := blk_frozen BK380.out 0; have hfz27_1 := blk_frozen BK380.out 1; have hfz27_2 := blk_frozen BK380.out 2; have hfz27_3 := blk_frozen BK380.out 3; have hcz28_0 : w25.cell? ⟨gb381, 0, none⟩ = some (.int .i64 a1_0) := (blk_cell BK381.out 0).trans rfl; have hcz28_1 : w25.cell? ⟨gb381, 1, none⟩ = some (.slice A1_1 l1_1.length c1_1) := (blk_cell BK381.out 1).trans rfl; have hcz28_2 : w25.cell? ⟨gb381, 2, none⟩ = some (.slice A1_2 l1_2.length c1_2) := (blk_cell BK381.out 2).trans rfl; have hcz28_3 : w25.cell? ⟨gb381, 3, none⟩ = some (.slice A1_3 l1_3.length c1_3) := (blk_cell BK381.out 3).trans rfl; have hfz28_0 := blk_frozen BK381.out 0; have hfz28_1 := blk_frozen BK381.out 1; have hfz28_2 := blk_frozen BK381.out 2; have hfz28_3 := blk_frozen BK381.out 3))
    go_ret
    exact ⟨by first | rfl | (simp [errW_none, errW_some] <;> rfl) | (simp [*, errW_none, errW_some] <;> rfl), by repeat (first | (with_reducible first | exact HB.out | apply below_alloc | apply pw_below_drewN | apply below_drew1 | refine below_set ?_ GE380.out | refine below_set ?_ GE381.out) | exact HB.out)⟩
end Go.Proofs.Ytknenadpkgajjaa.PA
end
section
namespace Go.Proofs.Ytknenadpkgajjaa.PA
open Go.RowKit Go.Proofs.YtknenadpkgajjaaW.PrintWords Go.Proofs.YtknenadpkgajjaaW.PrintLast Go.Proofs.YtknenadpkgajjaaW.PrintMore
attribute [local go_sem] max2_int min2_int max_two min_two max_three min_three max_four min_four   -- for this text's walks alone
set_option linter.unusedVariables false
set_option linter.unusedSimpArgs false
/-! ### api_User: function 45 -/
open Go.Proofs.Ytknenadpkgajjaa.GFunc
set_option linter.unusedSimpArgs false
set_option linter.unusedVariables false
def api_User.f : Unit := ()
/-- a function value that holds two elements against one another, at every world behind w. -/
def AsksEqUser (f : FuncId) (p : S46 → S46 → Option Bool) (w : World) : Prop := HasBody Try.prog f ∧ ∀ (x y : S46) (A2 : Option Addr) (c2 : Nat) (B2 : Option Addr) (d2 : Nat) (w' : World), Below w.heap.size w w' → Kd.C k39 w' A2 x.f2.length x.f2 → x.f2.length ≤ c2 → Kd.C k39 w' B2 y.f2.length y.f2 → y.f2.length ≤ d2 → ∀ b, p x y = some b →
  Calls Try.prog f #[.agg #[.string x.f0, .int .i64 x.f1, .slice A2 x.f2.length c2, .int .i64 x.f3], .agg #[.string y.f0, .int .i64 y.f1, .slice B2 y.f2.length d2, .int .i64 y.f3]] w' fun e w'' => e = .returned (.bool b) ∧ Below w'.heap.size w' w''
theorem keepUser {w : World} {a : Addr} {v : Value} (h : w.cell? a = some v) (o : Obj) : (w.alloc o).cell? a = some v := (World.cell?_alloc_lt w o a (World.block_lt_of_cell? w a h)).trans h
set_option maxHeartbeats 4000000 in
set_option maxRecDepth 100000 in
theorem eqUser.calls (f : FuncId) (p : S46 → S46 → Option Bool) (xs ys : List S46) (A : Option Addr) (c : Nat) (B : Option Addr) (d : Nat) (r : Bool) (w : World) (hr0 : Kd.C k46 w A xs.length xs) (hr1 : Kd.C k46 w B ys.length ys) (hf : AsksEqUser f p w) (h : eqF p xs ys = some r) :
    Calls Try.prog 45 #[.slice A xs.length c, .slice B ys.length d, .func (.func f) #[] #[]] w fun e w' => e = .returned (.bool r) ∧ Below w.heap.size w w' := by
  have HR0 := Aside0.mk hr0
  have HR1 := Aside0.mk hr1
  have HF := Aside0.mk hf
  have hlen := Kd.C_max hr0
  clear hr0 hr1 hf
  unfold eqF at h
  by_cases cl : xs.length = ys.length
  case neg =>
    rw [if_neg cl] at h
    obtain rfl := Option.some.inj h
    have cl0 : ((xs.length : Int) != (ys.length : Int)) = true := bne_iff_ne.mpr (by omega)
    have cl1 : ((xs.length : Int) == (ys.length : Int)) = false := beq_eq_false_iff_ne.mpr (by omega)
    clear cl h
    go_enter Try.func45, Try.ntmps45
    go_wp2
    go_ret
    exact ⟨rfl, by repeat (first | exact Below.refl _ _ | apply below_alloc)⟩
  rw [if_pos cl] at h
  have cl0 : ((xs.length : Int) != (ys.length : Int)) = false := bne_eq_false_iff_eq.mpr (by omega)
  have cl1 : ((xs.length : Int) == (ys.length : Int)) = true := beq_iff_eq.mpr (by omega)
  have CL := Aside0.mk cl
  have H := Aside0.mk h
  clear h cl
  go_enter Try.func45, Try.ntmps45
  go_wp2
  go_loopg [17] xs.length (fun kq v17 w' => ∃ i : Nat, v17 = .int .i64 i ∧ Aside0 (i + kq = xs.length) ∧ Aside0 (eqL p (xs.drop i) (ys.drop i) = some r) ∧ Aside0 (Below w.heap.size w w'))
  case atStart => exact ⟨0, rfl, ⟨by omega⟩, H, ⟨by repeat (first | exact Below.refl _ _ | apply below_alloc)⟩⟩
  case round =>
    clear H
    obtain ⟨i, rfl, HK, HI, HB⟩ := hrel
    by_cases hi : i < xs.length
    · obtain ⟨gk1, rfl⟩ : ∃ m, gk = m + 1 := ⟨gk - 1, by have := HK.out; omega⟩
      have hi' : i < ys.length := by have := CL.out; omega
      have h1 := HI.out
      rw [List.drop_eq_getElem_cons hi, List.drop_eq_getElem_cons hi', eqL] at h1
      have hx : xs[i] = rd_T46 xs ↑i := by simp [rd_T46, List.getD_eq_getElem?_getD, List.getElem?_eq_getElem hi]
      have hy : ys[i] = rd_T46 ys ↑i := by simp [rd_T46, List.getD_eq_getElem?_getD, List.getElem?_eq_getElem hi']
      rw [hx, hy] at h1
      obtain ⟨b, hb, h2⟩ := Option.bind_eq_some_iff.mp h1
      have HQ := Aside0.mk hb
      have H2 := Aside0.mk h2
      clear h1 hx hy hb h2 HI
      obtain ⟨ad, A2, c2, ea, hx0, hx1, hx2, hx3, xl2, xc2⟩ := at_T46 (Kd.C_below HR0.out HB.out) (↑i) (by omega) (by omega)
      obtain ⟨bd, B2, d2, eb, hy0, hy1, hy2, hy3, yl2, yc2⟩ := at_T46 (Kd.C_below HR1.out HB.out) (↑i) (by omega) (by omega)
      subst ea eb
      simp only [Int.toNat_natCast] at hx0 hy0 hx1 hy1 hx2 hy2 hx3 hy3
      replace hy0 := fun o => keepUser hy0 o
      replace hy1 := fun o => keepUser hy1 o
      replace hy2 := fun o => keepUser hy2 o
      replace hy3 := fun o => keepUser hy3 o
      have HX2 := Aside0.mk (And.intro xc2 xl2)
      have HY2 := Aside0.mk (And.intro yc2 yl2)
      clear xl2 xc2 yl2 yc2
      have hi1 : ((i : Int) < (xs.length : Int)) = True := eq_true (by omega)
      have hi2 : (i < xs.length) = True := eq_true hi
      have hi3 : decide ((i : Int) < (xs.length : Int)) = true := decide_eq_true (by omega)
      have hi4 : ((i : Int) < (ys.length : Int)) = True := eq_true (by omega)
      have hi5 : (i < ys.length) = True := eq_true hi'
      go_wp2_with (fail)
      rw [run_enter HF.out.1, Oper.upon_enter]
      refine (HF.out.2 (rd_T46 xs ↑i) (rd_T46 ys ↑i) A2 c2 B2 d2 _ (below_alloc (below_alloc HB.out _) _) (Kd.C_alloc (Kd.C_alloc HX2.out.1 _) _) HX2.out.2 (Kd.C_alloc (Kd.C_alloc HY2.out.1 _) _) HY2.out.2 b HQ.out).mono ?_
      rintro e w2 ⟨rfl, hb2⟩
      have HB2 := Aside0.mk (below_step (below_alloc (below_alloc HB.out _) _ : Below w.heap.size w _) hb2)
      clear hb2 HB HX2 HY2 hx0 hy0 hx1 hy1 hx2 hy2 hx3 hy3 HQ
      cases b with
      | true =>
        have h3 := H2.out
        rw [if_pos rfl] at h3
        have H3 := Aside0.mk h3
        clear h3 H2
        go_wp2
        go_roundg gk1
        case measure => omega
        case rel => exact ⟨i + 1, (by simp), ⟨by have := HK.out; omega⟩, H3, HB2⟩
      | false =>
        have h3 := H2.out
        rw [if_neg (by decide)] at h3
        obtain rfl := Option.some.inj h3
        go_wp2
        go_ret
        exact ⟨rfl, HB2.out⟩
    · have h0 : xs.drop i = [] := List.drop_eq_nil_of_le (by omega)
      have hR := HI.out
      rw [h0, eqL] at hR
      · obtain rfl : true = r := Option.some.inj hR
        have hi3 : decide ((i : Int) < (xs.length : Int)) = false := decide_eq_false (by omega)
        clear h0 hR HI
        go_wp2
        go_ret
        exact ⟨rfl, HB.out⟩
      · intros; simp at *
end Go.Proofs.Ytknenadpkgajjaa.PA
end
section
namespace Go.Proofs.Ytknenadpkgajjaa.PA
open Go.RowKit Go.Proofs.YtknenadpkgajjaaW.PrintWords Go.Proofs.YtknenadpkgajjaaW.PrintLast Go.Proofs.YtknenadpkgajjaaW.PrintMore
attribute [local go_sem] max2_int min2_int max_two min_two max_three min_three max_four min_four   -- for this text's walks alone
set_option linter.unusedVariables false
set_option linter.unusedSimpArgs false
/-! ### rules_sameUser: function 46 -/
def rules_sameUser.f (k : Nat) (a0_0 : ByteArray) (a0_1 : Int) (l0_2 : List (S39)) (a0_3 : Int) (a1_0 : ByteArray) (a1_1 : Int) (l1_2 : List (S39)) (a1_3 : Int) : Option (Bool) := if a0_0.toList = a1_0.toList then (if a0_1 = a1_1 then (if a0_3 = a1_3 then ((api_Lit_66.f k l0_2 l1_2).bind fun t387 => (some t387)) else (some false)) else (some false)) else (some false)
theorem rules_sameUser.mono : ∀ a0 a1 a2 a3 a4 a5 a6 a7 k, LeO (rules_sameUser.f k a0 a1 a2 a3 a4 a5 a6 a7) (rules_sameUser.f (k + 1) a0 a1 a2 a3 a4 a5 a6 a7) := by
  intro a0 a1 a2 a3 a4 a5 a6 a7 k
  unfold rules_sameUser.f
  repeat' first
      | (with_reducible exact api_Lit_66.mono _ _ _)
      | (with_reducible exact LeO.refl _)
      | (with_reducible exact LeO.none _)
      | (with_reducible refine LeO.ite ?_ ?_)
      | (with_reducible refine LeO.bind ?_ (fun _ => ?_))
      | exact api_Lit_66.mono _ _ _
      | exact LeO.none _
      | refine LeO.ite ?_ ?_
      | refine LeO.bind ?_ (fun _ => ?_)
set_option maxHeartbeats 8000000 in
set_option maxRecDepth 100000 in
theorem rules_sameUser.calls (k : Nat) (a0_0 : ByteArray) (a0_1 : Int) (A0_2 : Option Addr) (c0_2 : Nat) (l0_2 : List (S39)) (a0_3 : Int) (a1_0 : ByteArray) (a1_1 : Int) (A1_2 : Option Addr) (c1_2 : Nat) (l1_2 : List (S39)) (a1_3 : Int) (r : Bool) (w : World) (hr0_2 : Kd.C k39 w A0_2 l0_2.length l0_2) (hc0_2 : l0_2.length ≤ c0_2) (hr1_2 : Kd.C k39 w A1_2 l1_2.length l1_2) (hc1_2 : l1_2.length ≤ c1_2) (h : rules_sameUser.f k a0_0 a0_1 l0_2 a0_3 a1_0 a1_1 l1_2 a1_3 = some r) :
    Calls Try.prog 46 #[.agg #[.string a0_0, .int .i64 a0_1, .slice A0_2 l0_2.length c0_2, .int .i64 a0_3], .agg #[.string a1_0, .int .i64 a1_1, .slice A1_2 l1_2.length c1_2, .int .i64 a1_3]] w fun e w' => e = .returned (.bool r) ∧ Below w.heap.size w w' := by
  have hu46 := Try.underlying46
  have HR0_2 := Aside0.mk hr0_2
  have HC0_2 := Aside0.mk hc0_2
  clear hr0_2 hc0_2
  have HR1_2 := Aside0.mk hr1_2
  have HC1_2 := Aside0.mk hc1_2
  clear hr1_2 hc1_2
  have HB := Aside0.mk (Below.refl w.heap.size w)
  have H : (if a0_0.toList = a1_0.toList then (if a0_1 = a1_1 then (if a0_3 = a1_3 then ((api_Lit_66.f k l0_2 l1_2).bind fun t387 => (some t387)) else (some false)) else (some false)) else (some false)) = some r := h
  clear h
  by_cases c3 : a0_0.toList = a1_0.toList
  · rw [if_pos c3] at H
    have c3b0 : (a0_0.toList == a1_0.toList) = true := beq_iff_eq.mpr c3
    have c3b1 : (a0_0.toList != a1_0.toList) = false := bne_eq_false_iff_eq.mpr c3
    clear c3
    by_cases c4 : a0_1 = a1_1
    · rw [if_pos c4] at H
      have c4b0 : (a0_1 == a1_1) = true := beq_iff_eq.mpr c4
      have c4b1 : (a0_1 != a1_1) = false := bne_eq_false_iff_eq.mpr c4
      clear c4
      by_cases c5 : a0_3 = a1_3
      · rw [if_pos c5] at H
        have c5b0 : (a0_3 == a1_3) = true := beq_iff_eq.mpr c5
        have c5b1 : (a0_3 != a1_3) = false := bne_eq_false_iff_eq.mpr c5
        clear c5
        replace H := Option.bind_eq_some_iff.mp H
        obtain ⟨t387, A60, H⟩ := H
        replace H : (some t387) = some r := H
        have A6 := Aside0.mk A60
        clear A60
        obtain rfl := Option.some.inj H
        go_enter Try.func46, Try.ntmps46
        go_wp2_with (first | ((with_reducible refine gate_dst (N := 2) rfl ?_); refine box_event ?hg (N := 2) ?hd (cs := #[.string a0_0, .int .i64 a0_1, .slice A0_2 l0_2.length c0_2, .int .i64 a0_3]) (t := 46) ?hr ?_; (case hd => rfl); (case hg => rfl); (case hr => first | (go_simp; done) | (go_simp; rfl)); intro gb385 hg w7 hbox hb; have n0_ := Aside0.mk (below_step (by repeat (first | (with_reducible first | exact HB.out | apply below_alloc | apply pw_below_drewN | apply below_drew1) | exact HB.out)) hb); have n1_ := Aside0.mk (hbox); have n2_ := Aside0.mk ((by rw [hg]; exact (below_size (by repeat (first | (with_reducible first | exact HB.out | apply below_alloc | apply pw_below_drewN | apply below_drew1) | exact HB.out))) : w.heap.size ≤ gb385)); have n3_ := Aside0.mk ((by rw [hg]; exact (below_size (by repeat (first | (with_reducible first | exact HB.out | apply below_alloc | apply pw_below_drewN | apply below_drew1) | exact HB.out))) : w.heap.size ≤ gb385)); clear HB; have HB := n0_; have BK385 := n1_; have GW385 := n2_; have GE385 := n3_; clear n0_ n1_ n2_ n3_; clear hb hbox hg) | ((with_reducible refine gate_dst (N := 3) rfl ?_); refine box_event ?hg (N := 3) ?hd (cs := #[.string a1_0, .int .i64 a1_1, .slice A1_2 l1_2.length c1_2, .int .i64 a1_3]) (t := 46) ?hr ?_; (case hd => rfl); (case hg => rfl); (case hr => first | (go_simp; done) | (go_simp; rfl)); intro gb386 hg w8 hbox hb; have n0_ := Aside0.mk (blk_below (g := gb385) (o := .cells #[.string a0_0, .int .i64 a0_1, .slice A0_2 l0_2.length c0_2, .int .i64 a0_3] 46 (0, 0)) (by (with_reducible repeat (first | refine blk_drewN ?_ _ | refine blk_drew ?_ | refine blk_alloc ?_ _)); exact BK385.out) hb); have n1_ := Aside0.mk (below_step (by repeat (first | (with_reducible first | exact HB.out | apply below_alloc | apply pw_below_drewN | apply below_drew1 | refine below_set ?_ GE385.out) | exact HB.out)) hb); have n2_ := Aside0.mk (hbox); have n3_ := Aside0.mk ((by rw [hg]; exact (below_size (by repeat (first | (with_reducible first | exact HB.out | apply below_alloc | apply pw_below_drewN | apply below_drew1 | refine below_set ?_ GE385.out) | exact HB.out))) : w.heap.size ≤ gb386)); have n4_ := Aside0.mk ((by rw [hg]; exact (below_size (by repeat (first | (with_reducible first | exact HB.out | apply below_alloc | apply pw_below_drewN | apply below_drew1 | refine below_set ?_ GE385.out) | exact HB.out))) : w.heap.size ≤ gb386)); have n5_ := Aside0.mk ((by rw [hg]; exact Nat.ne_of_lt (blk_lt (g := gb385) (o := .cells #[.string a0_0, .int .i64 a0_1, .slice A0_2 l0_2.length c0_2, .int .i64 a0_3] 46 (0, 0)) (by (with_reducible repeat (first | refine blk_drewN ?_ _ | refine blk_drew ?_ | refine blk_alloc ?_ _)); exact BK385.out)) : gb385 ≠ gb386)); have n6_ := Aside0.mk ((by rw [hg]; exact Nat.ne_of_gt (blk_lt (g := gb385) (o := .cells #[.string a0_0, .int .i64 a0_1, .slice A0_2 l0_2.length c0_2, .int .i64 a0_3] 46 (0, 0)) (by (with_reducible repeat (first | refine blk_drewN ?_ _ | refine blk_drew ?_ | refine blk_alloc ?_ _)); exact BK385.out)) : gb386 ≠ gb385)); clear BK385; clear HB; have BK385 := n0_; have HB := n1_; have BK386 := n2_; have GW386 := n3_; have GE386 := n4_; have NB385_386 := n5_; have NB386_385 := n6_; clear n0_ n1_ n2_ n3_ n4_ n5_ n6_; clear hb hbox hg; have hnb9 := NB385_386.out; have hnc9 := NB386_385.out; have hcz10_0 : w8.cell? ⟨gb385, 0, none⟩ = some (.string a0_0) := (blk_cell BK385.out 0).trans rfl; have hcz10_1 : w8.cell? ⟨gb385, 1, none⟩ = some (.int .i64 a0_1) := (blk_cell BK385.out 1).trans rfl; have hcz10_2 : w8.cell? ⟨gb385, 2, none⟩ = some (.slice A0_2 l0_2.length c0_2) := (blk_cell BK385.out 2).trans rfl; have hcz10_3 : w8.cell? ⟨gb385, 3, none⟩ = some (.int .i64 a0_3) := (blk_cell BK385.out 3).trans rfl; have hfz10_0 := blk_frozen BK385.out 0; have hfz10_1 := blk_frozen BK385.out 1; have hfz10_2 := blk_frozen BK385.out 2; have hfz10_3 := blk_frozen BK385.out 3; have hcz11_0 : w8.cell? ⟨gb386, 0, none⟩ = some (.string a1_0) := (blk_cell BK386.out 0).trans rfl; have hcz11_1 : w8.cell? ⟨gb386, 1, none⟩ = some (.int .i64 a1_1) := (blk_cell BK386.out 1).trans rfl; have hcz11_2 : w8.cell? ⟨gb386, 2, none⟩ = some (.slice A1_2 l1_2.length c1_2) := (blk_cell BK386.out 2).trans rfl; have hcz11_3 : w8.cell? ⟨gb386, 3, none⟩ = some (.int .i64 a1_3) := (blk_cell BK386.out 3).trans rfl; have hfz11_0 := blk_frozen BK386.out 0; have hfz11_1 := blk_frozen BK386.out 1; have hfz11_2 := blk_frozen BK386.out 2; have hfz11_3 := blk_frozen BK386.out 3) | (go_at_call 66; (with_reducible refine (api_Lit_66.calls k _ _ l0_2 _ _ l1_2 t387 _ ?side1 ?side2 ?side3 ?side4 A6.out).mono ?_); (case side1 => repeat (first | exact (Kd.C_below HR0_2.out HB.out) | (with_reducible refine Kd.C_alloc ?_ _) | (with_reducible refine Kd.C_drewN ?_ _) | (with_reducible refine Kd.C_drew ?_))); (case side2 => exact HC0_2.out); (case side3 => repeat (first | exact (Kd.C_below HR1_2.out HB.out) | (with_reducible refine Kd.C_alloc ?_ _) | (with_reducible refine Kd.C_drewN ?_ _) | (with_reducible refine Kd.C_drew ?_))); (case side4 => exact HC1_2.out); rintro e w' ⟨rfl, ⟨nd, rfl⟩⟩))
        go_ret
        exact ⟨by first | rfl | (simp [errW_none, errW_some] <;> rfl) | (simp [*, errW_none, errW_some] <;> rfl), by repeat (first | (with_reducible first | exact HB.out | apply below_alloc | apply pw_below_drewN | apply below_drew1 | refine below_set ?_ GE385.out | refine below_set ?_ GE386.out) | exact HB.out)⟩
      · rw [if_neg c5] at H
        have c5b0 : (a0_3 == a1_3) = false := beq_eq_false_iff_ne.mpr c5
        have c5b1 : (a0_3 != a1_3) = true := bne_iff_ne.mpr c5
        obtain rfl := Option.some.inj H
        go_enter Try.func46, Try.ntmps46
        go_wp2_with (first | ((with_reducible refine gate_dst (N := 2) rfl ?_); refine box_event ?hg (N := 2) ?hd (cs := #[.string a0_0, .int .i64 a0_1, .slice A0_2 l0_2.length c0_2, .int .i64 a0_3]) (t := 46) ?hr ?_; (case hd => rfl); (case hg => rfl); (case hr => first | (go_simp; done) | (go_simp; rfl)); intro gb385 hg w12 hbox hb; have n0_ := Aside0.mk (below_step (by repeat (first | (with_reducible first | exact HB.out | apply below_alloc | apply pw_below_drewN | apply below_drew1) | exact HB.out)) hb); have n1_ := Aside0.mk (hbox); have n2_ := Aside0.mk ((by rw [hg]; exact (below_size (by repeat (first | (with_reducible first | exact HB.out | apply below_alloc | apply pw_below_drewN | apply below_drew1) | exact HB.out))) : w.heap.size ≤ gb385)); have n3_ := Aside0.mk ((by rw [hg]; exact (below_size (by repeat (first | (with_reducible first | exact HB.out | apply below_alloc | apply pw_below_drewN | apply below_drew1) | exact HB.out))) : w.heap.size ≤ gb385)); clear HB; have HB := n0_; have BK385 := n1_; have GW385 := n2_; have GE385 := n3_; clear n0_ n1_ n2_ n3_; clear hb hbox hg) | ((with_reducible refine gate_dst (N := 3) rfl ?_); refine box_event ?hg (N := 3) ?hd (cs := #[.string a1_0, .int .i64 a1_1, .slice A1_2 l1_2.length c1_2, .int .i64 a1_3]) (t := 46) ?hr ?_; (case hd => rfl); (case hg => rfl); (case hr => first | (go_simp; done) | (go_simp; rfl)); intro gb386 hg w13 hbox hb; have n0_ := Aside0.mk (blk_below (g := gb385) (o := .cells #[.string a0_0, .int .i64 a0_1, .slice A0_2 l0_2.length c0_2, .int .i64 a0_3] 46 (0, 0)) (by (with_reducible repeat (first | refine blk_drewN ?_ _ | refine blk_drew ?_ | refine blk_alloc ?_ _)); exact BK385.out) hb); have n1_ := Aside0.mk (below_step (by repeat (first | (with_reducible first | exact HB.out | apply below_alloc | apply pw_below_drewN | apply below_drew1 | refine below_set ?_ GE385.out) | exact HB.out)) hb); have n2_ := Aside0.mk (hbox); have n3_ := Aside0.mk ((by rw [hg]; exact (below_size (by repeat (first | (with_reducible first | exact HB.out | apply below_alloc | apply pw_below_drewN | apply below_drew1 | refine below_set ?_ GE385.out) | exact HB.out))) : w.heap.size ≤ gb386)); have n4_ := Aside0.mk ((by rw [hg]; exact (below_size (by repeat (first | (with_reducible first | exact HB.out | apply below_alloc | apply pw_below_drewN | apply below_drew1 | refine below_set ?_ GE385.out) | exact HB.out))) : w.heap.size ≤ gb386)); have n5_ := Aside0.mk ((by rw [hg]; exact Nat.ne_of_lt (blk_lt (g := gb385) (o := .cells #[.string a0_0, .int .i64 a0_1, .slice A0_2 l0_2.length c0_2, .int .i64 a0_3] 46 (0, 0)) (by (with_reducible repeat (first | refine blk_drewN ?_ _ | refine blk_drew ?_ | refine blk_alloc ?_ _)); exact BK385.out)) : gb385 ≠ gb386)); have n6_ := Aside0.mk ((by rw [hg]; exact Nat.ne_of_gt (blk_lt (g := gb385) (o := .cells #[.string a0_0, .int .i64 a0_1, .slice A0_2 l0_2.length c0_2, .int .i64 a0_3] 46 (0, 0)) (by (with_reducible repeat (first | refine blk_drewN ?_ _ | refine blk_drew ?_ | refine blk_alloc ?_ _)); exact BK385.out)) : gb386 ≠ gb385)); clear BK385; clear HB; have BK385 := n0_; have HB := n1_; have BK386 := n2_; have GW386 := n3_; have GE386 := n4_; have NB385_386 := n5_; have NB386_385 := n6_; clear n0_ n1_ n2_ n3_ n4_ n5_ n6_; clear hb hbox hg; have hnb14 := NB385_386.out; have hnc14 := NB386_385.out; have hcz15_0 : w13.cell? ⟨gb385, 0, none⟩ = some (.string a0_0) := (blk_cell BK385.out 0).trans rfl; have hcz15_1 : w13.cell? ⟨gb385, 1, none⟩ = some (.int .i64 a0_1) := (blk_cell BK385.out 1).trans rfl; have hcz15_2 : w13.cell? ⟨gb385, 2, none⟩ = some (.slice A0_2 l0_2.length c0_2) := (blk_cell BK385.out 2).trans rfl; have hcz15_3 : w13.cell? ⟨gb385, 3, none⟩ = some (.int .i64 a0_3) := (blk_cell BK385.out 3).trans rfl; have hfz15_0 := blk_frozen BK385.out 0; have hfz15_1 := blk_frozen BK385.out 1; have hfz15_2 := blk_frozen BK385.out 2; have hfz15_3 := blk_frozen BK385.out 3; have hcz16_0 : w13.cell? ⟨gb386, 0, none⟩ = some (.string a1_0) := (blk_cell BK386.out 0).trans rfl; have hcz16_1 : w13.cell? ⟨gb386, 1, none⟩ = some (.int .i64 a1_1) := (blk_cell BK386.out 1).trans rfl; have hcz16_2 : w13.cell? ⟨gb386, 2, none⟩ = some (.slice A1_2 l1_2.length c1_2) := (blk_cell BK386.out 2).trans rfl; have hcz16_3 : w13.cell? ⟨gb386, 3, none⟩ = some (.int .i64 a1_3) := (blk_cell BK386.out 3).trans rfl; have hfz16_0 := blk_frozen BK386.out 0; have hfz16_1 := blk_frozen BK386.out 1; have hfz16_2 := blk_frozen BK386.out 2; have hfz16_3 := blk_frozen BK386.out 3))
        go_ret
        exact ⟨by first | rfl | (simp [errW_none, errW_some] <;> rfl) | (simp [*, errW_none, errW_some] <;> rfl), by repeat (first | (with_reducible first | exact HB.out | apply below_alloc | apply pw_below_drewN | apply below_drew1 | refine below_set ?_ GE385.out | refine below_set ?_ GE386.out) | exact HB.out)⟩
    · rw [if_neg c4] at H
      have c4b0 : (a0_1 == a1_1) = false := beq_eq_false_iff_ne.mpr c4
      have c4b1 : (a0_1 != a1_1) = true := bne_iff_ne.mpr c4
      obtain rfl := Option.some.inj H
      go_enter Try.func46, Try.ntmps46
      go_wp2_with (first | ((with_reducible refine gate_dst (N := 2) rfl ?_); refine box_event ?hg (N := 2) ?hd (cs := #[.string a0_0, .int .i64 a0_1, .slice A0_2 l0_2.length c0_2, .int .i64 a0_3]) (t := 46) ?hr ?_; (case hd => rfl); (case hg => rfl); (case hr => first | (go_simp; done) | (go_simp; rfl)); intro gb385 hg w17 hbox hb; have n0_ := Aside0.mk (below_step (by repeat (first | (with_reducible first | exact HB.out | apply below_alloc | apply pw_below_drewN | apply below_drew1) | exact HB.out)) hb); have n1_ := Aside0.mk (hbox); have n2_ := Aside0.mk ((by rw [hg]; exact (below_size (by repeat (first | (with_reducible first | exact HB.out | apply below_alloc | apply pw_below_drewN | apply below_drew1) | exact HB.out))) : w.heap.size ≤ gb385)); have n3_ := Aside0.mk ((by rw [hg]; exact (below_size (by repeat (first | (with_reducible first | exact HB.out | apply below_alloc | apply pw_below_drewN | apply below_drew1) | exact HB.out))) : w.heap.size ≤ gb385)); clear HB; have HB := n0_; have BK385 := n1_; have GW385 := n2_; have GE385 := n3_; clear n0_ n1_ n2_ n3_; clear hb hbox hg) | ((with_reducible refine gate_dst (N := 3) rfl ?_); refine box_event ?hg (N := 3) ?hd (cs := #[.string a1_0, .int .i64 a1_1, .slice A1_2 l1_2.length c1_2, .int .i64 a1_3]) (t := 46) ?hr ?_; (case hd => rfl); (case hg => rfl); (case hr => first | (go_simp; done) | (go_simp; rfl)); intro gb386 hg w18 hbox hb; have n0_ := Aside0.mk (blk_below (g := gb385) (o := .cells #[.string a0_0, .int .i64 a0_1, .slice A0_2 l0_2.length c0_2, .int .i64 a0_3] 46 (0, 0)) (by (with_reducible repeat (first | refine blk_drewN ?_ _ | refine blk_drew ?_ | refine blk_alloc ?_ _)); exact BK385.out) hb); have n1_ := Aside0.mk (below_step (by repeat (first | (with_reducible first | exact HB.out | apply below_alloc | apply pw_below_drewN | apply below_drew1 | refine below_set ?_ GE385.out) | exact HB.out)) hb); have n2_ := Aside0.mk (hbox); have n3_ := Aside0.mk ((by rw [hg]; exact (below_size (by repeat (first | (with_reducible first | exact HB.out | apply below_alloc | apply pw_below_drewN | apply below_drew1 | refine below_set ?_ GE385.out) | exact HB.out))) : w.heap.size ≤ gb386)); have n4_ := Aside0.mk ((by rw [hg]; exact (below_size (by repeat (first | (with_reducible first | exact HB.out | apply below_alloc | apply pw_below_drewN | apply below_drew1 | refine below_set ?_ GE385.out) | exact HB.out))) : w.heap.size ≤ gb386)); have n5_ := Aside0.mk ((by rw [hg]; exact Nat.ne_of_lt (blk_lt (g := gb385) (o := .cells #[.string a0_0, .int .i64 a0_1, .slice A0_2 l0_2.length c0_2, .int .i64 a0_3] 46 (0, 0)) (by (with_reducible repeat (first | refine blk_drewN ?_ _ | refine blk_drew ?_ | refine blk_alloc ?_ _)); exact BK385.out)) : gb385 ≠ gb386)); have n6_ := Aside0.mk ((by rw [hg]; exact Nat.ne_of_gt (blk_lt (g := gb385) (o := .cells #[.string a0_0, .int .i64 a0_1, .slice A0_2 l0_2.length c0_2, .int .i64 a0_3] 46 (0, 0)) (by (with_reducible repeat (first | refine blk_drewN ?_ _ | refine blk_drew ?_ | refine blk_alloc ?_ _)); exact BK385.out)) : gb386 ≠ gb385)); clear BK385; clear HB; have BK385 := n0_; have HB := n1_; have BK386 := n2_; have GW386 := n3_; have GE386 := n4_; have NB385_386 := n5_; have NB386_385 := n6_; clear n0_ n1_ n2_ n3_ n4_ n5_ n6_; clear hb hbox hg; have hnb19 := NB385_386.out; have hnc19 := NB386_385.out; have hcz20_0 : w18.cell? ⟨gb385, 0, none⟩ = some (.string a0_0) := (blk_cell BK385.out 0).trans rfl; have hcz20_1 : w18.cell? ⟨gb385, 1, none⟩ = some (.int .i64 a0_1) := (blk_cell BK385.out 1).trans rfl; have hcz20_2 : w18.cell? ⟨gb385, 2, none⟩ = some (.slice A0_2 l0_2.length c0_2) := (blk_cell BK385.out 2).trans rfl; have hcz20_3 : w18.cell? ⟨gb385, 3, none⟩ = some (.int .i64 a0_3) := (blk_cell BK385.out 3).trans rfl; have hfz20_0 := blk_frozen BK385.out 0; have hfz20_1 := blk_frozen BK385.out 1; have hfz20_2 := blk_frozen BK385.out 2; have hfz20_3 := blk_frozen BK385.out 3; have hcz21_0 : w18.cell? ⟨gb386, 0, none⟩ = some (.string a1_0) := (blk_cell BK386.out 0).trans rfl; have hcz21_1 : w18.cell? ⟨gb386, 1, none⟩ = some (.int .i64 a1_1) := (blk_cell BK386.out 1).trans rfl; have hcz21_2 : w18.cell? ⟨gb386, 2, none⟩ = some (.slice A1_2 l1_2.length c1_2) := (blk_cell BK386.out 2).trans rfl; have hcz21_3 : w18.cell? ⟨gb386, 3, none⟩ = some (.int .i64 a1_3) := (blk_cell BK386.out 3).trans rfl; have hfz21_0 := blk_frozen BK386.out 0; have hfz21_1 := blk_frozen BK386.out 1; have hfz21_2 := blk_frozen BK386.out 2; have hfz21_3 := blk_frozen BK386.out 3))
      go_ret
      exact ⟨by first | rfl | (simp [errW_none, errW_some] <;> rfl) | (simp [*, errW_none, errW_some] <;> rfl), by repeat (first | (with_reducible first | exact HB.out | apply below_alloc | apply pw_below_drewN | apply below_drew1 | refine below_set ?_ GE385.out | refine below_set ?_ GE386.out) | exact HB.out)⟩
  · rw [if_neg c3] at H
    have c3b0 : (a0_0.toList == a1_0.toList) = false := beq_eq_false_iff_ne.mpr c3
    have c3b1 : (a0_0.toList != a1_0.toList) = true := bne_iff_ne.mpr c3
    obtain rfl := Option.some.inj H
    go_enter Try.func46, Try.ntmps46
    go_wp2_with (first | ((with_reducible refine gate_dst (N := 2) rfl ?_); refine box_event ?hg (N := 2) ?hd (cs := #[.string a0_0, .int .i64 a0_1, .slice A0_2 l0_2.length c0_2, .int .i64 a0_3]) (t := 46) ?hr ?_; (case hd => rfl); (case hg => rfl); (case hr => first | (go_simp; done) | (go_simp; rfl)); intro gb385 hg w22 hbox hb; have n0_ := Aside0.mk (below_step (by repeat (first | (with_reducible first | exact HB.out | apply below_alloc | apply pw_below_drewN | apply below_drew1) | exact HB.out)) hb); have n1_ := Aside0.mk (hbox); have n2_ := Aside0.mk ((by rw [hg]; exact (below_size (by repeat (first | (with_reducible first | exact HB.out | apply below_alloc | apply pw_below_drewN | apply below_drew1) | exact HB.out))) : w.heap.size ≤ gb385)); have n3_ := Aside0.mk ((by rw [hg]; exact (below_size (by repeat (first | (with_reducible first | exact HB.out | apply below_alloc | apply pw_below_drewN | apply below_drew1) | exact HB.out))) : w.heap.size ≤ gb385)); clear HB; have HB := n0_; have BK385 := n1_; have GW385 := n2_; have GE385 := n3_; clear n0_ n1_ n2_ n3_; clear hb hbox hg) | ((with_reducible refine gate_dst (N := 3) rfl ?_); refine box_event ?hg (N := 3) ?hd (cs := #[.string a1_0, .int .i64 a1_1, .slice A1_2 l1_2.length c1_2, .int .i64 a1_3]) (t := 46) ?hr ?_; (case hd => rfl); (case hg => rfl); (case hr => first | (go_simp; done) | (go_simp; rfl)); intro gb386 hg w23 hbox hb; have n0_ := Aside0.mk (blk_below (g := gb385) (o := .cells #[.string a0_0, .int .i64 a0_1, .slice A0_2 l0_2.length c0_2, .int .i64 a0_3] 46 (0, 0)) (by (with_reducible repeat (first | refine blk_drewN ?_ _ | refine blk_drew ?_ | refine blk_alloc ?_ _)); exact BK385.out) hb); have n1_ := Aside0.mk (below_step (by repeat (first | (with_reducible first | exact HB.out | apply below_alloc | apply pw_below_drewN | apply below_drew1 | refine below_set ?_ GE385.out) | exact HB.out)) hb); have n2_ := Aside0.mk (hbox); have n3_ := Aside0.mk ((by rw [hg]; exact (below_size (by repeat (first | (with_reducible first | exact HB.out | apply below_alloc | apply pw_below_drewN | apply below_drew1 | refine below_set ?_ GE385.out) | exact HB.out))) : w.heap.size ≤ gb386)); have n4_ := Aside0.mk ((by rw [hg]; exact (below_size (by repeat (first | (with_reducible first | exact HB.out | apply below_alloc | apply pw_below_drewN | apply below_drew1 | refine below_set ?_ GE385.out) | exact HB.out))) : w.heap.size ≤ gb386)); have n5_ := Aside0.mk ((by rw [hg]; exact Nat.ne_of_lt (blk_lt (g := gb385) (o := .cells #[.string a0_0, .int .i64 a0_1, .slice A0_2 l0_2.length c0_2, .int .i64 a0_3] 46 (0, 0)) (by (with_reducible repeat (first | refine blk_drewN ?_ _ | refine blk_drew ?_ | refine blk_alloc ?_ _)); exact BK385.out)) : gb385 ≠ gb386)); have n6_ := Aside0.mk ((by rw [hg]; exact Nat.ne_of_gt (blk_lt (g := gb385) (o := .cells #[.string a0_0, .int .i64 a0_1, .slice A0_2 l0_2.length c0_2, .int .i64 a0_3] 46 (0, 0)) (by (with_reducible repeat (first | refine blk_drewN ?_ _ | refine blk_drew ?_ | refine blk_alloc ?_ _)); exact BK385.out)) : gb386 ≠ gb385)); clear BK385; clear HB; have BK385 := n0_; have HB := n1_; have BK386 := n2_; have GW386 := n3_; have GE386 := n4_; have NB385_386 := n5_; have NB386_385 := n6_; clear n0_ n1_ n2_ n3_ n4_ n5_ n6_; clear hb hbox hg; have hnb24 := NB385_386.out; have hnc24 := NB386_385.out; have hcz25_0 : w23.cell? ⟨gb385, 0, none⟩ = some (.string a0_0) := (blk_cell BK385.out 0).trans rfl; have hcz25_1 : w23.cell? ⟨gb385, 1, none⟩ = some (.int .i64 a0_1) := (blk_cell BK385.out 1).trans rfl; have hcz25_2 : w23.cell? ⟨gb385, 2, none⟩ = some (.slice A0_2 l0_2.length c0_2) := (blk_cell BK385.out 2).trans rfl; have hcz25_3 : w23.cell? ⟨gb385, 3, none⟩ = some (.int .i64 a0_3) := (blk_cell BK385.out 3).trans rfl; have hfz25_0 := blk_frozen BK385.out 0; have hfz25_1 := blk_frozen BK385.out 1; have hfz25_2 := blk_frozen BK385.out 2; have hfz25_3 := blk_frozen BK385.out 3; have hcz26_0 : w23.cell? ⟨gb386, 0, none⟩ = some (.string a1_0) := (blk_cell BK386.out 0).trans rfl; have hcz26_1 : w23.cell? ⟨gb386, 1, none⟩ = some (.int .i64 a1_1) := (blk_cell BK386.out 1).trans rfl; have hcz26_2 : w23.cell? ⟨gb386, 2, none⟩ = some (.slice A1_2 l1_2.length c1_2) := (blk_cell BK386.out 2).trans rfl; have hcz26_3 : w23.cell? ⟨gb386, 3, none⟩ = some (.int .i64 a1_3) := (blk_cell BK386.out 3).trans rfl; have hfz26_0 := blk_frozen BK386.out 0; have hfz26_1 := blk_frozen BK386.out 1; have hfz26_2 := blk_frozen BK386.out 2; have hfz26_3 := blk_frozen BK386.out 3))
    go_ret
    exact ⟨by first | rfl | (simp [errW_none, errW_some] <;> rfl) | (simp [*, errW_none, errW_some] <;> rfl), by repeat (first | (with_reducible first | exact HB.out | apply below_alloc | apply pw_below_drewN | apply below_drew1 | refine below_set ?_ GE385.out | refine below_set ?_ GE386.out) | exact HB.out)⟩
end Go.Proofs.Ytknenadpkgajjaa.PA
end
section
namespace Go.Proofs.Ytknenadpkgajjaa.PA
open Go.RowKit Go.Proofs.YtknenadpkgajjaaW.PrintWords Go.Proofs.YtknenadpkgajjaaW.PrintLast Go.Proofs.YtknenadpkgajjaaW.PrintMore
attribute [local go_sem] max2_int min2_int max_two min_two max_three min_three max_four min_four   -- for this text's walks alone
set_option linter.unusedVariables false
set_option linter.unusedSimpArgs false
/-! ### api_Item: function 47 -/
open Go.Proofs.Ytknenadpkgajjaa.GFunc
set_option linter.unusedSimpArgs false
set_option linter.unusedVariables false
def api_Item.f : Unit := ()
/-- a function value that holds two elements against one another, at every world behind w. -/
def AsksEqItem (f : FuncId) (p : S57 → S57 → Option Bool) (w : World) : Prop := HasBody Try.prog f ∧ ∀ (x y : S57) (A5 : Option Addr) (c5 : Nat) (B5 : Option Addr) (d5 : Nat) (A6 : Option Addr) (c6 : Nat) (B6 : Option Addr) (d6 : Nat) (w' : World), Below w.heap.size w w' → Kd.C k103 w' A5 x.f5.length x.f5 → x.f5.length ≤ c5 → Kd.C k103 w' B5 y.f5.length y.f5 → y.f5.length ≤ d5 → Kd.C k103 w' A6 x.f6.length x.f6 → x.f6.length ≤ c6 → Kd.C k103 w' B6 y.f6.length y.f6 → y.f6.length ≤ d6 → ∀ b, p x y = some b →
  Calls Try.prog f #[.agg #[.string x.f0, .int .i64 x.f1, .string x.f2, .bool x.f3, .int .i64 x.f4, .slice A5 x.f5.length c5, .slice A6 x.f6.length c6], .agg #[.string y.f0, .int .i64 y.f1, .string y.f2, .bool y.f3, .int .i64 y.f4, .slice B5 y.f5.length d5, .slice B6 y.f6.length d6]] w' fun e w'' => e = .returned (.bool b) ∧ Below w'.heap.size w' w''
theorem keepItem {w : World} {a : Addr} {v : Value} (h : w.cell? a = some v) (o : Obj) : (w.alloc o).cell? a = some v := (World.cell?_alloc_lt w o a (World.block_lt_of_cell? w a h)).trans h
set_option maxHeartbeats 4000000 in
set_option maxRecDepth 100000 in
theorem eqItem.calls (f : FuncId) (p : S57 → S57 → Option Bool) (xs ys : List S57) (A : Option Addr) (c : Nat) (B : Option Addr) (d : Nat) (r : Bool) (w : World) (hr0 : Kd.C k57 w A xs.length xs) (hr1 : Kd.C k57 w B ys.length ys) (hf : AsksEqItem f p w) (h : eqF p xs ys = some r) :
    Calls Try.prog 47 #[.slice A xs.length c, .slice B ys.length d, .func (.func f) #[] #[]] w fun e w' => e = .returned (.bool r) ∧ Below w.heap.size w w' := by
  have HR0 := Aside0.mk hr0
  have HR1 := Aside0.mk hr1
  have HF := Aside0.mk hf
  have hlen := Kd.C_max hr0
  clear hr0 hr1 hf
  unfold eqF at h
  by_cases cl : xs.length = ys.length
  case neg =>
    rw [if_neg cl] at h
    obtain rfl := Option.some.inj h
    have cl0 : ((xs.length : Int) != (ys.length : Int)) = true := bne_iff_ne.mpr (by omega)
    have cl1 : ((xs.length : Int) == (ys.length : Int)) = false := beq_eq_false_iff_ne.mpr (by omega)
    clear cl h
    go_enter Try.func47, Try.ntmps47
    go_wp2
    go_ret
    exact ⟨rfl, by repeat (first | exact Below.refl _ _ | apply below_alloc)⟩
  rw [if_pos cl] at h
  have cl0 : ((xs.length : Int) != (ys.length : Int)) = false := bne_eq_false_iff_eq.mpr (by omega)
  have cl1 : ((xs.length : Int) == (ys.length : Int)) = true := beq_iff_eq.mpr (by omega)
  have CL := Aside0.mk cl
  have H := Aside0.mk h
  clear h cl
  go_enter Try.func47, Try.ntmps47
  go_wp2
  go_loopg [17] xs.length (fun kq v17 w' => ∃ i : Nat, v17 = .int .i64 i ∧ Aside0 (i + kq = xs.length) ∧ Aside0 (eqL p (xs.drop i) (ys.drop i) = some r) ∧ Aside0 (Below w.heap.size w w'))
  case atStart => exact ⟨0, rfl, ⟨by omega⟩, H, ⟨by repeat (first | exact Below.refl _ _ | apply below_alloc)⟩⟩
  case round =>
    clear H
    obtain ⟨i, rfl, HK, HI, HB⟩ := hrel
    by_cases hi : i < xs.length
    · obtain ⟨gk1, rfl⟩ : ∃ m, gk = m + 1 := ⟨gk - 1, by have := HK.out; omega⟩
      have hi' : i < ys.length := by have := CL.out; omega
      have h1 := HI.out
      rw [List.drop_eq_getElem_cons hi, List.drop_eq_getElem_cons hi', eqL] at h1
      have hx : xs[i] = rd_T57 xs ↑i := by simp [rd_T57, List.getD_eq_getElem?_getD, List.getElem?_eq_getElem hi]
      have hy : ys[i] = rd_T57 ys ↑i := by simp [rd_T57, List.getD_eq_getElem?_getD, List.getElem?_eq_getElem hi']
      rw [hx, hy] at h1
      obtain ⟨b, hb, h2⟩ := Option.bind_eq_some_iff.mp h1
      have HQ := Aside0.mk hb
      have H2 := Aside0.mk h2
      clear h1 hx hy hb h2 HI
      obtain ⟨ad, A5, c5, A6, c6, ea, hx0, hx1, hx2, hx3, hx4, hx5, hx6, xl5, xc5, xl6, xc6⟩ := at_T57 (Kd.C_below HR0.out HB.out) (↑i) (by omega) (by omega)
      obtain ⟨bd, B5, d5, B6, d6, eb, hy0, hy1, hy2, hy3, hy4, hy5, hy6, yl5, yc5, yl6, yc6⟩ := at_T57 (Kd.C_below HR1.out HB.out) (↑i) (by omega) (by omega)
      subst ea eb
      simp only [Int.toNat_natCast] at hx0 hy0 hx1 hy1 hx2 hy2 hx3 hy3 hx4 hy4 hx5 hy5 hx6 hy6
      replace hy0 := fun o => keepItem hy0 o
      replace hy1 := fun o => keepItem hy1 o
      replace hy2 := fun o => keepItem hy2 o
      replace hy3 := fun o => keepItem hy3 o
      replace hy4 := fun o => keepItem hy4 o
      replace hy5 := fun o => keepItem hy5 o
      replace hy6 := fun o => keepItem hy6 o
      have HX5 := Aside0.mk (And.intro xc5 xl5)
      have HY5 := Aside0.mk (And.intro yc5 yl5)
      have HX6 := Aside0.mk (And.intro xc6 xl6)
      have HY6 := Aside0.mk (And.intro yc6 yl6)
      clear xl5 xc5 yl5 yc5 xl6 xc6 yl6 yc6
      have hi1 : ((i : Int) < (xs.length : Int)) = True := eq_true (by omega)
      have hi2 : (i < xs.length) = True := eq_true hi
      have hi3 : decide ((i : Int) < (xs.length : Int)) = true := decide_eq_true (by omega)
      have hi4 : ((i : Int) < (ys.length : Int)) = True := eq_true (by omega)
      have hi5 : (i < ys.length) = True := eq_true hi'
      go_wp2_with (fail)
      rw [run_enter HF.out.1, Oper.upon_enter]
      refine (HF.out.2 (rd_T57 xs ↑i) (rd_T57 ys ↑i) A5 c5 B5 d5 A6 c6 B6 d6 _ (below_alloc (below_alloc HB.out _) _) (Kd.C_alloc (Kd.C_alloc HX5.out.1 _) _) HX5.out.2 (Kd.C_alloc (Kd.C_alloc HY5.out.1 _) _) HY5.out.2 (Kd.C_alloc (Kd.C_alloc HX6.out.1 _) _) HX6.out.2 (Kd.C_alloc (Kd.C_alloc HY6.out.1 _) _) HY6.out.2 b HQ.out).mono ?_
      rintro e w2 ⟨rfl, hb2⟩
      have HB2 := Aside0.mk (below_step (below_alloc (below_alloc HB.out _) _ : Below w.heap.size w _) hb2)
      clear hb2 HB HX5 HY5 HX6 HY6 hx0 hy0 hx1 hy1 hx2 hy2 hx3 hy3 hx4 hy4 hx5 hy5 hx6 hy6 HQ
      cases b with
      | true =>
        have h3 := H2.out
        rw [if_pos rfl] at h3
        have H3 := Aside0.mk h3
        clear h3 H2
        go_wp2
        go_roundg gk1
        case measure => omega
        case rel => exact ⟨i + 1, (by simp), ⟨by have := HK.out; omega⟩, H3, HB2⟩
      | false =>
        have h3 := H2.out
        rw [if_neg (by decide)] at h3
        obtain rfl := Option.some.inj h3
        go_wp2
        go_ret
        exact ⟨rfl, HB2.out⟩
    · have h0 : xs.drop i = [] := List.drop_eq_nil_of_le (by omega)
      have hR := HI.out
      rw [h0, eqL] at hR
      · obtain rfl : true = r := Option.some.inj hR
        have hi3 : decide ((i : Int) < (xs.length : Int)) = false := decide_eq_false (by omega)
        clear h0 hR HI
        go_wp2
        go_ret
        exact ⟨rfl, HB.out⟩
      · intros; simp at *
end Go.Proofs.Ytknenadpkgajjaa.PA
end
section
namespace Go.Proofs.Ytknenadpkgajjaa.PA
open Go.RowKit Go.Proofs.YtknenadpkgajjaaW.PrintWords Go.Proofs.YtknenadpkgajjaaW.PrintLast Go.Proofs.YtknenadpkgajjaaW.PrintMore
attribute [local go_sem] max2_int min2_int max_two min_two max_three min_three max_four min_four   -- for this text's walks alone
set_option linter.unusedVariables false
set_option linter.unusedSimpArgs false
/-! ### api_Sentry: function 82 -/
open Go.Proofs.Ytknenadpkgajjaa.GFunc
set_option linter.unusedSimpArgs false
set_option linter.unusedVariables false
def api_Sentry.f : Unit := ()
/-- a function value that holds two elements against one another, at every world behind w. -/
def AsksEqSentry (f : FuncId) (p : S103 → S103 → Option Bool) (w : World) : Prop := HasBody Try.prog f ∧ ∀ (x y : S103) (A0 : Option Addr) (c0 : Nat) (B0 : Option Addr) (d0 : Nat) (A1 : Option Addr) (c1 : Nat) (B1 : Option Addr) (d1 : Nat) (w' : World), Below w.heap.size w w' → Kd.C k120 w' A0 x.f0.length x.f0 → x.f0.length ≤ c0 → Kd.C k120 w' B0 y.f0.length y.f0 → y.f0.length ≤ d0 → Kd.C k41 w' A1 x.f1.length x.f1 → x.f1.length ≤ c1 → Kd.C k41 w' B1 y.f1.length y.f1 → y.f1.length ≤ d1 → ∀ b, p x y = some b →
  Calls Try.prog f #[.agg #[.slice A0 x.f0.length c0, .slice A1 x.f1.length c1], .agg #[.slice B0 y.f0.length d0, .slice B1 y.f1.length d1]] w' fun e w'' => e = .returned (.bool b) ∧ Below w'.heap.size w' w''
theorem keepSentry {w : World} {a : Addr} {v : Value} (h : w.cell? a = some v) (o : Obj) : (w.alloc o).cell? a = some v := (World.cell?_alloc_lt w o a (World.block_lt_of_cell? w a h)).trans h
set_option maxHeartbeats 4000000 in
set_option maxRecDepth 100000 in
theorem eqSentry.calls (f : FuncId) (p : S103 → S103 → Option Bool) (xs ys : List S103) (A : Option Addr) (c : Nat) (B : Option Addr) (d : Nat) (r : Bool) (w : World) (hr0 : Kd.C k103 w A xs.length xs) (hr1 : Kd.C k103 w B ys.length ys) (hf : AsksEqSentry f p w) (h : eqF p xs ys = some r) :
    Calls Try.prog 82 #[.slice A xs.length c, .slice B ys.length d, .func (.func f) #[] #[]] w fun e w' => e = .returned (.bool r) ∧ Below w.heap.size w w' := by
  have HR0 := Aside0.mk hr0
  have HR1 := Aside0.mk hr1
  have HF := Aside0.mk hf
  have hlen := Kd.C_max hr0
  clear hr0 hr1 hf
  unfold eqF at h
  by_cases cl : xs.length = ys.length
  case neg =>
    rw [if_neg cl] at h
    obtain rfl := Option.some.inj h
    have cl0 : ((xs.length : Int) != (ys.length : Int)) = true := bne_iff_ne.mpr (by omega)
    have cl1 : ((xs.length : Int) == (ys.length : Int)) = false := beq_eq_false_iff_ne.mpr (by omega)
    clear cl h
    go_enter Try.func82, Try.ntmps82
    go_wp2
    go_ret
    exact ⟨rfl, by repeat (first | exact Below.refl _ _ | apply below_alloc)⟩
  rw [if_pos cl] at h
  have cl0 : ((xs.length : Int) != (ys.length : Int)) = false := bne_eq_false_iff_eq.mpr (by omega)
  have cl1 : ((xs.length : Int) == (ys.length : Int)) = true := beq_iff_eq.mpr (by omega)
  have CL := Aside0.mk cl
  have H := Aside0.mk h
  clear h cl
  go_enter Try.func82, Try.ntmps82
  go_wp2
  go_loopg [17] xs.length (fun kq v17 w' => ∃ i : Nat, v17 = .int .i64 i ∧ Aside0 (i + kq = xs.length) ∧ Aside0 (eqL p (xs.drop i) (ys.drop i) = some r) ∧ Aside0 (Below w.heap.size w w'))
  case atStart => exact ⟨0, rfl, ⟨by omega⟩, H, ⟨by repeat (first | exact Below.refl _ _ | apply below_alloc)⟩⟩
  case round =>
    clear H
    obtain ⟨i, rfl, HK, HI, HB⟩ := hrel
    by_cases hi : i < xs.length
    · obtain ⟨gk1, rfl⟩ : ∃ m, gk = m + 1 := ⟨gk - 1, by have := HK.out; omega⟩
      have hi' : i < ys.length := by have := CL.out; omega
      have h1 := HI.out
      rw [List.drop_eq_getElem_cons hi, List.drop_eq_getElem_cons hi', eqL] at h1
      have hx : xs[i] = rd_T103 xs ↑i := by simp [rd_T103, List.getD_eq_getElem?_getD, List.getElem?_eq_getElem hi]
      have hy : ys[i] = rd_T103 ys ↑i := by simp [rd_T103, List.getD_eq_getElem?_getD, List.getElem?_eq_getElem hi']
      rw [hx, hy] at h1
      obtain ⟨b, hb, h2⟩ := Option.bind_eq_some_iff.mp h1
      have HQ := Aside0.mk hb
      have H2 := Aside0.mk h2
      clear h1 hx hy hb h2 HI
      obtain ⟨ad, A0, c0, A1, c1, ea, hx0, hx1, xl0, xc0, xl1, xc1⟩ := at_T103 (Kd.C_below HR0.out HB.out) (↑i) (by omega) (by omega)
      obtain ⟨bd, B0, d0, B1, d1, eb, hy0, hy1, yl0, yc0, yl1, yc1⟩ := at_T103 (Kd.C_below HR1.out HB.out) (↑i) (by omega) (by omega)
      subst ea eb
      simp only [Int.toNat_natCast] at hx0 hy0 hx1 hy1
      replace hy0 := fun o => keepSentry hy0 o
      replace hy1 := fun o => keepSentry hy1 o
      have HX0 := Aside0.mk (And.intro xc0 xl0)
      have HY0 := Aside0.mk (And.intro yc0 yl0)
      have HX1 := Aside0.mk (And.intro xc1 xl1)
      have HY1 := Aside0.mk (And.intro yc1 yl1)
      clear xl0 xc0 yl0 yc0 xl1 xc1 yl1 yc1
      have hi1 : ((i : Int) < (xs.length : Int)) = True := eq_true (by omega)
      have hi2 : (i < xs.length) = True := eq_true hi
      have hi3 : decide ((i : Int) < (xs.length : Int)) = true := decide_eq_true (by omega)
      have hi4 : ((i : Int) < (ys.length : Int)) = True := eq_true (by omega)
      have hi5 : (i < ys.length) = True := eq_true hi'
      go_wp2_with (fail)
      rw [run_enter HF.out.1, Oper.upon_enter]
      refine (HF.out.2 (rd_T103 xs ↑i) (rd_T103 ys ↑i) A0 c0 B0 d0 A1 c1 B1 d1 _ (below_alloc (below_alloc HB.out _) _) (Kd.C_alloc (Kd.C_alloc HX0.out.1 _) _) HX0.out.2 (Kd.C_alloc (Kd.C_alloc HY0.out.1 _) _) HY0.out.2 (Kd.C_alloc (Kd.C_alloc HX1.out.1 _) _) HX1.out.2 (Kd.C_alloc (Kd.C_alloc HY1.out.1 _) _) HY1.out.2 b HQ.out).mono ?_
      rintro e w2 ⟨rfl, hb2⟩
      have HB2 := Aside0.mk (below_step (below_alloc (below_alloc HB.out _) _ : Below w.heap.size w _) hb2)
      clear hb2 HB HX0 HY0 HX1 HY1 hx0 hy0 hx1 hy1 HQ
      cases b with
      | true =>
        have h3 := H2.out
        rw [if_pos rfl] at h3
        have H3 := Aside0.mk h3
        clear h3 H2
        go_wp2
        go_roundg gk1
        case measure => omega
        case rel => exact ⟨i + 1, (by simp), ⟨by have := HK.out; omega⟩, H3, HB2⟩
      | false =>
        have h3 := H2.out
        rw [if_neg (by decide)] at h3
        obtain rfl := Option.some.inj h3
        go_wp2
        go_ret
        exact ⟨rfl, HB2.out⟩
    · have h0 : xs.drop i = [] := List.drop_eq_nil_of_le (by omega)
      have hR := HI.out
      rw [h0, eqL] at hR
      · obtain rfl : true = r := Option.some.inj hR
        have hi3 : decide ((i : Int) < (xs.length : Int)) = false := decide_eq_false (by omega)
        clear h0 hR HI
        go_wp2
        go_ret
        exact ⟨rfl, HB.out⟩
      · intros; simp at *
end Go.Proofs.Ytknenadpkgajjaa.PA
end
section
namespace Go.Proofs.Ytknenadpkgajjaa.PA
open Go.RowKit Go.Proofs.YtknenadpkgajjaaW.PrintWords Go.Proofs.YtknenadpkgajjaaW.PrintLast Go.Proofs.YtknenadpkgajjaaW.PrintMore
attribute [local go_sem] max2_int min2_int max_two min_two max_three min_three max_four min_four   -- for this text's walks alone
set_option linter.unusedVariables false
set_option linter.unusedSimpArgs false
theorem eqA120 (d : Nat) (w : World) (x0 y0 : ByteArray) (x1 y1 : Int) :
    (Op.equalIn (d + 2) 120 (.agg #[.string x0, .int .i64 x1]) (.agg #[.string y0, .int .i64 y1])).run Try.prog w = .ok (x0.toList == y0.toList && (x1 == y1)) w := by
  refine eqA_of Try.underlying120 (by kernel_rfl) ?_
  refine eqf_cons (by rfl) (by go_simp; rfl) (by go_simp; rfl) (by go_simp) ?_
  exact eqf_last (by rfl) (by go_simp; rfl) (by go_simp; rfl) (by go_simp)
end Go.Proofs.Ytknenadpkgajjaa.PA
end
section
namespace Go.Proofs.Ytknenadpkgajjaa.PA
open Go.RowKit Go.Proofs.YtknenadpkgajjaaW.PrintWords Go.Proofs.YtknenadpkgajjaaW.PrintLast Go.Proofs.YtknenadpkgajjaaW.PrintMore
attribute [local go_sem] max2_int min2_int max_two min_two max_three min_three max_four min_four   -- for this text's walks alone
set_option linter.unusedVariables false
set_option linter.unusedSimpArgs false
attribute [local go_sem high] eqA120
/-! ### api_On: function 97 -/
def api_On.l0 : Nat → List (S120) → List (S120) → Int → Int → Option (Bool)
  | 0, _, _, _, _ => none
  | k + 1, x0, x1, x12, x13 => if x13 < x12 then (if 0 ≤ x13 then (if x13 < (x0.length : Int) then (if x13 < (x1.length : Int) then (if (!((((rd_T120 x0 x13).f0).toList) == (((rd_T120 x1 x13).f0).toList)) || (!(((rd_T120 x0 x13).f1) == ((rd_T120 x1 x13).f1)))) = true then (some false) else (api_On.l0 k x0 x1 x12 (wrap64 (x13 + 1)))) else (none)) else (none)) else (none)) else (some true)
def api_On.f (k : Nat) (l0 : List (S120)) (l1 : List (S120)) : Option (Bool) := if (l0.length : Int) = (l1.length : Int) then (api_On.l0 k l0 l1 (l0.length : Int) 0) else (some false)
theorem api_On.mono_l : ∀ k, (∀ y0 y1 y2 y3, LeO (api_On.l0 k y0 y1 y2 y3) (api_On.l0 (k + 1) y0 y1 y2 y3))
  | 0 => fun _ _ _ _ r h => by simp [api_On.l0] at h
  | k + 1 => by
    have ih0 := api_On.mono_l k
    · intro y0 y1 y2 y3
      unfold api_On.l0
      repeat' first
      | (with_reducible exact ih0 _ _ _ _)
      | (with_reducible exact LeO.refl _)
      | (with_reducible exact LeO.none _)
      | (with_reducible refine LeO.ite ?_ ?_)
      | (with_reducible refine LeO.bind ?_ (fun _ => ?_))
      | exact ih0 _ _ _ _
      | exact LeO.none _
      | refine LeO.ite ?_ ?_
      | refine LeO.bind ?_ (fun _ => ?_)
theorem api_On.mono : ∀ a0 a1 k, LeO (api_On.f k a0 a1) (api_On.f (k + 1) a0 a1) := by
  intro a0 a1 k
  have ih0 := api_On.mono_l k
  unfold api_On.f
  repeat' first
      | (with_reducible exact ih0 _ _ _ _)
      | (with_reducible exact LeO.refl _)
      | (with_reducible exact LeO.none _)
      | (with_reducible refine LeO.ite ?_ ?_)
      | (with_reducible refine LeO.bind ?_ (fun _ => ?_))
      | exact ih0 _ _ _ _
      | exact LeO.none _
      | refine LeO.ite ?_ ?_
      | refine LeO.bind ?_ (fun _ => ?_)
set_option maxHeartbeats 8000000 in
set_option maxRecDepth 100000 in
theorem api_On.calls (k : Nat) (A0 : Option Addr) (c0 : Nat) (l0 : List (S120)) (A1 : Option Addr) (c1 : Nat) (l1 : List (S120)) (r : Bool) (w : World) (hr0 : Kd.C k120 w A0 l0.length l0) (hc0 : l0.length ≤ c0) (hr1 : Kd.C k120 w A1 l1.length l1) (hc1 : l1.length ≤ c1) (h : api_On.f k l0 l1 = some r) :
    Calls Try.prog 97 #[.slice A0 l0.length c0, .slice A1 l1.length c1] w fun e w' => e = .returned (.bool r) ∧ Drawn0 w w' := by
  have hu120 := Try.underlying120
  have HR0 := Aside0.mk hr0
  have HC0 := Aside0.mk hc0
  clear hr0 hc0
  have HR1 := Aside0.mk hr1
  have HC1 := Aside0.mk hc1
  clear hr1 hc1
  have H : (if (l0.length : Int) = (l1.length : Int) then (api_On.l0 k l0 l1 (l0.length : Int) 0) else (some false)) = some r := h
  clear h
  by_cases c3 : (l0.length : Int) = (l1.length : Int)
  · rw [if_pos c3] at H
    have c3b0 : ((l0.length : Int) == (l1.length : Int)) = true := beq_iff_eq.mpr c3
    have c3b1 : ((l0.length : Int) != (l1.length : Int)) = false := bne_eq_false_iff_eq.mpr c3
    have c3b2 : (l0.length == l1.length) = true := by first | simpa using c3 | (simp at c3 ⊢; omega)
    clear c3
    have H' := Aside0.mk H
    clear H
    go_enter Try.func97, Try.ntmps97
    go_wp2
    repeat (go_quiet (fail); try go_wp2)
    go_loopg [13] k (fun kq v13 w' => ∃ (x13_1 : Int), v13 = .int .i64 x13_1 ∧ Aside0 (api_On.l0 kq l0 l1 (l0.length : Int) x13_1 = some r) ∧ Aside0 (kq ≤ k) ∧ Drawn0 w w')
    case atStart => exact ⟨(0), (by first | rfl | (simp; done) | (simp [*]; done)), H', ⟨Nat.le_refl _⟩, by repeat (first | exact Drawn0.refl _ | apply Drawn0.step)⟩
    case round =>
      clear H'
      try clear c1
      try clear p2
      try clear c3
      try clear c3b0
      try clear c3b1
      try clear c3b2
      obtain ⟨x13_1, rfl, HA, HK1, ⟨m1, rfl⟩⟩ := hrel
      cases gk with
      | zero => exact absurd HA.out (by simp [api_On.l0])
      | succ k1 =>
        have H := HA.out
        clear HA
        simp only [api_On.l0] at H
        by_cases c4 : x13_1 < (l0.length : Int)
        · rw [if_pos c4] at H
          have c4b0 : decide (x13_1 < (l0.length : Int)) = true := decide_eq_true c4
          clear c4
          by_cases c5 : 0 ≤ x13_1
          · rw [if_pos c5] at H
            have c5b0 : decide (0 ≤ x13_1) = true := decide_eq_true c5
            clear c5
            by_cases c6 : x13_1 < (l0.length : Int)
            · rw [if_pos c6] at H
              have c6b0 : decide (x13_1 < (l0.length : Int)) = true := decide_eq_true c6
              clear c6
              by_cases c7 : x13_1 < (l1.length : Int)
              · rw [if_pos c7] at H
                have c7b0 : decide (x13_1 < (l1.length : Int)) = true := decide_eq_true c7
                clear c7
                by_cases c8 : (!((((rd_T120 l0 x13_1).f0).toList) == (((rd_T120 l1 x13_1).f0).toList)) || (!(((rd_T120 l0 x13_1).f1) == ((rd_T120 l1 x13_1).f1)))) = true
                · rw [if_pos c8] at H
                  have c8b0 : (!((((rd_T120 l0 x13_1).f0).toList) == (((rd_T120 l1 x13_1).f0).toList)) || (!(((rd_T120 l0 x13_1).f1) == ((rd_T120 l1 x13_1).f1)))) = true := c8
                  clear c8
                  obtain rfl := Option.some.inj H
                  have p388 : 0 ≤ (x13_1 : Int) := of_decide_eq_true (by first | (with_reducible assumption) | assumption)
                  have q388 : x13_1 < (l0.length : Int) := of_decide_eq_true (by first | (with_reducible assumption) | assumption)
                  obtain ⟨ad388, e388, hx388_0, hx388_1⟩ := at_T120 HR0.out x13_1 p388 q388
                  cases e388
                  replace p388 := eq_true p388
                  replace q388 := eq_true q388
                  have p389 : 0 ≤ (x13_1 : Int) := of_decide_eq_true (by first | (with_reducible assumption) | assumption)
                  have q389 : x13_1 < (l1.length : Int) := of_decide_eq_true (by first | (with_reducible assumption) | assumption)
                  obtain ⟨ad389, e389, hx389_0, hx389_1⟩ := at_T120 HR1.out x13_1 p389 q389
                  cases e389
                  replace p389 := eq_true p389
                  replace q389 := eq_true q389
                  go_wp2
                  repeat (go_quiet (fail); try go_wp2)
                  go_ret
                  exact ⟨by first | rfl | (simp; done) | (simp [*]; done), by repeat (first | exact Drawn0.refl _ | apply Drawn0.step)⟩
                · rw [if_neg c8] at H
                  have c8b0 : (!((((rd_T120 l0 x13_1).f0).toList) == (((rd_T120 l1 x13_1).f0).toList)) || (!(((rd_T120 l0 x13_1).f1) == ((rd_T120 l1 x13_1).f1)))) = false := by simpa using c8
                  clear c8
                  have H' := Aside0.mk H
                  clear H
                  have p388 : 0 ≤ (x13_1 : Int) := of_decide_eq_true (by first | (with_reducible assumption) | assumption)
                  have q388 : x13_1 < (l0.length : Int) := of_decide_eq_true (by first | (with_reducible assumption) | assumption)
                  obtain ⟨ad388, e388, hx388_0, hx388_1⟩ := at_T120 HR0.out x13_1 p388 q388
                  cases e388
                  replace p388 := eq_true p388
                  replace q388 := eq_true q388
                  have p389 : 0 ≤ (x13_1 : Int) := of_decide_eq_true (by first | (with_reducible assumption) | assumption)
                  have q389 : x13_1 < (l1.length : Int) := of_decide_eq_true (by first | (with_reducible assumption) | assumption)
                  obtain ⟨ad389, e389, hx389_0, hx389_1⟩ := at_T120 HR1.out x13_1 p389 q389
                  cases e389
                  replace p389 := eq_true p389
                  replace q389 := eq_true q389
                  go_wp2
                  repeat (go_quiet (fail); try go_wp2)
                  go_roundg k1
                  case measure => have := HK1.out; omega
                  case rel => exact ⟨(wrap64 (x13_1 + 1)), (by first | rfl | (simp; done) | (simp [*]; done)), H', ⟨by have := HK1.out; omega⟩, by repeat (first | exact Drawn0.refl _ | apply Drawn0.step)⟩
              · rw [if_neg c7] at H
                exact absurd H (by simp)
            · rw [if_neg c6] at H
              exact absurd H (by simp)
          · rw [if_neg c5] at H
            exact absurd H (by simp)
        · rw [if_neg c4] at H
          have c4b0 : decide (x13_1 < (l0.length : Int)) = false := decide_eq_false c4
          clear c4
          obtain rfl := Option.some.inj H
          go_wp2
          repeat (go_quiet (fail); try go_wp2)
          go_ret
          exact ⟨by first | rfl | (simp; done) | (simp [*]; done), by repeat (first | exact Drawn0.refl _ | apply Drawn0.step)⟩
  · rw [if_neg c3] at H
    have c3b0 : ((l0.length : Int) == (l1.length : Int)) = false := beq_eq_false_iff_ne.mpr c3
    have c3b1 : ((l0.length : Int) != (l1.length : Int)) = true := bne_iff_ne.mpr c3
    have c3b2 : (l0.length == l1.length) = false := by first | simpa using c3 | (simp at c3 ⊢; omega)
    obtain rfl := Option.some.inj H
    go_enter Try.func97, Try.ntmps97
    go_wp2
    repeat (go_quiet (fail); try go_wp2)
    go_ret
    exact ⟨by first | rfl | (simp; done) | (simp [*]; done), by repeat (first | exact Drawn0.refl _ | apply Drawn0.step)⟩
end Go.Proofs.Ytknenadpkgajjaa.PA
end
section
namespace Go.Proofs.Ytknenadpkgajjaa.PA
open Go.RowKit Go.Proofs.YtknenadpkgajjaaW.PrintWords Go.Proofs.YtknenadpkgajjaaW.PrintLast Go.Proofs.YtknenadpkgajjaaW.PrintMore
attribute [local go_sem] max2_int min2_int max_two min_two max_three min_three max_four min_four   -- for this text's walks alone
set_option linter.unusedVariables false
set_option linter.unusedSimpArgs false
/-! ### model_sameSentry: function 83 -/
def model_sameSentry.f (k : Nat) (l0_0 : List (S120)) (l0_1 : List (S41)) (l1_0 : List (S120)) (l1_1 : List (S41)) : Option (Bool) := (api_On.f k l0_0 l1_0).bind fun t392 => (if t392 = true then ((api_Cond_67.f k l0_1 l1_1).bind fun t393 => (some t393)) else (some false))
theorem model_sameSentry.mono : ∀ a0 a1 a2 a3 k, LeO (model_sameSentry.f k a0 a1 a2 a3) (model_sameSentry.f (k + 1) a0 a1 a2 a3) := by
  intro a0 a1 a2 a3 k
  unfold model_sameSentry.f
  repeat' first
      | (with_reducible exact api_Cond_67.mono _ _ _)
      | (with_reducible exact api_On.mono _ _ _)
      | (with_reducible exact LeO.refl _)
      | (with_reducible exact LeO.none _)
      | (with_reducible refine LeO.ite ?_ ?_)
      | (with_reducible refine LeO.bind ?_ (fun _ => ?_))
      | exact api_Cond_67.mono _ _ _
      | exact api_On.mono _ _ _
      | exact LeO.none _
      | refine LeO.ite ?_ ?_
      | refine LeO.bind ?_ (fun _ => ?_)
set_option maxHeartbeats 8000000 in
set_option maxRecDepth 100000 in
theorem model_sameSentry.calls (k : Nat) (A0_0 : Option Addr) (c0_0 : Nat) (l0_0 : List (S120)) (A0_1 : Option Addr) (c0_1 : Nat) (l0_1 : List (S41)) (A1_0 : Option Addr) (c1_0 : Nat) (l1_0 : List (S120)) (A1_1 : Option Addr) (c1_1 : Nat) (l1_1 : List (S41)) (r : Bool) (w : World) (hr0_0 : Kd.C k120 w A0_0 l0_0.length l0_0) (hc0_0 : l0_0.length ≤ c0_0) (hr0_1 : Kd.C k41 w A0_1 l0_1.length l0_1) (hc0_1 : l0_1.length ≤ c0_1) (hr1_0 : Kd.C k120 w A1_0 l1_0.length l1_0) (hc1_0 : l1_0.length ≤ c1_0) (hr1_1 : Kd.C k41 w A1_1 l1_1.length l1_1) (hc1_1 : l1_1.length ≤ c1_1) (h : model_sameSentry.f k l0_0 l0_1 l1_0 l1_1 = some r) :
    Calls Try.prog 83 #[.agg #[.slice A0_0 l0_0.length c0_0, .slice A0_1 l0_1.length c0_1], .agg #[.slice A1_0 l1_0.length c1_0, .slice A1_1 l1_1.length c1_1]] w fun e w' => e = .returned (.bool r) ∧ Below w.heap.size w w' := by
  have hu103 := Try.underlying103
  have HR0_0 := Aside0.mk hr0_0
  have HC0_0 := Aside0.mk hc0_0
  clear hr0_0 hc0_0
  have HR0_1 := Aside0.mk hr0_1
  have HC0_1 := Aside0.mk hc0_1
  clear hr0_1 hc0_1
  have HR1_0 := Aside0.mk hr1_0
  have HC1_0 := Aside0.mk hc1_0
  clear hr1_0 hc1_0
  have HR1_1 := Aside0.mk hr1_1
  have HC1_1 := Aside0.mk hc1_1
  clear hr1_1 hc1_1
  have HB := Aside0.mk (Below.refl w.heap.size w)
  have H : ((api_On.f k l0_0 l1_0).bind fun t392 => (if t392 = true then ((api_Cond_67.f k l0_1 l1_1).bind fun t393 => (some t393)) else (some false))) = some r := h
  clear h
  replace H := Option.bind_eq_some_iff.mp H
  obtain ⟨t392, A30, H⟩ := H
  replace H : (if t392 = true then ((api_Cond_67.f k l0_1 l1_1).bind fun t393 => (some t393)) else (some false)) = some r := H
  have A3 := Aside0.mk A30
  clear A30
  by_cases c4 : t392 = true
  · subst c4
    have H1 : ((api_Cond_67.f k l0_1 l1_1).bind fun t393 => (some t393)) = some r := by rw [if_pos rfl] at H; exact H
    clear H
    have H := H1
    clear H1
    replace H := Option.bind_eq_some_iff.mp H
    obtain ⟨t393, A50, H⟩ := H
    replace H : (some t393) = some r := H
    have A5 := Aside0.mk A50
    clear A50
    obtain rfl := Option.some.inj H
    go_enter Try.func83, Try.ntmps83
    go_wp2_with (first | ((with_reducible refine gate_dst (N := 2) rfl ?_); refine box_event ?hg (N := 2) ?hd (cs := #[.slice A0_0 l0_0.length c0_0, .slice A0_1 l0_1.length c0_1]) (t := 103) ?hr ?_; (case hd => rfl); (case hg => rfl); (case hr => first | (go_simp; done) | (go_simp; rfl)); intro gb390 hg w6 hbox hb; have n0_ := Aside0.mk (below_step (by repeat (first | (with_reducible first | exact HB.out | apply below_alloc | apply pw_below_drewN | apply below_drew1) | exact HB.out)) hb); have n1_ := Aside0.mk (hbox); have n2_ := Aside0.mk ((by rw [hg]; exact (below_size (by repeat (first | (with_reducible first | exact HB.out | apply below_alloc | apply pw_below_drewN | apply below_drew1) | exact HB.out))) : w.heap.size ≤ gb390)); have n3_ := Aside0.mk ((by rw [hg]; exact (below_size (by repeat (first | (with_reducible first | exact HB.out | apply below_alloc | apply pw_below_drewN | apply below_drew1) | exact HB.out))) : w.heap.size ≤ gb390)); clear HB; have HB := n0_; have BK390 := n1_; have GW390 := n2_; have GE390 := n3_; clear n0_ n1_ n2_ n3_; clear hb hbox hg) | ((with_reducible refine gate_dst (N := 3) rfl ?_); refine box_event ?hg (N := 3) ?hd (cs := #[.slice A1_0 l1_0.length c1_0, .slice A1_1 l1_1.length c1_1]) (t := 103) ?hr ?_; (case hd => rfl); (case hg => rfl); (case hr => first | (go_simp; done) | (go_simp; rfl)); intro gb391 hg w7 hbox hb; have n0_ := Aside0.mk (blk_below (g := gb390) (o := .cells #[.slice A0_0 l0_0.length c0_0, .slice A0_1 l0_1.length c0_1] 103 (0, 0)) (by (with_reducible repeat (first | refine blk_drewN ?_ _ | refine blk_drew ?_ | refine blk_alloc ?_ _)); exact BK390.out) hb); have n1_ := Aside0.mk (below_step (by repeat (first | (with_reducible first | exact HB.out | apply below_alloc | apply pw_below_drewN | apply below_drew1 | refine below_set ?_ GE390.out) | exact HB.out)) hb); have n2_ := Aside0.mk (hbox); have n3_ := Aside0.mk ((by rw [hg]; exact (below_size (by repeat (first | (with_reducible first | exact HB.out | apply below_alloc | apply pw_below_drewN | apply below_drew1 | refine below_set ?_ GE390.out) | exact HB.out))) : w.heap.size ≤ gb391)); have n4_ := Aside0.mk ((by rw [hg]; exact (below_size (by repeat (first | (with_reducible first | exact HB.out | apply below_alloc | apply pw_below_drewN | apply below_drew1 | refine below_set ?_ GE390.out) | exact HB.out))) : w.heap.size ≤ gb391)); have n5_ := Aside0.mk ((by rw [hg]; exact Nat.ne_of_lt (blk_lt (g := gb390) (o := .cells #[.slice A0_0 l0_0.length c0_0, .slice A0_1 l0_1.length c0_1] 103 (0, 0)) (by (with_reducible repeat (first | refine blk_drewN ?_ _ | refine blk_drew ?_ | refine blk_alloc ?_ _)); exact BK390.out)) : gb390 ≠ gb391)); have n6_ := Aside0.mk ((by rw [hg]; exact Nat.ne_of_gt (blk_lt (g := gb390) (o := .cells #[.slice A0_0 l0_0.length c0_0, .slice A0_1 l0_1.length c0_1] 103 (0, 0)) (by (with_reducible repeat (first | refine blk_drewN ?_ _ | refine blk_drew ?_ | refine blk_alloc ?_ _)); exact BK390.out)) : gb391 ≠ gb390)); clear BK390; clear HB; have BK390 := n0_; have HB := n1_; have BK391 := n2_; have GW391 := n3_; have GE391 := n4_; have NB390_391 := n5_; have NB391_390 := n6_; clear n0_ n1_ n2_ n3_ n4_ n5_ n6_; clear hb hbox hg; have hnb8 := NB390_391.out; have hnc8 := NB391_390.out; have hcz9_0 : w7.cell? ⟨gb390, 0, none⟩ = some (.slice A0_0 l0_0.length c0_0) := (blk_cell BK390.out 0).trans rfl; have hcz9_1 : w7.cell? ⟨gb390, 1, none⟩ = some (.slice A0_1 l0_1.length c0_1) := (blk_cell BK390.out 1).trans rfl; have hfz9_0 := blk_frozen BK390.out 0; have hfz9_1 := blk_frozen BK390.out 1; have hcz10_0 : w7.cell? ⟨gb391, 0, none⟩ = some (.slice A1_0 l1_0.length c1_0) := (blk_cell BK391.out 0).trans rfl; have hcz10_1 : w7.cell? ⟨gb391, 1, none⟩ = some (.slice A1_1 l1_1.length c1_1) := (blk_cell BK391.out 1).trans rfl; have hfz10_0 := blk_frozen BK391.out 0; have hfz10_1 := blk_frozen BK391.out 1) | ((with_reducible refine gate_callee (f := 97) rfl ?_); refine goesL_ (some 9) rfl rfl Try.func97 (by kernel_rfl) rfl #[.slice A0_0 l0_0.length c0_0, .slice A1_0 l1_0.length c1_0] rfl (by (try simp only [List.map_toArray, List.map_cons, List.map_nil]); first | done | rfl | (simp only [List.length_drop, List.length_take]; rfl)) ?_; (with_reducible refine (api_On.calls k _ _ l0_0 _ _ l1_0 true _ ?side1 ?side2 ?side3 ?side4 A3.out).mono ?_); (case side1 => repeat (first | exact (Kd.C_below HR0_0.out HB.out) | (with_reducible refine Kd.C_alloc ?_ _) | (with_reducible refine Kd.C_drewN ?_ _) | (with_reducible refine Kd.C_drew ?_))); (case side2 => exact HC0_0.out); (case side3 => repeat (first | exact (Kd.C_below HR1_0.out HB.out) | (with_reducible refine Kd.C_alloc ?_ _) | (with_reducible refine Kd.C_drewN ?_ _) | (with_reducible refine Kd.C_drew ?_))); (case side4 => exact HC1_0.out); rintro e w' ⟨rfl, ⟨nd, rfl⟩⟩; refine ⟨_, rfl, ?_⟩) | (go_at_call 67; (with_reducible refine (api_Cond_67.calls k _ _ l0_1 _ _ l1_1 t393 _ ?side1 ?side2 ?side3 ?side4 A5.out).mono ?_); (case side1 => repeat (first | exact (Kd.C_below HR0_1.out (by repeat (first | (with_reducible first | exact HB.out | apply below_alloc | apply pw_below_drewN | apply below_drew1 | refine below_set ?_ GE390.out | refine below_set ?_ GE391.out) | exact HB.out))) | (with_reducible refine Kd.C_alloc ?_ _) | (with_reducible refine Kd.C_drewN ?_ _) | (with_reducible refine Kd.C_drew ?_))); (case side2 => exact HC0_1.out); (case side3 => repeat (first | exact (Kd.C_below HR1_1.out (by repeat (first | (with_reducible first | exact HB.out | apply below_alloc | apply pw_below_drewN | apply below_drew1 | refine below_set ?_ GE390.out | refine below_set ?_ GE391.out) | exact HB.out))) | (with_reducible refine Kd.C_alloc ?_ _) | (with_reducible refine Kd.C_drewN ?_ _) | (with_reducible refine Kd.C_drew ?_))); (case side4 => exact HC1_1.out); rintro e w' ⟨rfl, ⟨nd, rfl⟩⟩))
    go_ret
    exact ⟨by first | rfl | (simp [errW_none, errW_some] <;> rfl) | (simp [*, errW_none, errW_some] <;> rfl), by repeat (first | (with_reducible first | exact HB.out | apply below_alloc | apply pw_below_drewN | apply below_drew1 | refine below_set ?_ GE390.out | refine below_set ?_ GE391.out) | exact HB.out)⟩
  · replace c4 := Bool.eq_false_iff.mpr c4
    subst c4
    have H1 : (some false) = some r := by rw [if_neg (show ¬ (false = true) by decide)] at H; exact H
    clear H
    have H := H1
    clear H1
    obtain rfl := Option.some.inj H
    go_enter Try.func83, Try.ntmps83
    go_wp2_with (first | ((with_reducible refine gate_dst (N := 2) rfl ?_); refine box_event ?hg (N := 2) ?hd (cs := #[.slice A0_0 l0_0.length c0_0, .slice A0_1 l0_1.length c0_1]) (t := 103) ?hr ?_; (case hd => rfl); (case hg => rfl); (case hr => first | (go_simp; done) | (go_simp; rfl)); intro gb390 hg w11 hbox hb; have n0_ := Aside0.mk (below_step (by repeat (first | (with_reducible first | exact HB.out | apply below_alloc | apply pw_below_drewN | apply below_drew1) | exact HB.out)) hb); have n1_ := Aside0.mk (hbox); have n2_ := Aside0.mk ((by rw [hg]; exact (below_size (by repeat (first | (with_reducible first | exact HB.out | apply below_alloc | apply pw_below_drewN | apply below_drew1) | exact HB.out))) : w.heap.size ≤ gb390)); have n3_ := Aside0.mk ((by rw [hg]; exact (below_size (by repeat (first | (with_reducible first | exact HB.out | apply below_alloc | apply pw_below_drewN | apply below_drew1) | exact HB.out))) : w.heap.size ≤ gb390)); clear HB; have HB := n0_; have BK390 := n1_; have GW390 := n2_; have GE390 := n3_; clear n0_ n1_ n2_ n3_; clear hb hbox hg) | ((with_reducible refine gate_dst (N := 3) rfl ?_); refine box_event ?hg (N := 3) ?hd (cs := #[.slice A1_0 l1_0.length c1_0, .slice A1_1 l1_1.length c1_1]) (t := 103) ?hr ?_; (case hd => rfl); (case hg => rfl); (case hr => first | (go_simp; done) | (go_simp; rfl)); intro gb391 hg w12 hbox hb; have n0_ := Aside0.mk (blk_below (g := gb390) (o := .cells #[.slice A0_0 l0_0.length c0_0, .slice A0_1 l0_1.length c0_1] 103 (0, 0)) (by (with_reducible repeat (first | refine blk_drewN ?_ _ | refine blk_drew ?_ | refine blk_alloc ?_ _)); exact BK390.out) hb); have n1_ := Aside0.mk (below_step (by repeat (first | (with_reducible first | exact HB.out | apply below_alloc | apply pw_below_drewN | apply below_drew1 | refine below_set ?_ GE390.out) | exact HB.out)) hb); have n2_ := Aside0.mk (hbox); have n3_ := Aside0.mk ((by rw [hg]; exact (below_size (by repeat (first | (with_reducible first | exact HB.out | apply below_alloc | apply pw_below_drewN | apply below_drew1 | refine below_set ?_ GE390.out) | exact HB.out))) : w.heap.size ≤ gb391)); have n4_ := Aside0.mk ((by rw [hg]; exact (below_size (by repeat (first | (with_reducible first | exact HB.out | apply below_alloc | apply pw_below_drewN | apply below_drew1 | refine below_set ?_ GE390.out) | exact HB.out))) : w.heap.size ≤ gb391)); have n5_ := Aside0.mk ((by rw [hg]; exact Nat.ne_of_lt (blk_lt (g := gb390) (o := .cells #[.slice A0_0 l0_0.length c0_0, .slice A0_1 l0_1.length c0_1] 103 (0, 0)) (by (with_reducible repeat (first | refine blk_drewN ?_ _ | refine blk_drew ?_ | refine blk_alloc ?_ _)); exact BK390.out)) : gb390 ≠ gb391)); have n6_ := Aside0.mk ((by rw [hg]; exact Nat.ne_of_gt (blk_lt (g := gb390) (o := .cells #[.slice A0_0 l0_0.length c0_0, .slice A0_1 l0_1.length c0_1] 103 (0, 0)) (by (with_reducible repeat (first | refine blk_drewN ?_ _ | refine blk_drew ?_ | refine blk_alloc ?_ _)); exact BK390.out)) : gb391 ≠ gb390)); clear BK390; clear HB; have BK390 := n0_; have HB := n1_; have BK391 := n2_; have GW391 := n3_; have GE391 := n4_; have NB390_391 := n5_; have NB391_390 := n6_; clear n0_ n1_ n2_ n3_ n4_ n5_ n6_; clear hb hbox hg; have hnb13 := NB390_391.out; have hnc13 := NB391_390.out; have hcz14_0 : w12.cell? ⟨gb390, 0, none⟩ = some (.slice A0_0 l0_0.length c0_0) := (blk_cell BK390.out 0).trans rfl; have hcz14_1 : w12.cell? ⟨gb390, 1, none⟩ = some (.slice A0_1 l0_1.length c0_1) := (blk_cell BK390.out 1).trans rfl; have hfz14_0 := blk_frozen BK390.out 0; have hfz14_1 := blk_frozen BK390.out 1; have hcz15_0 : w12.cell? ⟨gb391, 0, none⟩ = some (.slice A1_0 l1_0.length c1_0) := (blk_cell BK391.out 0).trans rfl; have hcz15_1 : w12.cell? ⟨gb391, 1, none⟩ = some (.slice A1_1 l1_1.length c1_1) := (blk_cell BK391.out 1).trans rfl; have hfz15_0 := blk_frozen BK391.out 0; have hfz15_1 := blk_frozen BK391.out 1) | ((with_reducible refine gate_callee (f := 97) rfl ?_); refine goesL_ (some 9) rfl rfl Try.func97 (by kernel_rfl) rfl #[.slice A0_0 l0_0.length c0_0, .slice A1_0 l1_0.length c1_0] rfl (by (try simp only [List.map_toArray, List.map_cons, List.map_nil]); first | done | rfl | (simp only [List.length_drop, List.length_take]; rfl)) ?_; (with_reducible refine (api_On.calls k _ _ l0_0 _ _ l1_0 false _ ?side1 ?side2 ?side3 ?side4 A3.out).mono ?_); (case side1 => repeat (first | exact (Kd.C_below HR0_0.out HB.out) | (with_reducible refine Kd.C_alloc ?_ _) | (with_reducible refine Kd.C_drewN ?_ _) | (with_reducible refine Kd.C_drew ?_))); (case side2 => exact HC0_0.out); (case side3 => repeat (first | exact (Kd.C_below HR1_0.out HB.out) | (with_reducible refine Kd.C_alloc ?_ _) | (with_reducible refine Kd.C_drewN ?_ _) | (with_reducible refine Kd.C_drew ?_))); (case side4 => exact HC1_0.out); rintro e w' ⟨rfl, ⟨nd, rfl⟩⟩; refine ⟨_, rfl, ?_⟩))
    go_ret
    exact ⟨by first | rfl | (simp [errW_none, errW_some] <;> rfl) | (simp [*, errW_none, errW_some] <;> rfl), by repeat (first | (with_reducible first | exact HB.out | apply below_alloc | apply pw_below_drewN | apply below_drew1 | refine below_set ?_ GE390.out | refine below_set ?_ GE391.out) | exact HB.out)⟩
end Go.Proofs.Ytknenadpkgajjaa.PA
end
section
namespace Go.Proofs.Ytknenadpkgajjaa.PA
open Go.RowKit Go.Proofs.YtknenadpkgajjaaW.PrintWords Go.Proofs.YtknenadpkgajjaaW.PrintLast Go.Proofs.YtknenadpkgajjaaW.PrintMore
attribute [local go_sem] max2_int min2_int max_two min_two max_three min_three max_four min_four   -- for this text's walks alone
set_option linter.unusedVariables false
set_option linter.unusedSimpArgs false
/-! ### model_SameSentries: function 69 -/
open Go.Proofs.Ytknenadpkgajjaa.GFunc
set_option linter.unusedSimpArgs false
set_option linter.unusedVariables false
def sentryEq (k : Nat) (x y : S103) : Option Bool := model_sameSentry.f k x.f0 x.f1 y.f0 y.f1
theorem asks_sentry (k : Nat) (w : World) : AsksEqSentry 83 (sentryEq k) w :=
  ⟨by unfold HasBody; kernel_rfl, fun x y A0 c0 B0 d0 A1 c1 B1 d1 w' _ h1 h2 h3 h4 h5 h6 h7 h8 b hb => model_sameSentry.calls k A0 c0 x.f0 A1 c1 x.f1 B0 d0 y.f0 B1 d1 y.f1 b w' h1 h2 h5 h6 h3 h4 h7 h8 hb⟩
def model_SameSentries.f (k : Nat) (l0 l1 : List S103) : Option Bool := eqF (sentryEq k) l0 l1
theorem model_SameSentries.mono : ∀ a0 a1 k, LeO (model_SameSentries.f k a0 a1) (model_SameSentries.f (k + 1) a0 a1) := fun a0 a1 k r h => eqF_mono (fun x y r h => model_sameSentry.mono _ _ _ _ k r h) a0 a1 r h
set_option maxHeartbeats 4000000 in
set_option maxRecDepth 100000 in
theorem model_SameSentries.calls (k : Nat) (A0 : Option Addr) (c0 : Nat) (l0 : List S103) (A1 : Option Addr) (c1 : Nat) (l1 : List S103) (r : Bool) (w : World) (hr0 : Kd.C k103 w A0 l0.length l0) (hc0 : l0.length ≤ c0) (hr1 : Kd.C k103 w A1 l1.length l1) (hc1 : l1.length ≤ c1) (h : model_SameSentries.f k l0 l1 = some r) :
    Calls Try.prog 69 #[.slice A0 l0.length c0, .slice A1 l1.length c1] w fun e w' => e = .returned (.bool r) ∧ Below w.heap.size w w' := by
  have HC := Aside0.mk (eqSentry.calls 83 (sentryEq k) l0 l1 A0 c0 A1 c1 r w hr0 hr1 (asks_sentry k w) h)
  clear hr0 hc0 hr1 hc1 h
  go_enter Try.func69, Try.ntmps69
  go_wp2_with (fail)
  refine HC.out.mono ?_
  rintro e w2 ⟨rfl, hb2⟩
  have HB2 := Aside0.mk hb2
  clear hb2 HC
  go_wp2
  go_ret
  exact ⟨rfl, HB2.out⟩
end Go.Proofs.Ytknenadpkgajjaa.PA
end
section
namespace Go.Proofs.Ytknenadpkgajjaa.PA
open Go.RowKit Go.Proofs.YtknenadpkgajjaaW.PrintWords Go.Proofs.YtknenadpkgajjaaW.PrintLast Go.Proofs.YtknenadpkgajjaaW.PrintMore
attribute [local go_sem] max2_int min2_int max_two min_two max_three min_three max_four min_four   -- for this text's walks alone
set_option linter.unusedVariables false
set_option linter.unusedSimpArgs false
/-! ### model_SameItem: function 48 -/
def model_SameItem.f (k : Nat) (a0_0 : ByteArray) (a0_1 : Int) (a0_2 : ByteArray) (a0_3 : Bool) (a0_4 : Int) (l0_5 : List (S103)) (l0_6 : List (S103)) (a1_0 : ByteArray) (a1_1 : Int) (a1_2 : ByteArray) (a1_3 : Bool) (a1_4 : Int) (l1_5 : List (S103)) (l1_6 : List (S103)) : Option (Bool) := if a0_0.toList = a1_0.toList then (if a0_1 = a1_1 then (if a0_2.toList = a1_2.toList then (if (a0_3 == a1_3) = true then (if a0_4 = a1_4 then ((model_SameSentries.f k l0_5 l1_5).bind fun t396 => (if t396 = true then ((model_SameSentries.f k l0_6 l1_6).bind fun t397 => (some t397)) else (some false))) else (some false)) else (some false)) else (some false)) else (some false)) else (some false)
theorem model_SameItem.mono : ∀ a0 a1 a2 a3 a4 a5 a6 a7 a8 a9 a10 a11 a12 a13 k, LeO (model_SameItem.f k a0 a1 a2 a3 a4 a5 a6 a7 a8 a9 a10 a11 a12 a13) (model_SameItem.f (k + 1) a0 a1 a2 a3 a4 a5 a6 a7 a8 a9 a10 a11 a12 a13) := by
  intro a0 a1 a2 a3 a4 a5 a6 a7 a8 a9 a10 a11 a12 a13 k
  unfold model_SameItem.f
  repeat' first
      | (with_reducible exact model_SameSentries.mono _ _ _)
      | (with_reducible exact LeO.refl _)
      | (with_reducible exact LeO.none _)
      | (with_reducible refine LeO.ite ?_ ?_)
      | (with_reducible refine LeO.bind ?_ (fun _ => ?_))
      | exact model_SameSentries.mono _ _ _
      | exact LeO.none _
      | refine LeO.ite ?_ ?_
      | refine LeO.bind ?_ (fun _ => ?_)
set_option maxHeartbeats 8000000 in
set_option maxRecDepth 100000 in
theorem model_SameItem.calls (k : Nat) (a0_0 : ByteArray) (a0_1 : Int) (a0_2 : ByteArray) (a0_3 : Bool) (a0_4 : Int) (A0_5 : Option Addr) (c0_5 : Nat) (l0_5 : List (S103)) (A0_6 : Option Addr) (c0_6 : Nat) (l0_6 : List (S103)) (a1_0 : ByteArray) (a1_1 : Int) (a1_2 : ByteArray) (a1_3 : Bool) (a1_4 : Int) (A1_5 : Option Addr) (c1_5 : Nat) (l1_5 : List (S103)) (A1_6 : Option Addr) (c1_6 : Nat) (l1_6 : List (S103)) (r : Bool) (w : World) (hr0_5 : Kd.C k103 w A0_5 l0_5.length l0_5) (hc0_5 : l0_5.length ≤ c0_5) (hr0_6 : Kd.C k103 w A0_6 l0_6.length l0_6) (hc0_6 : l0_6.length ≤ c0_6) (hr1_5 : Kd.C k103 w A1_5 l1_5.length l1_5) (hc1_5 : l1_5.length ≤ c1_5) (hr1_6 : Kd.C k103 w A1_6 l1_6.length l1_6) (hc1_6 : l1_6.length ≤ c1_6) (h : model_SameItem.f k a0_0 a0_1 a0_2 a0_3 a0_4 l0_5 l0_6 a1_0 a1_1 a1_2 a1_3 a1_4 l1_5 l1_6 = some r) :
    Calls Try.prog 48 #[.agg #[.string a0_0, .int .i64 a0_1, .string a0_2, .bool a0_3, .int .i64 a0_4, .slice A0_5 l0_5.length c0_5, .slice A0_6 l0_6.length c0_6], .agg #[.string a1_0, .int .i64 a1_1, .string a1_2, .bool a1_3, .int .i64 a1_4, .slice A1_5 l1_5.length c1_5, .slice A1_6 l1_6.length c1_6]] w fun e w' => e = .returned (.bool r) ∧ Below w.heap.size w w' := by
  have hu57 := Try.underlying57
  have HR0_5 := Aside0.mk hr0_5
  have HC0_5 := Aside0.mk hc0_5
  clear hr0_5 hc0_5
  have HR0_6 := Aside0.mk hr0_6
  have HC0_6 := Aside0.mk hc0_6
  clear hr0_6 hc0_6
  have HR1_5 := Aside0.mk hr1_5
  have HC1_5 := Aside0.mk hc1_5
  clear hr1_5 hc1_5
  have HR1_6 := Aside0.mk hr1_6
  have HC1_6 := Aside0.mk hc1_6
  clear hr1_6 hc1_6
  have HB := Aside0.mk (Below.refl w.heap.size w)
  have H : (if a0_0.toList = a1_0.toList then (if a0_1 = a1_1 then (if a0_2.toList = a1_2.toList then (if (a0_3 == a1_3) = true then (if a0_4 = a1_4 then ((model_SameSentries.f k l0_5 l1_5).bind fun t396 => (if t396 = true then ((model_SameSentries.f k l0_6 l1_6).bind fun t397 => (some t397)) else (some false))) else (some false)) else (some false)) else (some false)) else (some false)) else (some false)) = some r := h
  clear h
  by_cases c3 : a0_0.toList = a1_0.toList
  · rw [if_pos c3] at H
    have c3b0 : (a0_0.toList == a1_0.toList) = true := beq_iff_eq.mpr c3
    have c3b1 : (a0_0.toList != a1_0.toList) = false := bne_eq_false_iff_eq.mpr c3
    clear c3
    by_cases c4 : a0_1 = a1_1
    · rw [if_pos c4] at H
      have c4b0 : (a0_1 == a1_1) = true := beq_iff_eq.mpr c4
      have c4b1 : (a0_1 != a1_1) = false := bne_eq_false_iff_eq.mpr c4
      clear c4
      by_cases c5 : a0_2.toList = a1_2.toList
      · rw [if_pos c5] at H
        have c5b0 : (a0_2.toList == a1_2.toList) = true := beq_iff_eq.mpr c5
        have c5b1 : (a0_2.toList != a1_2.toList) = false := bne_eq_false_iff_eq.mpr c5
        clear c5
        by_cases c6 : (a0_3 == a1_3) = true
        · rw [if_pos c6] at H
          have c6b0 : (a0_3 == a1_3) = true := c6
          (try (have c6b1 : decide (a0_3 = a1_3) = true := by simpa using c6))
          (try (have c6b2 : (a0_3 == a1_3) = true := by simpa using c6))
          clear c6
          by_cases c7 : a0_4 = a1_4
          · rw [if_pos c7] at H
            have c7b0 : (a0_4 == a1_4) = true := beq_iff_eq.mpr c7
            have c7b1 : (a0_4 != a1_4) = false := bne_eq_false_iff_eq.mpr c7
            clear c7
            replace H := Option.bind_eq_some_iff.mp H
            obtain ⟨t396, A80, H⟩ := H
            replace H : (if t396 = true then ((model_SameSentries.f k l0_6 l1_6).bind fun t397 => (some t397)) else (some false)) = some r := H
            have A8 := Aside0.mk A80
            clear A80
            by_cases c9 : t396 = true
            · subst c9
              have H1 : ((model_SameSentries.f k l0_6 l1_6).bind fun t397 => (some t397)) = some r := by rw [if_pos rfl] at H; exact H
              clear H
              have H := H1
              clear H1
              replace H := Option.bind_eq_some_iff.mp H
              obtain ⟨t397, A100, H⟩ := H
              replace H : (some t397) = some r := H
              have A10 := Aside0.mk A100
              clear A100
              obtain rfl := Option.some.inj H
              go_enter Try.func48, Try.ntmps48
              go_wp2_with (first | ((with_reducible refine gate_dst (N := 2) rfl ?_); refine box_event ?hg (N := 2) ?hd (cs := #[.string a0_0, .int .i64 a0_1, .string a0_2, .bool a0_3, .int .i64 a0_4, .slice A0_5 l0_5.length c0_5, .slice A0_6 l0_6.length c0_6]) (t := 57) ?hr ?_; (case hd => rfl); (case hg => rfl); (case hr => first | (go_simp; done) | (go_simp; rfl)); intro gb394 hg w11 hbox hb; have n0_ := Aside0.mk (below_step (by repeat (first | (with_reducible first | exact HB.out | apply below_alloc | apply pw_below_drewN | apply below_drew1) | exact HB.out)) hb); have n1_ := Aside0.mk (hbox); have n2_ := Aside0.mk ((by rw [hg]; exact (below_size (by repeat (first | (with_reducible first | exact HB.out | apply below_alloc | apply pw_below_drewN | apply below_drew1) | exact HB.out))) : w.heap.size ≤ gb394)); have n3_ := Aside0.mk ((by rw [hg]; exact (below_size (by repeat (first | (with_reducible first | exact HB.out | apply below_alloc | apply pw_below_drewN | apply below_drew1) | exact HB.out))) : w.heap.size ≤ gb394)); clear HB; have HB := n0_; have BK394 := n1_; have GW394 := n2_; have GE394 := n3_; clear n0_ n1_ n2_ n3_; clear hb hbox hg) | ((with_reducible refine gate_dst (N := 3) rfl ?_); refine box_event ?hg (N := 3) ?hd (cs := #[.string a1_0, .int .i64 a1_1, .string a1_2, .bool a1_3, .int .i64 a1_4, .slice A1_5 l1_5.length c1_5, .slice A1_6 l1_6.length c1_6]) (t := 57) ?hr ?_; (case hd => rfl); (case hg => rfl); (case hr => first | (go_simp; done) | (go_simp; rfl)); intro gb395 hg w12 hbox hb; have n0_ := Aside0.mk (blk_below (g := gb394) (o := .cells #[.string a0_0, .int .i64 a0_1, .string a0_2, .bool a0_3, .int .i64 a0_4, .slice A0_5 l0_5.length c0_5, .slice A0_6 l0_6.length c0_6] 57 (0, 0)) (by (with_reducible repeat (first | refine blk_drewN ?_ _ | refine blk_drew ?_ | refine blk_alloc ?_ _)); exact BK394.out) hb); have n1_ := Aside0.mk (below_step (by repeat (first | (with_reducible first | exact HB.out | apply below_alloc | apply pw_below_drewN | apply below_drew1 | refine below_set ?_ GE394.out) | exact HB.out)) hb); have n2_ := Aside0.mk (hbox); have n3_ := Aside0.mk ((by rw [hg]; exact (below_size (by repeat (first | (with_reducible first | exact HB.out | apply below_alloc | apply pw_below_drewN | apply below_drew1 | refine below_set ?_ GE394.out) | exact HB.out))) : w.heap.size ≤ gb395)); have n4_ := Aside0.mk ((by rw [hg]; exact (below_size (by repeat (first | (with_reducible first | exact HB.out | apply below_alloc | apply pw_below_drewN | apply below_drew1 | refine below_set ?_ GE394.out) | exact HB.out))) : w.heap.size ≤ gb395)); have n5_ := Aside0.mk ((by rw [hg]; exact Nat.ne_of_lt (blk_lt (g := gb394) (o := .cells #[.string a0_0, .int .i64 a0_1, .string a0_2, .bool a0_3, .int .i64 a0_4, .slice A0_5 l0_5.length c0_5, .slice A0_6 l0_6.length c0_6] 57 (0, 0)) (by (with_reducible repeat (first | refine blk_drewN ?_ _ | refine blk_drew ?_ | refine blk_alloc ?_ _)); exact BK394.out)) : gb394 ≠ gb395)); have n6_ := Aside0.mk ((by rw [hg]; exact Nat.ne_of_gt (blk_lt (g := gb394) (o := .cells #[.string a0_0, .int .i64 a0_1, .string a0_2, .bool a0_3, .int .i64 a0_4, .slice A0_5 l0_5.length c0_5, .slice A0_6 l0_6.length c0_6] 57 (0, 0)) (by (with_reducible repeat (first | refine blk_drewN ?_ _ | refine blk_drew ?_ | refine blk_alloc ?_ _)); exact BK394.out)) : gb395 ≠ gb394)); clear BK394; clear HB; have BK394 := n0_; have HB := n1_; have BK395 := n2_; have GW395 := n3_; have GE395 := n4_; have NB394_395 := n5_; have NB395_394 := n6_; clear n0_ n1_ n2_ n3_ n4_ n5_ n6_; clear hb hbox hg; have hnb13 := NB394_395.out; have hnc13 := NB395_394.out; have hcz14_0 : w12.cell? ⟨gb394, 0, none⟩ = some (.string a0_0) := (blk_cell BK394.out 0).trans rfl; have hcz14_1 : w12.cell? ⟨gb394, 1, none⟩ = some (.int .i64 a0_1) := (blk_cell BK394.out 1).trans rfl; have hcz14_2 : w12.cell? ⟨gb394, 2, none⟩ = some (.string a0_2) := (blk_cell BK394.out 2).trans rfl; have hcz14_3 : w12.cell? ⟨gb394, 3, none⟩ = some (.bool a0_3) := (blk_cell BK394.out 3).trans rfl; have hcz14_4 : w12.cell? ⟨gb394, 4, none⟩ = some (.int .i64 a0_4) := (blk_cell BK394.out 4).trans rfl; have hcz14_5 : w12.cell? ⟨gb394, 5, none⟩ = some (.slice A0_5 l0_5.length c0_5) := (blk_cell BK394.out 5).trans rfl; have hcz14_6 : w12.cell? ⟨gb394, 6, none⟩ = some (.slice A0_6 l0_6.length c0_6) := (blk_cell BK394.out 6).trans rfl; have hfz14_0 := blk_frozen BK394.out 0; have hfz14_1 := blk_frozen BK394.out 1; have hfz14_2 := blk_frozen BK394.out 2; have hfz14_3 := blk_frozen BK394.out 3; have hfz14_4 := blk_frozen BK394.out 4; have hfz14_5 := blk_frozen BK394.out 5; have hfz14_6 := blk_frozen BK394.out 6; have hcz15_0 : w12.cell? ⟨gb395, 0, none⟩ = some (.string a1_0) := (blk_cell BK395.out 0).trans rfl; have hcz15_1 : w12.cell? ⟨gb395, 1, none⟩ = some (.int .i64 a1_1) := (blk_cell BK395.out 1).trans rfl; have hcz15_2 : w12.cell? ⟨gb395, 2, none⟩ = some (.string a1_2) := (blk_cell BK395.out 2).trans rfl; have hcz15_3 : w12.cell? ⟨gb395, 3, none⟩ = some (.bool a1_3) := (blk_cell BK395.out 3).trans rfl; have hcz15_4 : w12.cell? ⟨gb395, 4, none⟩ = some (.int .i64 a1_4) := (blk_cell BK395.out 4).trans rfl; have hcz15_5 : w12.cell? ⟨gb395, 5, none⟩ = some (.slice A1_5 l1_5.length c1_5) := (blk_cell BK395.out 5).trans rfl; have hcz15_6 : w12.cell? ⟨gb395, 6, none⟩ = some (.slice A1_6 l1_6.length c1_6) := (blk_cell BK395.out 6).trans rfl; have hfz15_0 := blk_frozen BK395.out 0; have hfz15_1 := blk_frozen BK395.out 1; have hfz15_2 := blk_frozen BK395.out 2; have hfz15_3 := blk_frozen BK395.out 3; have hfz15_4 := blk_frozen BK395.out 4; have hfz15_5 := blk_frozen BK395.out 5; have hfz15_6 := blk_frozen BK395.out 6) | (go_at_call 69; (with_reducible refine (model_SameSentries.calls k _ _ l0_5 _ _ l1_5 true _ ?side1 ?side2 ?side3 ?side4 A8.out).mono ?_); (case side1 => repeat (first | exact (Kd.C_below HR0_5.out HB.out) | (with_reducible refine Kd.C_alloc ?_ _) | (with_reducible refine Kd.C_drewN ?_ _) | (with_reducible refine Kd.C_drew ?_))); (case side2 => exact HC0_5.out); (case side3 => repeat (first | exact (Kd.C_below HR1_5.out HB.out) | (with_reducible refine Kd.C_alloc ?_ _) | (with_reducible refine Kd.C_drewN ?_ _) | (with_reducible refine Kd.C_drew ?_))); (case side4 => exact HC1_5.out); rintro e w16 ⟨rfl, hb⟩; have n0_ := Aside0.mk (blk_below (g := gb394) (o := .cells #[.string a0_0, .int .i64 a0_1, .string a0_2, .bool a0_3, .int .i64 a0_4, .slice A0_5 l0_5.length c0_5, .slice A0_6 l0_6.length c0_6] 57 (0, 0)) (by (with_reducible repeat (first | refine blk_drewN ?_ _ | refine blk_drew ?_ | refine blk_alloc ?_ _)); exact BK394.out) hb); have n1_ := Aside0.mk (blk_below (g := gb395) (o := .cells #[.string a1_0, .int .i64 a1_1, .string a1_2, .bool a1_3, .int .i64 a1_4, .slice A1_5 l1_5.length c1_5, .slice A1_6 l1_6.length c1_6] 57 (0, 0)) (by (with_reducible repeat (first | refine blk_drewN ?_ _ | refine blk_drew ?_ | refine blk_alloc ?_ _)); exact BK395.out) hb); have n2_ := Aside0.mk (below_step (by repeat (first | (with_reducible first | exact HB.out | apply below_alloc | apply pw_below_drewN | apply below_drew1 | refine below_set ?_ GE394.out | refine below_set ?_ GE395.out) | exact HB.out)) hb); clear BK394; clear BK395; clear HB; have BK394 := n0_; have BK395 := n1_; have HB := n2_; clear n0_ n1_ n2_; (try clear hb); (try clear hb2); (try clear hk); (try clear hi); have hcz17_0 : w16.cell? ⟨gb394, 0, none⟩ = some (.string a0_0) := (blk_cell BK394.out 0).trans rfl; have hcz17_1 : w16.cell? ⟨gb394, 1, none⟩ = some (.int .i64 a0_1) := (blk_cell BK394.out 1).trans rfl; have hcz17_2 : w16.cell? ⟨gb394, 2, none⟩ = some (.string a0_2) := (blk_cell BK394.out 2).trans rfl; have hcz17_3 : w16.cell? ⟨gb394, 3, none⟩ = some (.bool a0_3) := (blk_cell BK394.out 3).trans rfl; have hcz17_4 : w16.cell? ⟨gb394, 4, none⟩ = some (.int .i64 a0_4) := (blk_cell BK394.out 4).trans rfl; have hcz17_5 : w16.cell? ⟨gb394, 5, none⟩ = some (.slice A0_5 l0_5.length c0_5) := (blk_cell BK394.out 5).trans rfl; have hcz17_6 : w16.cell? ⟨gb394, 6, none⟩ = some (.slice A0_6 l0_6.length c0_6) := (blk_cell BK394.out 6).trans rfl; have hfz17_0 := blk_frozen BK394.out 0; have hfz17_1 := blk_frozen BK394.out 1; have hfz17_2 := blk_frozen BK394.out 2; have hfz17_3 := blk_frozen BK394.out 3; have hfz17_4 := blk_frozen BK394.out 4; have hfz17_5 := blk_frozen BK394.out 5; have hfz17_6 := blk_frozen BK394.out 6; have hcz18_0 : w16.cell? ⟨gb395, 0, none⟩ = some (.string a1_0) := (blk_cell BK395.out 0).trans rfl; have hcz18_1 : w16.cell? ⟨gb395, 1, none⟩ = some (.int .i64 a1_1) := (blk_cell BK395.out 1).trans rfl; have hcz18_2 : w16.cell? ⟨gb395, 2, none⟩ = some (.string a1_2) := (blk_cell BK395.out 2).trans rfl; have hcz18_3 : w16.cell? ⟨gb395, 3, none⟩ = some (.bool a1_3) := (blk_cell BK395.out 3).trans rfl; have hcz18_4 : w16.cell? ⟨gb395, 4, none⟩ = some (.int .i64 a1_4) := (blk_cell BK395.out 4).trans rfl; have hcz18_5 : w16.cell? ⟨gb395, 5, none⟩ = some (.slice A1_5 l1_5.length c1_5) := (blk_cell BK395.out 5).trans rfl; have hcz18_6 : w16.cell? ⟨gb395, 6, none⟩ = some (.slice A1_6 l1_6.length c1_6) := (blk_cell BK395.out 6).trans rfl; have hfz18_0 := blk_frozen BK395.out 0; have hfz18_1 := blk_frozen BK395.out 1; have hfz18_2 := blk_frozen BK395.out 2; have hfz18_3 := blk_frozen BK395.out 3; have hfz18_4 := blk_frozen BK395.out 4; have hfz18_5 := blk_frozen BK395.out 5; have hfz18_6 := blk_frozen BK395.out 6) | (go_at_call 69; (with_reducible refine (model_SameSentries.calls k _ _ l0_6 _ _ l1_6 t397 _ ?side1 ?side2 ?side3 ?side4 A10.out).mono ?_); (case side1 => repeat (first | exact (Kd.C_below HR0_6.out HB.out) | (with_reducible refine Kd.C_alloc ?_ _) | (with_reducible refine Kd.C_drewN ?_ _) | (with_reducible refine Kd.C_drew ?_))); (case side2 => exact HC0_6.out); (case side3 => repeat (first | exact (Kd.C_below HR1_6.out HB.out) | (with_reducible refine Kd.C_alloc ?_ _) | (with_reducible refine Kd.C_drewN ?_ _) | (with_reducible refine Kd.C_drew ?_))); (case side4 => exact HC1_6.out); rintro e w19 ⟨rfl, hb⟩; have n0_ := Aside0.mk (blk_below (g := gb394) (o := .cells #[.string a0_0, .int .i64 a0_1, .string a0_2, .bool a0_3, .int .i64 a0_4, .slice A0_5 l0_5.length c0_5, .slice A0_6 l0_6.length c0_6] 57 (0, 0)) (by (with_reducible repeat (first | refine blk_drewN ?_ _ | refine blk_drew ?_ | refine blk_alloc ?_ _)); exact BK394.out) hb); have n1_ := Aside0.mk (blk_below (g := gb395) (o := .cells #[.string a1_0, .int .i64 a1_1, .string a1_2, .bool a1_3, .int .i64 a1_4, .slice A1_5 l1_5.length c1_5, .slice A1_6 l1_6.length c1_6] 57 (0, 0)) (by (with_reducible repeat (first | refine blk_drewN ?_ _ | refine blk_drew ?_ | refine blk_alloc ?_ _)); exact BK395.out) hb); have n2_ := Aside0.mk (below_step (by repeat (first | (with_reducible first | exact HB.out | apply below_alloc | apply pw_below_drewN | apply below_drew1 | refine below_set ?_ GE394.out | refine below_set ?_ GE395.out) | exact HB.out)) hb); clear BK394; clear BK395; clear HB; have BK394 := n0_; have BK395 := n1_; have HB := n2_; clear n0_ n1_ n2_; (try clear hb); (try clear hb2); (try clear hk); (try clear hi)))
              go_ret
              exact ⟨by first | rfl | (simp [errW_none, errW_some] <;> rfl) | (simp [*, errW_none, errW_some] <;> rfl), by repeat (first | (with_reducible first | exact HB.out | apply below_alloc | apply pw_below_drewN | apply below_drew1 | refine below_set ?_ GE394.out | refine below_set ?_ GE395.out) | exact HB.out)⟩
            · replace c9 := Bool.eq_false_iff.mpr c9
              subst c9
              have H1 : (some false) = some r := by rw [if_neg (show ¬ (false = true) by decide)] at H; exact H
              clear H
              have H := H1
              clear H1
              obtain rfl := Option.some.inj H
              go_enter Try.func48, Try.ntmps48
              go_wp2_with (first | ((with_reducible refine gate_dst (N := 2) rfl ?_); refine box_event ?hg (N := 2) ?hd (cs := #[.string a0_0, .int .i64 a0_1, .string a0_2, .bool a0_3, .int .i64 a0_4, .slice A0_5 l0_5.length c0_5, .slice A0_6 l0_6.length c0_6]) (t := 57) ?hr ?_; (case hd => rfl); (case hg => rfl); (case hr => first | (go_simp; done) | (go_simp; rfl)); intro gb394 hg w20 hbox hb; have n0_ := Aside0.mk (below_step (by repeat (first | (with_reducible first | exact HB.out | apply below_alloc | apply pw_below_drewN | apply below_drew1) | exact HB.out)) hb); have n1_ := Aside0.mk (hbox); have n2_ := Aside0.mk ((by rw [hg]; exact (below_size (by repeat (first | (with_reducible first | exact HB.out | apply below_alloc | apply pw_below_drewN | apply below_drew1) | exact HB.out))) : w.heap.size ≤ gb394)); have n3_ := Aside0.mk ((by rw [hg]; exact (below_size (by repeat (first | (with_reducible first | exact HB.out | apply below_alloc | apply pw_below_drewN | apply below_drew1) | exact HB.out))) : w.heap.size ≤ gb394)); clear HB; have HB := n0_; have BK394 := n1_; have GW394 := n2_; have GE394 := n3_; clear n0_ n1_ n2_ n3_; clear hb hbox hg) | ((with_reducible refine gate_dst (N := 3) rfl ?_); refine box_event ?hg (N := 3) ?hd (cs := #[.string a1_0, .int .i64 a1_1, .string a1_2, .bool a1_3, .int .i64 a1_4, .slice A1_5 l1_5.length c1_5, .slice A1_6 l1_6.length c1_6]) (t := 57) ?hr ?_; (case hd => rfl); (case hg => rfl); (case hr => first | (go_simp; done) | (go_simp; rfl)); intro gb395 hg w21 hbox hb; have n0_ := Aside0.mk (blk_below (g := gb394) (o := .cells #[.string a0_0, .int .i64 a0_1, .string a0_2, .bool a0_3, .int .i64 a0_4, .slice A0_5 l0_5.length c0_5, .slice A0_6 l0_6.length c0_6] 57 (0, 0)) (by (with_reducible repeat (first | refine blk_drewN ?_ _ | refine blk_drew ?_ | refine blk_alloc ?_ _)); exact BK394.out) hb); have n1_ := Aside0.mk (below_step (by repeat (first | (with_reducible first | exact HB.out | apply below_alloc | apply pw_below_drewN | apply below_drew1 | refine below_set ?_ GE394.out) | exact HB.out)) hb); have n2_ := Aside0.mk (hbox); have n3_ := Aside0.mk ((by rw [hg]; exact (below_size (by repeat (first | (with_reducible first | exact HB.out | apply below_alloc | apply pw_below_drewN | apply below_drew1 | refine below_set ?_ GE394.out) | exact HB.out))) : w.heap.size ≤ gb395)); have n4_ := Aside0.mk ((by rw [hg]; exact (below_size (by repeat (first | (with_reducible first | exact HB.out | apply below_alloc | apply pw_below_drewN | apply below_drew1 | refine below_set ?_ GE394.out) | exact HB.out))) : w.heap.size ≤ gb395)); have n5_ := Aside0.mk ((by rw [hg]; exact Nat.ne_of_lt (blk_lt (g := gb394) (o := .cells #[.string a0_0, .int .i64 a0_1, .string a0_2, .bool a0_3, .int .i64 a0_4, .slice A0_5 l0_5.length c0_5, .slice A0_6 l0_6.length c0_6] 57 (0, 0)) (by (with_reducible repeat (first | refine blk_drewN ?_ _ | refine blk_drew ?_ | refine blk_alloc ?_ _)); exact BK394.out)) : gb394 ≠ gb395)); have n6_ := Aside0.mk ((by rw [hg]; exact Nat.ne_of_gt (blk_lt (g := gb394) (o := .cells #[.string a0_0, .int .i64 a0_1, .string a0_2, .bool a0_3, .int .i64 a0_4, .slice A0_5 l0_5.length c0_5, .slice A0_6 l0_6.length c0_6] 57 (0, 0)) (by (with_reducible repeat (first | refine blk_drewN ?_ _ | refine blk_drew ?_ | refine blk_alloc ?_ _)); exact BK394.out)) : gb395 ≠ gb394)); clear BK394; clear HB; have BK394 := n0_; have HB := n1_; have BK395 := n2_; have GW395 := n3_; have GE395 := n4_; have NB394_395 := n5_; have NB395_394 := n6_; clear n0_ n1_ n2_ n3_ n4_ n5_ n6_; clear hb hbox hg; have hnb22 := NB394_395.out; have hnc22 := NB395_394.out; have hcz23_0 : w21.cell? ⟨gb394, 0, none⟩ = some (.string a0_0) := (blk_cell BK394.out 0).trans rfl; have hcz23_1 : w21.cell? ⟨gb394, 1, none⟩ = some (.int .i64 a0_1) := (blk_cell BK394.out 1).trans rfl; have hcz23_2 : w21.cell? ⟨gb394, 2, none⟩ = some (.string a0_2) := (blk_cell BK394.out 2).trans rfl; have hcz23_3 : w21.cell? ⟨gb394, 3, none⟩ = some (.bool a0_3) := (blk_cell BK394.out 3).trans rfl; have hcz23_4 : w21.cell? ⟨gb394, 4, none⟩ = some (.int .i64 a0_4) := (blk_cell BK394.out 4).trans rfl; have hcz23_5 : w21.cell? ⟨gb394, 5, none⟩ = some (.slice A0_5 l0_5.length c0_5) := (blk_cell BK394.out 5).trans rfl; have hcz23_6 : w21.cell? ⟨gb394, 6, none⟩ = some (.slice A0_6 l0_6.length c0_6) := (blk_cell BK394.out 6).trans rfl; have hfz23_0 := blk_frozen BK394.out 0; have hfz23_1 := blk_frozen BK394.out 1; have hfz23_2 := blk_frozen BK394.out 2; have hfz23_3 := blk_frozen BK394.out 3; have hfz23_4 := blk_frozen BK394.out 4; have hfz23_5 := blk_frozen BK394.out 5; have hfz23_6 := blk_frozen BK394.out 6; have hcz24_0 : w21.cell? ⟨gb395, 0, none⟩ = some (.string a1_0) := (blk_cell BK395.out 0).trans rfl; have hcz24_1 : w21.cell? ⟨gb395, 1, none⟩ = some (.int .i64 a1_1) := (blk_cell BK395.out 1).trans rfl; have hcz24_2 : w21.cell? ⟨gb395, 2, none⟩ = some (.string a1_2) := (blk_cell BK395.out 2).trans rfl; have hcz24_3 : w21.cell? ⟨gb395, 3, none⟩ = some (.bool a1_3) := (blk_cell BK395.out 3).trans rfl; have hcz24_4 : w21.cell? ⟨gb395, 4, none⟩ = some (.int .i64 a1_4) := (blk_cell BK395.out 4).trans rfl; have hcz24_5 : w21.cell? ⟨gb395, 5, none⟩ = some (.slice A1_5 l1_5.length c1_5) := (blk_cell BK395.out 5).trans rfl; have hcz24_6 : w21.cell? ⟨gb395, 6, none⟩ = some (.slice A1_6 l1_6.length c1_6) := (blk_cell BK395.out 6).trans rfl; have hfz24_0 := blk_frozen BK395.out 0; have hfz24_1 := blk_frozen BK395.out 1; have hfz24_2 := blk_frozen BK395.out 2; have hfz24_3 := blk_frozen BK395.out 3; have hfz24_4 := blk_frozen BK395.out 4; have hfz24_5 := blk_frozen BK395.out 5; have hfz24_6 := blk_frozen BK395.out 6) | (go_at_call 69; (with_reducible refine (model_SameSentries.calls k _ _ l0_5 _ _ l1_5 false _ ?side1 ?side2 ?side3 ?side4 A8.out).mono ?_); (case side1 => repeat (first | exact (Kd.C_below HR0_5.out HB.out) | (with_reducible refine Kd.C_alloc ?_ _) | (with_reducible refine Kd.C_drewN ?_ _) | (with_reducible refine Kd.C_drew ?_))); (case side2 => exact HC0_5.out); (case side3 => repeat (first | exact (Kd.C_below HR1_5.out HB.out) | (with_reducible refine Kd.C_alloc ?_ _) | (with_reducible refine Kd.C_drewN ?_ _) | (with_reducible refine Kd.C_drew ?_))); (case side4 => exact HC1_5.out); rintro e w25 ⟨rfl, hb⟩; have n0_ := Aside0.mk (blk_below (g := gb394) (o := .cells #[.string a0_0, .int .i64 a0_1, .string a0_2, .bool a0_3, .int .i64 a0_4, .slice A0_5 l0_5.length c0_5, .slice A0_6 l0_6.length c0_6] 57 (0, 0)) (by (with_reducible repeat (first | refine blk_drewN ?_ _ | refine blk_drew ?_ | refine blk_alloc ?_ _)); exact BK394.out) hb); have n1_ := Aside0.mk (blk_below (g := gb395) (o := .cells #[.string a1_0, .int .i64 a1_1, .string a1_2, .bool a1_3, .int .i64 a1_4, .slice A1_5 l1_5.length c1_5, .slice A1_6 l1_6.length c1_6] 57 (0, 0)) (by (with_reducible repeat (first | refine blk_drewN ?_ _ | refine blk_drew ?_ | refine blk_alloc ?_ _)); exact BK395.out) hb); have n2_ := Aside0.mk (below_step (by repeat (first | (with_reducible first | exact HB.out | apply below_alloc | apply pw_below_drewN | apply below_drew1 | refine below_set ?_ GE394.out | refine below_set ?_ GE395.out) | exact HB.out)) hb); clear BK394; clear BK395; clear HB; have BK394 := n0_; have BK395 := n1_; have HB := n2_; clear n0_ n1_ n2_; (try clear hb); (try clear hb2); (try clear hk); (try clear hi)))
              go_ret
              exact ⟨by first | rfl | (simp [errW_none, errW_some] <;> rfl) | (simp [*, errW_none, errW_some] <;> rfl), by repeat (first | (with_reducible first | exact HB.out | apply below_alloc | apply pw_below_drewN | apply below_drew1 | refine below_set ?_ GE394.out | refine below_set ?_ GE395.out) | exact HB.out)⟩
          · rw [if_neg c7] at H
            have c7b0 : (a0_4 == a1_4) = false := beq_eq_false_iff_ne.mpr c7
            have c7b1 : (a0_4 != a1_4) = true := bne_iff_ne.mpr c7
            obtain rfl := Option.some.inj H
            go_enter Try.func48, Try.ntmps48
            go_wp2_with (first | ((with_reducible refine gate_dst (N := 2) rfl ?_); refine box_event ?hg (N := 2) ?hd (cs := #[.string a0_0, .int .i64 a0_1, .string a0_2, .bool a0_3, .int .i64 a0_4, .slice A0_5 l0_5.length c0_5, .slice A0_6 l0_6.length c0_6]) (t := 57) ?hr ?_; (case hd => rfl); (case hg => rfl); (case hr => first | (go_simp; done) | (go_simp; rfl)); intro gb394 hg w26 hbox hb; have n0_ := Aside0.mk (below_step (by repeat (first | (with_reducible first | exact HB.out | apply below_alloc | apply pw_below_drewN | apply below_drew1) | exact HB.out)) hb); have n1_ := Aside0.mk (hbox); have n2_ := Aside0.mk ((by rw [hg]; exact (below_size (by repeat (first | (with_reducible first | exact HB.out | apply below_alloc | apply pw_below_drewN | apply below_drew1) | exact HB.out))) : w.heap.size ≤ gb394)); have n3_ := Aside0.mk ((by rw [hg]; exact (below_size (by repeat (first | (with_reducible first | exact HB.out | apply below_alloc | apply pw_below_drewN | apply below_drew1) | exact HB.out))) : w.heap.size ≤ gb394)); clear HB; have HB := n0_; have BK394 := n1_; have GW394 := n2_; have GE394 := n3_; clear n0_ n1_ n2_ n3_; clear hb hbox hg) | ((with_reducible refine gate_dst (N := 3) rfl ?_); refine box_event ?hg (N := 3) ?hd (cs := #[.string a1_0, .int .i64 a1_1, .string a1_2, .bool a1_3, .int .i64 a1_4, .slice A1_5 l1_5.length c1_5, .slice A1_6 l1_6.length c1_6]) (t := 57) ?hr ?_; (case hd => rfl); (case hg => rfl); (case hr => first | (go_simp; done) | (go_simp; rfl)); intro gb395 hg w27 hbox hb; have n0_ := Aside0.mk (blk_below (g := gb394) (o := .cells #[.string a0_0, .int .i64 a0_1, .string a0_2, .bool a0_3, .int .i64 a0_4, .slice A0_5 l0_5.length c0_5, .slice A0_6 l0_6.length c0_6] 57 (0, 0)) (by (with_reducible repeat (first | refine blk_drewN ?_ _ | refine blk_drew ?_ | refine blk_alloc ?_ _)); exact BK394.out) hb); have n1_ := Aside0.mk (below_step (by repeat (first | (with_reducible first | exact HB.out | apply below_alloc | apply pw_below_drewN | apply below_drew1 | refine below_set ?_ GE394.out) | exact HB.out)) hb); have n2_ := Aside0.mk (hbox); have n3_ := Aside0.mk ((by rw [hg]; exact (below_size (by repeat (first | (with_reducible first | exact HB.out | apply below_alloc | apply pw_below_drewN | apply below_drew1 | refine below_set ?_ GE394.out) | exact HB.out))) : w.heap.size ≤ gb395)); have n4_ := Aside0.mk ((by rw [hg]; exact (below_size (by repeat (first | (with_reducible first | exact HB.out | apply below_alloc | apply pw_below_drewN | apply below_drew1 | refine below_set ?_ GE394.out) | exact HB.out))) : w.heap.size ≤ gb395)); have n5_ := Aside0.mk ((by rw [hg]; exact Nat.ne_of_lt (blk_lt (g := gb394) (o := .cells #[.string a0_0, .int .i64 a0_1, .string a0_2, .bool a0_3, .int .i64 a0_4, .slice A0_5 l0_5.length c0_5, .slice A0_6 l0_6.length c0_6] 57 (0, 0)) (by (with_reducible repeat (first | refine blk_drewN ?_ _ | refine blk_drew ?_ | refine blk_alloc ?_ _)); exact BK394.out)) : gb394 ≠ gb395)); have n6_ := Aside0.mk ((by rw [hg]; exact Nat.ne_of_gt (blk_lt (g := gb394) (o := .cells #[.string a0_0, .int .i64 a0_1, .string a0_2, .bool a0_3, .int .i64 a0_4, .slice A0_5 l0_5.length c0_5, .slice A0_6 l0_6.length c0_6] 57 (0, 0)) (by (with_reducible repeat (first | refine blk_drewN ?_ _ | refine blk_drew ?_ | refine blk_alloc ?_ _)); exact BK394.out)) : gb395 ≠ gb394)); clear BK394; clear HB; have BK394 := n0_; have HB := n1_; have BK395 := n2_; have GW395 := n3_; have GE395 := n4_; have NB394_395 := n5_; have NB395_394 := n6_; clear n0_ n1_ n2_ n3_ n4_ n5_ n6_; clear hb hbox hg; have hnb28 := NB394_395.out; have hnc28 := NB395_394.out; have hcz29_0 : w27.cell? ⟨gb394, 0, none⟩ = some (.string a0_0) := (blk_cell BK394.out 0).trans rfl; have hcz29_1 : w27.cell? ⟨gb394, 1, none⟩ = some (.int .i64 a0_1) := (blk_cell BK394.out 1).trans rfl; have hcz29_2 : w27.cell? ⟨gb394, 2, none⟩ = some (.string a0_2) := (blk_cell BK394.out 2).trans rfl; have hcz29_3 : w27.cell? ⟨gb394, 3, none⟩ = some (.bool a0_3) := (blk_cell BK394.out 3).trans rfl; have hcz29_4 : w27.cell? ⟨gb394, 4, none⟩ = some (.int .i64 a0_4) := (blk_cell BK394.out 4).trans rfl; have hcz29_5 : w27.cell? ⟨gb394, 5, none⟩ = some (.slice A0_5 l0_5.length c0_5) := (blk_cell BK394.out 5).trans rfl; have hcz29_6 : w27.cell? ⟨gb394, 6, none⟩ = some (.slice A0_6 l0_6.length c0_6) := (blk_cell BK394.out 6).trans rfl; have hfz29_0 := blk_frozen BK394.out 0; have hfz29_1 := blk_frozen BK394.out 1; have hfz29_2 := blk_frozen BK394.out 2; have hfz29_3 := blk_frozen BK394.out 3; have hfz29_4 := blk_frozen BK394.out 4; have hfz29_5 := blk_frozen BK394.out 5; have hfz29_6 := blk_frozen BK394.out 6; have hcz30_0 : w27.cell? ⟨gb395, 0, none⟩ = some (.string a1_0) := (blk_cell BK395.out 0).trans rfl; have hcz30_1 : w27.cell? ⟨gb395, 1, none⟩ = some (.int .i64 a1_1) := (blk_cell BK395.out 1).trans rfl; have hcz30_2 : w27.cell? ⟨gb395, 2, none⟩ = some (.string a1_2) := (blk_cell BK395.out 2).trans rfl; have hcz30_3 : w27.cell? ⟨gb395, 3, none⟩ = some (.bool a1_3) := (blk_cell BK395.out 3).trans rfl; have hcz30_4 : w27.cell? ⟨gb395, 4, none⟩ = some (.int .i64 a1_4) := (blk_cell BK395.out 4).trans rfl; have hcz30_5 : w27.cell? ⟨gb395, 5, none⟩ = some (.slice A1_5 l1_5.length c1_5) := (blk_cell BK395.out 5).trans rfl; have hcz30_6 : w27.cell? ⟨gb395, 6, none⟩ = some (.slice A1_6 l1_6.length c1_6) := (blk_cell BK395.out 6).trans rfl; have hfz30_0 := blk_frozen BK395.out 0; have hfz30_1 := blk_frozen BK395.out 1; have hfz30_2 := blk_frozen BK395.out 2; have hfz30_3 := blk_frozen BK395.out 3; have hfz30_4 := blk_frozen BK395.out 4; have hfz30_5 := blk_frozen BK395.out 5; have hfz30_6 := blk_frozen BK395.out 6))
            go_ret
            exact ⟨by first | rfl | (simp [errW_none, errW_some] <;> rfl) | (simp [*, errW_none, errW_some] <;> rfl), by repeat (first | (with_reducible first | exact HB.out | apply below_alloc | apply pw_below_drewN | apply below_drew1 | refine below_set ?_ GE394.out | refine below_set ?_ GE395.out) | exact HB.out)⟩
        · rw [if_neg c6] at H
          have c6b0 : (a0_3 == a1_3) = false := by simpa using c6
          (try (have c6b1 : decide (a0_3 = a1_3) = false := by simpa using c6))
          (try (have c6b2 : (a0_3 == a1_3) = false := by simpa using c6))
          (try (have c6b3 : ¬ (a0_3 = a1_3) := by simpa using c6))
          clear c6
          obtain rfl := Option.some.inj H
          go_enter Try.func48, Try.ntmps48
          go_wp2_with (first | ((with_reducible refine gate_dst (N := 2) rfl ?_); refine box_event ?hg (N := 2) ?hd (cs := #[.string a0_0, .int .i64 a0_1, .string a0_2, .bool a0_3, .int .i64 a0_4, .slice A0_5 l0_5.length c0_5, .slice A0_6 l0_6.length c0_6]) (t := 57) ?hr ?_; (case hd => rfl); (case hg => rfl); (case hr => first | (go_simp; done) | (go_simp; rfl)); intro gb394 hg w31 hbox hb; have n0_ := Aside0.mk (below_step (by repeat (first | (with_reducible first | exact HB.out | apply below_alloc | apply pw_below_drewN | apply below_drew1) | exact HB.out)) hb); have n1_ := Aside0.mk (hbox); have n2_ := Aside0.mk ((by rw [hg]; exact (below_size (by repeat (first | (with_reducible first | exact HB.out | apply below_alloc | apply pw_below_drewN | apply below_drew1) | exact HB.out))) : w.heap.size ≤ gb394)); have n3_ := Aside0.mk ((by rw [hg]; exact (below_size (by repeat (first | (with_reducible first | exact HB.out | apply below_alloc | apply pw_below_drewN | apply below_drew1) | exact HB.out))) : w.heap.size ≤ gb394)); clear HB; have HB := n0_; have BK394 := n1_; have GW394 := n2_; have GE394 := n3_; clear n0_ n1_ n2_ n3_; clear hb hbox hg) | ((with_reducible refine gate_dst (N := 3) rfl ?_); refine box_event ?hg (N := 3) ?hd (cs := #[.string a1_0, .int .i64 a1_1, .string a1_2, .bool a1_3, .int .i64 a1_4, .slice A1_5 l1_5.length c1_5, .slice A1_6 l1_6.length c1_6]) (t := 57) ?hr ?_; (case hd => rfl); (case hg => rfl); (case hr => first | (go_simp; done) | (go_simp; rfl)); intro gb395 hg w32 hbox hb; have n0_ := Aside0.mk (blk_below (g := gb394) (o := .cells #[.string a0_0, .int .i64 a0_1, .string a0_2, .bool a0_3, .int .i64 a0_4, .slice A0_5 l0_5.length c0_5, .slice A0_6 l0_6.length c0_6] 57 (0, 0)) (by (with_reducible repeat (first | refine blk_drewN ?_ _ | refine blk_drew ?_ | refine blk_alloc ?_ _)); exact BK394.out) hb); have n1_ := Aside0.mk (below_step (by repeat (first | (with_reducible first | exact HB.out | apply below_alloc | apply pw_below_drewN | apply below_drew1 | refine below_set ?_ GE394.out) | exact HB.out)) hb); have n2_ := Aside0.mk (hbox); have n3_ := Aside0.mk ((by rw [hg]; exact (below_size (by repeat (first | (with_reducible first | exact HB.out | apply below_alloc | apply pw_below_drewN | apply below_drew1 | refine below_set ?_ GE394.out) | exact HB.out))) : w.heap.size ≤ gb395)); have n4_ := Aside0.mk ((by rw [hg]; exact (below_size (by repeat (first | (with_reducible first | exact HB.out | apply below_alloc | apply pw_below_drewN | apply below_drew1 | refine below_set ?_ GE394.out) | exact HB.out))) : w.heap.size ≤ gb395)); have n5_ := Aside0.mk ((by rw [hg]; exact Nat.ne_of_lt (blk_lt (g := gb394) (o := .cells #[.string a0_0, .int .i64 a0_1, .string a0_2, .bool a0_3, .int .i64 a0_4, .slice A0_5 l0_5.length c0_5, .slice A0_6 l0_6.length c0_6] 57 (0, 0)) (by (with_reducible repeat (first | refine blk_drewN ?_ _ | refine blk_drew ?_ | refine blk_alloc ?_ _)); exact BK394.out)) : gb394 ≠ gb395)); have n6_ := Aside0.mk ((by rw [hg]; exact Nat.ne_of_gt (blk_lt (g := gb394) (o := .cells #[.string a0_0, .int .i64 a0_1, .string a0_2, .bool a0_3, .int .i64 a0_4, .slice A0_5 l0_5.length c0_5, .slice A0_6 l0_6.length c0_6] 57 (0, 0)) (by (with_reducible repeat (first | refine blk_drewN ?_ _ | refine blk_drew ?_ | refine blk_alloc ?_ _)); exact BK394.out)) : gb395 ≠ gb394)); clear BK394; clear HB; have BK394 := n0_; have HB := n1_; have BK395 := n2_; have GW395 := n3_; have GE395 := n4_; have NB394_395 := n5_; have NB395_394 := n6_; clear n0_ n1_ n2_ n3_ n4_ n5_ n6_; clear hb hbox hg; have hnb33 := NB394_395.out; have hnc33 := NB395_394.out; have hcz34_0 : w32.cell? ⟨gb394, 0, none⟩ = some (.string a0_0) := (blk_cell BK394.out 0).trans rfl; have hcz34_1 : w32.cell? ⟨gb394, 1, none⟩ = some (.int .i64 a0_1) := (blk_cell BK394.out 1).trans rfl; have hcz34_2 : w32.cell? ⟨gb394, 2, none⟩ = some (.string a0_2) := (blk_cell BK394.out 2).trans rfl; have hcz34_3 : w32.cell? ⟨gb394, 3, none⟩ = some (.bool a0_3) := (blk_cell BK394.out 3).trans rfl; have hcz34_4 : w32.cell? ⟨gb394, 4, none⟩ = some (.int .i64 a0_4) := (blk_cell BK394.out 4).trans rfl; have hcz34_5 : w32.cell? ⟨gb394, 5, none⟩ = some (.slice A0_5 l0_5.length c0_5) := (blk_cell BK394.out 5).trans rfl; have hcz34_6 : w32.cell? ⟨gb394, 6, none⟩ = some (.slice A0_6 l0_6.length c0_6) := (blk_cell BK394.out 6).trans rfl; have hfz34_0 := blk_frozen BK394.out 0; have hfz34_1 := blk_frozen BK394.out 1; have hfz34_2 := blk_frozen BK394.out 2; have hfz34_3 := blk_frozen BK394.out 3; have hfz34_4 := blk_frozen BK394.out 4; have hfz34_5 := blk_frozen BK394.out 5; have hfz34_6 := blk_frozen BK394.out 6; have hcz35_0 : w32.cell? ⟨gb395, 0, none⟩ = some (.string a1_0) := (blk_cell BK395.out 0).trans rfl; have hcz35_1 : w32.cell? ⟨gb395, 1, none⟩ = some (.int .i64 a1_1) := (blk_cell BK395.out 1).trans rfl; have hcz35_2 : w32.cell? ⟨gb395, 2, none⟩ = some (.string a1_2) := (blk_cell BK395.out 2).trans rfl; have hcz35_3 : w32.cell? ⟨gb395, 3, none⟩ = some (.bool a1_3) := (blk_cell BK395.out 3).trans rfl; have hcz35_4 : w32.cell? ⟨gb395, 4, none⟩ = some (.int .i64 a1_4) := (blk_cell BK395.out 4).trans rfl; have hcz35_5 : w32.cell? ⟨gb395, 5, none⟩ = some (.slice A1_5 l1_5.length c1_5) := (blk_cell BK395.out 5).trans rfl; have hcz35_6 : w32.cell? ⟨gb395, 6, none⟩ = some (.slice A1_6 l1_6.length c1_6) := (blk_cell BK395.out 6).trans rfl; have hfz35_0 := blk_frozen BK395.out 0; have hfz35_1 := blk_frozen BK395.out 1; have hfz35_2 := blk_frozen BK395.out 2; have hfz35_3 := blk_frozen BK395.out 3; have hfz35_4 := blk_frozen BK395.out 4; have hfz35_5 := blk_frozen BK395.out 5; have hfz35_6 := blk_frozen BK395.out 6))
          go_ret
          exact ⟨by first | rfl | (simp [errW_none, errW_some] <;> rfl) | (simp [*, errW_none, errW_some] <;> rfl), by repeat (first | (with_reducible first | exact HB.out | apply below_alloc | apply pw_below_drewN | apply below_drew1 | refine below_set ?_ GE394.out | refine below_set ?_ GE395.out) | exact HB.out)⟩
      · rw [if_neg c5] at H
        have c5b0 : (a0_2.toList == a1_2.toList) = false := beq_eq_false_iff_ne.mpr c5
        have c5b1 : (a0_2.toList != a1_2.toList) = true := bne_iff_ne.mpr c5
        obtain rfl := Option.some.inj H
        go_enter Try.func48, Try.ntmps48
        go_wp2_with (first | ((with_reducible refine gate_dst (N := 2) rfl ?_); refine box_event ?hg (N := 2) ?hd (cs := #[.string a0_0, .int .i64 a0_1, .string a0_2, .bool a0_3, .int .i64 a0_4, .slice A0_5 l0_5.length c0_5, .slice A0_6 l0_6.length c0_6]) (t := 57) ?hr ?_; (case hd => rfl); (case hg => rfl); (case hr => first | (go_simp; done) | (go_simp; rfl)); intro gb394 hg w36 hbox hb; have n0_ := Aside0.mk (below_step (by repeat (first | (with_reducible first | exact HB.out | apply below_alloc | apply pw_below_drewN | apply below_drew1) | exact HB.out)) hb); have n1_ := Aside0.mk (hbox); have n2_ := Aside0.mk ((by rw [hg]; exact (below_size (by repeat (first | (with_reducible first | exact HB.out | apply below_alloc | apply pw_below_drewN | apply below_drew1) | exact HB.out))) : w.heap.size ≤ gb394)); have n3_ := Aside0.mk ((by rw [hg]; exact (below_size (by repeat (first | (with_reducible first | exact HB.out | apply below_alloc | apply pw_below_drewN | apply below_drew1) | exact HB.out))) : w.heap.size ≤ gb394)); clear HB; have HB := n0_; have BK394 := n1_; have GW394 := n2_; have GE394 := n3_; clear n0_ n1_ n2_ n3_; clear hb hbox hg) | ((with_reducible refine gate_dst (N := 3) rfl ?_); refine box_event ?hg (N := 3) ?hd (cs := #[.string a1_0, .int .i64 a1_1, .string a1_2, .bool a1_3, .int .i64 a1_4, .slice A1_5 l1_5.length c1_5, .slice A1_6 l1_6.length c1_6]) (t := 57) ?hr ?_; (case hd => rfl); (case hg => rfl); (case hr => first | (go_simp; done) | (go_simp; rfl)); intro gb395 hg w37 hbox hb; have n0_ := Aside0.mk (blk_below (g := gb394) (o := .cells #[.string a0_0, .int .i64 a0_1, .string a0_2, .bool a0_3, .int .i64 a0_4, .slice A0_5 l0_5.length c0_5, .slice A0_6 l0_6.length c0_6] 57 (0, 0)) (by (with_reducible repeat (first | refine blk_drewN ?_ _ | refine blk_drew ?_ | refine blk_alloc ?_ _)); exact BK394.out) hb); have n1_ := Aside0.mk (below_step (by repeat (first | (with_reducible first | exact HB.out | apply below_alloc | apply pw_below_drewN | apply below_drew1 | refine below_set ?_ GE394.out) | exact HB.out)) hb); have n2_ := Aside0.mk (hbox); have n3_ := Aside0.mk ((by rw [hg]; exact (below_size (by repeat (first | (with_reducible first | exact HB.out | apply below_alloc | apply pw_below_drewN | apply below_drew1 | refine below_set ?_ GE394.out) | exact HB.out))) : w.heap.size ≤ gb395)); have n4_ := Aside0.mk ((by rw [hg]; exact (below_size (by repeat (first | (with_reducible first | exact HB.out | apply below_alloc | apply pw_below_drewN | apply below_drew1 | refine below_set ?_ GE394.out) | exact HB.out))) : w.heap.size ≤ gb395)); have n5_ := Aside0.mk ((by rw [hg]; exact Nat.ne_of_lt (blk_lt (g := gb394) (o := .cells #[.string a0_0, .int .i64 a0_1, .string a0_2, .bool a0_3, .int .i64 a0_4, .slice A0_5 l0_5.length c0_5, .slice A0_6 l0_6.length c0_6] 57 (0, 0)) (by (with_reducible repeat (first | refine blk_drewN ?_ _ | refine blk_drew ?_ | refine blk_alloc ?_ _)); exact BK394.out)) : gb394 ≠ gb395)); have n6_ := Aside0.mk ((by rw [hg]; exact Nat.ne_of_gt (blk_lt (g := gb394) (o := .cells #[.string a0_0, .int .i64 a0_1, .string a0_2, .bool a0_3, .int .i64 a0_4, .slice A0_5 l0_5.length c0_5, .slice A0_6 l0_6.length c0_6] 57 (0, 0)) (by (with_reducible repeat (first | refine blk_drewN ?_ _ | refine blk_drew ?_ | refine blk_alloc ?_ _)); exact BK394.out)) : gb395 ≠ gb394)); clear BK394; clear HB; have BK394 := n0_; have HB := n1_; have BK395 := n2_; have GW395 := n3_; have GE395 := n4_; have NB394_395 := n5_; have NB395_394 := n6_; clear n0_ n1_ n2_ n3_ n4_ n5_ n6_; clear hb hbox hg; have hnb38 := NB394_395.out; have hnc38 := NB395_394.out; have hcz39_0 : w37.cell? ⟨gb394, 0, none⟩ = some (.string a0_0) := (blk_cell BK394.out 0).trans rfl; have hcz39_1 : w37.cell? ⟨gb394, 1, none⟩ = some (.int .i64 a0_1) := (blk_cell BK394.out 1).trans rfl; have hcz39_2 : w37.cell? ⟨gb394, 2, none⟩ = some (.string a0_2) := (blk_cell BK394.out 2).trans rfl; have hcz39_3 : w37.cell? ⟨gb394, 3, none⟩ = some (.bool a0_3) := (blk_cell BK394.out 3).trans rfl; have hcz39_4 : w37.cell? ⟨gb394, 4, none⟩ = some (.int .i64 a0_4) := (blk_cell BK394.out 4).trans rfl; have hcz39_5 : w37.cell? ⟨gb394, 5, none⟩ = some (.slice A0_5 l0_5.length c0_5) := (blk_cell BK394.out 5).trans rfl; have hcz39_6 : w37.cell? ⟨gb394, 6, none⟩ = some (.slice A0_6 l0_6.length c0_6) := (blk_cell BK394.out 6).trans rfl; have hfz39_0 := blk_frozen BK394.out 0; have hfz39_1 := blk_frozen BK394.out 1; have hfz39_2 := blk_frozen BK394.out 2; have hfz39_3 := blk_frozen BK394.out 3; have hfz39_4 := blk_frozen BK394.out 4; have hfz39_5 := blk_frozen BK394.out 5; have hfz39_6 := blk_frozen BK394.out 6; have hcz40_0 : w37.cell? ⟨gb395, 0, none⟩ = some (.string a1_0) := (blk_cell BK395.out 0).trans rfl; have hcz40_1 : w37.cell? ⟨gb395, 1, none⟩ = some (.int .i64 a1_1) := (blk_cell BK395.out 1).trans rfl; have hcz40_2 : w37.cell? ⟨gb395, 2, none⟩ = some (.string a1_2) := (blk_cell BK395.out 2).trans rfl; have hcz40_3 : w37.cell? ⟨gb395, 3, none⟩ = some (.bool a1_3) := (blk_cell BK395.out 3).trans rfl; have hcz40_4 : w37.cell? ⟨gb395, 4, none⟩ = some (.int .i64 a1_4) := (blk_cell BK395.out 4).trans rfl; have hcz40_5 : w37.cell? ⟨gb395, 5, none⟩ = some (.slice A1_5 l1_5.length c1_5) := (blk_cell BK395.out 5).trans rfl; have hcz40_6 : w37.cell? ⟨gb395, 6, none⟩ = some (.slice A1_6 l1_6.length c1_6) := (blk_cell BK395.out 6).trans rfl; have hfz40_0 := blk_frozen BK395.out 0; have hfz40_1 := blk_frozen BK395.out 1; have hfz40_2 := blk_frozen BK395.out 2; have hfz40_3 := blk_frozen BK395.out 3; have hfz40_4 := blk_frozen BK395.out 4; have hfz40_5 := blk_frozen BK395.out 5; have hfz40_6 := blk_frozen BK395.out 6))
        go_ret
        exact ⟨by first | rfl | (simp [errW_none, errW_some] <;> rfl) | (simp [*, errW_none, errW_some] <;> rfl), by repeat (first | (with_reducible first | exact HB.out | apply below_alloc | apply pw_below_drewN | apply below_drew1 | refine below_set ?_ GE394.out | refine below_set ?_ GE395.out) | exact HB.out)⟩
    · rw [if_neg c4] at H
      have c4b0 : (a0_1 == a1_1) = false := beq_eq_false_iff_ne.mpr c4
      have c4b1 : (a0_1 != a1_1) = true := bne_iff_ne.mpr c4
      obtain rfl := Option.some.inj H
      go_enter Try.func48, Try.ntmps48
      go_wp2_with (first | ((with_reducible refine gate_dst (N := 2) rfl ?_); refine box_event ?hg (N := 2) ?hd (cs := #[.string a0_0, .int .i64 a0_1, .string a0_2, .bool a0_3, .int .i64 a0_4, .slice A0_5 l0_5.length c0_5, .slice A0_6 l0_6.length c0_6]) (t := 57) ?hr ?_; (case hd => rfl); (case hg => rfl); (case hr => first | (go_simp; done) | (go_simp; rfl)); intro gb394 hg w41 hbox hb; have n0_ := Aside0.mk (below_step (by repeat (first | (with_reducible first | exact HB.out | apply below_alloc | apply pw_below_drewN | apply below_drew1) | exact HB.out)) hb); have n1_ := Aside0.mk (hbox); have n2_ := Aside0.mk ((by rw [hg]; exact (below_size (by repeat (first | (with_reducible first | exact HB.out | apply below_alloc | apply pw_below_drewN | apply below_drew1) | exact HB.out))) : w.heap.size ≤ gb394)); have n3_ := Aside0.mk ((by rw [hg]; exact (below_size (by repeat (first | (with_reducible first | exact HB.out | apply below_alloc | apply pw_below_drewN | apply below_drew1) | exact HB.out))) : w.heap.size ≤ gb394)); clear HB; have HB := n0_; have BK394 := n1_; have GW394 := n2_; have GE394 := n3_; clear n0_ n1_ n2_ n3_; clear hb hbox hg) | ((with_reducible refine gate_dst (N := 3) rfl ?_); refine box_event ?hg (N := 3) ?hd (cs := #[.string a1_0, .int .i64 a1_1, .string a1_2, .bool a1_3, .int .i64 a1_4, .slice A1_5 l1_5.length c1_5, .slice A1_6 l1_6.length c1_6]) (t := 57) ?hr ?_; (case hd => rfl); (case hg => rfl); (case hr => first | (go_simp; done) | (go_simp; rfl)); intro gb395 hg w42 hbox hb; have n0_ := Aside0.mk (blk_below (g := gb394) (o := .cells #[.string a0_0, .int .i64 a0_1, .string a0_2, .bool a0_3, .int .i64 a0_4, .slice A0_5 l0_5.length c0_5, .slice A0_6 l0_6.length c0_6] 57 (0, 0)) (by (with_reducible repeat (first | refine blk_drewN ?_ _ | refine blk_drew ?_ | refine blk_alloc ?_ _)); exact BK394.out) hb); have n1_ := Aside0.mk (below_step (by repeat (first | (with_reducible first | exact HB.out | apply below_alloc | apply pw_below_drewN | apply below_drew1 | refine below_set ?_ GE394.out) | exact HB.out)) hb); have n2_ := Aside0.mk (hbox); have n3_ := Aside0.mk ((by rw [hg]; exact (below_size (by repeat (first | (with_reducible first | exact HB.out | apply below_alloc | apply pw_below_drewN | apply below_drew1 | refine below_set ?_ GE394.out) | exact HB.out))) : w.heap.size ≤ gb395)); have n4_ := Aside0.mk ((by rw [hg]; exact (below_size (by repeat (first | (with_reducible first | exact HB.out | apply below_alloc | apply pw_below_drewN | apply below_drew1 | refine below_set ?_ GE394.out) | exact HB.out))) : w.heap.size ≤ gb395)); have n5_ := Aside0.mk ((by rw [hg]; exact Nat.ne_of_lt (blk_lt (g := gb394) (o := .cells #[.string a0_0, .int .i64 a0_1, .string a0_2, .bool a0_3, .int .i64 a0_4, .slice A0_5 l0_5.length c0_5, .slice A0_6 l0_6.length c0_6] 57 (0, 0)) (by (with_reducible repeat (first | refine blk_drewN ?_ _ | refine blk_drew ?_ | refine blk_alloc ?_ _)); exact BK394.out)) : gb394 ≠ gb395)); have n6_ := Aside0.mk ((by rw [hg]; exact Nat.ne_of_gt (blk_lt (g := gb394) (o := .cells #[.string a0_0, .int .i64 a0_1, .string a0_2, .bool a0_3, .int .i64 a0_4, .slice A0_5 l0_5.length c0_5, .slice A0_6 l0_6.length c0_6] 57 (0, 0)) (by (with_reducible repeat (first | refine blk_drewN ?_ _ | refine blk_drew ?_ | refine blk_alloc ?_ _)); exact BK394.out)) : gb395 ≠ gb394)); clear BK394; clear HB; have BK394 := n0_; have HB := n1_; have BK395 := n2_; have GW395 := n3_; have GE395 := n4_; have NB394_395 := n5_; have NB395_394 := n6_; clear n0_ n1_ n2_ n3_ n4_ n5_ n6_; clear hb hbox hg; have hnb43 := NB394_395.out; have hnc43 := NB395_394.out; have hcz44_0 : w42.cell? ⟨gb394, 0, none⟩ = some (.string a0_0) := (blk_cell BK394.out 0).trans rfl; have hcz44_1 : w42.cell? ⟨gb394, 1, none⟩ = some (.int .i64 a0_1) := (blk_cell BK394.out 1).trans rfl; have hcz44_2 : w42.cell? ⟨gb394, 2, none⟩ = some (.string a0_2) := (blk_cell BK394.out 2).trans rfl; have hcz44_3 : w42.cell? ⟨gb394, 3, none⟩ = some (.bool a0_3) := (blk_cell BK394.out 3).trans rfl; have hcz44_4 : w42.cell? ⟨gb394, 4, none⟩ = some (.int .i64 a0_4) := (blk_cell BK394.out 4).trans rfl; have hcz44_5 : w42.cell? ⟨gb394, 5, none⟩ = some (.slice A0_5 l0_5.length c0_5) := (blk_cell BK394.out 5).trans rfl; have hcz44_6 : w42.cell? ⟨gb394, 6, none⟩ = some (.slice A0_6 l0_6.length c0_6) := (blk_cell BK394.out 6).trans rfl; have hfz44_0 := blk_frozen BK394.out 0; have hfz44_1 := blk_frozen BK394.out 1; have hfz44_2 := blk_frozen BK394.out 2; have hfz44_3 := blk_frozen BK394.out 3; have hfz44_4 := blk_frozen BK394.out 4; have hfz44_5 := blk_frozen BK394.out 5; have hfz44_6 := blk_frozen BK394.out 6; have hcz45_0 : w42.cell? ⟨gb395, 0, none⟩ = some (.string a1_0) := (blk_cell BK395.out 0).trans rfl; have hcz45_1 : w42.cell? ⟨gb395, 1, none⟩ = some (.int .i64 a1_1) := (blk_cell BK395.out 1).trans rfl; have hcz45_2 : w42.cell? ⟨gb395, 2, none⟩ = some (.string a1_2) := (blk_cell BK395.out 2).trans rfl; have hcz45_3 : w42.cell? ⟨gb395, 3, none⟩ = some (.bool a1_3) := (blk_cell BK395.out 3).trans rfl; have hcz45_4 : w42.cell? ⟨gb395, 4, none⟩ = some (.int .i64 a1_4) := (blk_cell BK395.out 4).trans rfl; have hcz45_5 : w42.cell? ⟨gb395, 5, none⟩ = some (.slice A1_5 l1_5.length c1_5) := (blk_cell BK395.out 5).trans rfl; have hcz45_6 : w42.cell? ⟨gb395, 6, none⟩ = some (.slice A1_6 l1_6.length c1_6) := (blk_cell BK395.out 6).trans rfl; have hfz45_0 := blk_frozen BK395.out 0; have hfz45_1 := blk_frozen BK395.out 1; have hfz45_2 := blk_frozen BK395.out 2; have hfz45_3 := blk_frozen BK395.out 3; have hfz45_4 := blk_frozen BK395.out 4; have hfz45_5 := blk_frozen BK395.out 5; have hfz45_6 := blk_frozen BK395.out 6))
      go_ret
      exact ⟨by first | rfl | (simp [errW_none, errW_some] <;> rfl) | (simp [*, errW_none, errW_some] <;> rfl), by repeat (first | (with_reducible first | exact HB.out | apply below_alloc | apply pw_below_drewN | apply below_drew1 | refine below_set ?_ GE394.out | refine below_set ?_ GE395.out) | exact HB.out)⟩
  · rw [if_neg c3] at H
    have c3b0 : (a0_0.toList == a1_0.toList) = false := beq_eq_false_iff_ne.mpr c3
    have c3b1 : (a0_0.toList != a1_0.toList) = true := bne_iff_ne.mpr c3
    obtain rfl := Option.some.inj H
    go_enter Try.func48, Try.ntmps48
    go_wp2_with (first | ((with_reducible refine gate_dst (N := 2) rfl ?_); refine box_event ?hg (N := 2) ?hd (cs := #[.string a0_0, .int .i64 a0_1, .string a0_2, .bool a0_3, .int .i64 a0_4, .slice A0_5 l0_5.length c0_5, .slice A0_6 l0_6.length c0_6]) (t := 57) ?hr ?_; (case hd => rfl); (case hg => rfl); (case hr => first | (go_simp; done) | (go_simp; rfl)); intro gb394 hg w46 hbox hb; have n0_ := Aside0.mk (below_step (by repeat (first | (with_reducible first | exact HB.out | apply below_alloc | apply pw_below_drewN | apply below_drew1) | exact HB.out)) hb); have n1_ := Aside0.mk (hbox); have n2_ := Aside0.mk ((by rw [hg]; exact (below_size (by repeat (first | (with_reducible first | exact HB.out | apply below_alloc | apply pw_below_drewN | apply below_drew1) | exact HB.out))) : w.heap.size ≤ gb394)); have n3_ := Aside0.mk ((by rw [hg]; exact (below_size (by repeat (first | (with_reducible first | exact HB.out | apply below_alloc | apply pw_below_drewN | apply below_drew1) | exact HB.out))) : w.heap.size ≤ gb394)); clear HB; have HB := n0_; have BK394 := n1_; have GW394 := n2_; have GE394 := n3_; clear n0_ n1_ n2_ n3_; clear hb hbox hg) | ((with_reducible refine gate_dst (N := 3) rfl ?_); refine box_event ?hg (N := 3) ?hd (cs := #[.string a1_0, .int .i64 a1_1, .string a1_2, .bool a1_3, .int .i64 a1_4, .slice A1_5 l1_5.length c1_5, .slice A1_6 l1_6.length c1_6]) (t := 57) ?hr ?_; (case hd => rfl); (case hg => rfl); (case hr => first | (go_simp; done) | (go_simp; rfl)); intro gb395 hg w47 hbox hb; have n0_ := Aside0.mk (blk_below (g := gb394) (o := .cells #[.string a0_0, .int .i64 a0_1, .string a0_2, .bool a0_3, .int .i64 a0_4, .slice A0_5 l0_5.length c0_5, .slice A0_6 l0_6.length c0_6] 57 (0, 0)) (by (with_reducible repeat (first | refine blk_drewN ?_ _ | refine blk_drew ?_ | refine blk_alloc ?_ _)); exact BK394.out) hb); have n1_ := Aside0.mk (below_step (by repeat (first | (with_reducible first | exact HB.out | apply below_alloc | apply pw_below_drewN | apply below_drew1 | refine below_set ?_ GE394.out) | exact HB.out)) hb); have n2_ := Aside0.mk (hbox); have n3_ := Aside0.mk ((by rw [hg]; exact (below_size (by repeat (first | (with_reducible first | exact HB.out | apply below_alloc | apply pw_below_drewN | apply below_drew1 | refine below_set ?_ GE394.out) | exact HB.out))) : w.heap.size ≤ gb395)); have n4_ := Aside0.mk ((by rw [hg]; exact (below_size (by repeat (first | (with_reducible first | exact HB.out | apply below_alloc | apply pw_below_drewN | apply below_drew1 | refine below_set ?_ GE394.out) | exact HB.out))) : w.heap.size ≤ gb395)); have n5_ := Aside0.mk ((by rw [hg]; exact Nat.ne_of_lt (blk_lt (g := gb394) (o := .cells #[.string a0_0, .int .i64 a0_1, .string a0_2, .bool a0_3, .int .i64 a0_4, .slice A0_5 l0_5.length c0_5, .slice A0_6 l0_6.length c0_6] 57 (0, 0)) (by (with_reducible repeat (first | refine blk_drewN ?_ _ | refine blk_drew ?_ | refine blk_alloc ?_ _)); exact BK394.out)) : gb394 ≠ gb395)); have n6_ := Aside0.mk ((by rw [hg]; exact Nat.ne_of_gt (blk_lt (g := gb394) (o := .cells #[.string a0_0, .int .i64 a0_1, .string a0_2, .bool a0_3, .int .i64 a0_4, .slice A0_5 l0_5.length c0_5, .slice A0_6 l0_6.length c0_6] 57 (0, 0)) (by (with_reducible repeat (first | refine blk_drewN ?_ _ | refine blk_drew ?_ | refine blk_alloc ?_ _)); exact BK394.out)) : gb395 ≠ gb394)); clear BK394; clear HB; have BK394 := n0_; have HB := n1_; have BK395 := n2_; have GW395 := n3_; have GE395 := n4_; have NB394_395 := n5_; have NB395_394 := n6_; clear n0_ n1_ n2_ n3_ n4_ n5_ n6_; clear hb hbox hg; have hnb48 := NB394_395.out; have hnc48 := NB395_394.out; have hcz49_0 : w47.cell? ⟨gb394, 0, none⟩ = some (.string a0_0) := (blk_cell BK394.out 0).trans rfl; have hcz49_1 : w47.cell? ⟨gb394, 1, none⟩ = some (.int .i64 a0_1) := (blk_cell BK394.out 1).trans rfl; have hcz49_2 : w47.cell? ⟨gb394, 2, none⟩ = some (.string a0_2) := (blk_cell BK394.out 2).trans rfl; have hcz49_3 : w47.cell? ⟨gb394, 3, none⟩ = some (.bool a0_3) := (blk_cell BK394.out 3).trans rfl; have hcz49_4 : w47.cell? ⟨gb394, 4, none⟩ = some (.int .i64 a0_4) := (blk_cell BK394.out 4).trans rfl; have hcz49_5 : w47.cell? ⟨gb394, 5, none⟩ = some (.slice A0_5 l0_5.length c0_5) := (blk_cell BK394.out 5).trans rfl; have hcz49_6 : w47.cell? ⟨gb394, 6, none⟩ = some (.slice A0_6 l0_6.length c0_6) := (blk_cell BK394.out 6).trans rfl; have hfz49_0 := blk_frozen BK394.out 0; have hfz49_1 := blk_frozen BK394.out 1; have hfz49_2 := blk_frozen BK394.out 2; have hfz49_3 := blk_frozen BK394.out 3; have hfz49_4 := blk_frozen BK394.out 4; have hfz49_5 := blk_frozen BK394.out 5; have hfz49_6 := blk_frozen BK394.out 6; have hcz50_0 : w47.cell? ⟨gb395, 0, none⟩ = some (.string a1_0) := (blk_cell BK395.out 0).trans rfl; have hcz50_1 : w47.cell? ⟨gb395, 1, none⟩ = some (.int .i64 a1_1) := (blk_cell BK395.out 1).trans rfl; have hcz50_2 : w47.cell? ⟨gb395, 2, none⟩ = some (.string a1_2) := (blk_cell BK395.out 2).trans rfl; have hcz50_3 : w47.cell? ⟨gb395, 3, none⟩ = some (.bool a1_3) := (blk_cell BK395.out 3).trans rfl; have hcz50_4 : w47.cell? ⟨gb395, 4, none⟩ = some (.int .i64 a1_4) := (blk_cell BK395.out 4).trans rfl; have hcz50_5 : w47.cell? ⟨gb395, 5, none⟩ = some (.slice A1_5 l1_5.length c1_5) := (blk_cell BK395.out 5).trans rfl; have hcz50_6 : w47.cell? ⟨gb395, 6, none⟩ = some (.slice A1_6 l1_6.length c1_6) := (blk_cell BK395.out 6).trans rfl; have hfz50_0 := blk_frozen BK395.out 0; have hfz50_1 := blk_frozen BK395.out 1; have hfz50_2 := blk_frozen BK395.out 2; have hfz50_3 := blk_frozen BK395.out 3; have hfz50_4 := blk_frozen BK395.out 4; have hfz50_5 := blk_frozen BK395.out 5; have hfz50_6 := blk_frozen BK395.out 6))
    go_ret
    exact ⟨by first | rfl | (simp [errW_none, errW_some] <;> rfl) | (simp [*, errW_none, errW_some] <;> rfl), by repeat (first | (with_reducible first | exact HB.out | apply below_alloc | apply pw_below_drewN | apply below_drew1 | refine below_set ?_ GE394.out | refine below_set ?_ GE395.out) | exact HB.out)⟩
end Go.Proofs.Ytknenadpkgajjaa.PA
end
section
namespace Go.Proofs.Ytknenadpkgajjaa.PA
open Go.RowKit Go.Proofs.YtknenadpkgajjaaW.PrintWords Go.Proofs.YtknenadpkgajjaaW.PrintLast Go.Proofs.YtknenadpkgajjaaW.PrintMore
attribute [local go_sem] max2_int min2_int max_two min_two max_three min_three max_four min_four   -- for this text's walks alone
set_option linter.unusedVariables false
set_option linter.unusedSimpArgs false
/-! ### rules_Same: function 18 -/
open Go.Proofs.Ytknenadpkgajjaa.GFunc
set_option linter.unusedSimpArgs false
set_option linter.unusedVariables false
def ruleEq (k : Nat) (x y : S28) : Option Bool := rules_sameRule.f k x.f0 x.f1 x.f2 x.f3 y.f0 y.f1 y.f2 y.f3
def userEq (k : Nat) (x y : S46) : Option Bool := rules_sameUser.f k x.f0 x.f1 x.f2 x.f3 y.f0 y.f1 y.f2 y.f3
def itemEq (k : Nat) (x y : S57) : Option Bool := model_SameItem.f k x.f0 x.f1 x.f2 x.f3 x.f4 x.f5 x.f6 y.f0 y.f1 y.f2 y.f3 y.f4 y.f5 y.f6
theorem asks_rule (k : Nat) (w : World) : AsksEqRule 44 (ruleEq k) w :=
  ⟨by unfold HasBody; kernel_rfl, fun x y A1 c1 B1 d1 A2 c2 B2 d2 A3 c3 B3 d3 w' _ h1 h2 h3 h4 h5 h6 h7 h8 h9 h10 h11 h12 b hb => rules_sameRule.calls k x.f0 A1 c1 x.f1 A2 c2 x.f2 A3 c3 x.f3 y.f0 B1 d1 y.f1 B2 d2 y.f2 B3 d3 y.f3 b w' h1 h2 h5 h6 h9 h10 h3 h4 h7 h8 h11 h12 hb⟩
theorem asks_user (k : Nat) (w : World) : AsksEqUser 46 (userEq k) w :=
  ⟨by unfold HasBody; kernel_rfl, fun x y A2 c2 B2 d2 w' _ h1 h2 h3 h4 b hb => rules_sameUser.calls k x.f0 x.f1 A2 c2 x.f2 x.f3 y.f0 y.f1 B2 d2 y.f2 y.f3 b w' h1 h2 h3 h4 hb⟩
theorem asks_item (k : Nat) (w : World) : AsksEqItem 48 (itemEq k) w :=
  ⟨by unfold HasBody; kernel_rfl, fun x y A5 c5 B5 d5 A6 c6 B6 d6 w' _ h1 h2 h3 h4 h5 h6 h7 h8 b hb => model_SameItem.calls k x.f0 x.f1 x.f2 x.f3 x.f4 A5 c5 x.f5 A6 c6 x.f6 y.f0 y.f1 y.f2 y.f3 y.f4 B5 d5 y.f5 B6 d6 y.f6 b w' h1 h2 h5 h6 h3 h4 h7 h8 hb⟩
theorem alloc_at0 {w : World} {o : Obj} {g : Nat} (h : g = w.heap.size) : (w.alloc o).heap[g]? = some o := by rw [h]; exact (MapKept.heap_alloc w o).1
def tailF (k : Nat) (p6 : List S28) (p8 : List S46) (p9 : List S57) (q6 : List S28) (q8 : List S46) (q9 : List S57) : Option Bool := (eqF (ruleEq k) p6 q6).bind fun b => if b = true then (eqF (userEq k) p8 q8).bind fun b => if b = true then eqF (itemEq k) p9 q9 else some false else some false
def rowsEnd5 (k : Nat) (nb b5 : Bool) (p6 : List S28) (p7 : List S44) (p8 : List S46) (p9 : List S57) (q6 : List S28) (q7 : List S44) (q8 : List S46) (q9 : List S57) : Option Bool :=
  if b5 = true then (api_Counter_42.f k p7 q7).bind fun b => if (nb && b) = true then tailF k p6 p8 p9 q6 q8 q9 else some false else some false
def rowsEnd3 (k : Nat) (nb b3 : Bool) (p5 : List ByteArray) (p6 : List S28) (p7 : List S44) (p8 : List S46) (p9 : List S57) (q5 : List ByteArray) (q6 : List S28) (q7 : List S44) (q8 : List S46) (q9 : List S57) : Option Bool :=
  if b3 = true then (slices_Equal_string_string.f k p5 q5).bind fun b => rowsEnd5 k nb b p6 p7 p8 p9 q6 q7 q8 q9 else some false
def rowsEnd2 (k : Nat) (nb b2 : Bool) (p3 : List Int) (p5 : List ByteArray) (p6 : List S28) (p7 : List S44) (p8 : List S46) (p9 : List S57) (q3 : List Int) (q5 : List ByteArray) (q6 : List S28) (q7 : List S44) (q8 : List S46) (q9 : List S57) : Option Bool :=
  if b2 = true then (slices_Equal_int_int.f k p3 q3).bind fun b => rowsEnd3 k nb b p5 p6 p7 p8 p9 q5 q6 q7 q8 q9 else some false
def rules_Same.f (k : Nat) (a0_0 : Int) (a0_1 : Int) (l0_2 : List Int) (l0_3 : List Int) (a0_4 : Int) (l0_5 : List ByteArray) (l0_6 : List S28) (l0_7 : List S44) (l0_8 : List S46) (l0_9 : List S57) (a1_0 : Int) (a1_1 : Int) (l1_2 : List Int) (l1_3 : List Int) (a1_4 : Int) (l1_5 : List ByteArray) (l1_6 : List S28) (l1_7 : List S44) (l1_8 : List S46) (l1_9 : List S57) : Option Bool := (slices_Equal_int_int.f k l0_2 l1_2).bind fun b => rowsEnd2 k ((a0_0 == a1_0) && (a0_1 == a1_1) && (a0_4 == a1_4)) b l0_3 l0_5 l0_6 l0_7 l0_8 l0_9 l1_3 l1_5 l1_6 l1_7 l1_8 l1_9
theorem rules_Same.mono : ∀ a0 a1 a2 a3 a4 a5 a6 a7 a8 a9 b0 b1 b2 b3 b4 b5 b6 b7 b8 b9 k, LeO (rules_Same.f k a0 a1 a2 a3 a4 a5 a6 a7 a8 a9 b0 b1 b2 b3 b4 b5 b6 b7 b8 b9) (rules_Same.f (k + 1) a0 a1 a2 a3 a4 a5 a6 a7 a8 a9 b0 b1 b2 b3 b4 b5 b6 b7 b8 b9) := fun a0 a1 a2 a3 a4 a5 a6 a7 a8 a9 b0 b1 b2 b3 b4 b5 b6 b7 b8 b9 k =>
  .bind (slices_Equal_int_int.mono _ _ k) fun b => .ite (.bind (slices_Equal_int_int.mono _ _ k) fun b => .ite (.bind (slices_Equal_string_string.mono _ _ k) fun b => .ite (.bind (api_Counter_42.mono _ _ k) fun b => .ite (.bind (fun r h => eqF_mono (fun x y r h => rules_sameRule.mono _ _ _ _ _ _ _ _ k r h) _ _ r h) fun b => .ite (.bind (fun r h => eqF_mono (fun x y r h => rules_sameUser.mono _ _ _ _ _ _ _ _ k r h) _ _ r h) fun b => .ite (fun r h => eqF_mono (fun x y r h => model_SameItem.mono _ _ _ _ _ _ _ _ _ _ _ _ _ _ k r h) _ _ r h) (.refl _)) (.refl _)) (.refl _)) (.refl _)) (.refl _)) (.refl _)
set_option maxHeartbeats 4000000 in
set_option maxRecDepth 100000 in
theorem rules_Same.calls (k : Nat) (a0_0 : Int) (a0_1 : Int) (A0_2 : Option Addr) (c0_2 : Nat) (l0_2 : List Int) (A0_3 : Option Addr) (c0_3 : Nat) (l0_3 : List Int) (a0_4 : Int) (A0_5 : Option Addr) (c0_5 : Nat) (l0_5 : List ByteArray) (A0_6 : Option Addr) (c0_6 : Nat) (l0_6 : List S28) (A0_7 : Option Addr) (c0_7 : Nat) (l0_7 : List S44) (A0_8 : Option Addr) (c0_8 : Nat) (l0_8 : List S46) (A0_9 : Option Addr) (c0_9 : Nat) (l0_9 : List S57) (a1_0 : Int) (a1_1 : Int) (A1_2 : Option Addr) (c1_2 : Nat) (l1_2 : List Int) (A1_3 : Option Addr) (c1_3 : Nat) (l1_3 : List Int) (a1_4 : Int) (A1_5 : Option Addr) (c1_5 : Nat) (l1_5 : List ByteArray) (A1_6 : Option Addr) (c1_6 : Nat) (l1_6 : List S28) (A1_7 : Option Addr) (c1_7 : Nat) (l1_7 : List S44) (A1_8 : Option Addr) (c1_8 : Nat) (l1_8 : List S46) (A1_9 : Option Addr) (c1_9 : Nat) (l1_9 : List S57) (r : Bool) (w : World) (hr0_2 : Kd.C (Kd.int .i64) w A0_2 l0_2.length l0_2) (hc0_2 : l0_2.length ≤ c0_2) (hr0_3 : Kd.C (Kd.int .i64) w A0_3 l0_3.length l0_3) (hc0_3 : l0_3.length ≤ c0_3) (hr0_5 : Kd.C Kd.string w A0_5 l0_5.length l0_5) (hc0_5 : l0_5.length ≤ c0_5) (hr0_6 : Kd.C k28 w A0_6 l0_6.length l0_6) (hc0_6 : l0_6.length ≤ c0_6) (hr0_7 : Kd.C k44 w A0_7 l0_7.length l0_7) (hc0_7 : l0_7.length ≤ c0_7) (hr0_8 : Kd.C k46 w A0_8 l0_8.length l0_8) (hc0_8 : l0_8.length ≤ c0_8) (hr0_9 : Kd.C k57 w A0_9 l0_9.length l0_9) (hc0_9 : l0_9.length ≤ c0_9) (hr1_2 : Kd.C (Kd.int .i64) w A1_2 l1_2.length l1_2) (hc1_2 : l1_2.length ≤ c1_2) (hr1_3 : Kd.C (Kd.int .i64) w A1_3 l1_3.length l1_3) (hc1_3 : l1_3.length ≤ c1_3) (hr1_5 : Kd.C Kd.string w A1_5 l1_5.length l1_5) (hc1_5 : l1_5.length ≤ c1_5) (hr1_6 : Kd.C k28 w A1_6 l1_6.length l1_6) (hc1_6 : l1_6.length ≤ c1_6) (hr1_7 : Kd.C k44 w A1_7 l1_7.length l1_7) (hc1_7 : l1_7.length ≤ c1_7) (hr1_8 : Kd.C k46 w A1_8 l1_8.length l1_8) (hc1_8 : l1_8.length ≤ c1_8) (hr1_9 : Kd.C k57 w A1_9 l1_9.length l1_9) (hc1_9 : l1_9.length ≤ c1_9) (h : rules_Same.f k a0_0 a0_1 l0_2 l0_3 a0_4 l0_5 l0_6 l0_7 l0_8 l0_9 a1_0 a1_1 l1_2 l1_3 a1_4 l1_5 l1_6 l1_7 l1_8 l1_9 = some r) :
    Calls Try.prog 18 #[.agg #[.int .i64 a0_0, .int .i64 a0_1, .slice A0_2 l0_2.length c0_2, .slice A0_3 l0_3.length c0_3, .int .i64 a0_4, .slice A0_5 l0_5.length c0_5, .slice A0_6 l0_6.length c0_6, .slice A0_7 l0_7.length c0_7, .slice A0_8 l0_8.length c0_8, .slice A0_9 l0_9.length c0_9], .agg #[.int .i64 a1_0, .int .i64 a1_1, .slice A1_2 l1_2.length c1_2, .slice A1_3 l1_3.length c1_3, .int .i64 a1_4, .slice A1_5 l1_5.length c1_5, .slice A1_6 l1_6.length c1_6, .slice A1_7 l1_7.length c1_7, .slice A1_8 l1_8.length c1_8, .slice A1_9 l1_9.length c1_9]] w fun e w' => e = .returned (.bool r) ∧ Below w.heap.size w w' := by
  have HR0_2 := Aside0.mk (And.intro hr0_2 hc0_2)
  have HR0_3 := Aside0.mk (And.intro hr0_3 hc0_3)
  have HR0_5 := Aside0.mk (And.intro hr0_5 hc0_5)
  have HR0_6 := Aside0.mk (And.intro hr0_6 hc0_6)
  have HR0_7 := Aside0.mk (And.intro hr0_7 hc0_7)
  have HR0_8 := Aside0.mk (And.intro hr0_8 hc0_8)
  have HR0_9 := Aside0.mk (And.intro hr0_9 hc0_9)
  have HR1_2 := Aside0.mk (And.intro hr1_2 hc1_2)
  have HR1_3 := Aside0.mk (And.intro hr1_3 hc1_3)
  have HR1_5 := Aside0.mk (And.intro hr1_5 hc1_5)
  have HR1_6 := Aside0.mk (And.intro hr1_6 hc1_6)
  have HR1_7 := Aside0.mk (And.intro hr1_7 hc1_7)
  have HR1_8 := Aside0.mk (And.intro hr1_8 hc1_8)
  have HR1_9 := Aside0.mk (And.intro hr1_9 hc1_9)
  clear hr0_2 hc0_2 hr0_3 hc0_3 hr0_5 hc0_5 hr0_6 hc0_6 hr0_7 hc0_7 hr0_8 hc0_8 hr0_9 hc0_9 hr1_2 hc1_2 hr1_3 hc1_3 hr1_5 hc1_5 hr1_6 hc1_6 hr1_7 hc1_7 hr1_8 hc1_8 hr1_9 hc1_9
  cases n0 : (a0_0 == a1_0) with
  | false =>
    have H := Aside0.mk (show ((slices_Equal_int_int.f k l0_2 l1_2).bind fun b => rowsEnd2 k false b l0_3 l0_5 l0_6 l0_7 l0_8 l0_9 l1_3 l1_5 l1_6 l1_7 l1_8 l1_9) = some r by unfold rules_Same.f at h; rw [n0] at h; exact h)
    clear h
    go_enter Try.func18, Try.ntmps18
    obtain ⟨b2, hb2, hk⟩ := Option.bind_eq_some_iff.mp H.out
    have HQ2 := Aside0.mk hb2
    have HK2 := Aside0.mk hk
    clear hb2 hk H
    go_wp2_with (fail)
    refine (slices_Equal_int_int.calls k _ _ l0_2 _ _ l1_2 b2 _ (Kd.C_below HR0_2.out.1 (by repeat (first | exact Below.refl _ _ | apply below_alloc | apply pw_below_drewN) : Below w.heap.size w _)) HR0_2.out.2 (Kd.C_below HR1_2.out.1 (by repeat (first | exact Below.refl _ _ | apply below_alloc | apply pw_below_drewN) : Below w.heap.size w _)) HR1_2.out.2 HQ2.out).mono ?_
    rintro e w' ⟨rfl, ⟨nd2, rfl⟩⟩
    clear HQ2
    cases b2 with
    | false =>
      obtain rfl : false = r := by have := HK2.out; simpa [rowsEnd2, rowsEnd3, rowsEnd5] using this
      go_wp2
      go_ret
      exact ⟨rfl, by repeat (first | exact Below.refl _ _ | apply below_alloc | apply pw_below_drewN)⟩
    | true =>
      have H := Aside0.mk (show ((slices_Equal_int_int.f k l0_3 l1_3).bind fun b => rowsEnd3 k false b l0_5 l0_6 l0_7 l0_8 l0_9 l1_5 l1_6 l1_7 l1_8 l1_9) = some r from HK2.out)
      clear HK2
      obtain ⟨b3, hb3, hk⟩ := Option.bind_eq_some_iff.mp H.out
      have HQ3 := Aside0.mk hb3
      have HK3 := Aside0.mk hk
      clear hb3 hk H
      go_wp2_with (fail)
      refine (slices_Equal_int_int.calls k _ _ l0_3 _ _ l1_3 b3 _ (Kd.C_below HR0_3.out.1 (by repeat (first | exact Below.refl _ _ | apply below_alloc | apply pw_below_drewN) : Below w.heap.size w _)) HR0_3.out.2 (Kd.C_below HR1_3.out.1 (by repeat (first | exact Below.refl _ _ | apply below_alloc | apply pw_below_drewN) : Below w.heap.size w _)) HR1_3.out.2 HQ3.out).mono ?_
      rintro e w' ⟨rfl, ⟨nd3, rfl⟩⟩
      clear HQ3
      cases b3 with
      | false =>
        obtain rfl : false = r := by have := HK3.out; simpa [rowsEnd2, rowsEnd3, rowsEnd5] using this
        go_wp2
        go_ret
        exact ⟨rfl, by repeat (first | exact Below.refl _ _ | apply below_alloc | apply pw_below_drewN)⟩
      | true =>
        have H := Aside0.mk (show ((slices_Equal_string_string.f k l0_5 l1_5).bind fun b => rowsEnd5 k false b l0_6 l0_7 l0_8 l0_9 l1_6 l1_7 l1_8 l1_9) = some r from HK3.out)
        clear HK3
        obtain ⟨b5, hb5, hk⟩ := Option.bind_eq_some_iff.mp H.out
        have HQ5 := Aside0.mk hb5
        have HK5 := Aside0.mk hk
        clear hb5 hk H
        go_wp2_with (fail)
        refine (slices_Equal_string_string.calls k _ _ l0_5 _ _ l1_5 b5 _ (Kd.C_below HR0_5.out.1 (by repeat (first | exact Below.refl _ _ | apply below_alloc | apply pw_below_drewN) : Below w.heap.size w _)) HR0_5.out.2 (Kd.C_below HR1_5.out.1 (by repeat (first | exact Below.refl _ _ | apply below_alloc | apply pw_below_drewN) : Below w.heap.size w _)) HR1_5.out.2 HQ5.out).mono ?_
        rintro e w' ⟨rfl, ⟨nd5, rfl⟩⟩
        clear HQ5
        cases b5 with
        | false =>
          obtain rfl : false = r := by have := HK5.out; simpa [rowsEnd2, rowsEnd3, rowsEnd5] using this
          go_wp2
          go_ret
          exact ⟨rfl, by repeat (first | exact Below.refl _ _ | apply below_alloc | apply pw_below_drewN)⟩
        | true =>
          have H := Aside0.mk (show ((api_Counter_42.f k l0_7 l1_7).bind fun b => (if (false && b) = true then tailF k l0_6 l0_8 l0_9 l1_6 l1_8 l1_9 else some false)) = some r from HK5.out)
          clear HK5
          obtain ⟨b7, hb7, hk⟩ : ∃ b, api_Counter_42.f k l0_7 l1_7 = some b ∧ (if (false && b) = true then tailF k l0_6 l0_8 l0_9 l1_6 l1_8 l1_9 else some false) = some r := Option.bind_eq_some_iff.mp H.out
          have HQ7 := Aside0.mk hb7
          have HK7 := Aside0.mk hk
          clear hb7 hk H
          go_wp2_with (fail)
          refine (api_Counter_42.calls k _ _ l0_7 _ _ l1_7 b7 _ (Kd.C_below HR0_7.out.1 (by repeat (first | exact Below.refl _ _ | apply below_alloc | apply pw_below_drewN) : Below w.heap.size w _)) HR0_7.out.2 (Kd.C_below HR1_7.out.1 (by repeat (first | exact Below.refl _ _ | apply below_alloc | apply pw_below_drewN) : Below w.heap.size w _)) HR1_7.out.2 HQ7.out).mono ?_
          rintro e w' ⟨rfl, ⟨nd7, rfl⟩⟩
          clear HQ7
          obtain rfl : false = r := by have := HK7.out; simpa using this
          clear HK7
          cases b7 <;>
          · go_wp2
            go_ret
            exact ⟨rfl, by repeat (first | exact Below.refl _ _ | apply below_alloc | apply pw_below_drewN)⟩
  | true =>
    cases n1 : (a0_1 == a1_1) with
    | false =>
      have H := Aside0.mk (show ((slices_Equal_int_int.f k l0_2 l1_2).bind fun b => rowsEnd2 k false b l0_3 l0_5 l0_6 l0_7 l0_8 l0_9 l1_3 l1_5 l1_6 l1_7 l1_8 l1_9) = some r by unfold rules_Same.f at h; rw [n0, n1] at h; exact h)
      clear h
      go_enter Try.func18, Try.ntmps18
      obtain ⟨b2, hb2, hk⟩ := Option.bind_eq_some_iff.mp H.out
      have HQ2 := Aside0.mk hb2
      have HK2 := Aside0.mk hk
      clear hb2 hk H
      go_wp2_with (fail)
      refine (slices_Equal_int_int.calls k _ _ l0_2 _ _ l1_2 b2 _ (Kd.C_below HR0_2.out.1 (by repeat (first | exact Below.refl _ _ | apply below_alloc | apply pw_below_drewN) : Below w.heap.size w _)) HR0_2.out.2 (Kd.C_below HR1_2.out.1 (by repeat (first | exact Below.refl _ _ | apply below_alloc | apply pw_below_drewN) : Below w.heap.size w _)) HR1_2.out.2 HQ2.out).mono ?_
      rintro e w' ⟨rfl, ⟨nd2, rfl⟩⟩
      clear HQ2
      cases b2 with
      | false =>
        obtain rfl : false = r := by have := HK2.out; simpa [rowsEnd2, rowsEnd3, rowsEnd5] using this
        go_wp2
        go_ret
        exact ⟨rfl, by repeat (first | exact Below.refl _ _ | apply below_alloc | apply pw_below_drewN)⟩
      | true =>
        have H := Aside0.mk (show ((slices_Equal_int_int.f k l0_3 l1_3).bind fun b => rowsEnd3 k false b l0_5 l0_6 l0_7 l0_8 l0_9 l1_5 l1_6 l1_7 l1_8 l1_9) = some r from HK2.out)
        clear HK2
        obtain ⟨b3, hb3, hk⟩ := Option.bind_eq_some_iff.mp H.out
        have HQ3 := Aside0.mk hb3
        have HK3 := Aside0.mk hk
        clear hb3 hk H
        go_wp2_with (fail)
        refine (slices_Equal_int_int.calls k _ _ l0_3 _ _ l1_3 b3 _ (Kd.C_below HR0_3.out.1 (by repeat (first | exact Below.refl _ _ | apply below_alloc | apply pw_below_drewN) : Below w.heap.size w _)) HR0_3.out.2 (Kd.C_below HR1_3.out.1 (by repeat (first | exact Below.refl _ _ | apply below_alloc | apply pw_below_drewN) : Below w.heap.size w _)) HR1_3.out.2 HQ3.out).mono ?_
        rintro e w' ⟨rfl, ⟨nd3, rfl⟩⟩
        clear HQ3
        cases b3 with
        | false =>
          obtain rfl : false = r := by have := HK3.out; simpa [rowsEnd2, rowsEnd3, rowsEnd5] using this
          go_wp2
          go_ret
          exact ⟨rfl, by repeat (first | exact Below.refl _ _ | apply below_alloc | apply pw_below_drewN)⟩
        | true =>
          have H := Aside0.mk (show ((slices_Equal_string_string.f k l0_5 l1_5).bind fun b => rowsEnd5 k false b l0_6 l0_7 l0_8 l0_9 l1_6 l1_7 l1_8 l1_9) = some r from HK3.out)
          clear HK3
          obtain ⟨b5, hb5, hk⟩ := Option.bind_eq_some_iff.mp H.out
          have HQ5 := Aside0.mk hb5
          have HK5 := Aside0.mk hk
          clear hb5 hk H
          go_wp2_with (fail)
          refine (slices_Equal_string_string.calls k _ _ l0_5 _ _ l1_5 b5 _ (Kd.C_below HR0_5.out.1 (by repeat (first | exact Below.refl _ _ | apply below_alloc | apply pw_below_drewN) : Below w.heap.size w _)) HR0_5.out.2 (Kd.C_below HR1_5.out.1 (by repeat (first | exact Below.refl _ _ | apply below_alloc | apply pw_below_drewN) : Below w.heap.size w _)) HR1_5.out.2 HQ5.out).mono ?_
          rintro e w' ⟨rfl, ⟨nd5, rfl⟩⟩
          clear HQ5
          cases b5 with
          | false =>
            obtain rfl : false = r := by have := HK5.out; simpa [rowsEnd2, rowsEnd3, rowsEnd5] using this
            go_wp2
            go_ret
            exact ⟨rfl, by repeat (first | exact Below.refl _ _ | apply below_alloc | apply pw_below_drewN)⟩
          | true =>
            have H := Aside0.mk (show ((api_Counter_42.f k l0_7 l1_7).bind fun b => (if (false && b) = true then tailF k l0_6 l0_8 l0_9 l1_6 l1_8 l1_9 else some false)) = some r from HK5.out)
            clear HK5
            obtain ⟨b7, hb7, hk⟩ : ∃ b, api_Counter_42.f k l0_7 l1_7 = some b ∧ (if (false && b) = true then tailF k l0_6 l0_8 l0_9 l1_6 l1_8 l1_9 else some false) = some r := Option.bind_eq_some_iff.mp H.out
            have HQ7 := Aside0.mk hb7
            have HK7 := Aside0.mk hk
            clear hb7 hk H
            go_wp2_with (fail)
            refine (api_Counter_42.calls k _ _ l0_7 _ _ l1_7 b7 _ (Kd.C_below HR0_7.out.1 (by repeat (first | exact Below.refl _ _ | apply below_alloc | apply pw_below_drewN) : Below w.heap.size w _)) HR0_7.out.2 (Kd.C_below HR1_7.out.1 (by repeat (first | exact Below.refl _ _ | apply below_alloc | apply pw_below_drewN) : Below w.heap.size w _)) HR1_7.out.2 HQ7.out).mono ?_
            rintro e w' ⟨rfl, ⟨nd7, rfl⟩⟩
            clear HQ7
            obtain rfl : false = r := by have := HK7.out; simpa using this
            clear HK7
            cases b7 <;>
            · go_wp2
              go_ret
              exact ⟨rfl, by repeat (first | exact Below.refl _ _ | apply below_alloc | apply pw_below_drewN)⟩
    | true =>
      cases n4 : (a0_4 == a1_4) with
      | false =>
        have H := Aside0.mk (show ((slices_Equal_int_int.f k l0_2 l1_2).bind fun b => rowsEnd2 k false b l0_3 l0_5 l0_6 l0_7 l0_8 l0_9 l1_3 l1_5 l1_6 l1_7 l1_8 l1_9) = some r by unfold rules_Same.f at h; rw [n0, n1, n4] at h; exact h)
        clear h
        go_enter Try.func18, Try.ntmps18
        obtain ⟨b2, hb2, hk⟩ := Option.bind_eq_some_iff.mp H.out
        have HQ2 := Aside0.mk hb2
        have HK2 := Aside0.mk hk
        clear hb2 hk H
        go_wp2_with (fail)
        refine (slices_Equal_int_int.calls k _ _ l0_2 _ _ l1_2 b2 _ (Kd.C_below HR0_2.out.1 (by repeat (first | exact Below.refl _ _ | apply below_alloc | apply pw_below_drewN) : Below w.heap.size w _)) HR0_2.out.2 (Kd.C_below HR1_2.out.1 (by repeat (first | exact Below.refl _ _ | apply below_alloc | apply pw_below_drewN) : Below w.heap.size w _)) HR1_2.out.2 HQ2.out).mono ?_
        rintro e w' ⟨rfl, ⟨nd2, rfl⟩⟩
        clear HQ2
        cases b2 with
        | false =>
          obtain rfl : false = r := by have := HK2.out; simpa [rowsEnd2, rowsEnd3, rowsEnd5] using this
          go_wp2
          go_ret
          exact ⟨rfl, by repeat (first | exact Below.refl _ _ | apply below_alloc | apply pw_below_drewN)⟩
        | true =>
          have H := Aside0.mk (show ((slices_Equal_int_int.f k l0_3 l1_3).bind fun b => rowsEnd3 k false b l0_5 l0_6 l0_7 l0_8 l0_9 l1_5 l1_6 l1_7 l1_8 l1_9) = some r from HK2.out)
          clear HK2
          obtain ⟨b3, hb3, hk⟩ := Option.bind_eq_some_iff.mp H.out
          have HQ3 := Aside0.mk hb3
          have HK3 := Aside0.mk hk
          clear hb3 hk H
          go_wp2_with (fail)
          refine (slices_Equal_int_int.calls k _ _ l0_3 _ _ l1_3 b3 _ (Kd.C_below HR0_3.out.1 (by repeat (first | exact Below.refl _ _ | apply below_alloc | apply pw_below_drewN) : Below w.heap.size w _)) HR0_3.out.2 (Kd.C_below HR1_3.out.1 (by repeat (first | exact Below.refl _ _ | apply below_alloc | apply pw_below_drewN) : Below w.heap.size w _)) HR1_3.out.2 HQ3.out).mono ?_
          rintro e w' ⟨rfl, ⟨nd3, rfl⟩⟩
          clear HQ3
          cases b3 with
          | false =>
            obtain rfl : false = r := by have := HK3.out; simpa [rowsEnd2, rowsEnd3, rowsEnd5] using this
            go_wp2
            go_ret
            exact ⟨rfl, by repeat (first | exact Below.refl _ _ | apply below_alloc | apply pw_below_drewN)⟩
          | true =>
            have H := Aside0.mk (show ((slices_Equal_string_string.f k l0_5 l1_5).bind fun b => rowsEnd5 k false b l0_6 l0_7 l0_8 l0_9 l1_6 l1_7 l1_8 l1_9) = some r from HK3.out)
            clear HK3
            obtain ⟨b5, hb5, hk⟩ := Option.bind_eq_some_iff.mp H.out
            have HQ5 := Aside0.mk hb5
            have HK5 := Aside0.mk hk
            clear hb5 hk H
            go_wp2_with (fail)
            refine (slices_Equal_string_string.calls k _ _ l0_5 _ _ l1_5 b5 _ (Kd.C_below HR0_5.out.1 (by repeat (first | exact Below.refl _ _ | apply below_alloc | apply pw_below_drewN) : Below w.heap.size w _)) HR0_5.out.2 (Kd.C_below HR1_5.out.1 (by repeat (first | exact Below.refl _ _ | apply below_alloc | apply pw_below_drewN) : Below w.heap.size w _)) HR1_5.out.2 HQ5.out).mono ?_
            rintro e w' ⟨rfl, ⟨nd5, rfl⟩⟩
            clear HQ5
            cases b5 with
            | false =>
              obtain rfl : false = r := by have := HK5.out; simpa [rowsEnd2, rowsEnd3, rowsEnd5] using this
              go_wp2
              go_ret
              exact ⟨rfl, by repeat (first | exact Below.refl _ _ | apply below_alloc | apply pw_below_drewN)⟩
            | true =>
              have H := Aside0.mk (show ((api_Counter_42.f k l0_7 l1_7).bind fun b => (if (false && b) = true then tailF k l0_6 l0_8 l0_9 l1_6 l1_8 l1_9 else some false)) = some r from HK5.out)
              clear HK5
              obtain ⟨b7, hb7, hk⟩ : ∃ b, api_Counter_42.f k l0_7 l1_7 = some b ∧ (if (false && b) = true then tailF k l0_6 l0_8 l0_9 l1_6 l1_8 l1_9 else some false) = some r := Option.bind_eq_some_iff.mp H.out
              have HQ7 := Aside0.mk hb7
              have HK7 := Aside0.mk hk
              clear hb7 hk H
              go_wp2_with (fail)
              refine (api_Counter_42.calls k _ _ l0_7 _ _ l1_7 b7 _ (Kd.C_below HR0_7.out.1 (by repeat (first | exact Below.refl _ _ | apply below_alloc | apply pw_below_drewN) : Below w.heap.size w _)) HR0_7.out.2 (Kd.C_below HR1_7.out.1 (by repeat (first | exact Below.refl _ _ | apply below_alloc | apply pw_below_drewN) : Below w.heap.size w _)) HR1_7.out.2 HQ7.out).mono ?_
              rintro e w' ⟨rfl, ⟨nd7, rfl⟩⟩
              clear HQ7
              obtain rfl : false = r := by have := HK7.out; simpa using this
              clear HK7
              cases b7 <;>
              · go_wp2
                go_ret
                exact ⟨rfl, by repeat (first | exact Below.refl _ _ | apply below_alloc | apply pw_below_drewN)⟩
      | true =>
        have H := Aside0.mk (show ((slices_Equal_int_int.f k l0_2 l1_2).bind fun b => rowsEnd2 k true b l0_3 l0_5 l0_6 l0_7 l0_8 l0_9 l1_3 l1_5 l1_6 l1_7 l1_8 l1_9) = some r by unfold rules_Same.f at h; rw [n0, n1, n4] at h; exact h)
        clear h
        go_enter Try.func18, Try.ntmps18
        obtain ⟨b2, hb2, hk⟩ := Option.bind_eq_some_iff.mp H.out
        have HQ2 := Aside0.mk hb2
        have HK2 := Aside0.mk hk
        clear hb2 hk H
        go_wp2_with (fail)
        refine (slices_Equal_int_int.calls k _ _ l0_2 _ _ l1_2 b2 _ (Kd.C_below HR0_2.out.1 (by repeat (first | exact Below.refl _ _ | apply below_alloc | apply pw_below_drewN) : Below w.heap.size w _)) HR0_2.out.2 (Kd.C_below HR1_2.out.1 (by repeat (first | exact Below.refl _ _ | apply below_alloc | apply pw_below_drewN) : Below w.heap.size w _)) HR1_2.out.2 HQ2.out).mono ?_
        rintro e w' ⟨rfl, ⟨nd2, rfl⟩⟩
        clear HQ2
        cases b2 with
        | false =>
          obtain rfl : false = r := by have := HK2.out; simpa [rowsEnd2, rowsEnd3, rowsEnd5] using this
          go_wp2
          go_ret
          exact ⟨rfl, by repeat (first | exact Below.refl _ _ | apply below_alloc | apply pw_below_drewN)⟩
        | true =>
          have H := Aside0.mk (show ((slices_Equal_int_int.f k l0_3 l1_3).bind fun b => rowsEnd3 k true b l0_5 l0_6 l0_7 l0_8 l0_9 l1_5 l1_6 l1_7 l1_8 l1_9) = some r from HK2.out)
          clear HK2
          obtain ⟨b3, hb3, hk⟩ := Option.bind_eq_some_iff.mp H.out
          have HQ3 := Aside0.mk hb3
          have HK3 := Aside0.mk hk
          clear hb3 hk H
          go_wp2_with (fail)
          refine (slices_Equal_int_int.calls k _ _ l0_3 _ _ l1_3 b3 _ (Kd.C_below HR0_3.out.1 (by repeat (first | exact Below.refl _ _ | apply below_alloc | apply pw_below_drewN) : Below w.heap.size w _)) HR0_3.out.2 (Kd.C_below HR1_3.out.1 (by repeat (first | exact Below.refl _ _ | apply below_alloc | apply pw_below_drewN) : Below w.heap.size w _)) HR1_3.out.2 HQ3.out).mono ?_
          rintro e w' ⟨rfl, ⟨nd3, rfl⟩⟩
          clear HQ3
          cases b3 with
          | false =>
            obtain rfl : false = r := by have := HK3.out; simpa [rowsEnd2, rowsEnd3, rowsEnd5] using this
            go_wp2
            go_ret
            exact ⟨rfl, by repeat (first | exact Below.refl _ _ | apply below_alloc | apply pw_below_drewN)⟩
          | true =>
            have H := Aside0.mk (show ((slices_Equal_string_string.f k l0_5 l1_5).bind fun b => rowsEnd5 k true b l0_6 l0_7 l0_8 l0_9 l1_6 l1_7 l1_8 l1_9) = some r from HK3.out)
            clear HK3
            obtain ⟨b5, hb5, hk⟩ := Option.bind_eq_some_iff.mp H.out
            have HQ5 := Aside0.mk hb5
            have HK5 := Aside0.mk hk
            clear hb5 hk H
            go_wp2_with (fail)
            refine (slices_Equal_string_string.calls k _ _ l0_5 _ _ l1_5 b5 _ (Kd.C_below HR0_5.out.1 (by repeat (first | exact Below.refl _ _ | apply below_alloc | apply pw_below_drewN) : Below w.heap.size w _)) HR0_5.out.2 (Kd.C_below HR1_5.out.1 (by repeat (first | exact Below.refl _ _ | apply below_alloc | apply pw_below_drewN) : Below w.heap.size w _)) HR1_5.out.2 HQ5.out).mono ?_
            rintro e w' ⟨rfl, ⟨nd5, rfl⟩⟩
            clear HQ5
            cases b5 with
            | false =>
              obtain rfl : false = r := by have := HK5.out; simpa [rowsEnd2, rowsEnd3, rowsEnd5] using this
              go_wp2
              go_ret
              exact ⟨rfl, by repeat (first | exact Below.refl _ _ | apply below_alloc | apply pw_below_drewN)⟩
            | true =>
              have H := Aside0.mk (show ((api_Counter_42.f k l0_7 l1_7).bind fun b => (if (true && b) = true then tailF k l0_6 l0_8 l0_9 l1_6 l1_8 l1_9 else some false)) = some r from HK5.out)
              clear HK5
              obtain ⟨b7, hb7, hk⟩ : ∃ b, api_Counter_42.f k l0_7 l1_7 = some b ∧ (if (true && b) = true then tailF k l0_6 l0_8 l0_9 l1_6 l1_8 l1_9 else some false) = some r := Option.bind_eq_some_iff.mp H.out
              have HQ7 := Aside0.mk hb7
              have HK7 := Aside0.mk hk
              clear hb7 hk H
              go_wp2_with (fail)
              refine (api_Counter_42.calls k _ _ l0_7 _ _ l1_7 b7 _ (Kd.C_below HR0_7.out.1 (by repeat (first | exact Below.refl _ _ | apply below_alloc | apply pw_below_drewN) : Below w.heap.size w _)) HR0_7.out.2 (Kd.C_below HR1_7.out.1 (by repeat (first | exact Below.refl _ _ | apply below_alloc | apply pw_below_drewN) : Below w.heap.size w _)) HR1_7.out.2 HQ7.out).mono ?_
              rintro e w' ⟨rfl, ⟨nd7, rfl⟩⟩
              clear HQ7
              cases b7 with
              | false =>
                obtain rfl : false = r := by have := HK7.out; simpa using this
                go_wp2
                go_ret
                exact ⟨rfl, by repeat (first | exact Below.refl _ _ | apply below_alloc | apply pw_below_drewN)⟩
              | true =>
                have H := Aside0.mk (show ((eqF (ruleEq k) l0_6 l1_6).bind fun b => if b = true then (eqF (userEq k) l0_8 l1_8).bind fun b => if b = true then eqF (itemEq k) l0_9 l1_9 else some false else some false) = some r from HK7.out)
                clear HK7
                obtain ⟨b6, hb6, hk⟩ := Option.bind_eq_some_iff.mp H.out
                have HQ6 := Aside0.mk hb6
                have HK6 := Aside0.mk hk
                clear hb6 hk H
                have HB0 := Aside0.mk (by repeat (first | exact Below.refl _ _ | apply below_alloc | apply pw_below_drewN) : Below w.heap.size w ((((w.alloc (.cells #[.int .i64 a0_0, .int .i64 a0_1, .slice A0_2 l0_2.length c0_2, .slice A0_3 l0_3.length c0_3, .int .i64 a0_4, .slice A0_5 l0_5.length c0_5, .slice A0_6 l0_6.length c0_6, .slice A0_7 l0_7.length c0_7, .slice A0_8 l0_8.length c0_8, .slice A0_9 l0_9.length c0_9] 36)).alloc (.cells #[.int .i64 a1_0, .int .i64 a1_1, .slice A1_2 l1_2.length c1_2, .slice A1_3 l1_3.length c1_3, .int .i64 a1_4, .slice A1_5 l1_5.length c1_5, .slice A1_6 l1_6.length c1_6, .slice A1_7 l1_7.length c1_7, .slice A1_8 l1_8.length c1_8, .slice A1_9 l1_9.length c1_9] 36))).drewN (nd2 + nd3 + nd5 + nd7)))
                go_wp2_with (fail)
                refine (eqRule.calls _ (ruleEq k) l0_6 l1_6 _ _ _ _ b6 _ (Kd.C_below HR0_6.out.1 HB0.out) (Kd.C_below HR1_6.out.1 HB0.out) (asks_rule k _) HQ6.out).mono ?_
                rintro e w6 ⟨rfl, hb2⟩
                have HB6 := Aside0.mk (below_step HB0.out hb2)
                have HP6 := Aside0.mk (show w6.heap[w.heap.size]? = some (.cells #[.int .i64 a0_0, .int .i64 a0_1, .slice A0_2 l0_2.length c0_2, .slice A0_3 l0_3.length c0_3, .int .i64 a0_4, .slice A0_5 l0_5.length c0_5, .slice A0_6 l0_6.length c0_6, .slice A0_7 l0_7.length c0_7, .slice A0_8 l0_8.length c0_8, .slice A0_9 l0_9.length c0_9] 36 (0, 0)) from (hb2.block _ (by simp [World.drewN]; omega)).trans (by repeat first | exact alloc_at0 (by first | (simp only [World.size_alloc]; done) | (simp [World.drewN]; done) | omega) | refine blk_alloc ?_ _ | refine blk_drewN ?_ _))
                have HQB6 := Aside0.mk (show w6.heap[w.heap.size + 1]? = some (.cells #[.int .i64 a1_0, .int .i64 a1_1, .slice A1_2 l1_2.length c1_2, .slice A1_3 l1_3.length c1_3, .int .i64 a1_4, .slice A1_5 l1_5.length c1_5, .slice A1_6 l1_6.length c1_6, .slice A1_7 l1_7.length c1_7, .slice A1_8 l1_8.length c1_8, .slice A1_9 l1_9.length c1_9] 36 (0, 0)) from (hb2.block _ (by simp [World.drewN])).trans (by repeat first | exact alloc_at0 (by first | (simp only [World.size_alloc]; done) | (simp [World.drewN]; done) | omega) | refine blk_alloc ?_ _ | refine blk_drewN ?_ _))
                clear hb2 HQ6
                cases b6 with
                | false =>
                  obtain rfl : false = r := by have := HK6.out; simpa using this
                  go_wp2
                  go_ret
                  exact ⟨rfl, HB6.out⟩
                | true =>
                  have H := Aside0.mk (show ((eqF (userEq k) l0_8 l1_8).bind fun b => if b = true then eqF (itemEq k) l0_9 l1_9 else some false) = some r from HK6.out)
                  clear HK6
                  obtain ⟨b8, hb8, hk⟩ := Option.bind_eq_some_iff.mp H.out
                  have HQ8 := Aside0.mk hb8
                  have HK8 := Aside0.mk hk
                  clear hb8 hk H
                  have kp : w6.cell? ⟨w.heap.size, 8, none⟩ = some (.slice A0_8 l0_8.length c0_8) := (blk_cell HP6.out 8).trans rfl
                  have kq : w6.cell? ⟨w.heap.size + 1, 8, none⟩ = some (.slice A1_8 l1_8.length c1_8) := (blk_cell HQB6.out 8).trans rfl
                  go_wp2_with (fail)
                  refine (eqUser.calls _ (userEq k) l0_8 l1_8 _ _ _ _ b8 _ (Kd.C_below HR0_8.out.1 HB6.out) (Kd.C_below HR1_8.out.1 HB6.out) (asks_user k _) HQ8.out).mono ?_
                  rintro e w8 ⟨rfl, hb2⟩
                  have HB8 := Aside0.mk (below_step HB6.out hb2)
                  have HP8 := Aside0.mk ((hb2.block _ (blk_lt HP6.out)).trans HP6.out)
                  have HQB8 := Aside0.mk ((hb2.block _ (blk_lt HQB6.out)).trans HQB6.out)
                  clear kp kq
                  clear hb2 HQ8
                  cases b8 with
                  | false =>
                    obtain rfl : false = r := by have := HK8.out; simpa using this
                    go_wp2
                    go_ret
                    exact ⟨rfl, HB8.out⟩
                  | true =>
                    have H := Aside0.mk (show (eqF (itemEq k) l0_9 l1_9) = some r from HK8.out)
                    clear HK8
                    have HQ9 := H
                    have kp : w8.cell? ⟨w.heap.size, 9, none⟩ = some (.slice A0_9 l0_9.length c0_9) := (blk_cell HP8.out 9).trans rfl
                    have kq : w8.cell? ⟨w.heap.size + 1, 9, none⟩ = some (.slice A1_9 l1_9.length c1_9) := (blk_cell HQB8.out 9).trans rfl
                    go_wp2_with (fail)
                    refine (eqItem.calls _ (itemEq k) l0_9 l1_9 _ _ _ _ r _ (Kd.C_below HR0_9.out.1 HB8.out) (Kd.C_below HR1_9.out.1 HB8.out) (asks_item k _) HQ9.out).mono ?_
                    rintro e w9 ⟨rfl, hb2⟩
                    have HB9 := Aside0.mk (below_step HB8.out hb2)
                    have HP9 := Aside0.mk ((hb2.block _ (blk_lt HP8.out)).trans HP8.out)
                    have HQB9 := Aside0.mk ((hb2.block _ (blk_lt HQB8.out)).trans HQB8.out)
                    clear kp kq
                    clear hb2 HQ9
                    go_wp2
                    go_ret
                    exact ⟨rfl, HB9.out⟩
end Go.Proofs.Ytknenadpkgajjaa.PA
end
