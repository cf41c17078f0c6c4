-- Printed by this session's gprint.py (over the kit's print.py) out of the translation.
import Derived.Test.YtknenadpkgajjaaGLit
import Derived.Test.YtknenadpkgajjaaPAx0
import Derived.Test.YtknenadpkgajjaaPAx7
import Derived.Test.YtknenadpkgajjaaPAx9
import Derived.Test.YtknenadpkgajjaaPAx10
import Derived.Test.YtknenadpkgajjaaPAx12
import Derived.Test.YtknenadpkgajjaaPAx14
import Derived.Test.YtknenadpkgajjaaPAx16
namespace Go.Proofs.Ytknenadpkgajjaa.PA
open Go.RowKit Go.Proofs.YtknenadpkgajjaaW.PrintWords Go.Proofs.YtknenadpkgajjaaW.PrintLast Go.Proofs.YtknenadpkgajjaaW.PrintMore
attribute [local go_sem] max2_int min2_int max_two min_two max_three min_three max_four min_four   -- for this text's walks alone
set_option linter.unusedVariables false
set_option linter.unusedSimpArgs false

/-! ### rules_isRule: function 54 -/
open Go.Proofs.Ytknenadpkgajjaa.GFunc Go.Proofs.Ytknenadpkgajjaa.GLit
attribute [local go_sem] run_store_func
set_option linter.unusedSimpArgs false
set_option linter.unusedVariables false
def inB (n a b : Int) : Bool := decide (n ≥ a) && decide (n < b)
theorem within_any (a b c : Int) (w : World) : Calls Try.prog 20 #[.int .i64 a, .int .i64 b, .int .i64 c] w fun e w' => e = .returned (.bool (inB a b c)) ∧ Drawn0 w w' := by
  refine rules_within.calls a b c _ w ?_
  unfold rules_within.f inB
  by_cases h : a ≥ b
  · rw [if_pos h, decide_eq_true h]; rfl
  · rw [if_neg h, decide_eq_false h]; rfl
set_option maxHeartbeats 4000000 in
set_option maxRecDepth 100000 in
theorem passes_any (f0 f1 f4 : Int) (A2 : Option Addr) (n2 c2 : Nat) (A3 : Option Addr) (n3 c3 : Nat) (A5 : Option Addr) (n5 c5 : Nat) (A6 : Option Addr) (n6 c6 : Nat) (A7 : Option Addr) (n7 c7 : Nat) (A8 : Option Addr) (n8 c8 : Nat) (A9 : Option Addr) (n9 c9 : Nat) (n : Int) (w : World) : Calls Try.prog 57 #[.agg #[.int .i64 f0, .int .i64 f1, .slice A2 n2 c2, .slice A3 n3 c3, .int .i64 f4, .slice A5 n5 c5, .slice A6 n6 c6, .slice A7 n7 c7, .slice A8 n8 c8, .slice A9 n9 c9], .int .i64 n] w fun e w' => e = .returned (.bool (inB n f1 f0)) ∧ Below w.heap.size w w' := by
  go_enter Try.func57, Try.ntmps57
  go_wp2_with (fail)
  refine (within_any n f1 f0 _).mono ?_
  rintro e w2 ⟨rfl, ⟨nd, rfl⟩⟩
  go_wp2
  go_ret
  exact ⟨rfl, by repeat (first | exact Below.refl _ _ | apply below_alloc | apply pw_below_drewN)⟩
def odd (f0 n : Int) : Bool := !inB n 0 f0
set_option maxHeartbeats 4000000 in
set_option maxRecDepth 100000 in
theorem odd_any (f0 f1 f4 : Int) (A2 : Option Addr) (n2 c2 : Nat) (A3 : Option Addr) (n3 c3 : Nat) (A5 : Option Addr) (n5 c5 : Nat) (A6 : Option Addr) (n6 c6 : Nat) (A7 : Option Addr) (n7 c7 : Nat) (A8 : Option Addr) (n8 c8 : Nat) (A9 : Option Addr) (n9 c9 : Nat) (b : Nat) (n : Int) (w : World) (hB : w.heap[b]? = some (.cells #[.int .i64 f0, .int .i64 f1, .slice A2 n2 c2, .slice A3 n3 c3, .int .i64 f4, .slice A5 n5 c5, .slice A6 n6 c6, .slice A7 n7 c7, .slice A8 n8 c8, .slice A9 n9 c9] 36 (0, 0))) : Calls Try.prog 73 #[.int .i64 n, .pointer (some ⟨b, 0, none⟩)] w fun e w' => e = .returned (.bool (odd f0 n)) ∧ Drawn0 w w' := by
  have k0 : w.cell? ⟨b, 0, none⟩ = some (.int .i64 f0) := (blk_cell hB 0).trans rfl
  clear hB
  go_enter Try.func73, Try.ntmps73
  go_wp2_with (fail)
  refine (within_any n 0 f0 _).mono ?_
  rintro e w2 ⟨rfl, ⟨nd, rfl⟩⟩
  go_wp2
  go_ret
  exact ⟨rfl, ⟨nd, rfl⟩⟩
set_option maxHeartbeats 4000000 in
set_option maxRecDepth 100000 in
theorem asks_oddL (f0 f1 f4 : Int) (A2 : Option Addr) (n2 c2 : Nat) (A3 : Option Addr) (n3 c3 : Nat) (A5 : Option Addr) (n5 c5 : Nat) (A6 : Option Addr) (n6 c6 : Nat) (A7 : Option Addr) (n7 c7 : Nat) (A8 : Option Addr) (n8 c8 : Nat) (A9 : Option Addr) (n9 c9 : Nat) (b o : Nat) (w : World) (hB : w.heap[b]? = some (.cells #[.int .i64 f0, .int .i64 f1, .slice A2 n2 c2, .slice A3 n3 c3, .int .i64 f4, .slice A5 n5 c5, .slice A6 n6 c6, .slice A7 n7 c7, .slice A8 n8 c8, .slice A9 n9 c9] 36 (0, 0))) (hO : w.heap[o]? = some (.cells #[.func (.func 73) #[] #[.pointer (some ⟨b, 0, none⟩)]] 49 (0, 0))) : AsksLit 74 #[.pointer (some ⟨o, 0, none⟩)] (fun x => odd f0 x.f0) w := by
  refine ⟨by unfold HasBody; kernel_rfl, fun x w' hb => ?_⟩
  have HB := Aside0.mk ((hb.block _ (blk_lt hB)).trans hB)
  have hO' := (hb.block _ (blk_lt hO)).trans hO
  have k0 : ∀ q, (w'.alloc q).cell? ⟨o, 0, none⟩ = some (.func (.func 73) #[] #[.pointer (some ⟨b, 0, none⟩)]) := fun q => (blk_cell (blk_alloc hO' q) 0).trans rfl
  clear hB hb hO hO'
  unfold aggLit
  go_enter Try.func74, Try.ntmps74
  go_wp2_with (fail)
  refine (odd_any f0 f1 f4 A2 n2 c2 A3 n3 c3 A5 n5 c5 A6 n6 c6 A7 n7 c7 A8 n8 c8 A9 n9 c9 b x.f0 _ (blk_alloc HB.out _)).mono ?_
  rintro e w2 ⟨rfl, ⟨nd, rfl⟩⟩
  go_wp2
  go_ret
  exact ⟨rfl, by repeat (first | exact Below.refl _ _ | apply below_alloc | apply pw_below_drewN)⟩
set_option maxHeartbeats 4000000 in
set_option maxRecDepth 100000 in
theorem asks_oddS (f0 f1 f4 : Int) (A2 : Option Addr) (n2 c2 : Nat) (A3 : Option Addr) (n3 c3 : Nat) (A5 : Option Addr) (n5 c5 : Nat) (A6 : Option Addr) (n6 c6 : Nat) (A7 : Option Addr) (n7 c7 : Nat) (A8 : Option Addr) (n8 c8 : Nat) (A9 : Option Addr) (n9 c9 : Nat) (b o : Nat) (w : World) (hB : w.heap[b]? = some (.cells #[.int .i64 f0, .int .i64 f1, .slice A2 n2 c2, .slice A3 n3 c3, .int .i64 f4, .slice A5 n5 c5, .slice A6 n6 c6, .slice A7 n7 c7, .slice A8 n8 c8, .slice A9 n9 c9] 36 (0, 0))) (hO : w.heap[o]? = some (.cells #[.func (.func 73) #[] #[.pointer (some ⟨b, 0, none⟩)]] 49 (0, 0))) : AsksSet 75 #[.pointer (some ⟨o, 0, none⟩)] (fun x => odd f0 x.f0) w := by
  refine ⟨by unfold HasBody; kernel_rfl, fun x w' hb => ?_⟩
  have HB := Aside0.mk ((hb.block _ (blk_lt hB)).trans hB)
  have hO' := (hb.block _ (blk_lt hO)).trans hO
  have k0 : ∀ q, (w'.alloc q).cell? ⟨o, 0, none⟩ = some (.func (.func 73) #[] #[.pointer (some ⟨b, 0, none⟩)]) := fun q => (blk_cell (blk_alloc hO' q) 0).trans rfl
  clear hB hb hO hO'
  unfold aggSet
  go_enter Try.func75, Try.ntmps75
  go_wp2_with (fail)
  refine (odd_any f0 f1 f4 A2 n2 c2 A3 n3 c3 A5 n5 c5 A6 n6 c6 A7 n7 c7 A8 n8 c8 A9 n9 c9 b x.f0 _ (blk_alloc HB.out _)).mono ?_
  rintro e w2 ⟨rfl, ⟨nd, rfl⟩⟩
  go_wp2
  go_ret
  exact ⟨rfl, by repeat (first | exact Below.refl _ _ | apply below_alloc | apply pw_below_drewN)⟩
def hasText (l : List ByteArray) (s : ByteArray) : Bool := l.any fun y => decide (s.toList = y.toList)
theorem index_texts (s : ByteArray) (l : List ByteArray) (hl : l.length ≤ 9223372036854775807) : ∀ (d i : Nat), i + d = l.length → ∃ r : Int, slices_Index_string_string.l0 (d + 1) l s (l.length : Int) i = some r ∧ decide (r ≥ 0) = hasText (l.drop i) s
  | 0, i, h => by
    refine ⟨-1, ?_, ?_⟩
    · unfold slices_Index_string_string.l0
      rw [if_neg (by omega)]
    · rw [List.drop_eq_nil_of_le (by omega)]; rfl
  | d + 1, i, h => by
    unfold slices_Index_string_string.l0
    rw [if_pos (by omega), if_pos (by omega), if_pos (by omega), List.drop_eq_getElem_cons (by omega : i < l.length)]
    have hx : rdOf ByteArray.empty l (i : Int) = l[i] := by simp [rdOf, List.getD_eq_getElem?_getD, List.getElem?_eq_getElem (show i < l.length by omega)]
    rw [hx]
    by_cases hc : s.toList = l[i].toList
    · rw [if_pos hc]
      refine ⟨i, rfl, ?_⟩
      show decide ((i : Int) ≥ 0) = (decide (s.toList = l[i].toList) || hasText (l.drop (i + 1)) s)
      rw [decide_eq_true hc, decide_eq_true (by omega)]
      rfl
    · rw [if_neg hc]
      obtain ⟨r, h1, h2⟩ := index_texts s l hl d (i + 1) (by omega)
      refine ⟨r, ?_, ?_⟩
      · rw [show wrap64 ((i : Int) + 1) = ((i + 1 : Nat) : Int) by unfold wrap64; omega]; exact h1
      · show decide (r ≥ 0) = (decide (s.toList = l[i].toList) || hasText (l.drop (i + 1)) s)
        rw [decide_eq_false hc, h2]
        rfl
theorem contains_texts (s : ByteArray) (l : List ByteArray) (hl : l.length ≤ 9223372036854775807) : slices_Contains_string_string.f (l.length + 1) l s = some (hasText l s) := by
  obtain ⟨r, h1, h2⟩ := index_texts s l hl l.length 0 (by omega)
  unfold slices_Contains_string_string.f slices_Index_string_string.f
  rw [show ((0 : Nat) : Int) = 0 from rfl] at h1
  rw [h1]
  simp only [Option.bind_some]
  rw [h2]
  rfl
def opsL : List ByteArray := [⟨#[60]⟩, ⟨#[60, 61]⟩, ⟨#[61]⟩, ⟨#[33, 61]⟩, ⟨#[62, 61]⟩, ⟨#[62]⟩]
def isCondF (files : List ByteArray) (x : S41) : Bool := hasText files x.f0 && hasText opsL x.f1
set_option maxHeartbeats 4000000 in
set_option maxRecDepth 100000 in
theorem isCond_any (f0 f1 f4 : Int) (A2 : Option Addr) (n2 c2 : Nat) (A3 : Option Addr) (n3 c3 : Nat) (A5 : Option Addr) (c5 : Nat) (A6 : Option Addr) (n6 c6 : Nat) (A7 : Option Addr) (n7 c7 : Nat) (A8 : Option Addr) (n8 c8 : Nat) (A9 : Option Addr) (n9 c9 : Nat) (files : List ByteArray) (x : S41) (w : World) (hF : Kd.C Kd.string w A5 files.length files) (hc : files.length ≤ c5) : Calls Try.prog 78 #[.agg #[.int .i64 f0, .int .i64 f1, .slice A2 n2 c2, .slice A3 n3 c3, .int .i64 f4, .slice A5 files.length c5, .slice A6 n6 c6, .slice A7 n7 c7, .slice A8 n8 c8, .slice A9 n9 c9], aggCond x] w fun e w' => e = .returned (.bool (isCondF files x)) ∧ Below w.heap.size w w' := by
  have HF := Aside0.mk hF
  have HC := Aside0.mk hc
  clear hF hc
  unfold aggCond isCondF
  go_enter Try.func78, Try.ntmps78
  go_wp2_with (fail)
  refine (slices_Contains_string_string.calls _ _ _ files x.f0 _ _ (Kd.C_alloc (Kd.C_alloc HF.out _) _) HC.out (contains_texts x.f0 files (Kd.C_max HF.out))).mono ?_
  rintro e w2 ⟨rfl, ⟨nd, rfl⟩⟩
  cases h1 : hasText files x.f0 with
  | false =>
    go_wp2
    go_ret
    exact ⟨by rw [h1]; rfl, by repeat (first | exact Below.refl _ _ | apply below_alloc | apply pw_below_drewN)⟩
  | true =>
    go_wp2_with (fail)
    refine (slices_Contains_string_string.calls _ _ _ opsL x.f1 _ _ (C_block (t := 9) (g := w.heap.size + 1 + 1) ?hg (.c1 rfl rfl (.c1 rfl rfl (.c1 rfl rfl (.c1 rfl rfl (.c1 rfl rfl (.c1 rfl rfl .nil)))))) (by simp [opsL, maxLen])) (Nat.le_refl _) (contains_texts x.f1 opsL (by simp [opsL]))).mono ?_
    case hg => repeat first | exact alloc_at (by first | (simp only [World.size_alloc]; done) | (simp [World.drewN]; done) | omega) | refine blk_alloc ?_ _ | refine blk_drewN ?_ _
    rintro e w3 ⟨rfl, ⟨nd2, rfl⟩⟩
    go_wp2
    go_ret
    exact ⟨by rw [h1]; rfl, by repeat (first | exact Below.refl _ _ | apply below_alloc | apply pw_below_drewN)⟩
set_option maxHeartbeats 4000000 in
set_option maxRecDepth 100000 in
theorem asks_cond (f0 f1 f4 : Int) (A2 : Option Addr) (n2 c2 : Nat) (A3 : Option Addr) (n3 c3 : Nat) (A5 : Option Addr) (c5 : Nat) (A6 : Option Addr) (n6 c6 : Nat) (A7 : Option Addr) (n7 c7 : Nat) (A8 : Option Addr) (n8 c8 : Nat) (A9 : Option Addr) (n9 c9 : Nat) (files : List ByteArray) (b : Nat) (w : World) (hB : w.heap[b]? = some (.cells #[.int .i64 f0, .int .i64 f1, .slice A2 n2 c2, .slice A3 n3 c3, .int .i64 f4, .slice A5 files.length c5, .slice A6 n6 c6, .slice A7 n7 c7, .slice A8 n8 c8, .slice A9 n9 c9] 36 (0, 0))) (hF : Kd.C Kd.string w A5 files.length files) (hc : files.length ≤ c5) : AsksCond 77 #[.pointer (some ⟨b, 0, none⟩)] (fun x => !isCondF files x) w := by
  refine ⟨by unfold HasBody; kernel_rfl, fun x w' hb => ?_⟩
  have hB' := (hb.block _ (blk_lt hB)).trans hB
  have HF := Aside0.mk (Kd.C_below hF hb)
  have HC := Aside0.mk hc
  have kp0 : ∀ o, (w'.alloc o).cell? ⟨b, 0, none⟩ = some (.int .i64 f0) := fun o => (blk_cell (blk_alloc hB' o) 0).trans rfl
  have kp1 : ∀ o, (w'.alloc o).cell? ⟨b, 1, none⟩ = some (.int .i64 f1) := fun o => (blk_cell (blk_alloc hB' o) 1).trans rfl
  have kp2 : ∀ o, (w'.alloc o).cell? ⟨b, 2, none⟩ = some (.slice A2 n2 c2) := fun o => (blk_cell (blk_alloc hB' o) 2).trans rfl
  have kp3 : ∀ o, (w'.alloc o).cell? ⟨b, 3, none⟩ = some (.slice A3 n3 c3) := fun o => (blk_cell (blk_alloc hB' o) 3).trans rfl
  have kp4 : ∀ o, (w'.alloc o).cell? ⟨b, 4, none⟩ = some (.int .i64 f4) := fun o => (blk_cell (blk_alloc hB' o) 4).trans rfl
  have kp5 : ∀ o, (w'.alloc o).cell? ⟨b, 5, none⟩ = some (.slice A5 files.length c5) := fun o => (blk_cell (blk_alloc hB' o) 5).trans rfl
  have kp6 : ∀ o, (w'.alloc o).cell? ⟨b, 6, none⟩ = some (.slice A6 n6 c6) := fun o => (blk_cell (blk_alloc hB' o) 6).trans rfl
  have kp7 : ∀ o, (w'.alloc o).cell? ⟨b, 7, none⟩ = some (.slice A7 n7 c7) := fun o => (blk_cell (blk_alloc hB' o) 7).trans rfl
  have kp8 : ∀ o, (w'.alloc o).cell? ⟨b, 8, none⟩ = some (.slice A8 n8 c8) := fun o => (blk_cell (blk_alloc hB' o) 8).trans rfl
  have kp9 : ∀ o, (w'.alloc o).cell? ⟨b, 9, none⟩ = some (.slice A9 n9 c9) := fun o => (blk_cell (blk_alloc hB' o) 9).trans rfl
  clear hB hb hB' hF hc
  unfold aggCond
  go_enter Try.func77, Try.ntmps77
  go_wp2_with (fail)
  refine (isCond_any f0 f1 f4 A2 n2 c2 A3 n3 c3 A5 c5 A6 n6 c6 A7 n7 c7 A8 n8 c8 A9 n9 c9 files x _ (Kd.C_alloc HF.out _) HC.out).mono ?_
  rintro e w2 ⟨rfl, hb2⟩
  have HB2 := Aside0.mk (below_step (below_alloc (Below.refl _ _) _ : Below w'.heap.size w' _) hb2)
  clear hb2
  go_wp2
  go_ret
  exact ⟨rfl, HB2.out⟩
def isRuleF (p0 : Int) (p5 : List ByteArray) (r : S28) : Bool := inB r.f0 1 21 && !(decide (r.f3.length = 0)) && !r.f1.any (fun x => odd p0 x.f0) && !r.f3.any (fun x => odd p0 x.f0) && !r.f2.any (fun x => !isCondF p5 x)
def rules_isRule.f (a0_0 : Int) (a0_1 : Int) (l0_2 : List Int) (l0_3 : List Int) (a0_4 : Int) (l0_5 : List ByteArray) (l0_6 : List S28) (l0_7 : List S44) (l0_8 : List S46) (l0_9 : List S57) (a1_0 : Int) (l1_1 : List S39) (l1_2 : List S41) (l1_3 : List S23) : Option Bool := some (isRuleF a0_0 l0_5 ⟨a1_0, l1_1, l1_2, l1_3⟩)
set_option maxHeartbeats 4000000 in
set_option maxRecDepth 100000 in
theorem rules_isRule.calls (a0_0 : Int) (a0_1 : Int) (A0_2 : Option Addr) (c0_2 : Nat) (l0_2 : List Int) (A0_3 : Option Addr) (c0_3 : Nat) (l0_3 : List Int) (a0_4 : Int) (A0_5 : Option Addr) (c0_5 : Nat) (l0_5 : List ByteArray) (A0_6 : Option Addr) (c0_6 : Nat) (l0_6 : List S28) (A0_7 : Option Addr) (c0_7 : Nat) (l0_7 : List S44) (A0_8 : Option Addr) (c0_8 : Nat) (l0_8 : List S46) (A0_9 : Option Addr) (c0_9 : Nat) (l0_9 : List S57) (a1_0 : Int) (A1_1 : Option Addr) (c1_1 : Nat) (l1_1 : List S39) (A1_2 : Option Addr) (c1_2 : Nat) (l1_2 : List S41) (A1_3 : Option Addr) (c1_3 : Nat) (l1_3 : List S23) (r : Bool) (w : World) (hr0_2 : Kd.C (Kd.int .i64) w A0_2 l0_2.length l0_2) (hc0_2 : l0_2.length ≤ c0_2) (hr0_3 : Kd.C (Kd.int .i64) w A0_3 l0_3.length l0_3) (hc0_3 : l0_3.length ≤ c0_3) (hr0_5 : Kd.C Kd.string w A0_5 l0_5.length l0_5) (hc0_5 : l0_5.length ≤ c0_5) (hr0_6 : Kd.C k28 w A0_6 l0_6.length l0_6) (hc0_6 : l0_6.length ≤ c0_6) (hr0_7 : Kd.C k44 w A0_7 l0_7.length l0_7) (hc0_7 : l0_7.length ≤ c0_7) (hr0_8 : Kd.C k46 w A0_8 l0_8.length l0_8) (hc0_8 : l0_8.length ≤ c0_8) (hr0_9 : Kd.C k57 w A0_9 l0_9.length l0_9) (hc0_9 : l0_9.length ≤ c0_9) (hr1_1 : Kd.C k39 w A1_1 l1_1.length l1_1) (hc1_1 : l1_1.length ≤ c1_1) (hr1_2 : Kd.C k41 w A1_2 l1_2.length l1_2) (hc1_2 : l1_2.length ≤ c1_2) (hr1_3 : Kd.C k23 w A1_3 l1_3.length l1_3) (hc1_3 : l1_3.length ≤ c1_3) (h : rules_isRule.f a0_0 a0_1 l0_2 l0_3 a0_4 l0_5 l0_6 l0_7 l0_8 l0_9 a1_0 l1_1 l1_2 l1_3 = some r) :
    Calls Try.prog 54 #[.agg #[.int .i64 a0_0, .int .i64 a0_1, .slice A0_2 l0_2.length c0_2, .slice A0_3 l0_3.length c0_3, .int .i64 a0_4, .slice A0_5 l0_5.length c0_5, .slice A0_6 l0_6.length c0_6, .slice A0_7 l0_7.length c0_7, .slice A0_8 l0_8.length c0_8, .slice A0_9 l0_9.length c0_9], .agg #[.int .i64 a1_0, .slice A1_1 l1_1.length c1_1, .slice A1_2 l1_2.length c1_2, .slice A1_3 l1_3.length c1_3]] w fun e w' => e = .returned (.bool r) ∧ Below w.heap.size w w' := by
  have HF := Aside0.mk (And.intro hr0_5 hc0_5)
  have HR1 := Aside0.mk hr1_1
  have HR2 := Aside0.mk hr1_2
  have HR3 := Aside0.mk hr1_3
  have HE := Aside0.mk (show isRuleF a0_0 l0_5 ⟨a1_0, l1_1, l1_2, l1_3⟩ = r from Option.some.inj h)
  clear hr0_2 hc0_2 hr0_3 hc0_3 hr0_5 hc0_5 hr0_6 hc0_6 hr0_7 hc0_7 hr0_8 hc0_8 hr0_9 hc0_9 hr1_1 hc1_1 hr1_2 hc1_2 hr1_3 hc1_3 h
  have hmf0 := hmf Try.prog
  go_enter Try.func54, Try.ntmps54
  go_wp2_with (fail)
  refine (within_any a1_0 1 21 _).mono ?_
  rintro e w2 ⟨rfl, ⟨nd, rfl⟩⟩
  cases h1 : inB a1_0 1 21 with
  | false =>
    obtain rfl : false = r := by have := HE.out; simpa [isRuleF, h1] using this
    clear HE
    go_wp2
    go_ret
    exact ⟨rfl, by repeat (first | exact Below.refl _ _ | apply below_alloc | apply pw_below_drewN)⟩
  | true =>
    by_cases h2 : l1_3.length = 0
    · obtain rfl : false = r := by have := HE.out; simpa [isRuleF, h1, h2] using this
      clear HE
      have h2b : ((l1_3.length : Int) == 0) = true := beq_iff_eq.mpr (by omega)
      clear h2
      go_wp2
      go_ret
      exact ⟨rfl, by repeat (first | exact Below.refl _ _ | apply below_alloc | apply pw_below_drewN)⟩
    · have h2b : ((l1_3.length : Int) == 0) = false := beq_eq_false_iff_ne.mpr (by omega)
      have HN := Aside0.mk h2
      clear h2
      have HP : Aside0 (((((w.alloc (.cells #[.int .i64 a0_0, .int .i64 a0_1, .slice A0_2 l0_2.length c0_2, .slice A0_3 l0_3.length c0_3, .int .i64 a0_4, .slice A0_5 l0_5.length c0_5, .slice A0_6 l0_6.length c0_6, .slice A0_7 l0_7.length c0_7, .slice A0_8 l0_8.length c0_8, .slice A0_9 l0_9.length c0_9] 36)).alloc (.cells #[.int .i64 a1_0, .slice A1_1 l1_1.length c1_1, .slice A1_2 l1_2.length c1_2, .slice A1_3 l1_3.length c1_3] 28)).alloc (.cells #[.func (.func 73) #[] #[.pointer (some ⟨w.heap.size, 0, none⟩)]] 49)).drewN nd).heap[w.heap.size]? = some (.cells #[.int .i64 a0_0, .int .i64 a0_1, .slice A0_2 l0_2.length c0_2, .slice A0_3 l0_3.length c0_3, .int .i64 a0_4, .slice A0_5 l0_5.length c0_5, .slice A0_6 l0_6.length c0_6, .slice A0_7 l0_7.length c0_7, .slice A0_8 l0_8.length c0_8, .slice A0_9 l0_9.length c0_9] 36 (0, 0))) := ⟨by repeat first | exact alloc_at (by first | (simp only [World.size_alloc]; done) | (simp [World.drewN]; done) | omega) | refine blk_alloc ?_ _ | refine blk_drewN ?_ _⟩
      have HQ : Aside0 (((((w.alloc (.cells #[.int .i64 a0_0, .int .i64 a0_1, .slice A0_2 l0_2.length c0_2, .slice A0_3 l0_3.length c0_3, .int .i64 a0_4, .slice A0_5 l0_5.length c0_5, .slice A0_6 l0_6.length c0_6, .slice A0_7 l0_7.length c0_7, .slice A0_8 l0_8.length c0_8, .slice A0_9 l0_9.length c0_9] 36)).alloc (.cells #[.int .i64 a1_0, .slice A1_1 l1_1.length c1_1, .slice A1_2 l1_2.length c1_2, .slice A1_3 l1_3.length c1_3] 28)).alloc (.cells #[.func (.func 73) #[] #[.pointer (some ⟨w.heap.size, 0, none⟩)]] 49)).drewN nd).heap[w.heap.size + 1]? = some (.cells #[.int .i64 a1_0, .slice A1_1 l1_1.length c1_1, .slice A1_2 l1_2.length c1_2, .slice A1_3 l1_3.length c1_3] 28 (0, 0))) := ⟨by repeat first | exact alloc_at (by first | (simp only [World.size_alloc]; done) | (simp [World.drewN]; done) | omega) | refine blk_alloc ?_ _ | refine blk_drewN ?_ _⟩
      have HO : Aside0 (((((w.alloc (.cells #[.int .i64 a0_0, .int .i64 a0_1, .slice A0_2 l0_2.length c0_2, .slice A0_3 l0_3.length c0_3, .int .i64 a0_4, .slice A0_5 l0_5.length c0_5, .slice A0_6 l0_6.length c0_6, .slice A0_7 l0_7.length c0_7, .slice A0_8 l0_8.length c0_8, .slice A0_9 l0_9.length c0_9] 36)).alloc (.cells #[.int .i64 a1_0, .slice A1_1 l1_1.length c1_1, .slice A1_2 l1_2.length c1_2, .slice A1_3 l1_3.length c1_3] 28)).alloc (.cells #[.func (.func 73) #[] #[.pointer (some ⟨w.heap.size, 0, none⟩)]] 49)).drewN nd).heap[w.heap.size + 1 + 1]? = some (.cells #[.func (.func 73) #[] #[.pointer (some ⟨w.heap.size, 0, none⟩)]] 49 (0, 0))) := ⟨by repeat first | exact alloc_at (by first | (simp only [World.size_alloc]; done) | (simp [World.drewN]; done) | omega) | refine blk_alloc ?_ _ | refine blk_drewN ?_ _⟩
      have HB : Aside0 (Below w.heap.size w ((((w.alloc (.cells #[.int .i64 a0_0, .int .i64 a0_1, .slice A0_2 l0_2.length c0_2, .slice A0_3 l0_3.length c0_3, .int .i64 a0_4, .slice A0_5 l0_5.length c0_5, .slice A0_6 l0_6.length c0_6, .slice A0_7 l0_7.length c0_7, .slice A0_8 l0_8.length c0_8, .slice A0_9 l0_9.length c0_9] 36)).alloc (.cells #[.int .i64 a1_0, .slice A1_1 l1_1.length c1_1, .slice A1_2 l1_2.length c1_2, .slice A1_3 l1_3.length c1_3] 28)).alloc (.cells #[.func (.func 73) #[] #[.pointer (some ⟨w.heap.size, 0, none⟩)]] 49)).drewN nd)) := ⟨by repeat (first | exact Below.refl _ _ | apply below_alloc | apply pw_below_drewN)⟩
      go_wp2_with (fail)
      refine (containsLit.calls _ _ (fun x => odd a0_0 x.f0) l1_1 _ _ _ (Kd.C_below HR1.out HB.out) (asks_oddL a0_0 a0_1 a0_4 A0_2 l0_2.length c0_2 A0_3 l0_3.length c0_3 A0_5 l0_5.length c0_5 A0_6 l0_6.length c0_6 A0_7 l0_7.length c0_7 A0_8 l0_8.length c0_8 A0_9 l0_9.length c0_9 _ _ _ HP.out HO.out)).mono ?_
      rintro e w3 ⟨rfl, hb3⟩
      have HP3 := Aside0.mk ((hb3.block _ (blk_lt HP.out)).trans HP.out)
      have HQ3 := Aside0.mk ((hb3.block _ (blk_lt HQ.out)).trans HQ.out)
      have HO3 := Aside0.mk ((hb3.block _ (blk_lt HO.out)).trans HO.out)
      have HB3 := Aside0.mk (below_step HB.out hb3)
      clear hb3 HP HQ HO HB
      cases h3 : l1_1.any (fun x => odd a0_0 x.f0) with
      | true =>
        obtain rfl : false = r := by have := HE.out; simpa [isRuleF, h1, h3] using this
        clear HE
        go_wp2
        go_ret
        exact ⟨rfl, HB3.out⟩
      | false =>
        have kq3 : w3.cell? ⟨w.heap.size + 1, 3, none⟩ = some (.slice A1_3 l1_3.length c1_3) := (blk_cell HQ3.out 3).trans rfl
        go_wp2_with (fail)
        refine (containsSet.calls _ _ (fun x => odd a0_0 x.f0) l1_3 _ _ _ (Kd.C_below HR3.out HB3.out) (asks_oddS a0_0 a0_1 a0_4 A0_2 l0_2.length c0_2 A0_3 l0_3.length c0_3 A0_5 l0_5.length c0_5 A0_6 l0_6.length c0_6 A0_7 l0_7.length c0_7 A0_8 l0_8.length c0_8 A0_9 l0_9.length c0_9 _ _ _ HP3.out HO3.out)).mono ?_
        rintro e w4 ⟨rfl, hb4⟩
        have HP4 := Aside0.mk ((hb4.block _ (blk_lt HP3.out)).trans HP3.out)
        have HQ4 := Aside0.mk ((hb4.block _ (blk_lt HQ3.out)).trans HQ3.out)
        have HB4 := Aside0.mk (below_step HB3.out hb4)
        clear hb4 HP3 HQ3 HO3 HB3 kq3
        cases h4 : l1_3.any (fun x => odd a0_0 x.f0) with
        | true =>
          obtain rfl : false = r := by have := HE.out; simpa [isRuleF, h1, h3, h4] using this
          clear HE
          go_wp2
          go_ret
          exact ⟨rfl, HB4.out⟩
        | false =>
          have kq4 : w4.cell? ⟨w.heap.size + 1, 2, none⟩ = some (.slice A1_2 l1_2.length c1_2) := (blk_cell HQ4.out 2).trans rfl
          go_wp2_with (fail)
          refine (containsCond.calls _ _ (fun x => !isCondF l0_5 x) l1_2 _ _ _ (Kd.C_below HR2.out HB4.out) (asks_cond a0_0 a0_1 a0_4 A0_2 l0_2.length c0_2 A0_3 l0_3.length c0_3 A0_5 c0_5 A0_6 l0_6.length c0_6 A0_7 l0_7.length c0_7 A0_8 l0_8.length c0_8 A0_9 l0_9.length c0_9 l0_5 _ _ HP4.out (Kd.C_below HF.out.1 HB4.out) HF.out.2)).mono ?_
          rintro e w5 ⟨rfl, hb5⟩
          have HB5 := Aside0.mk (below_step HB4.out hb5)
          clear hb5 HP4 HQ4 HB4 kq4
          have HR := Aside0.mk (show r = !(l1_2.any (fun x => !isCondF l0_5 x)) by have := HE.out; have hn := HN.out; simpa [isRuleF, h1, h3, h4, hn, eq_comm] using this)
          clear HE
          go_wp2
          go_ret
          exact ⟨by rw [HR.out]; rfl, HB5.out⟩

end Go.Proofs.Ytknenadpkgajjaa.PA
