-- Printed by this session's gprint.py (over the kit's print.py) out of the translation.
import Derived.Test.YtknenadpkgajjaaPAx0
import Derived.Test.YtknenadpkgajjaaPAx14
import Derived.Test.YtknenadpkgajjaaPAx47
namespace Go.Proofs.Ytknenadpkgajjaa.PA
open Go.RowKit Go.Proofs.YtknenadpkgajjaaW.PrintWords Go.Proofs.YtknenadpkgajjaaW.PrintLast Go.Proofs.YtknenadpkgajjaaW.PrintMore
attribute [local go_sem] max2_int min2_int max_two min_two max_three min_three max_four min_four   -- for this text's walks alone
set_option linter.unusedVariables false
set_option linter.unusedSimpArgs false

/-! ### rules_Writes: function 16 -/
open Go.Proofs.Ytknenadpkgajjaa.GFunc
set_option linter.unusedSimpArgs false
set_option linter.unusedVariables false
set_option maxHeartbeats 4000000 in
set_option maxRecDepth 100000 in
theorem asks_writes1 (flag : Int) (fb : Nat) (w : World) (hB : w.heap[fb]? = some (.cells #[.int .i64 flag] 3 (0, 0))) : AsksSet 39 #[.pointer (some ⟨fb, 0, none⟩)] (fun x => x.f0 == flag) w := by
  refine ⟨by unfold HasBody; kernel_rfl, fun x w' hb => ?_⟩
  have hB' := (hb.block _ (blk_lt hB)).trans hB
  have k0 : ∀ o, (w'.alloc o).cell? ⟨fb, 0, none⟩ = some (.int .i64 flag) := fun o => (blk_cell (blk_alloc hB' o) 0).trans rfl
  clear hB hb hB'
  unfold aggSet
  go_enter Try.func39, Try.ntmps39
  go_wp2
  go_ret
  exact ⟨rfl, by repeat (first | exact Below.refl _ _ | apply below_alloc | apply pw_below_drewN)⟩
def writesP (flag : Int) (r : S28) : Bool := r.f3.any fun x => x.f0 == flag
set_option maxHeartbeats 4000000 in
set_option maxRecDepth 100000 in
theorem asks_writes (flag : Int) (fb : Nat) (w : World) (hB : w.heap[fb]? = some (.cells #[.int .i64 flag] 3 (0, 0))) : AsksRule 37 #[.pointer (some ⟨fb, 0, none⟩)] (writesP flag) w := by
  refine ⟨by unfold HasBody; kernel_rfl, fun x A1 c1 A2 c2 A3 c3 w' hb h1 h3 => ?_⟩
  have HC := Aside0.mk h3
  have HBk := Aside0.mk ((hb.block _ (blk_lt hB)).trans hB)
  have hmf0 := hmf Try.prog
  clear hB hb h1 h3
  unfold writesP
  go_enter Try.func37, Try.ntmps37
  go_wp2_with (fail)
  refine (containsSet.calls _ _ (fun x => x.f0 == flag) x.f3 _ _ _ (Kd.C_alloc HC.out _) (asks_writes1 flag fb _ (blk_alloc HBk.out _))).mono ?_
  rintro e w2 ⟨rfl, hb2⟩
  have HB2 := Aside0.mk (below_step (below_alloc (Below.refl _ _) _ : Below w'.heap.size w' _) hb2)
  clear hb2
  go_wp2
  go_ret
  exact ⟨rfl, HB2.out⟩
def rules_Writes.f (a0_0 : Int) (a0_1 : Int) (l0_2 : List Int) (l0_3 : List Int) (a0_4 : Int) (l0_5 : List ByteArray) (l0_6 : List S28) (l0_7 : List S44) (l0_8 : List S46) (l0_9 : List S57) (a1 : Int) : Option (List Int) := if l0_6.length < 1000000 then some (strataF l0_6 (writesP a1)) else none
set_option maxHeartbeats 4000000 in
set_option maxRecDepth 100000 in
theorem rules_Writes.calls (a0_0 : Int) (a0_1 : Int) (A0_2 : Option Addr) (c0_2 : Nat) (l0_2 : List Int) (A0_3 : Option Addr) (c0_3 : Nat) (l0_3 : List Int) (a0_4 : Int) (A0_5 : Option Addr) (c0_5 : Nat) (l0_5 : List ByteArray) (A0_6 : Option Addr) (c0_6 : Nat) (l0_6 : List S28) (A0_7 : Option Addr) (c0_7 : Nat) (l0_7 : List S44) (A0_8 : Option Addr) (c0_8 : Nat) (l0_8 : List S46) (A0_9 : Option Addr) (c0_9 : Nat) (l0_9 : List S57) (a1 : Int) (r : List Int) (w : World) (hr0_2 : Kd.C (Kd.int .i64) w A0_2 l0_2.length l0_2) (hc0_2 : l0_2.length ≤ c0_2) (hr0_3 : Kd.C (Kd.int .i64) w A0_3 l0_3.length l0_3) (hc0_3 : l0_3.length ≤ c0_3) (hr0_5 : Kd.C Kd.string w A0_5 l0_5.length l0_5) (hc0_5 : l0_5.length ≤ c0_5) (hr0_6 : Kd.C k28 w A0_6 l0_6.length l0_6) (hc0_6 : l0_6.length ≤ c0_6) (hr0_7 : Kd.C k44 w A0_7 l0_7.length l0_7) (hc0_7 : l0_7.length ≤ c0_7) (hr0_8 : Kd.C k46 w A0_8 l0_8.length l0_8) (hc0_8 : l0_8.length ≤ c0_8) (hr0_9 : Kd.C k57 w A0_9 l0_9.length l0_9) (hc0_9 : l0_9.length ≤ c0_9) (h : rules_Writes.f a0_0 a0_1 l0_2 l0_3 a0_4 l0_5 l0_6 l0_7 l0_8 l0_9 a1 = some r) :
    Calls Try.prog 16 #[.agg #[.int .i64 a0_0, .int .i64 a0_1, .slice A0_2 l0_2.length c0_2, .slice A0_3 l0_3.length c0_3, .int .i64 a0_4, .slice A0_5 l0_5.length c0_5, .slice A0_6 l0_6.length c0_6, .slice A0_7 l0_7.length c0_7, .slice A0_8 l0_8.length c0_8, .slice A0_9 l0_9.length c0_9], .int .i64 a1] w fun e w' => ∃ v0_ : Value, e = .returned (v0_) ∧ Kd.R (Kd.int .i64) 3 w' w.heap.size (fun _ => True) v0_ r ∧ Below w.heap.size w w' := by
  unfold rules_Writes.f at h
  by_cases hl : l0_6.length < 1000000
  case neg => rw [if_neg hl] at h; cases h
  rw [if_pos hl] at h
  obtain rfl := Option.some.inj h
  have HR := Aside0.mk hr0_6
  have HL := Aside0.mk hl
  clear hr0_2 hc0_2 hr0_3 hc0_3 hr0_5 hc0_5 hr0_6 hc0_6 hr0_7 hc0_7 hr0_8 hc0_8 hr0_9 hc0_9 h hl
  have hmf0 := hmf Try.prog
  go_enter Try.func16, Try.ntmps16
  go_wp2_with (fail)
  refine (rules_strata.calls _ _ (writesP a1) a0_0 a0_1 _ _ l0_2 _ _ l0_3 a0_4 _ _ l0_5 _ _ l0_6 _ _ l0_7 _ _ l0_8 _ _ l0_9 _ (Kd.C_alloc (Kd.C_alloc HR.out _) _) HL.out (asks_writes a1 (w.heap.size + 1) _ (by repeat first | exact alloc_at1 (by first | (simp only [World.size_alloc]; done) | omega) | refine blk_alloc ?_ _))).mono ?_
  rintro e w2 ⟨v0, rfl, hv, hb2⟩
  have HB2 := Aside0.mk (below_step (below_alloc (below_alloc (Below.refl _ _) _) _ : Below w.heap.size w _) hb2)
  have HV := Aside0.mk (Kd.R_lower (base' := w.heap.size) hv (by simp only [World.size_alloc]; omega))
  clear hb2 hv
  go_wp2
  go_ret
  exact ⟨v0, rfl, HV.out, HB2.out⟩

end Go.Proofs.Ytknenadpkgajjaa.PA
