-- Printed by this session's gprint.py (over the kit's print.py) out of the translation.
import Derived.Test.YtknenadpkgajjaaPAx0
import Derived.Test.YtknenadpkgajjaaPAx18
import Derived.Test.YtknenadpkgajjaaPAx20
namespace Go.Proofs.Ytknenadpkgajjaa.PA
open Go.RowKit Go.Proofs.YtknenadpkgajjaaW.PrintWords Go.Proofs.YtknenadpkgajjaaW.PrintLast Go.Proofs.YtknenadpkgajjaaW.PrintMore
attribute [local go_sem] max2_int min2_int max_two min_two max_three min_three max_four min_four   -- for this text's walks alone
set_option linter.unusedVariables false
set_option linter.unusedSimpArgs false

/-! ### rules_areCounters: function 24 -/
open Go.Proofs.Ytknenadpkgajjaa.GFunc
set_option linter.unusedSimpArgs false
set_option linter.unusedVariables false
def counterOdd (f0 f1 : Int) (x : S44) : Bool := !inB x.f0 0 f1 || !inB x.f1 1 101 || !inB x.f2 f1 f0
set_option maxHeartbeats 4000000 in
set_option maxRecDepth 100000 in
theorem asks_counter (f0 f1 f4 : Int) (A2 : Option Addr) (n2 c2 : Nat) (A3 : Option Addr) (n3 c3 : Nat) (A5 : Option Addr) (n5 c5 : Nat) (A6 : Option Addr) (n6 c6 : Nat) (A7 : Option Addr) (n7 c7 : Nat) (A8 : Option Addr) (n8 c8 : Nat) (A9 : Option Addr) (n9 c9 : Nat) (b : Nat) (w : World) (hB : w.heap[b]? = some (.cells #[.int .i64 f0, .int .i64 f1, .slice A2 n2 c2, .slice A3 n3 c3, .int .i64 f4, .slice A5 n5 c5, .slice A6 n6 c6, .slice A7 n7 c7, .slice A8 n8 c8, .slice A9 n9 c9] 36 (0, 0))) : AsksCounter 56 #[.pointer (some ⟨b, 0, none⟩)] (counterOdd f0 f1) w := by
  refine ⟨by unfold HasBody; kernel_rfl, fun x w' hb => ?_⟩
  have hB' := (hb.block _ (blk_lt hB)).trans hB
  clear hB hb
  have kp0 : ∀ o, (w'.alloc o).cell? ⟨b, 0, none⟩ = some (.int .i64 f0) := fun o => (blk_cell (blk_alloc hB' o) 0).trans rfl
  have kp1 : ∀ o, (w'.alloc o).cell? ⟨b, 1, none⟩ = some (.int .i64 f1) := fun o => (blk_cell (blk_alloc hB' o) 1).trans rfl
  have kp2 : ∀ o, (w'.alloc o).cell? ⟨b, 2, none⟩ = some (.slice A2 n2 c2) := fun o => (blk_cell (blk_alloc hB' o) 2).trans rfl
  have kp3 : ∀ o, (w'.alloc o).cell? ⟨b, 3, none⟩ = some (.slice A3 n3 c3) := fun o => (blk_cell (blk_alloc hB' o) 3).trans rfl
  have kp4 : ∀ o, (w'.alloc o).cell? ⟨b, 4, none⟩ = some (.int .i64 f4) := fun o => (blk_cell (blk_alloc hB' o) 4).trans rfl
  have kp5 : ∀ o, (w'.alloc o).cell? ⟨b, 5, none⟩ = some (.slice A5 n5 c5) := fun o => (blk_cell (blk_alloc hB' o) 5).trans rfl
  have kp6 : ∀ o, (w'.alloc o).cell? ⟨b, 6, none⟩ = some (.slice A6 n6 c6) := fun o => (blk_cell (blk_alloc hB' o) 6).trans rfl
  have kp7 : ∀ o, (w'.alloc o).cell? ⟨b, 7, none⟩ = some (.slice A7 n7 c7) := fun o => (blk_cell (blk_alloc hB' o) 7).trans rfl
  have kp8 : ∀ o, (w'.alloc o).cell? ⟨b, 8, none⟩ = some (.slice A8 n8 c8) := fun o => (blk_cell (blk_alloc hB' o) 8).trans rfl
  have kp9 : ∀ o, (w'.alloc o).cell? ⟨b, 9, none⟩ = some (.slice A9 n9 c9) := fun o => (blk_cell (blk_alloc hB' o) 9).trans rfl
  have HB := Aside0.mk hB'
  clear hB'
  unfold counterOdd aggCounter
  go_enter Try.func56, Try.ntmps56
  go_wp2_with (fail)
  refine (within_any x.f0 0 f1 _).mono ?_
  rintro e w2 ⟨rfl, ⟨nd, rfl⟩⟩
  cases h1 : inB x.f0 0 f1 with
  | false =>
    go_wp2
    go_ret
    exact ⟨by simp [h1], by repeat (first | exact Below.refl _ _ | apply below_alloc | apply pw_below_drewN)⟩
  | true =>
    go_wp2_with (fail)
    refine (within_any x.f1 1 101 _).mono ?_
    rintro e w2 ⟨rfl, ⟨nd2, rfl⟩⟩
    cases h2 : inB x.f1 1 101 with
    | false =>
      go_wp2
      go_ret
      exact ⟨by simp [h1, h2], by repeat (first | exact Below.refl _ _ | apply below_alloc | apply pw_below_drewN)⟩
    | true =>
      have kd : ∀ o n, ((w'.alloc o).drewN n).heap[b]? = some (.cells #[.int .i64 f0, .int .i64 f1, .slice A2 n2 c2, .slice A3 n3 c3, .int .i64 f4, .slice A5 n5 c5, .slice A6 n6 c6, .slice A7 n7 c7, .slice A8 n8 c8, .slice A9 n9 c9] 36 (0, 0)) := fun o n => blk_drewN (blk_alloc HB.out o) n
      go_wp2_with (fail)
      refine (passes_any f0 f1 f4 A2 n2 c2 A3 n3 c3 A5 n5 c5 A6 n6 c6 A7 n7 c7 A8 n8 c8 A9 n9 c9 x.f2 _).mono ?_
      rintro e w3 ⟨rfl, hb3⟩
      have HB3 := Aside0.mk (below_step (by repeat (first | exact Below.refl _ _ | apply below_alloc | apply pw_below_drewN) : Below w'.heap.size w' _) hb3)
      clear hb3
      go_wp2
      go_ret
      exact ⟨by simp [h1, h2], HB3.out⟩
def rules_areCounters.f (a0_0 : Int) (a0_1 : Int) (l0_2 : List Int) (l0_3 : List Int) (a0_4 : Int) (l0_5 : List ByteArray) (l0_6 : List S28) (l0_7 : List S44) (l0_8 : List S46) (l0_9 : List S57) : Option Bool := some (!l0_7.any (counterOdd a0_0 a0_1))
set_option maxHeartbeats 4000000 in
set_option maxRecDepth 100000 in
theorem rules_areCounters.calls (a0_0 : Int) (a0_1 : Int) (A0_2 : Option Addr) (c0_2 : Nat) (l0_2 : List Int) (A0_3 : Option Addr) (c0_3 : Nat) (l0_3 : List Int) (a0_4 : Int) (A0_5 : Option Addr) (c0_5 : Nat) (l0_5 : List ByteArray) (A0_6 : Option Addr) (c0_6 : Nat) (l0_6 : List S28) (A0_7 : Option Addr) (c0_7 : Nat) (l0_7 : List S44) (A0_8 : Option Addr) (c0_8 : Nat) (l0_8 : List S46) (A0_9 : Option Addr) (c0_9 : Nat) (l0_9 : List S57) (r : Bool) (w : World) (hr0_2 : Kd.C (Kd.int .i64) w A0_2 l0_2.length l0_2) (hc0_2 : l0_2.length ≤ c0_2) (hr0_3 : Kd.C (Kd.int .i64) w A0_3 l0_3.length l0_3) (hc0_3 : l0_3.length ≤ c0_3) (hr0_5 : Kd.C Kd.string w A0_5 l0_5.length l0_5) (hc0_5 : l0_5.length ≤ c0_5) (hr0_6 : Kd.C k28 w A0_6 l0_6.length l0_6) (hc0_6 : l0_6.length ≤ c0_6) (hr0_7 : Kd.C k44 w A0_7 l0_7.length l0_7) (hc0_7 : l0_7.length ≤ c0_7) (hr0_8 : Kd.C k46 w A0_8 l0_8.length l0_8) (hc0_8 : l0_8.length ≤ c0_8) (hr0_9 : Kd.C k57 w A0_9 l0_9.length l0_9) (hc0_9 : l0_9.length ≤ c0_9) (h : rules_areCounters.f a0_0 a0_1 l0_2 l0_3 a0_4 l0_5 l0_6 l0_7 l0_8 l0_9 = some r) :
    Calls Try.prog 24 #[.agg #[.int .i64 a0_0, .int .i64 a0_1, .slice A0_2 l0_2.length c0_2, .slice A0_3 l0_3.length c0_3, .int .i64 a0_4, .slice A0_5 l0_5.length c0_5, .slice A0_6 l0_6.length c0_6, .slice A0_7 l0_7.length c0_7, .slice A0_8 l0_8.length c0_8, .slice A0_9 l0_9.length c0_9]] w fun e w' => e = .returned (.bool r) ∧ Below w.heap.size w w' := by
  have HR := Aside0.mk hr0_7
  obtain rfl : (!l0_7.any (counterOdd a0_0 a0_1)) = r := Option.some.inj h
  clear hr0_2 hc0_2 hr0_3 hc0_3 hr0_5 hc0_5 hr0_6 hc0_6 hr0_7 hc0_7 hr0_8 hc0_8 hr0_9 hc0_9 h
  have hmf0 := hmf Try.prog
  go_enter Try.func24, Try.ntmps24
  go_wp2_with (fail)
  refine (containsCounter.calls _ _ (counterOdd a0_0 a0_1) l0_7 _ _ _ (Kd.C_alloc HR.out _) (asks_counter a0_0 a0_1 a0_4 A0_2 l0_2.length c0_2 A0_3 l0_3.length c0_3 A0_5 l0_5.length c0_5 A0_6 l0_6.length c0_6 A0_7 l0_7.length c0_7 A0_8 l0_8.length c0_8 A0_9 l0_9.length c0_9 w.heap.size _ (MapKept.heap_alloc w _).1)).mono ?_
  rintro e w2 ⟨rfl, hb2⟩
  have HB2 := Aside0.mk (below_step (below_alloc (Below.refl _ _) _ : Below w.heap.size w _) hb2)
  clear hb2
  go_wp2
  go_ret
  exact ⟨rfl, HB2.out⟩

end Go.Proofs.Ytknenadpkgajjaa.PA
