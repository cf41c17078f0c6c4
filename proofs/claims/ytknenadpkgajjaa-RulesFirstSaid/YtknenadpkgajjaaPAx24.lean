-- Printed by this session's gprint.py (over the kit's print.py) out of the translation.
import Derived.Test.YtknenadpkgajjaaPAx0
import Derived.Test.YtknenadpkgajjaaPAx12
import Derived.Test.YtknenadpkgajjaaPAx18
namespace Go.Proofs.Ytknenadpkgajjaa.PA
open Go.RowKit Go.Proofs.YtknenadpkgajjaaW.PrintWords Go.Proofs.YtknenadpkgajjaaW.PrintLast Go.Proofs.YtknenadpkgajjaaW.PrintMore
attribute [local go_sem] max2_int min2_int max_two min_two max_three min_three max_four min_four   -- for this text's walks alone
set_option linter.unusedVariables false
set_option linter.unusedSimpArgs false

/-! ### rules_areUsers: function 25 -/
open Go.Proofs.Ytknenadpkgajjaa.GFunc
set_option linter.unusedSimpArgs false
set_option linter.unusedVariables false
def lapses (f1 : Int) (y : S39) : Bool := !inB y.f0 0 f1
def userOdd (f0 f1 : Int) (x : S46) : Bool := !inB x.f3 f1 f0 || x.f2.any (lapses f1)
set_option maxHeartbeats 4000000 in
set_option maxRecDepth 100000 in
theorem asks_lapses (f0 f1 f4 : Int) (A2 : Option Addr) (n2 c2 : Nat) (A3 : Option Addr) (n3 c3 : Nat) (A5 : Option Addr) (n5 c5 : Nat) (A6 : Option Addr) (n6 c6 : Nat) (A7 : Option Addr) (n7 c7 : Nat) (A8 : Option Addr) (n8 c8 : Nat) (A9 : Option Addr) (n9 c9 : Nat) (b : Nat) (w : World) (hB : w.heap[b]? = some (.cells #[.int .i64 f0, .int .i64 f1, .slice A2 n2 c2, .slice A3 n3 c3, .int .i64 f4, .slice A5 n5 c5, .slice A6 n6 c6, .slice A7 n7 c7, .slice A8 n8 c8, .slice A9 n9 c9] 36 (0, 0))) : AsksLit 58 #[.pointer (some ⟨b, 0, none⟩)] (lapses f1) w := by
  refine ⟨by unfold HasBody; kernel_rfl, fun x w' hb => ?_⟩
  have hB' := (hb.block _ (blk_lt hB)).trans hB
  clear hB hb
  have kp0 : ∀ o, (w'.alloc o).cell? ⟨b, 0, none⟩ = some (.int .i64 f0) := fun o => (blk_cell (blk_alloc hB' o) 0).trans rfl
  have kp1 : ∀ o, (w'.alloc o).cell? ⟨b, 1, none⟩ = some (.int .i64 f1) := fun o => (blk_cell (blk_alloc hB' o) 1).trans rfl
  have kp2 : ∀ o, (w'.alloc o).cell? ⟨b, 2, none⟩ = some (.slice A2 n2 c2) := fun o => (blk_cell (blk_alloc hB' o) 2).trans rfl
  have kp3 : ∀ o, (w'.alloc o).cell? ⟨b, 3, none⟩ = some (.slice A3 n3 c3) := fun o => (blk_cell (blk_alloc hB' o) 3).trans rfl
  have kp4 : ∀ o, (w'.alloc o).cell? ⟨b, 4, none⟩ = some (.int .i64 f4) := fun o => (blk_cell (blk_alloc hB' o) 4).trans rfl
  have kp5 : ∀ o, (w'.alloc o).cell? ⟨b, 5, none⟩ = some (.slice A5 n5 c5) := fun o => (blk_cell (blk_alloc hB' o) 5).trans rfl
  have kp6 : ∀ o, (w'.alloc o).cell? ⟨b, 6, none⟩ = some (.slice A6 n6 c6) := fun o => (blk_cell (blk_alloc hB' o) 6).trans rfl
  have kp7 : ∀ o, (w'.alloc o).cell? ⟨b, 7, none⟩ = some (.slice A7 n7 c7) := fun o => (blk_cell (blk_alloc hB' o) 7).trans rfl
  have kp8 : ∀ o, (w'.alloc o).cell? ⟨b, 8, none⟩ = some (.slice A8 n8 c8) := fun o => (blk_cell (blk_alloc hB' o) 8).trans rfl
  have kp9 : ∀ o, (w'.alloc o).cell? ⟨b, 9, none⟩ = some (.slice A9 n9 c9) := fun o => (blk_cell (blk_alloc hB' o) 9).trans rfl
  have HB := Aside0.mk hB'
  clear hB'
  unfold lapses aggLit
  go_enter Try.func58, Try.ntmps58
  go_wp2_with (fail)
  refine (within_any x.f0 0 f1 _).mono ?_
  rintro e w2 ⟨rfl, ⟨nd, rfl⟩⟩
  go_wp2
  go_ret
  exact ⟨rfl, by repeat (first | exact Below.refl _ _ | apply below_alloc | apply pw_below_drewN)⟩
def rules_areUsers.f (a0_0 : Int) (a0_1 : Int) (l0_2 : List Int) (l0_3 : List Int) (a0_4 : Int) (l0_5 : List ByteArray) (l0_6 : List S28) (l0_7 : List S44) (l0_8 : List S46) (l0_9 : List S57) : Option Bool := some (!l0_8.any (userOdd a0_0 a0_1))
set_option maxHeartbeats 4000000 in
set_option maxRecDepth 100000 in
theorem rules_areUsers.calls (a0_0 : Int) (a0_1 : Int) (A0_2 : Option Addr) (c0_2 : Nat) (l0_2 : List Int) (A0_3 : Option Addr) (c0_3 : Nat) (l0_3 : List Int) (a0_4 : Int) (A0_5 : Option Addr) (c0_5 : Nat) (l0_5 : List ByteArray) (A0_6 : Option Addr) (c0_6 : Nat) (l0_6 : List S28) (A0_7 : Option Addr) (c0_7 : Nat) (l0_7 : List S44) (A0_8 : Option Addr) (c0_8 : Nat) (l0_8 : List S46) (A0_9 : Option Addr) (c0_9 : Nat) (l0_9 : List S57) (r : Bool) (w : World) (hr0_2 : Kd.C (Kd.int .i64) w A0_2 l0_2.length l0_2) (hc0_2 : l0_2.length ≤ c0_2) (hr0_3 : Kd.C (Kd.int .i64) w A0_3 l0_3.length l0_3) (hc0_3 : l0_3.length ≤ c0_3) (hr0_5 : Kd.C Kd.string w A0_5 l0_5.length l0_5) (hc0_5 : l0_5.length ≤ c0_5) (hr0_6 : Kd.C k28 w A0_6 l0_6.length l0_6) (hc0_6 : l0_6.length ≤ c0_6) (hr0_7 : Kd.C k44 w A0_7 l0_7.length l0_7) (hc0_7 : l0_7.length ≤ c0_7) (hr0_8 : Kd.C k46 w A0_8 l0_8.length l0_8) (hc0_8 : l0_8.length ≤ c0_8) (hr0_9 : Kd.C k57 w A0_9 l0_9.length l0_9) (hc0_9 : l0_9.length ≤ c0_9) (h : rules_areUsers.f a0_0 a0_1 l0_2 l0_3 a0_4 l0_5 l0_6 l0_7 l0_8 l0_9 = some r) :
    Calls Try.prog 25 #[.agg #[.int .i64 a0_0, .int .i64 a0_1, .slice A0_2 l0_2.length c0_2, .slice A0_3 l0_3.length c0_3, .int .i64 a0_4, .slice A0_5 l0_5.length c0_5, .slice A0_6 l0_6.length c0_6, .slice A0_7 l0_7.length c0_7, .slice A0_8 l0_8.length c0_8, .slice A0_9 l0_9.length c0_9]] w fun e w' => e = .returned (.bool r) ∧ Below w.heap.size w w' := by
  have HR := Aside0.mk hr0_8
  have hlen := Kd.C_max hr0_8
  have HE := Aside0.mk (show (!l0_8.any (userOdd a0_0 a0_1)) = r from Option.some.inj h)
  clear hr0_2 hc0_2 hr0_3 hc0_3 hr0_5 hc0_5 hr0_6 hc0_6 hr0_7 hc0_7 hr0_8 hc0_8 hr0_9 hc0_9 h
  have hmf0 := hmf Try.prog
  go_enter Try.func25, Try.ntmps25
  go_wp2
  have HP := Aside0.mk (MapKept.heap_alloc w (.cells #[.int .i64 a0_0, .int .i64 a0_1, .slice A0_2 l0_2.length c0_2, .slice A0_3 l0_3.length c0_3, .int .i64 a0_4, .slice A0_5 l0_5.length c0_5, .slice A0_6 l0_6.length c0_6, .slice A0_7 l0_7.length c0_7, .slice A0_8 l0_8.length c0_8, .slice A0_9 l0_9.length c0_9] 36)).1
  have HB0 := Aside0.mk (below_alloc (Below.refl w.heap.size w) (.cells #[.int .i64 a0_0, .int .i64 a0_1, .slice A0_2 l0_2.length c0_2, .slice A0_3 l0_3.length c0_3, .int .i64 a0_4, .slice A0_5 l0_5.length c0_5, .slice A0_6 l0_6.length c0_6, .slice A0_7 l0_7.length c0_7, .slice A0_8 l0_8.length c0_8, .slice A0_9 l0_9.length c0_9] 36))
  go_loopg [9] l0_8.length (fun kq v9 w' => ∃ i : Nat, v9 = .int .i64 i ∧ Aside0 (i + kq = l0_8.length) ∧ Aside0 ((!(l0_8.drop i).any (userOdd a0_0 a0_1)) = r) ∧ Aside0 (w'.heap[w.heap.size]? = some (.cells #[.int .i64 a0_0, .int .i64 a0_1, .slice A0_2 l0_2.length c0_2, .slice A0_3 l0_3.length c0_3, .int .i64 a0_4, .slice A0_5 l0_5.length c0_5, .slice A0_6 l0_6.length c0_6, .slice A0_7 l0_7.length c0_7, .slice A0_8 l0_8.length c0_8, .slice A0_9 l0_9.length c0_9] 36 (0, 0))) ∧ Aside0 (Below w.heap.size w w'))
  case atStart => exact ⟨0, rfl, ⟨by omega⟩, HE, HP, HB0⟩
  case round =>
    clear HE HP HB0
    obtain ⟨i, rfl, HK, HE, HP, HB⟩ := hrel
    by_cases hi : i < l0_8.length
    · obtain ⟨gk1, rfl⟩ : ∃ m, gk = m + 1 := ⟨gk - 1, by have := HK.out; omega⟩
      have h1 := HE.out
      rw [List.drop_eq_getElem_cons hi, List.any_cons] at h1
      have hx : l0_8[i] = rd_T46 l0_8 ↑i := by simp [rd_T46, List.getD_eq_getElem?_getD, List.getElem?_eq_getElem hi]
      rw [hx] at h1
      obtain ⟨ad, A2, c2, ea, hx0, hx1, hx2, hx3, hx4, hx5⟩ := at_T46 (Kd.C_below HR.out HB.out) (↑i) (by omega) (by omega)
      subst ea
      simp only [Int.toNat_natCast] at hx0 hx1 hx2 hx3
      have H1 := Aside0.mk h1
      have HL := Aside0.mk (And.intro hx4 hx5)
      clear h1 hx HE hx4 hx5
      have hi1 : ((i : Int) < (l0_8.length : Int)) = True := eq_true (by omega)
      have hi2 : (i < l0_8.length) = True := eq_true hi
      have hi3 : decide ((i : Int) < (l0_8.length : Int)) = true := decide_eq_true (by omega)
      have kp0 : ∀ o, (wr.alloc o).cell? ⟨w.heap.size, 0, none⟩ = some (.int .i64 a0_0) := fun o => (blk_cell (blk_alloc HP.out o) 0).trans rfl
      have kp1 : ∀ o, (wr.alloc o).cell? ⟨w.heap.size, 1, none⟩ = some (.int .i64 a0_1) := fun o => (blk_cell (blk_alloc HP.out o) 1).trans rfl
      have kp2 : ∀ o, (wr.alloc o).cell? ⟨w.heap.size, 2, none⟩ = some (.slice A0_2 l0_2.length c0_2) := fun o => (blk_cell (blk_alloc HP.out o) 2).trans rfl
      have kp3 : ∀ o, (wr.alloc o).cell? ⟨w.heap.size, 3, none⟩ = some (.slice A0_3 l0_3.length c0_3) := fun o => (blk_cell (blk_alloc HP.out o) 3).trans rfl
      have kp4 : ∀ o, (wr.alloc o).cell? ⟨w.heap.size, 4, none⟩ = some (.int .i64 a0_4) := fun o => (blk_cell (blk_alloc HP.out o) 4).trans rfl
      have kp5 : ∀ o, (wr.alloc o).cell? ⟨w.heap.size, 5, none⟩ = some (.slice A0_5 l0_5.length c0_5) := fun o => (blk_cell (blk_alloc HP.out o) 5).trans rfl
      have kp6 : ∀ o, (wr.alloc o).cell? ⟨w.heap.size, 6, none⟩ = some (.slice A0_6 l0_6.length c0_6) := fun o => (blk_cell (blk_alloc HP.out o) 6).trans rfl
      have kp7 : ∀ o, (wr.alloc o).cell? ⟨w.heap.size, 7, none⟩ = some (.slice A0_7 l0_7.length c0_7) := fun o => (blk_cell (blk_alloc HP.out o) 7).trans rfl
      have kp8 : ∀ o, (wr.alloc o).cell? ⟨w.heap.size, 8, none⟩ = some (.slice (some ad) l0_8.length c0_8) := fun o => (blk_cell (blk_alloc HP.out o) 8).trans rfl
      have kp9 : ∀ o, (wr.alloc o).cell? ⟨w.heap.size, 9, none⟩ = some (.slice A0_9 l0_9.length c0_9) := fun o => (blk_cell (blk_alloc HP.out o) 9).trans rfl
      go_wp2_with (fail)
      refine (passes_any a0_0 a0_1 a0_4 A0_2 l0_2.length c0_2 A0_3 l0_3.length c0_3 A0_5 l0_5.length c0_5 A0_6 l0_6.length c0_6 A0_7 l0_7.length c0_7 (some ad) l0_8.length c0_8 A0_9 l0_9.length c0_9 (rd_T46 l0_8 ↑i).f3 _).mono ?_
      rintro e w3 ⟨rfl, hb3⟩
      have HB3 := Aside0.mk (below_step (below_alloc HB.out _ : Below w.heap.size w _) hb3)
      have HP3 := Aside0.mk ((hb3.block _ (blk_lt (blk_alloc HP.out _))).trans (blk_alloc HP.out _))
      have HU3 := Aside0.mk ((hb3.block _ (blk_lt (MapKept.heap_alloc wr _).1)).trans (MapKept.heap_alloc wr _).1)
      have HL3 := Aside0.mk (Kd.C_below HL.out.2 (below_step (below_alloc (Below.refl wr.heap.size wr) _) hb3))
      clear hb3 kp0 kp1 kp2 kp3 kp4 kp5 kp6 kp7 kp8 kp9 hx0 hx1 hx2 hx3
      cases h1 : inB (rd_T46 l0_8 ↑i).f3 a0_1 a0_0 with
      | false =>
        obtain rfl : false = r := by have := H1.out; simpa [userOdd, h1] using this
        clear H1
        go_wp2
        go_ret
        exact ⟨rfl, HB3.out⟩
      | true =>
        have ku2 : w3.cell? ⟨wr.heap.size, 2, none⟩ = some (.slice A2 (rd_T46 l0_8 ↑i).f2.length c2) := (blk_cell HU3.out 2).trans rfl
        go_wp2_with (fail)
        refine (containsLit.calls _ _ (lapses a0_1) (rd_T46 l0_8 ↑i).f2 _ _ _ HL3.out (asks_lapses a0_0 a0_1 a0_4 A0_2 l0_2.length c0_2 A0_3 l0_3.length c0_3 A0_5 l0_5.length c0_5 A0_6 l0_6.length c0_6 A0_7 l0_7.length c0_7 (some ad) l0_8.length c0_8 A0_9 l0_9.length c0_9 w.heap.size _ HP3.out)).mono ?_
        rintro e w4 ⟨rfl, hb4⟩
        have HB4 := Aside0.mk (below_step HB3.out hb4)
        have HP4 := Aside0.mk ((hb4.block _ (blk_lt HP3.out)).trans HP3.out)
        clear hb4 ku2
        cases h2 : (rd_T46 l0_8 ↑i).f2.any (lapses a0_1) with
        | true =>
          obtain rfl : false = r := by have := H1.out; simpa [userOdd, h1, h2] using this
          clear H1
          go_wp2
          go_ret
          exact ⟨rfl, HB4.out⟩
        | false =>
          have H2 := Aside0.mk (show (!(l0_8.drop (i + 1)).any (userOdd a0_0 a0_1)) = r by have := H1.out; simpa [userOdd, h1, h2] using this)
          clear H1
          go_wp2
          go_roundg gk1
          case measure => omega
          case rel => exact ⟨i + 1, (by simp), ⟨by have := HK.out; omega⟩, H2, HP4, HB4⟩
    · have h0 : l0_8.drop i = [] := List.drop_eq_nil_of_le (by omega)
      have hR := HE.out
      rw [h0] at hR
      obtain rfl : true = r := hR
      have hi3 : decide ((i : Int) < (l0_8.length : Int)) = false := decide_eq_false (by omega)
      clear h0 HE
      go_wp2
      go_ret
      exact ⟨rfl, HB.out⟩

end Go.Proofs.Ytknenadpkgajjaa.PA
