-- Printed by this session's gprint.py (over the kit's print.py) out of the translation.
import Derived.Test.YtknenadpkgajjaaPAx0
namespace Go.Proofs.Ytknenadpkgajjaa.PA
open Go.RowKit Go.Proofs.YtknenadpkgajjaaW.PrintWords Go.Proofs.YtknenadpkgajjaaW.PrintLast Go.Proofs.YtknenadpkgajjaaW.PrintMore
attribute [local go_sem] max2_int min2_int max_two min_two max_three min_three max_four min_four   -- for this text's walks alone
set_option linter.unusedVariables false
set_option linter.unusedSimpArgs false

/-! ### api_Set_65: function 65 -/
open Go.Proofs.Ytknenadpkgajjaa.GFunc
set_option linter.unusedSimpArgs false
def api_Set_65.f : Unit := ()
def aggSet (x : S23) : Value := .agg #[.int .i64 x.f0, .bool x.f1]
/-- a function value that answers p of an element, at every world behind w. -/
def AsksSet (f : FuncId) (cap : Array Value) (p : S23 → Bool) (w : World) : Prop := HasBody Try.prog f ∧ ∀ x w', Below w.heap.size w w' → Calls Try.prog f (#[aggSet x] ++ cap) w' fun e w'' => e = .returned (.bool (p x)) ∧ Below w'.heap.size w' w''
set_option maxHeartbeats 4000000 in
set_option maxRecDepth 100000 in
theorem indexSet.calls (f : FuncId) (cap : Array Value) (p : S23 → Bool) (xs : List S23) (A : Option Addr) (c : Nat) (w : World) (hr : Kd.C k23 w A xs.length xs) (hf : AsksSet f cap p w) :
    Calls Try.prog 65 #[.slice A xs.length c, .func (.func f) #[] cap] w fun e w' => e = .returned (.int .i64 (idx p xs 0)) ∧ Below w.heap.size w w' := by
  have HR := Aside0.mk hr
  have HF := Aside0.mk hf
  have hlen := Kd.C_max hr
  clear hr hf
  go_enter Try.func65, Try.ntmps65
  go_wp2
  go_loopg [8] xs.length (fun kq v8 w' => ∃ i : Nat, v8 = .int .i64 i ∧ Aside0 (i + kq = xs.length) ∧ Aside0 (idx p (xs.drop i) i = idx p xs 0) ∧ Aside0 (Below w.heap.size w w'))
  case atStart => exact ⟨0, rfl, ⟨by omega⟩, ⟨rfl⟩, ⟨by repeat (first | exact Below.refl _ _ | apply below_alloc)⟩⟩
  case round =>
    obtain ⟨i, rfl, HK, HI, HB⟩ := hrel
    by_cases hi : i < xs.length
    · obtain ⟨gk1, rfl⟩ : ∃ m, gk = m + 1 := ⟨gk - 1, by have := HK.out; omega⟩
      have h1 := HI.out
      rw [List.drop_eq_getElem_cons hi, idx] at h1
      have hx : xs[i] = rd_T23 xs ↑i := by simp [rd_T23, List.getD_eq_getElem?_getD, List.getElem?_eq_getElem hi]
      rw [hx] at h1
      obtain ⟨ad, ea, hx0, hx1⟩ := at_T23 (Kd.C_below HR.out HB.out) (↑i) (by omega) (by omega)
      subst ea
      simp only [Int.toNat_natCast] at hx0 hx1
      have H1 := Aside0.mk h1
      clear h1 hx HI
      have hi1 : ((i : Int) < (xs.length : Int)) = True := eq_true (by omega)
      have hi2 : (i < xs.length) = True := eq_true hi
      have hi3 : decide ((i : Int) < (xs.length : Int)) = true := decide_eq_true (by omega)
      go_wp2_with (fail)
      rw [run_enter HF.out.1, Oper.upon_enter]
      refine (HF.out.2 (rd_T23 xs ↑i) wr HB.out).mono ?_
      rintro e w2 ⟨he, hb2⟩
      have HB2 := Aside0.mk (below_step HB.out hb2)
      clear hb2 HB hx0 hx1
      cases hp : p (rd_T23 xs ↑i) with
      | true =>
        rw [hp] at he
        subst he
        have h1 := H1.out
        rw [if_pos hp] at h1
        have H2 := Aside0.mk h1
        clear h1 H1 hp
        go_wp2
        go_ret
        exact ⟨by rw [← H2.out]; rfl, HB2.out⟩
      | false =>
        rw [hp] at he
        subst he
        have h1 := H1.out
        rw [if_neg (by rw [hp]; decide)] at h1
        have H2 := Aside0.mk h1
        clear h1 H1 hp
        go_wp2
        go_roundg gk1
        case measure => omega
        case rel => exact ⟨i + 1, (by simp), ⟨by have := HK.out; omega⟩, H2, HB2⟩
    · have h0 : xs.drop i = [] := List.drop_eq_nil_of_le (by omega)
      have hR := HI.out
      rw [h0] at hR
      have hR2 : idx p xs 0 = -1 := hR.symm
      have HR2 := Aside0.mk hR2
      have hi3 : decide ((i : Int) < (xs.length : Int)) = false := decide_eq_false (by omega)
      clear h0 hR hR2 HI
      go_wp2
      go_ret
      exact ⟨by rw [HR2.out]; rfl, HB.out⟩
set_option maxHeartbeats 4000000 in
set_option maxRecDepth 100000 in
theorem containsSet.calls (f : FuncId) (cap : Array Value) (p : S23 → Bool) (xs : List S23) (A : Option Addr) (c : Nat) (w : World) (hr : Kd.C k23 w A xs.length xs) (hf : AsksSet f cap p w) :
    Calls Try.prog 38 #[.slice A xs.length c, .func (.func f) #[] cap] w fun e w' => e = .returned (.bool (xs.any p)) ∧ Below w.heap.size w w' := by
  have HC := Aside0.mk (indexSet.calls f cap p xs A c w hr hf)
  clear hr hf
  go_enter Try.func38, Try.ntmps38
  go_wp2_with (fail)
  refine HC.out.mono ?_
  rintro e w2 ⟨rfl, hb2⟩
  have HB2 := Aside0.mk hb2
  clear hb2 HC
  go_wp2
  go_ret
  exact ⟨by rw [← idx_any p xs 0]; rfl, HB2.out⟩

end Go.Proofs.Ytknenadpkgajjaa.PA
