-- Printed by this session's gprint.py (over the kit's print.py) out of the translation.
import Derived.Sort.OwnSortedInts
import Derived.Test.YtknenadpkgajjaaShelf
import Derived.Test.YtknenadpkgajjaaPAx0
namespace Go.Proofs.Ytknenadpkgajjaa.PA
open Go.RowKit Go.Proofs.YtknenadpkgajjaaW.PrintWords Go.Proofs.YtknenadpkgajjaaW.PrintLast Go.Proofs.YtknenadpkgajjaaW.PrintMore
attribute [local go_sem] max2_int min2_int max_two min_two max_three min_three max_four min_four   -- for this text's walks alone
set_option linter.unusedVariables false
set_option linter.unusedSimpArgs false

/-! ### rules_strata: function 32 -/
open Go.Proofs.Ytknenadpkgajjaa.GFunc Go.Sort
set_option linter.unusedSimpArgs false
set_option linter.unusedVariables false
def rules_strata.f : Unit := ()
theorem R_ints {w : World} {base e : Nat} {ok : Nat → Prop} {v : Value} {xs : List Int} (h0 : ∀ k, v.ownBlock = some k → ok k) (h : w.ownsRow base e 1 v xs.length (xs.map (Value.int .i64))) : Kd.R (Kd.int .i64) e w base ok v xs := by
  refine ⟨h0, xs.map (Value.int .i64), h, by simp [Kd.int, Kd.scalar], fun j p hj => ?_⟩
  show ((xs.map (Value.int .i64)).drop (j * 1)).take 1 = [.int .i64 p]
  rw [Nat.mul_one]
  obtain ⟨hl, he⟩ := List.getElem?_eq_some_iff.mp hj
  rw [List.drop_eq_getElem_cons (by simpa using hl)]
  simp [he]
theorem ints_R {w : World} {base e : Nat} {ok : Nat → Prop} {v : Value} {xs : List Int} (h : Kd.R (Kd.int .i64) e w base ok v xs) : w.ownsRow base e 1 v xs.length (xs.map (Value.int .i64)) := by
  obtain ⟨_, inner, ho, hr⟩ := h
  have hin : inner = xs.map (Value.int .i64) := by
    have hl : inner.length = xs.length := by have := hr.1; simpa [Kd.int, Kd.scalar] using this
    apply List.ext_getElem?
    intro j
    by_cases hj : j < xs.length
    · have h1 : (inner.drop (j * 1)).take 1 = [.int .i64 xs[j]] := hr.2 j xs[j] (List.getElem?_eq_getElem hj)
      rw [Nat.mul_one, List.drop_eq_getElem_cons (by omega)] at h1
      simp only [List.take_succ_cons, List.take_zero, List.cons.injEq, and_true] at h1
      rw [List.getElem?_eq_getElem (by omega), h1]
      simp [hj]
    · rw [List.getElem?_eq_none (by omega), List.getElem?_eq_none (by simp; omega)]
  rw [← hin]
  exact ho
theorem infoInt : (Try.prog.info? 3).map (fun i => (i.zero, i.size, i.bytes)) = some (some (.int .i64 0), 1, 8) := by kernel_rfl
theorem alloc_at1 {w : World} {o : Obj} {g : Nat} (h : g = w.heap.size) : (w.alloc o).heap[g]? = some o := by rw [h]; exact (MapKept.heap_alloc w o).1
def strataF (l : List S28) (p : S28 → Bool) : List Int := Lib.compact (((l.filter p).map (·.f0)).mergeSort (fun x y => decide (x ≤ y)))
/-- a function value that answers p of a rule, at every world behind w. -/
def AsksRule (f : FuncId) (cap : Array Value) (p : S28 → Bool) (w : World) : Prop := HasBody Try.prog f ∧ ∀ (x : S28) (A1 : Option Addr) (c1 : Nat) (A2 : Option Addr) (c2 : Nat) (A3 : Option Addr) (c3 : Nat) (w' : World), Below w.heap.size w w' → Kd.C k39 w' A1 x.f1.length x.f1 → Kd.C k23 w' A3 x.f3.length x.f3 →
  Calls Try.prog f (#[.agg #[.int .i64 x.f0, .slice A1 x.f1.length c1, .slice A2 x.f2.length c2, .slice A3 x.f3.length c3]] ++ cap) w' fun e w'' => e = .returned (.bool (p x)) ∧ Below w'.heap.size w' w''
theorem strata_end {w W : World} {v : Value} {xs : List Int} (hr : Kd.R (Kd.int .i64) 3 W w.heap.size (fun _ => True) v xs) (hb : Below w.heap.size w W) (hl : xs.length < 4611686018427387904) :
    Calls Try.prog 62 #[v] W fun e W2 => e = .returned (.tuple #[]) ∧ Calls Try.prog 63 #[v] W2 fun e W3 => ∃ v0, e = .returned v0 ∧ Kd.R (Kd.int .i64) 3 W3 w.heap.size (fun _ => True) v0 (Lib.compact (xs.mergeSort (fun x y => decide (x ≤ y)))) ∧ Below w.heap.size w W3 := by
  have ho := ints_R hr
  rcases ho.2 with ⟨rfl, hx⟩ | ⟨g, cap, cur, rfl, hbase, hg, hn, hcap, hcur, htake⟩
  · have hx0 : xs = [] := List.eq_nil_of_length_eq_zero hx
    subst hx0
    refine (Try.slices_Sort_int_none none 0 W).mono ?_
    rintro e W2 ⟨rfl, rfl⟩
    refine ⟨rfl, (Try.slices_Compact_int_empty none 0 _).mono ?_⟩
    rintro e W3 ⟨rfl, rfl⟩
    exact ⟨_, rfl, by rw [show Lib.compact (([] : List Int).mergeSort (fun x y => decide (x ≤ y))) = [] by simp [Lib.compact, Lib.compactUpTo]]; exact Kd.R_nil _ _ _ _ _, hb⟩
  · have hblk : g < W.heap.size := (Array.getElem?_eq_some_iff.1 hg).1
    rw [Nat.mul_one] at htake hcur
    refine (Try.slices_Sort_int g 0 cap xs W (holds_of_blockI hg htake) hblk hl).mono ?_
    rintro e W2 ⟨rfl, n, os, rfl⟩
    refine ⟨rfl, ?_⟩
    have hz : (xs.mergeSort (fun x y => decide (x ≤ y))).length = xs.length := List.length_mergeSort _
    have hg2 := heap_sortedI (n := n) (os := os) (xs.mergeSort (fun x y => decide (x ≤ y))).toArray hg
    have ht2 := take_putCellsI cur (xs.mergeSort (fun x y => decide (x ≤ y))) (by omega)
    have hs2 : (putCells (Value.int .i64) 0 (xs.mergeSort (fun x y => decide (x ≤ y))).toArray cur).size = cap := by simp [putCells, hcur]
    have hb2 := pw_below_grown hb (some g) hb.size (grownBy_sortedI (n := n) (os := os) (xs.mergeSort (fun x y => decide (x ≤ y))).toArray) (fun k hk => by injection hk with hk; omega)
    have hc := Try.slices_Compact_int g 0 cap (xs.mergeSort (fun x y => decide (x ≤ y))) _ (holds_of_blockI hg2 ht2) (by omega) (by omega)
    rw [hz] at hc
    refine hc.mono ?_
    rintro e W3 ⟨rfl, q, rfl⟩
    have hcl := Lib.compact_length_le (xs.mergeSort (fun x y => decide (x ≤ y)))
    have hg3 := heap_sortedI (n := q) (os := #[]) (Lib.compact (xs.mergeSort (fun x y => decide (x ≤ y))) ++ List.replicate (xs.length - (Lib.compact (xs.mergeSort (fun x y => decide (x ≤ y)))).length) 0).toArray hg2
    rw [grow_empty] at hg3
    refine ⟨_, rfl, R_ints (fun _ _ => trivial) ⟨by simp, .inr ⟨g, cap, _, rfl, hbase, hg3, by omega, hcap, ?_, ?_⟩⟩, ?_⟩
    · simp [putCells, hcur]
    · have h5 := take_putCellsI (putCells (Value.int .i64) 0 (xs.mergeSort (fun x y => decide (x ≤ y))).toArray cur) (Lib.compact (xs.mergeSort (fun x y => decide (x ≤ y))) ++ List.replicate (xs.length - (Lib.compact (xs.mergeSort (fun x y => decide (x ≤ y)))).length) 0) (by simp only [List.length_append, List.length_replicate]; omega)
      have h6 := congrArg (List.take (Lib.compact (xs.mergeSort (fun x y => decide (x ≤ y)))).length) h5
      rw [List.take_take, Nat.min_eq_left (by simp only [List.length_append, List.length_replicate]; omega)] at h6
      rw [Nat.mul_one, h6, List.map_append, List.take_left' (by simp)]
    · have h7 := pw_below_grown hb2 (some g) hb2.size (grownBy_sortedI (w := grow (putRow (Value.int .i64) (Sort.ahead W n) g 0 (xs.mergeSort (fun x y => decide (x ≤ y))).toArray) os) (n := q) (os := #[]) (Lib.compact (xs.mergeSort (fun x y => decide (x ≤ y))) ++ List.replicate (xs.length - (Lib.compact (xs.mergeSort (fun x y => decide (x ≤ y)))).length) 0).toArray) (fun k hk => by injection hk with hk; omega)
      rw [grow_empty] at h7
      exact h7
set_option maxHeartbeats 4000000 in
set_option maxRecDepth 100000 in
theorem rules_strata.calls (f : FuncId) (cap : Array Value) (p : S28 → Bool) (a0_0 : Int) (a0_1 : Int) (A0_2 : Option Addr) (c0_2 : Nat) (l0_2 : List Int) (A0_3 : Option Addr) (c0_3 : Nat) (l0_3 : List Int) (a0_4 : Int) (A0_5 : Option Addr) (c0_5 : Nat) (l0_5 : List ByteArray) (A0_6 : Option Addr) (c0_6 : Nat) (l0_6 : List S28) (A0_7 : Option Addr) (c0_7 : Nat) (l0_7 : List S44) (A0_8 : Option Addr) (c0_8 : Nat) (l0_8 : List S46) (A0_9 : Option Addr) (c0_9 : Nat) (l0_9 : List S57) (w : World) (hr0_6 : Kd.C k28 w A0_6 l0_6.length l0_6) (hlen : l0_6.length < 1000000) (hf : AsksRule f cap p w) :
    Calls Try.prog 32 #[.agg #[.int .i64 a0_0, .int .i64 a0_1, .slice A0_2 l0_2.length c0_2, .slice A0_3 l0_3.length c0_3, .int .i64 a0_4, .slice A0_5 l0_5.length c0_5, .slice A0_6 l0_6.length c0_6, .slice A0_7 l0_7.length c0_7, .slice A0_8 l0_8.length c0_8, .slice A0_9 l0_9.length c0_9], .func (.func f) #[] cap] w fun e w' => ∃ v0_ : Value, e = .returned v0_ ∧ Kd.R (Kd.int .i64) 3 w' w.heap.size (fun _ => True) v0_ (strataF l0_6 p) ∧ Below w.heap.size w w' := by
  have HR := Aside0.mk hr0_6
  have HF := Aside0.mk hf
  clear hr0_6 hf
  go_enter Try.func32, Try.ntmps32
  go_wp2
  have HP := Aside0.mk (MapKept.heap_alloc w (.cells #[.int .i64 a0_0, .int .i64 a0_1, .slice A0_2 l0_2.length c0_2, .slice A0_3 l0_3.length c0_3, .int .i64 a0_4, .slice A0_5 l0_5.length c0_5, .slice A0_6 l0_6.length c0_6, .slice A0_7 l0_7.length c0_7, .slice A0_8 l0_8.length c0_8, .slice A0_9 l0_9.length c0_9] 36)).1
  have HB0 := Aside0.mk (below_alloc (Below.refl w.heap.size w) (.cells #[.int .i64 a0_0, .int .i64 a0_1, .slice A0_2 l0_2.length c0_2, .slice A0_3 l0_3.length c0_3, .int .i64 a0_4, .slice A0_5 l0_5.length c0_5, .slice A0_6 l0_6.length c0_6, .slice A0_7 l0_7.length c0_7, .slice A0_8 l0_8.length c0_8, .slice A0_9 l0_9.length c0_9] 36))
  go_loopg [5, 11] l0_6.length (fun kq v5 v11 w' => ∃ (i : Nat) (acc : List Int), v11 = .int .i64 i ∧ Aside0 (i + kq = l0_6.length) ∧ Aside0 (acc.length ≤ i ∧ acc ++ ((l0_6.drop i).filter p).map (·.f0) = (l0_6.filter p).map (·.f0)) ∧ Aside0 (Kd.R (Kd.int .i64) 3 w' w.heap.size (fun _ => True) v5 acc) ∧ Aside0 (Below w.heap.size w w'))
  case atStart => exact ⟨0, [], rfl, ⟨by omega⟩, ⟨Nat.le_refl _, rfl⟩, ⟨Kd.R_nil _ _ _ _ _⟩, HB0⟩
  case round =>
    clear HP HB0
    obtain ⟨i, acc, rfl, HK, HA, HV, HB⟩ := hrel
    by_cases hi : i < l0_6.length
    · obtain ⟨gk1, rfl⟩ : ∃ m, gk = m + 1 := ⟨gk - 1, by have := HK.out; omega⟩
      have h1 := HA.out.2
      rw [List.drop_eq_getElem_cons hi] at h1
      have hx : l0_6[i] = rd_T28 l0_6 ↑i := by simp [rd_T28, List.getD_eq_getElem?_getD, List.getElem?_eq_getElem hi]
      rw [hx] at h1
      obtain ⟨ad, A1, c1, A2, c2, A3, c3, ea, hx0, hx1, hx2, hx3, hy0, hy1, hy2, hy3, hy4, hy5⟩ := at_T28 (Kd.C_below HR.out HB.out) (↑i) (by omega) (by omega)
      subst ea
      simp only [Int.toNat_natCast] at hx0 hx1 hx2 hx3
      have H1 := Aside0.mk h1
      have HL := Aside0.mk (And.intro hy1 hy5)
      clear h1 hx hy0 hy1 hy2 hy3 hy4 hy5
      have hi1 : ((i : Int) < (l0_6.length : Int)) = True := eq_true (by omega)
      have hi2 : (i < l0_6.length) = True := eq_true hi
      have hi3 : decide ((i : Int) < (l0_6.length : Int)) = true := decide_eq_true (by omega)
      go_wp2_with (fail)
      rw [run_enter HF.out.1, Oper.upon_enter]
      refine (HF.out.2 (rd_T28 l0_6 ↑i) A1 c1 A2 c2 A3 c3 _ (below_alloc HB.out _) (Kd.C_alloc HL.out.1 _) (Kd.C_alloc HL.out.2 _)).mono ?_
      rintro e w3 ⟨he, hb3⟩
      have HB3 := Aside0.mk (below_step (below_alloc HB.out _) hb3)
      have HX3 := Aside0.mk ((hb3.block _ (blk_lt (MapKept.heap_alloc wr _).1)).trans (MapKept.heap_alloc wr _).1)
      have HV3 := Aside0.mk (Kd.R_below (Kd.R_alloc HV.out _) hb3)
      clear hb3 HB HV HL hx0 hx1 hx2 hx3
      cases hp : p (rd_T28 l0_6 ↑i) with
      | false =>
        rw [hp] at he
        subst he
        have H2 := Aside0.mk (show acc.length ≤ i + 1 ∧ acc ++ ((l0_6.drop (i + 1)).filter p).map (·.f0) = (l0_6.filter p).map (·.f0) from ⟨by have := HA.out.1; omega, by have := H1.out; simpa [hp] using this⟩)
        clear H1 HA hp
        go_wp2
        go_roundg gk1
        case measure => omega
        case rel => exact ⟨i + 1, acc, (by simp), ⟨by have := HK.out; omega⟩, H2, HV3, HB3⟩
      | true =>
        rw [hp] at he
        subst he
        have H2 := Aside0.mk (show (acc ++ [(rd_T28 l0_6 ↑i).f0]).length ≤ i + 1 ∧ (acc ++ [(rd_T28 l0_6 ↑i).f0]) ++ ((l0_6.drop (i + 1)).filter p).map (·.f0) = (l0_6.filter p).map (·.f0) from ⟨by have := HA.out.1; simp only [List.length_append, List.length_singleton]; omega, by have := H1.out; simpa [hp] using this⟩)
        have HLN := Aside0.mk (show acc.length < 1000000 by have := HA.out.1; omega)
        clear H1 HA hp
        have kx0 : w3.cell? ⟨wr.heap.size, 0, none⟩ = some (.int .i64 (rd_T28 l0_6 ↑i).f0) := (blk_cell HX3.out 0).trans rfl
        go_wp2_with (first | ((with_reducible refine gate_builtin (b := .append) (xs := #[.tmp 18, .tmp 21]) rfl ?_); at_builtin; refine Kd.R_append (Kd.int .i64) (w0 := w) w.heap.size rfl (.tmp 18) (.tmp 21) 29 3 (.int .i64 0) 8 rfl Try.underlying29 infoInt rfl (by decide) (by omega) _ acc (rd_T28 l0_6 ↑i).f0 [.int .i64 (rd_T28 l0_6 ↑i).f0] (fun _ => True) (fun _ => False) rfl rfl ?aP (fun _ hk => hk.elim) ?aF ?aO ?aB ?aS ?aL ?_; (case aP => exact rfl); (case aF => exact fun _ _ => trivial); (case aO => exact HV3.out); (case aB => exact HB3.out); (case aS => exact HB3.out.size); (case aL => have := HLN.out; omega); intro v1 w5 ho hb hg hat; have HV5 := Aside0.mk ho; have HB5 := Aside0.mk hb; clear ho hb hg hat HV3 HB3 kx0))
        go_roundg gk1
        case measure => omega
        case rel => exact ⟨i + 1, _, (by simp), ⟨by have := HK.out; omega⟩, H2, HV5, HB5⟩
    · have h0 : l0_6.drop i = [] := List.drop_eq_nil_of_le (by omega)
      have hR := HA.out.2
      rw [h0] at hR
      have hR2 : acc = (l0_6.filter p).map (·.f0) := by simpa using hR
      have HE := Aside0.mk (strata_end HV.out HB.out (by have := HA.out.1; have := HK.out; omega))
      have HEQ := Aside0.mk hR2
      have hi3 : decide ((i : Int) < (l0_6.length : Int)) = false := decide_eq_false (by omega)
      clear h0 hR hR2 HA
      go_wp2_with (fail)
      refine HE.out.mono ?_
      rintro e w3 ⟨rfl, hc⟩
      have HC := Aside0.mk hc
      clear hc HE
      go_wp2_with (fail)
      refine HC.out.mono ?_
      rintro e w4 ⟨v0, rfl, hv, hb4⟩
      have HV4 := Aside0.mk hv
      have HB4 := Aside0.mk hb4
      clear hv hb4 HC
      go_wp2
      go_ret
      refine ⟨v0, rfl, ?_, HB4.out⟩
      have h9 := HV4.out
      rw [HEQ.out] at h9
      exact h9

end Go.Proofs.Ytknenadpkgajjaa.PA
