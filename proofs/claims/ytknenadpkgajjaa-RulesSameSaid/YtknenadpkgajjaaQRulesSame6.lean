/- RulesSame, part 6: the words, the walks and the plain laws that the proof rests on. -/
import Derived.Test.YtknenadpkgajjaaQRulesSame5
import Derived.Sort.OwnSortedInts
import Derived.RowKit
import Derived.WalkKit
import Derived.ProofKit
section
namespace Go.Proofs.Ytknenadpkgajjaa.PA
open Go.RowKit Go.Proofs.YtknenadpkgajjaaW.PrintWords Go.Proofs.YtknenadpkgajjaaW.PrintLast Go.Proofs.YtknenadpkgajjaaW.PrintMore
attribute [local go_sem] max2_int min2_int max_two min_two max_three min_three max_four min_four   -- for this text's walks alone
set_option linter.unusedVariables false
set_option linter.unusedSimpArgs false
/-! ### rules_strata: function 32 -/
open Go.Proofs.Ytknenadpkgajjaa.GFunc Go.Sort
set_option linter.unusedSimpArgs false
set_option linter.unusedVariables false
def rules_strata.f : Unit := ()
theorem R_ints {w : World} {base e : Nat} {ok : Nat → Prop} {v : Value} {xs : List Int} (h0 : ∀ k, v.ownBlock = some k → ok k) (h : w.ownsRow base e 1 v xs.length (xs.map (Value.int .i64))) : Kd.R (Kd.int .i64) e w base ok v xs := by
  refine ⟨h0, xs.map (Value.int .i64), h, by simp [Kd.int, Kd.scalar], fun j p hj => ?_⟩
  show ((xs.map (Value.int .i64)).drop (j * 1)).take 1 = [.int .i64 p]
  rw [Nat.mul_one]
  obtain ⟨hl, he⟩ := List.getElem?_eq_some_iff.mp hj
  rw [List.drop_eq_getElem_cons (by simpa using hl)]
  simp [he]
theorem ints_R {w : World} {base e : Nat} {ok : Nat → Prop} {v : Value} {xs : List Int} (h : Kd.R (Kd.int .i64) e w base ok v xs) : w.ownsRow base e 1 v xs.length (xs.map (Value.int .i64)) := by
  obtain ⟨_, inner, ho, hr⟩ := h
  have hin : inner = xs.map (Value.int .i64) := by
    have hl : inner.length = xs.length := by have := hr.1; simpa [Kd.int, Kd.scalar] using this
    apply List.ext_getElem?
    intro j
    by_cases hj : j < xs.length
    · have h1 : (inner.drop (j * 1)).take 1 = [.int .i64 xs[j]] := hr.2 j xs[j] (List.getElem?_eq_getElem hj)
      rw [Nat.mul_one, List.drop_eq_getElem_cons (by omega)] at h1
      simp only [List.take_succ_cons, List.take_zero, List.cons.injEq, and_true] at h1
      rw [List.getElem?_eq_getElem (by omega), h1]
      simp [hj]
    · rw [List.getElem?_eq_none (by omega), List.getElem?_eq_none (by simp; omega)]
  rw [← hin]
  exact ho
theorem infoInt : (Try.prog.info? 3).map (fun i => (i.zero, i.size, i.bytes)) = some (some (.int .i64 0), 1, 8) := by kernel_rfl
theorem alloc_at1 {w : World} {o : Obj} {g : Nat} (h : g = w.heap.size) : (w.alloc o).heap[g]? = some o := by rw [h]; exact (MapKept.heap_alloc w o).1
def strataF (l : List S28) (p : S28 → Bool) : List Int := Lib.compact (((l.filter p).map (·.f0)).mergeSort (fun x y => decide (x ≤ y)))
/-- a function value that answers p of a rule, at every world behind w. -/
def AsksRule (f : FuncId) (cap : Array Value) (p : S28 → Bool) (w : World) : Prop := HasBody Try.prog f ∧ ∀ (x : S28) (A1 : Option Addr) (c1 : Nat) (A2 : Option Addr) (c2 : Nat) (A3 : Option Addr) (c3 : Nat) (w' : World), Below w.heap.size w w' → Kd.C k39 w' A1 x.f1.length x.f1 → Kd.C k23 w' A3 x.f3.length x.f3 →
  Calls Try.prog f (#[.agg #[.int .i64 x.f0, .slice A1 x.f1.length c1, .slice A2 x.f2.length c2, .slice A3 x.f3.length c3]] ++ cap) w' fun e w'' => e = .returned (.bool (p x)) ∧ Below w'.heap.size w' w''
theorem strata_end {w W : World} {v : Value} {xs : List Int} (hr : Kd.R (Kd.int .i64) 3 W w.heap.size (fun _ => True) v xs) (hb : Below w.heap.size w W) (hl : xs.length < 4611686018427387904) :
    Calls Try.prog 62 #[v] W fun e W2 => e = .returned (.tuple #[]) ∧ Calls Try.prog 63 #[v] W2 fun e W3 => ∃ v0, e = .returned v0 ∧ Kd.R (Kd.int .i64) 3 W3 w.heap.size (fun _ => True) v0 (Lib.compact (xs.mergeSort (fun x y => decide (x ≤ y)))) ∧ Below w.heap.size w W3 := by
  have ho := ints_R hr
  rcases ho.2 with ⟨rfl, hx⟩ | ⟨g, cap, cur, rfl, hbase, hg, hn, hcap, hcur, htake⟩
  · have hx0 : xs = [] := List.eq_nil_of_length_eq_zero hx
    subst hx0
    refine (Try.slices_Sort_int_none none 0 W).mono ?_
    rintro e W2 ⟨rfl, rfl⟩
    refine ⟨rfl, (Try.slices_Compact_int_empty none 0 _).mono ?_⟩
    rintro e W3 ⟨rfl, rfl⟩
    exact ⟨_, rfl, by rw [show Lib.compact (([] : List Int).mergeSort (fun x y => decide (x ≤ y))) = [] by simp [Lib.compact, Lib.compactUpTo]]; exact Kd.R_nil _ _ _ _ _, hb⟩
  · have hblk : g < W.heap.size := (Array.getElem?_eq_some_iff.1 hg).1
    rw [Nat.mul_one] at htake hcur
    refine (Try.slices_Sort_int g 0 cap xs W (holds_of_blockI hg htake) hblk hl).mono ?_
    rintro e W2 ⟨rfl, n, os, rfl⟩
    refine ⟨rfl, ?_⟩
    have hz : (xs.mergeSort (fun x y => decide (x ≤ y))).length = xs.length := List.length_mergeSort _
    have hg2 := heap_sortedI (n := n) (os := os) (xs.mergeSort (fun x y => decide (x ≤ y))).toArray hg
    have ht2 := take_putCellsI cur (xs.mergeSort (fun x y => decide (x ≤ y))) (by omega)
    have hs2 : (putCells (Value.int .i64) 0 (xs.mergeSort (fun x y => decide (x ≤ y))).toArray cur).size = cap := by simp [putCells, hcur]
    have hb2 := pw_below_grown hb (some g) hb.size (grownBy_sortedI (n := n) (os := os) (xs.mergeSort (fun x y => decide (x ≤ y))).toArray) (fun k hk => by injection hk with hk; omega)
    have hc := Try.slices_Compact_int g 0 cap (xs.mergeSort (fun x y => decide (x ≤ y))) _ (holds_of_blockI hg2 ht2) (by omega) (by omega)
    rw [hz] at hc
    refine hc.mono ?_
    rintro e W3 ⟨rfl, q, rfl⟩
    have hcl := Lib.compact_length_le (xs.mergeSort (fun x y => decide (x ≤ y)))
    have hg3 := heap_sortedI (n := q) (os := #[]) (Lib.compact (xs.mergeSort (fun x y => decide (x ≤ y))) ++ List.replicate (xs.length - (Lib.compact (xs.mergeSort (fun x y => decide (x ≤ y)))).length) 0).toArray hg2
    rw [grow_empty] at hg3
    refine ⟨_, rfl, R_ints (fun _ _ => trivial) ⟨by simp, .inr ⟨g, cap, _, rfl, hbase, hg3, by omega, hcap, ?_, ?_⟩⟩, ?_⟩
    · simp [putCells, hcur]
    · have h5 := take_putCellsI (putCells (Value.int .i64) 0 (xs.mergeSort (fun x y => decide (x ≤ y))).toArray cur) (Lib.compact (xs.mergeSort (fun x y => decide (x ≤ y))) ++ List.replicate (xs.length - (Lib.compact (xs.mergeSort (fun x y => decide (x ≤ y)))).length) 0) (by simp only [List.length_append, List.length_replicate]; omega)
      have h6 := congrArg (List.take (Lib.compact (xs.mergeSort (fun x y => decide (x ≤ y)))).length) h5
      rw [List.take_take, Nat.min_eq_left (by simp only [List.length_append, List.length_replicate]; omega)] at h6
      rw [Nat.mul_one, h6, List.map_append, List.take_left' (by simp)]
    · have h7 := pw_below_grown hb2 (some g) hb2.size (grownBy_sortedI (w := grow (putRow (Value.int .i64) (Sort.ahead W n) g 0 (xs.mergeSort (fun x y => decide (x ≤ y))).toArray) os) (n := q) (os := #[]) (Lib.compact (xs.mergeSort (fun x y => decide (x ≤ y))) ++ List.replicate (xs.length - (Lib.compact (xs.mergeSort (fun x y => decide (x ≤ y)))).length) 0).toArray) (fun k hk => by injection hk with hk; omega)
      rw [grow_empty] at h7
      exact h7
set_option maxHeartbeats 4000000 in
set_option maxRecDepth 100000 in
theorem rules_strata.calls (f : FuncId) (cap : Array Value) (p : S28 → Bool) (a0_0 : Int) (a0_1 : Int) (A0_2 : Option Addr) (c0_2 : Nat) (l0_2 : List Int) (A0_3 : Option Addr) (c0_3 : Nat) (l0_3 : List Int) (a0_4 : Int) (A0_5 : Option Addr) (c0_5 : Nat) (l0_5 : List ByteArray) (A0_6 : Option Addr) (c0_6 : Nat) (l0_6 : List S28) (A0_7 : Option Addr) (c0_7 : Nat) (l0_7 : List S44) (A0_8 : Option Addr) (c0_8 : Nat) (l0_8 : List S46) (A0_9 : Option Addr) (c0_9 : Nat) (l0_9 : List S57) (w : World) (hr0_6 : Kd.C k28 w A0_6 l0_6.length l0_6) (hlen : l0_6.length < 1000000) (hf : AsksRule f cap p w) :
    Calls Try.prog 32 #[.agg #[.int .i64 a0_0, .int .i64 a0_1, .slice A0_2 l0_2.length c0_2, .slice A0_3 l0_3.length c0_3, .int .i64 a0_4, .slice A0_5 l0_5.length c0_5, .slice A0_6 l0_6.length c0_6, .slice A0_7 l0_7.length c0_7, .slice A0_8 l0_8.length c0_8, .slice A0_9 l0_9.length c0_9], .func (.func f) #[] cap] w fun e w' => ∃ v0_ : Value, e = .returned v0_ ∧ Kd.R (Kd.int .i64) 3 w' w.heap.size (fun _ => True) v0_ (strataF l0_6 p) ∧ Below w.heap.size w w' := by
  have HR := Aside0.mk hr0_6
  have HF := Aside0.mk hf
  clear hr0_6 hf
  go_enter Try.func32, Try.ntmps32
  go_wp2
  have HP := Aside0.mk (MapKept.heap_alloc w (.cells #[.int .i64 a0_0, .int .i64 a0_1, .slice A0_2 l0_2.length c0_2, .slice A0_3 l0_3.length c0_3, .int .i64 a0_4, .slice A0_5 l0_5.length c0_5, .slice A0_6 l0_6.length c0_6, .slice A0_7 l0_7.length c0_7, .slice A0_8 l0_8.length c0_8, .slice A0_9 l0_9.length c0_9] 36)).1
  have HB0 := Aside0.mk (below_alloc (Below.refl w.heap.size w) (.cells #[.int .i64 a0_0, .int .i64 a0_1, .slice A0_2 l0_2.length c0_2, .slice A0_3 l0_3.length c0_3, .int .i64 a0_4, .slice A0_5 l0_5.length c0_5, .slice A0_6 l0_6.length c0_6, .slice A0_7 l0_7.length c0_7, .slice A0_8 l0_8.length c0_8, .slice A0_9 l0_9.length c0_9] 36))
  go_loopg [5, 11] l0_6.length (fun kq v5 v11 w' => ∃ (i : Nat) (acc : List Int), v11 = .int .i64 i ∧ Aside0 (i + kq = l0_6.length) ∧ Aside0 (acc.length ≤ i ∧ acc ++ ((l0_6.drop i).filter p).map (·.f0) = (l0_6.filter p).map (·.f0)) ∧ Aside0 (Kd.R (Kd.int .i64) 3 w' w.heap.size (fun _ => True) v5 acc) ∧ Aside0 (Below w.heap.size w w'))
  case atStart => exact ⟨0, [], rfl, ⟨by omega⟩, ⟨Nat.le_refl _, rfl⟩, ⟨Kd.R_nil _ _ _ _ _⟩, HB0⟩
  case round =>
    clear HP HB0
    obtain ⟨i, acc, rfl, HK, HA, HV, HB⟩ := hrel
    by_cases hi : i < l0_6.length
    · obtain ⟨gk1, rfl⟩ : ∃ m, gk = m + 1 := ⟨gk - 1, by have := HK.out; omega⟩
      have h1 := HA.out.2
      rw [List.drop_eq_getElem_cons hi] at h1
      have hx : l0_6[i] = rd_T28 l0_6 ↑i := by simp [rd_T28, List.getD_eq_getElem?_getD, List.getElem?_eq_getElem hi]
      rw [hx] at h1
      obtain ⟨ad, A1, c1, A2, c2, A3, c3, ea, hx0, hx1, hx2, hx3, hy0, hy1, hy2, hy3, hy4, hy5⟩ := at_T28 (Kd.C_below HR.out HB.out) (↑i) (by omega) (by omega)
      subst ea
      simp only [Int.toNat_natCast] at hx0 hx1 hx2 hx3
      have H1 := Aside0.mk h1
      have HL := Aside0.mk (And.intro hy1 hy5)
      clear h1 hx hy0 hy1 hy2 hy3 hy4 hy5
      have hi1 : ((i : Int) < (l0_6.length : Int)) = True := eq_true (by omega)
      have hi2 : (i < l0_6.length) = True := eq_true hi
      have hi3 : decide ((i : Int) < (l0_6.length : Int)) = true := decide_eq_true (by omega)
      go_wp2_with (fail)
      rw [run_enter HF.out.1, Oper.upon_enter]
      refine (HF.out.2 (rd_T28 l0_6 ↑i) A1 c1 A2 c2 A3 c3 _ (below_alloc HB.out _) (Kd.C_alloc HL.out.1 _) (Kd.C_alloc HL.out.2 _)).mono ?_
      rintro e w3 ⟨he, hb3⟩
      have HB3 := Aside0.mk (below_step (below_alloc HB.out _) hb3)
      have HX3 := Aside0.mk ((hb3.block _ (blk_lt (MapKept.heap_alloc wr _).1)).trans (MapKept.heap_alloc wr _).1)
      have HV3 := Aside0.mk (Kd.R_below (Kd.R_alloc HV.out _) hb3)
      clear hb3 HB HV HL hx0 hx1 hx2 hx3
      cases hp : p (rd_T28 l0_6 ↑i) with
      | false =>
        rw [hp] at he
        subst he
        have H2 := Aside0.mk (show acc.length ≤ i + 1 ∧ acc ++ ((l0_6.drop (i + 1)).filter p).map (·.f0) = (l0_6.filter p).map (·.f0) from ⟨by have := HA.out.1; omega, by have := H1.out; simpa [hp] using this⟩)
        clear H1 HA hp
        go_wp2
        go_roundg gk1
        case measure => omega
        case rel => exact ⟨i + 1, acc, (by simp), ⟨by have := HK.out; omega⟩, H2, HV3, HB3⟩
      | true =>
        rw [hp] at he
        subst he
        have H2 := Aside0.mk (show (acc ++ [(rd_T28 l0_6 ↑i).f0]).length ≤ i + 1 ∧ (acc ++ [(rd_T28 l0_6 ↑i).f0]) ++ ((l0_6.drop (i + 1)).filter p).map (·.f0) = (l0_6.filter p).map (·.f0) from ⟨by have := HA.out.1; simp only [List.length_append, List.length_singleton]; omega, by have := H1.out; simpa [hp] using this⟩)
        have HLN := Aside0.mk (show acc.length < 1000000 by have := HA.out.1; omega)
        clear H1 HA hp
        have kx0 : w3.cell? ⟨wr.heap.size, 0, none⟩ = some (.int .i64 (rd_T28 l0_6 ↑i).f0) := (blk_cell HX3.out 0).trans rfl
        go_wp2_with (first | ((with_reducible refine gate_builtin (b := .append) (xs := #[.tmp 18, .tmp 21]) rfl ?_); at_builtin; refine Kd.R_append (Kd.int .i64) (w0 := w) w.heap.size rfl (.tmp 18) (.tmp 21) 29 3 (.int .i64 0) 8 rfl Try.underlying29 infoInt rfl (by decide) (by omega) _ acc (rd_T28 l0_6 ↑i).f0 [.int .i64 (rd_T28 l0_6 ↑i).f0] (fun _ => True) (fun _ => False) rfl rfl ?aP (fun _ hk => hk.elim) ?aF ?aO ?aB ?aS ?aL ?_; (case aP => exact rfl); (case aF => exact fun _ _ => trivial); (case aO => exact HV3.out); (case aB => exact HB3.out); (case aS => exact HB3.out.size); (case aL => have := HLN.out; omega); intro v1 w5 ho hb hg hat; have HV5 := Aside0.mk ho; have HB5 := Aside0.mk hb; clear ho hb hg hat HV3 HB3 kx0))
        go_roundg gk1
        case measure => omega
        case rel => exact ⟨i + 1, _, (by simp), ⟨by have := HK.out; omega⟩, H2, HV5, HB5⟩
    · have h0 : l0_6.drop i = [] := List.drop_eq_nil_of_le (by omega)
      have hR := HA.out.2
      rw [h0] at hR
      have hR2 : acc = (l0_6.filter p).map (·.f0) := by simpa using hR
      have HE := Aside0.mk (strata_end HV.out HB.out (by have := HA.out.1; have := HK.out; omega))
      have HEQ := Aside0.mk hR2
      have hi3 : decide ((i : Int) < (l0_6.length : Int)) = false := decide_eq_false (by omega)
      clear h0 hR hR2 HA
      go_wp2_with (fail)
      refine HE.out.mono ?_
      rintro e w3 ⟨rfl, hc⟩
      have HC := Aside0.mk hc
      clear hc HE
      go_wp2_with (fail)
      refine HC.out.mono ?_
      rintro e w4 ⟨v0, rfl, hv, hb4⟩
      have HV4 := Aside0.mk hv
      have HB4 := Aside0.mk hb4
      clear hv hb4 HC
      go_wp2
      go_ret
      refine ⟨v0, rfl, ?_, HB4.out⟩
      have h9 := HV4.out
      rw [HEQ.out] at h9
      exact h9
end Go.Proofs.Ytknenadpkgajjaa.PA
end
section
namespace Go.Proofs.Ytknenadpkgajjaa.PA
open Go.RowKit Go.Proofs.YtknenadpkgajjaaW.PrintWords Go.Proofs.YtknenadpkgajjaaW.PrintLast Go.Proofs.YtknenadpkgajjaaW.PrintMore
attribute [local go_sem] max2_int min2_int max_two min_two max_three min_three max_four min_four   -- for this text's walks alone
set_option linter.unusedVariables false
set_option linter.unusedSimpArgs false
/-! ### rules_Reads: function 14 -/
open Go.Proofs.Ytknenadpkgajjaa.GFunc
set_option linter.unusedSimpArgs false
set_option linter.unusedVariables false
set_option maxHeartbeats 4000000 in
set_option maxRecDepth 100000 in
theorem asks_reads1 (flag : Int) (fb : Nat) (w : World) (hB : w.heap[fb]? = some (.cells #[.int .i64 flag] 3 (0, 0))) : AsksLit 35 #[.pointer (some ⟨fb, 0, none⟩)] (fun x => x.f0 == flag) w := by
  refine ⟨by unfold HasBody; kernel_rfl, fun x w' hb => ?_⟩
  have hB' := (hb.block _ (blk_lt hB)).trans hB
  have k0 : ∀ o, (w'.alloc o).cell? ⟨fb, 0, none⟩ = some (.int .i64 flag) := fun o => (blk_cell (blk_alloc hB' o) 0).trans rfl
  clear hB hb hB'
  unfold aggLit
  go_enter Try.func35, Try.ntmps35
  go_wp2
  go_ret
  exact ⟨rfl, by repeat (first | exact Below.refl _ _ | apply below_alloc | apply pw_below_drewN)⟩
def readsP (flag : Int) (r : S28) : Bool := r.f1.any fun x => x.f0 == flag
set_option maxHeartbeats 4000000 in
set_option maxRecDepth 100000 in
theorem asks_reads (flag : Int) (fb : Nat) (w : World) (hB : w.heap[fb]? = some (.cells #[.int .i64 flag] 3 (0, 0))) : AsksRule 33 #[.pointer (some ⟨fb, 0, none⟩)] (readsP flag) w := by
  refine ⟨by unfold HasBody; kernel_rfl, fun x A1 c1 A2 c2 A3 c3 w' hb h1 h3 => ?_⟩
  have HC := Aside0.mk h1
  have HBk := Aside0.mk ((hb.block _ (blk_lt hB)).trans hB)
  have hmf0 := hmf Try.prog
  clear hB hb h1 h3
  unfold readsP
  go_enter Try.func33, Try.ntmps33
  go_wp2_with (fail)
  refine (containsLit.calls _ _ (fun x => x.f0 == flag) x.f1 _ _ _ (Kd.C_alloc HC.out _) (asks_reads1 flag fb _ (blk_alloc HBk.out _))).mono ?_
  rintro e w2 ⟨rfl, hb2⟩
  have HB2 := Aside0.mk (below_step (below_alloc (Below.refl _ _) _ : Below w'.heap.size w' _) hb2)
  clear hb2
  go_wp2
  go_ret
  exact ⟨rfl, HB2.out⟩
def rules_Reads.f (a0_0 : Int) (a0_1 : Int) (l0_2 : List Int) (l0_3 : List Int) (a0_4 : Int) (l0_5 : List ByteArray) (l0_6 : List S28) (l0_7 : List S44) (l0_8 : List S46) (l0_9 : List S57) (a1 : Int) : Option (List Int) := if l0_6.length < 1000000 then some (strataF l0_6 (readsP a1)) else none
set_option maxHeartbeats 4000000 in
set_option maxRecDepth 100000 in
theorem rules_Reads.calls (a0_0 : Int) (a0_1 : Int) (A0_2 : Option Addr) (c0_2 : Nat) (l0_2 : List Int) (A0_3 : Option Addr) (c0_3 : Nat) (l0_3 : List Int) (a0_4 : Int) (A0_5 : Option Addr) (c0_5 : Nat) (l0_5 : List ByteArray) (A0_6 : Option Addr) (c0_6 : Nat) (l0_6 : List S28) (A0_7 : Option Addr) (c0_7 : Nat) (l0_7 : List S44) (A0_8 : Option Addr) (c0_8 : Nat) (l0_8 : List S46) (A0_9 : Option Addr) (c0_9 : Nat) (l0_9 : List S57) (a1 : Int) (r : List Int) (w : World) (hr0_2 : Kd.C (Kd.int .i64) w A0_2 l0_2.length l0_2) (hc0_2 : l0_2.length ≤ c0_2) (hr0_3 : Kd.C (Kd.int .i64) w A0_3 l0_3.length l0_3) (hc0_3 : l0_3.length ≤ c0_3) (hr0_5 : Kd.C Kd.string w A0_5 l0_5.length l0_5) (hc0_5 : l0_5.length ≤ c0_5) (hr0_6 : Kd.C k28 w A0_6 l0_6.length l0_6) (hc0_6 : l0_6.length ≤ c0_6) (hr0_7 : Kd.C k44 w A0_7 l0_7.length l0_7) (hc0_7 : l0_7.length ≤ c0_7) (hr0_8 : Kd.C k46 w A0_8 l0_8.length l0_8) (hc0_8 : l0_8.length ≤ c0_8) (hr0_9 : Kd.C k57 w A0_9 l0_9.length l0_9) (hc0_9 : l0_9.length ≤ c0_9) (h : rules_Reads.f a0_0 a0_1 l0_2 l0_3 a0_4 l0_5 l0_6 l0_7 l0_8 l0_9 a1 = some r) :
    Calls Try.prog 14 #[.agg #[.int .i64 a0_0, .int .i64 a0_1, .slice A0_2 l0_2.length c0_2, .slice A0_3 l0_3.length c0_3, .int .i64 a0_4, .slice A0_5 l0_5.length c0_5, .slice A0_6 l0_6.length c0_6, .slice A0_7 l0_7.length c0_7, .slice A0_8 l0_8.length c0_8, .slice A0_9 l0_9.length c0_9], .int .i64 a1] w fun e w' => ∃ v0_ : Value, e = .returned (v0_) ∧ Kd.R (Kd.int .i64) 3 w' w.heap.size (fun _ => True) v0_ r ∧ Below w.heap.size w w' := by
  unfold rules_Reads.f at h
  by_cases hl : l0_6.length < 1000000
  case neg => rw [if_neg hl] at h; cases h
  rw [if_pos hl] at h
  obtain rfl := Option.some.inj h
  have HR := Aside0.mk hr0_6
  have HL := Aside0.mk hl
  clear hr0_2 hc0_2 hr0_3 hc0_3 hr0_5 hc0_5 hr0_6 hc0_6 hr0_7 hc0_7 hr0_8 hc0_8 hr0_9 hc0_9 h hl
  have hmf0 := hmf Try.prog
  go_enter Try.func14, Try.ntmps14
  go_wp2_with (fail)
  refine (rules_strata.calls _ _ (readsP a1) a0_0 a0_1 _ _ l0_2 _ _ l0_3 a0_4 _ _ l0_5 _ _ l0_6 _ _ l0_7 _ _ l0_8 _ _ l0_9 _ (Kd.C_alloc (Kd.C_alloc HR.out _) _) HL.out (asks_reads a1 (w.heap.size + 1) _ (by repeat first | exact alloc_at1 (by first | (simp only [World.size_alloc]; done) | omega) | refine blk_alloc ?_ _))).mono ?_
  rintro e w2 ⟨v0, rfl, hv, hb2⟩
  have HB2 := Aside0.mk (below_step (below_alloc (below_alloc (Below.refl _ _) _) _ : Below w.heap.size w _) hb2)
  have HV := Aside0.mk (Kd.R_lower (base' := w.heap.size) hv (by simp only [World.size_alloc]; omega))
  clear hb2 hv
  go_wp2
  go_ret
  exact ⟨v0, rfl, HV.out, HB2.out⟩
end Go.Proofs.Ytknenadpkgajjaa.PA
end
section
namespace Go.Proofs.Ytknenadpkgajjaa.PA
open Go.RowKit Go.Proofs.YtknenadpkgajjaaW.PrintWords Go.Proofs.YtknenadpkgajjaaW.PrintLast Go.Proofs.YtknenadpkgajjaaW.PrintMore
attribute [local go_sem] max2_int min2_int max_two min_two max_three min_three max_four min_four   -- for this text's walks alone
set_option linter.unusedVariables false
set_option linter.unusedSimpArgs false
/-! ### api_Set_65: function 65 -/
open Go.Proofs.Ytknenadpkgajjaa.GFunc
set_option linter.unusedSimpArgs false
def api_Set_65.f : Unit := ()
def aggSet (x : S23) : Value := .agg #[.int .i64 x.f0, .bool x.f1]
/-- a function value that answers p of an element, at every world behind w. -/
def AsksSet (f : FuncId) (cap : Array Value) (p : S23 → Bool) (w : World) : Prop := HasBody Try.prog f ∧ ∀ x w', Below w.heap.size w w' → Calls Try.prog f (#[aggSet x] ++ cap) w' fun e w'' => e = .returned (.bool (p x)) ∧ Below w'.heap.size w' w''
set_option maxHeartbeats 4000000 in
set_option maxRecDepth 100000 in
theorem indexSet.calls (f : FuncId) (cap : Array Value) (p : S23 → Bool) (xs : List S23) (A : Option Addr) (c : Nat) (w : World) (hr : Kd.C k23 w A xs.length xs) (hf : AsksSet f cap p w) :
    Calls Try.prog 65 #[.slice A xs.length c, .func (.func f) #[] cap] w fun e w' => e = .returned (.int .i64 (idx p xs 0)) ∧ Below w.heap.size w w' := by
  have HR := Aside0.mk hr
  have HF := Aside0.mk hf
  have hlen := Kd.C_max hr
  clear hr hf
  go_enter Try.func65, Try.ntmps65
  go_wp2
  go_loopg [8] xs.length (fun kq v8 w' => ∃ i : Nat, v8 = .int .i64 i ∧ Aside0 (i + kq = xs.length) ∧ Aside0 (idx p (xs.drop i) i = idx p xs 0) ∧ Aside0 (Below w.heap.size w w'))
  case atStart => exact ⟨0, rfl, ⟨by omega⟩, ⟨rfl⟩, ⟨by repeat (first | exact Below.refl _ _ | apply below_alloc)⟩⟩
  case round =>
    obtain ⟨i, rfl, HK, HI, HB⟩ := hrel
    by_cases hi : i < xs.length
    · obtain ⟨gk1, rfl⟩ : ∃ m, gk = m + 1 := ⟨gk - 1, by have := HK.out; omega⟩
      have h1 := HI.out
      rw [List.drop_eq_getElem_cons hi, idx] at h1
      have hx : xs[i] = rd_T23 xs ↑i := by simp [rd_T23, List.getD_eq_getElem?_getD, List.getElem?_eq_getElem hi]
      rw [hx] at h1
      obtain ⟨ad, ea, hx0, hx1⟩ := at_T23 (Kd.C_below HR.out HB.out) (↑i) (by omega) (by omega)
      subst ea
      simp only [Int.toNat_natCast] at hx0 hx1
      have H1 := Aside0.mk h1
      clear h1 hx HI
      have hi1 : ((i : Int) < (xs.length : Int)) = True := eq_true (by omega)
      have hi2 : (i < xs.length) = True := eq_true hi
      have hi3 : decide ((i : Int) < (xs.length : Int)) = true := decide_eq_true (by omega)
      go_wp2_with (fail)
      rw [run_enter HF.out.1, Oper.upon_enter]
      refine (HF.out.2 (rd_T23 xs ↑i) wr HB.out).mono ?_
      rintro e w2 ⟨he, hb2⟩
      have HB2 := Aside0.mk (below_step HB.out hb2)
      clear hb2 HB hx0 hx1
      cases hp : p (rd_T23 xs ↑i) with
      | true =>
        rw [hp] at he
        subst he
        have h1 := H1.out
        rw [if_pos hp] at h1
        have H2 := Aside0.mk h1
        clear h1 H1 hp
        go_wp2
        go_ret
        exact ⟨by rw [← H2.out]; rfl, HB2.out⟩
      | false =>
        rw [hp] at he
        subst he
        have h1 := H1.out
        rw [if_neg (by rw [hp]; decide)] at h1
        have H2 := Aside0.mk h1
        clear h1 H1 hp
        go_wp2
        go_roundg gk1
        case measure => omega
        case rel => exact ⟨i + 1, (by simp), ⟨by have := HK.out; omega⟩, H2, HB2⟩
    · have h0 : xs.drop i = [] := List.drop_eq_nil_of_le (by omega)
      have hR := HI.out
      rw [h0] at hR
      have hR2 : idx p xs 0 = -1 := hR.symm
      have HR2 := Aside0.mk hR2
      have hi3 : decide ((i : Int) < (xs.length : Int)) = false := decide_eq_false (by omega)
      clear h0 hR hR2 HI
      go_wp2
      go_ret
      exact ⟨by rw [HR2.out]; rfl, HB.out⟩
set_option maxHeartbeats 4000000 in
set_option maxRecDepth 100000 in
theorem containsSet.calls (f : FuncId) (cap : Array Value) (p : S23 → Bool) (xs : List S23) (A : Option Addr) (c : Nat) (w : World) (hr : Kd.C k23 w A xs.length xs) (hf : AsksSet f cap p w) :
    Calls Try.prog 38 #[.slice A xs.length c, .func (.func f) #[] cap] w fun e w' => e = .returned (.bool (xs.any p)) ∧ Below w.heap.size w w' := by
  have HC := Aside0.mk (indexSet.calls f cap p xs A c w hr hf)
  clear hr hf
  go_enter Try.func38, Try.ntmps38
  go_wp2_with (fail)
  refine HC.out.mono ?_
  rintro e w2 ⟨rfl, hb2⟩
  have HB2 := Aside0.mk hb2
  clear hb2 HC
  go_wp2
  go_ret
  exact ⟨by rw [← idx_any p xs 0]; rfl, HB2.out⟩
end Go.Proofs.Ytknenadpkgajjaa.PA
end
section
namespace Go.Proofs.Ytknenadpkgajjaa.PA
open Go.RowKit Go.Proofs.YtknenadpkgajjaaW.PrintWords Go.Proofs.YtknenadpkgajjaaW.PrintLast Go.Proofs.YtknenadpkgajjaaW.PrintMore
attribute [local go_sem] max2_int min2_int max_two min_two max_three min_three max_four min_four   -- for this text's walks alone
set_option linter.unusedVariables false
set_option linter.unusedSimpArgs false
/-! ### rules_Writes: function 16 -/
open Go.Proofs.Ytknenadpkgajjaa.GFunc
set_option linter.unusedSimpArgs false
set_option linter.unusedVariables false
set_option maxHeartbeats 4000000 in
set_option maxRecDepth 100000 in
theorem asks_writes1 (flag : Int) (fb : Nat) (w : World) (hB : w.heap[fb]? = some (.cells #[.int .i64 flag] 3 (0, 0))) : AsksSet 39 #[.pointer (some ⟨fb, 0, none⟩)] (fun x => x.f0 == flag) w := by
  refine ⟨by unfold HasBody; kernel_rfl, fun x w' hb => ?_⟩
  have hB' := (hb.block _ (blk_lt hB)).trans hB
  have k0 : ∀ o, (w'.alloc o).cell? ⟨fb, 0, none⟩ = some (.int .i64 flag) := fun o => (blk_cell (blk_alloc hB' o) 0).trans rfl
  clear hB hb hB'
  unfold aggSet
  go_enter Try.func39, Try.ntmps39
  go_wp2
  go_ret
  exact ⟨rfl, by repeat (first | exact Below.refl _ _ | apply below_alloc | apply pw_below_drewN)⟩
def writesP (flag : Int) (r : S28) : Bool := r.f3.any fun x => x.f0 == flag
set_option maxHeartbeats 4000000 in
set_option maxRecDepth 100000 in
theorem asks_writes (flag : Int) (fb : Nat) (w : World) (hB : w.heap[fb]? = some (.cells #[.int .i64 flag] 3 (0, 0))) : AsksRule 37 #[.pointer (some ⟨fb, 0, none⟩)] (writesP flag) w := by
  refine ⟨by unfold HasBody; kernel_rfl, fun x A1 c1 A2 c2 A3 c3 w' hb h1 h3 => ?_⟩
  have HC := Aside0.mk h3
  have HBk := Aside0.mk ((hb.block _ (blk_lt hB)).trans hB)
  have hmf0 := hmf Try.prog
  clear hB hb h1 h3
  unfold writesP
  go_enter Try.func37, Try.ntmps37
  go_wp2_with (fail)
  refine (containsSet.calls _ _ (fun x => x.f0 == flag) x.f3 _ _ _ (Kd.C_alloc HC.out _) (asks_writes1 flag fb _ (blk_alloc HBk.out _))).mono ?_
  rintro e w2 ⟨rfl, hb2⟩
  have HB2 := Aside0.mk (below_step (below_alloc (Below.refl _ _) _ : Below w'.heap.size w' _) hb2)
  clear hb2
  go_wp2
  go_ret
  exact ⟨rfl, HB2.out⟩
def rules_Writes.f (a0_0 : Int) (a0_1 : Int) (l0_2 : List Int) (l0_3 : List Int) (a0_4 : Int) (l0_5 : List ByteArray) (l0_6 : List S28) (l0_7 : List S44) (l0_8 : List S46) (l0_9 : List S57) (a1 : Int) : Option (List Int) := if l0_6.length < 1000000 then some (strataF l0_6 (writesP a1)) else none
set_option maxHeartbeats 4000000 in
set_option maxRecDepth 100000 in
theorem rules_Writes.calls (a0_0 : Int) (a0_1 : Int) (A0_2 : Option Addr) (c0_2 : Nat) (l0_2 : List Int) (A0_3 : Option Addr) (c0_3 : Nat) (l0_3 : List Int) (a0_4 : Int) (A0_5 : Option Addr) (c0_5 : Nat) (l0_5 : List ByteArray) (A0_6 : Option Addr) (c0_6 : Nat) (l0_6 : List S28) (A0_7 : Option Addr) (c0_7 : Nat) (l0_7 : List S44) (A0_8 : Option Addr) (c0_8 : Nat) (l0_8 : List S46) (A0_9 : Option Addr) (c0_9 : Nat) (l0_9 : List S57) (a1 : Int) (r : List Int) (w : World) (hr0_2 : Kd.C (Kd.int .i64) w A0_2 l0_2.length l0_2) (hc0_2 : l0_2.length ≤ c0_2) (hr0_3 : Kd.C (Kd.int .i64) w A0_3 l0_3.length l0_3) (hc0_3 : l0_3.length ≤ c0_3) (hr0_5 : Kd.C Kd.string w A0_5 l0_5.length l0_5) (hc0_5 : l0_5.length ≤ c0_5) (hr0_6 : Kd.C k28 w A0_6 l0_6.length l0_6) (hc0_6 : l0_6.length ≤ c0_6) (hr0_7 : Kd.C k44 w A0_7 l0_7.length l0_7) (hc0_7 : l0_7.length ≤ c0_7) (hr0_8 : Kd.C k46 w A0_8 l0_8.length l0_8) (hc0_8 : l0_8.length ≤ c0_8) (hr0_9 : Kd.C k57 w A0_9 l0_9.length l0_9) (hc0_9 : l0_9.length ≤ c0_9) (h : rules_Writes.f a0_0 a0_1 l0_2 l0_3 a0_4 l0_5 l0_6 l0_7 l0_8 l0_9 a1 = some r) :
    Calls Try.prog 16 #[.agg #[.int .i64 a0_0, .int .i64 a0_1, .slice A0_2 l0_2.length c0_2, .slice A0_3 l0_3.length c0_3, .int .i64 a0_4, .slice A0_5 l0_5.length c0_5, .slice A0_6 l0_6.length c0_6, .slice A0_7 l0_7.length c0_7, .slice A0_8 l0_8.length c0_8, .slice A0_9 l0_9.length c0_9], .int .i64 a1] w fun e w' => ∃ v0_ : Value, e = .returned (v0_) ∧ Kd.R (Kd.int .i64) 3 w' w.heap.size (fun _ => True) v0_ r ∧ Below w.heap.size w w' := by
  unfold rules_Writes.f at h
  by_cases hl : l0_6.length < 1000000
  case neg => rw [if_neg hl] at h; cases h
  rw [if_pos hl] at h
  obtain rfl := Option.some.inj h
  have HR := Aside0.mk hr0_6
  have HL := Aside0.mk hl
  clear hr0_2 hc0_2 hr0_3 hc0_3 hr0_5 hc0_5 hr0_6 hc0_6 hr0_7 hc0_7 hr0_8 hc0_8 hr0_9 hc0_9 h hl
  have hmf0 := hmf Try.prog
  go_enter Try.func16, Try.ntmps16
  go_wp2_with (fail)
  refine (rules_strata.calls _ _ (writesP a1) a0_0 a0_1 _ _ l0_2 _ _ l0_3 a0_4 _ _ l0_5 _ _ l0_6 _ _ l0_7 _ _ l0_8 _ _ l0_9 _ (Kd.C_alloc (Kd.C_alloc HR.out _) _) HL.out (asks_writes a1 (w.heap.size + 1) _ (by repeat first | exact alloc_at1 (by first | (simp only [World.size_alloc]; done) | omega) | refine blk_alloc ?_ _))).mono ?_
  rintro e w2 ⟨v0, rfl, hv, hb2⟩
  have HB2 := Aside0.mk (below_step (below_alloc (below_alloc (Below.refl _ _) _) _ : Below w.heap.size w _) hb2)
  have HV := Aside0.mk (Kd.R_lower (base' := w.heap.size) hv (by simp only [World.size_alloc]; omega))
  clear hb2 hv
  go_wp2
  go_ret
  exact ⟨v0, rfl, HV.out, HB2.out⟩
end Go.Proofs.Ytknenadpkgajjaa.PA
end
section
namespace Go.Proofs.Ytknenadpkgajjaa.PA
open Go.RowKit Go.Proofs.YtknenadpkgajjaaW.PrintWords Go.Proofs.YtknenadpkgajjaaW.PrintLast Go.Proofs.YtknenadpkgajjaaW.PrintMore
attribute [local go_sem] max2_int min2_int max_two min_two max_three min_three max_four min_four   -- for this text's walks alone
set_option linter.unusedVariables false
set_option linter.unusedSimpArgs false
/-! ### rules_within: function 20 -/
def rules_within.f (a0 : Int) (a1 : Int) (a2 : Int) : Option (Bool) := if a0 ≥ a1 then (some (decide (a0 < a2))) else (some false)
set_option maxHeartbeats 8000000 in
set_option maxRecDepth 100000 in
theorem rules_within.calls (a0 : Int) (a1 : Int) (a2 : Int) (r : Bool) (w : World) (h : rules_within.f a0 a1 a2 = some r) :
    Calls Try.prog 20 #[.int .i64 a0, .int .i64 a1, .int .i64 a2] w fun e w' => e = .returned (.bool r) ∧ Drawn0 w w' := by
  have H : (if a0 ≥ a1 then (some (decide (a0 < a2))) else (some false)) = some r := h
  clear h
  by_cases c4 : a0 ≥ a1
  · rw [if_pos c4] at H
    have c4b0 : decide (a1 ≤ a0) = true := decide_eq_true c4
    clear c4
    obtain rfl := Option.some.inj H
    go_enter Try.func20, Try.ntmps20
    go_wp2
    go_ret
    exact ⟨by first | rfl | (simp; done) | (simp [*]; done), by repeat (first | exact Drawn0.refl _ | apply Drawn0.step)⟩
  · rw [if_neg c4] at H
    have c4b0 : decide (a1 ≤ a0) = false := decide_eq_false c4
    clear c4
    obtain rfl := Option.some.inj H
    go_enter Try.func20, Try.ntmps20
    go_wp2
    go_ret
    exact ⟨by first | rfl | (simp; done) | (simp [*]; done), by repeat (first | exact Drawn0.refl _ | apply Drawn0.step)⟩
end Go.Proofs.Ytknenadpkgajjaa.PA
end
section
namespace Go.Proofs.Ytknenadpkgajjaa.PA
open Go.RowKit Go.Proofs.YtknenadpkgajjaaW.PrintWords Go.Proofs.YtknenadpkgajjaaW.PrintLast Go.Proofs.YtknenadpkgajjaaW.PrintMore
attribute [local go_sem] max2_int min2_int max_two min_two max_three min_three max_four min_four   -- for this text's walks alone
set_option linter.unusedVariables false
set_option linter.unusedSimpArgs false
/-! ### rules_last: function 21 -/
def rules_last.l0 : Nat → List Int → List Int → Int → Int → Int → Int → List Int → List Int → Int → List ByteArray → List (S28) → List (S44) → List (S46) → List (S57) → Option (Bool)
  | 0, _, _, _, _, _, _, _, _, _, _, _, _, _, _ => none
  | k + 1, x1, x7, x8, x9, x106000, x106001, x106002, x106003, x106004, x106005, x106006, x106007, x106008, x106009 => if x9 < x8 then (if 0 ≤ x9 then (if x9 < (x7.length : Int) then ((rules_within.f (rd x7 x9) 0 x106001).bind fun t107 => (if t107 = true then (if x9 > 0 then (if 0 ≤ (wrap64 (x9 - 1)) then (if (wrap64 (x9 - 1)) < (x1.length : Int) then (if (rd x1 (wrap64 (x9 - 1))) ≥ (rd x7 x9) then (some false) else (rules_last.l0 k x1 x7 x8 (wrap64 (x9 + 1)) x106000 x106001 x106002 x106003 x106004 x106005 x106006 x106007 x106008 x106009)) else (none)) else (none)) else (rules_last.l0 k x1 x7 x8 (wrap64 (x9 + 1)) x106000 x106001 x106002 x106003 x106004 x106005 x106006 x106007 x106008 x106009)) else (some false))) else (none)) else (none)) else (some true)
def rules_last.f (k : Nat) (a0_0 : Int) (a0_1 : Int) (l0_2 : List Int) (l0_3 : List Int) (a0_4 : Int) (l0_5 : List ByteArray) (l0_6 : List (S28)) (l0_7 : List (S44)) (l0_8 : List (S46)) (l0_9 : List (S57)) (l1 : List Int) : Option (Bool) := rules_last.l0 k l1 l1 (l1.length : Int) 0 a0_0 a0_1 l0_2 l0_3 a0_4 l0_5 l0_6 l0_7 l0_8 l0_9
theorem rules_last.mono_l : ∀ k, (∀ y0 y1 y2 y3 y4 y5 y6 y7 y8 y9 y10 y11 y12 y13, LeO (rules_last.l0 k y0 y1 y2 y3 y4 y5 y6 y7 y8 y9 y10 y11 y12 y13) (rules_last.l0 (k + 1) y0 y1 y2 y3 y4 y5 y6 y7 y8 y9 y10 y11 y12 y13))
  | 0 => fun _ _ _ _ _ _ _ _ _ _ _ _ _ _ r h => by simp [rules_last.l0] at h
  | k + 1 => by
    have ih0 := rules_last.mono_l k
    · intro y0 y1 y2 y3 y4 y5 y6 y7 y8 y9 y10 y11 y12 y13
      unfold rules_last.l0
      repeat' first
      | (with_reducible exact ih0 _ _ _ _ _ _ _ _ _ _ _ _ _ _)
      | (with_reducible exact LeO.refl _)
      | (with_reducible exact LeO.none _)
      | (with_reducible refine LeO.ite ?_ ?_)
      | (with_reducible refine LeO.bind ?_ (fun _ => ?_))
      | exact ih0 _ _ _ _ _ _ _ _ _ _ _ _ _ _
      | exact LeO.none _
      | refine LeO.ite ?_ ?_
      | refine LeO.bind ?_ (fun _ => ?_)
theorem rules_last.mono : ∀ a0 a1 a2 a3 a4 a5 a6 a7 a8 a9 a10 k, LeO (rules_last.f k a0 a1 a2 a3 a4 a5 a6 a7 a8 a9 a10) (rules_last.f (k + 1) a0 a1 a2 a3 a4 a5 a6 a7 a8 a9 a10) := by
  intro a0 a1 a2 a3 a4 a5 a6 a7 a8 a9 a10 k
  have ih0 := rules_last.mono_l k
  unfold rules_last.f
  repeat' first
      | (with_reducible exact ih0 _ _ _ _ _ _ _ _ _ _ _ _ _ _)
      | (with_reducible exact LeO.refl _)
      | (with_reducible exact LeO.none _)
      | (with_reducible refine LeO.ite ?_ ?_)
      | (with_reducible refine LeO.bind ?_ (fun _ => ?_))
      | exact ih0 _ _ _ _ _ _ _ _ _ _ _ _ _ _
      | exact LeO.none _
      | refine LeO.ite ?_ ?_
      | refine LeO.bind ?_ (fun _ => ?_)
set_option maxHeartbeats 8000000 in
set_option maxRecDepth 100000 in
theorem rules_last.calls (k : Nat) (a0_0 : Int) (a0_1 : Int) (A0_2 : Option Addr) (c0_2 : Nat) (l0_2 : List Int) (A0_3 : Option Addr) (c0_3 : Nat) (l0_3 : List Int) (a0_4 : Int) (A0_5 : Option Addr) (c0_5 : Nat) (l0_5 : List ByteArray) (A0_6 : Option Addr) (c0_6 : Nat) (l0_6 : List (S28)) (A0_7 : Option Addr) (c0_7 : Nat) (l0_7 : List (S44)) (A0_8 : Option Addr) (c0_8 : Nat) (l0_8 : List (S46)) (A0_9 : Option Addr) (c0_9 : Nat) (l0_9 : List (S57)) (A1 : Option Addr) (c1 : Nat) (l1 : List Int) (r : Bool) (w : World) (hr0_2 : Kd.C (Kd.int .i64) w A0_2 l0_2.length l0_2) (hc0_2 : l0_2.length ≤ c0_2) (hr0_3 : Kd.C (Kd.int .i64) w A0_3 l0_3.length l0_3) (hc0_3 : l0_3.length ≤ c0_3) (hr0_5 : Kd.C Kd.string w A0_5 l0_5.length l0_5) (hc0_5 : l0_5.length ≤ c0_5) (hr0_6 : Kd.C k28 w A0_6 l0_6.length l0_6) (hc0_6 : l0_6.length ≤ c0_6) (hr0_7 : Kd.C k44 w A0_7 l0_7.length l0_7) (hc0_7 : l0_7.length ≤ c0_7) (hr0_8 : Kd.C k46 w A0_8 l0_8.length l0_8) (hc0_8 : l0_8.length ≤ c0_8) (hr0_9 : Kd.C k57 w A0_9 l0_9.length l0_9) (hc0_9 : l0_9.length ≤ c0_9) (hr1 : Kd.C (Kd.int .i64) w A1 l1.length l1) (hc1 : l1.length ≤ c1) (h : rules_last.f k a0_0 a0_1 l0_2 l0_3 a0_4 l0_5 l0_6 l0_7 l0_8 l0_9 l1 = some r) :
    Calls Try.prog 21 #[.agg #[.int .i64 a0_0, .int .i64 a0_1, .slice A0_2 l0_2.length c0_2, .slice A0_3 l0_3.length c0_3, .int .i64 a0_4, .slice A0_5 l0_5.length c0_5, .slice A0_6 l0_6.length c0_6, .slice A0_7 l0_7.length c0_7, .slice A0_8 l0_8.length c0_8, .slice A0_9 l0_9.length c0_9], .slice A1 l1.length c1] w fun e w' => e = .returned (.bool r) ∧ Below w.heap.size w w' := by
  have hu36 := Try.underlying36
  have HR0_2 := Aside0.mk hr0_2
  have HC0_2 := Aside0.mk hc0_2
  clear hr0_2 hc0_2
  have HR0_3 := Aside0.mk hr0_3
  have HC0_3 := Aside0.mk hc0_3
  clear hr0_3 hc0_3
  have HR0_5 := Aside0.mk hr0_5
  have HC0_5 := Aside0.mk hc0_5
  clear hr0_5 hc0_5
  have HR0_6 := Aside0.mk hr0_6
  have HC0_6 := Aside0.mk hc0_6
  clear hr0_6 hc0_6
  have HR0_7 := Aside0.mk hr0_7
  have HC0_7 := Aside0.mk hc0_7
  clear hr0_7 hc0_7
  have HR0_8 := Aside0.mk hr0_8
  have HC0_8 := Aside0.mk hc0_8
  clear hr0_8 hc0_8
  have HR0_9 := Aside0.mk hr0_9
  have HC0_9 := Aside0.mk hc0_9
  clear hr0_9 hc0_9
  have HR1 := Aside0.mk hr1
  have HC1 := Aside0.mk hc1
  clear hr1 hc1
  have HB := Aside0.mk (Below.refl w.heap.size w)
  have H : (rules_last.l0 k l1 l1 (l1.length : Int) 0 a0_0 a0_1 l0_2 l0_3 a0_4 l0_5 l0_6 l0_7 l0_8 l0_9) = some r := h
  clear h
  have H' := Aside0.mk H
  clear H
  go_enter Try.func21, Try.ntmps21
  go_wp2_with (first | ((with_reducible refine gate_dst (N := 2) rfl ?_); refine box_event ?hg (N := 2) ?hd (cs := #[.int .i64 a0_0, .int .i64 a0_1, .slice A0_2 l0_2.length c0_2, .slice A0_3 l0_3.length c0_3, .int .i64 a0_4, .slice A0_5 l0_5.length c0_5, .slice A0_6 l0_6.length c0_6, .slice A0_7 l0_7.length c0_7, .slice A0_8 l0_8.length c0_8, .slice A0_9 l0_9.length c0_9]) (t := 36) ?hr ?_; (case hd => rfl); (case hg => rfl); (case hr => first | (go_simp; done) | (go_simp; rfl)); intro gb105 hg w3 hbox hb; have n0_ := Aside0.mk (below_step (by repeat (first | (with_reducible first | exact HB.out | apply below_alloc | apply pw_below_drewN | apply below_drew1) | exact HB.out)) hb); have n1_ := Aside0.mk (hbox); have n2_ := Aside0.mk ((by rw [hg]; exact (below_size (by repeat (first | (with_reducible first | exact HB.out | apply below_alloc | apply pw_below_drewN | apply below_drew1) | exact HB.out))) : w.heap.size ≤ gb105)); have n3_ := Aside0.mk ((by rw [hg]; exact (below_size (by repeat (first | (with_reducible first | exact HB.out | apply below_alloc | apply pw_below_drewN | apply below_drew1) | exact HB.out))) : w.heap.size ≤ gb105)); clear HB; have HB := n0_; have BK105 := n1_; have GW105 := n2_; have GE105 := n3_; clear n0_ n1_ n2_ n3_; clear hb hbox hg))
  go_loopg [9] k (fun kq v9 w' => ∃ (x9_1 : Int), v9 = .int .i64 x9_1 ∧ Aside0 (rules_last.l0 kq l1 l1 (l1.length : Int) x9_1 a0_0 a0_1 l0_2 l0_3 a0_4 l0_5 l0_6 l0_7 l0_8 l0_9 = some r) ∧ Aside0 (kq ≤ k) ∧ Aside0 (w'.heap[gb105]? = some (.cells #[.int .i64 a0_0, .int .i64 a0_1, (.slice A0_2 l0_2.length c0_2), (.slice A0_3 l0_3.length c0_3), .int .i64 a0_4, (.slice A0_5 l0_5.length c0_5), (.slice A0_6 l0_6.length c0_6), (.slice A0_7 l0_7.length c0_7), (.slice A0_8 l0_8.length c0_8), (.slice A0_9 l0_9.length c0_9)] 36 (0, 0))) ∧ Aside0 (Below w.heap.size w w'))
  case atStart => exact ⟨(0), (by first | rfl | (simp; done) | (simp [*]; done)), H', ⟨Nat.le_refl _⟩, ⟨by (with_reducible repeat (first | refine blk_drewN ?_ _ | refine blk_drew ?_ | refine blk_alloc ?_ _)); exact BK105.out⟩, ⟨by repeat (first | (with_reducible first | exact HB.out | apply below_alloc | apply pw_below_drewN | apply below_drew1 | refine below_set ?_ GE105.out) | exact HB.out)⟩⟩
  case round =>
    clear H'
    try clear c1
    try clear c2
    try clear p2
    obtain ⟨x9_1, rfl, HA, HK1, BK105, HB⟩ := hrel
    cases gk with
    | zero => exact absurd HA.out (by simp [rules_last.l0])
    | succ k1 =>
      have H := HA.out
      clear HA
      simp only [rules_last.l0] at H
      by_cases c4 : x9_1 < (l1.length : Int)
      · rw [if_pos c4] at H
        have c4b0 : decide (x9_1 < (l1.length : Int)) = true := decide_eq_true c4
        clear c4
        by_cases c5 : 0 ≤ x9_1
        · rw [if_pos c5] at H
          have c5b0 : decide (0 ≤ x9_1) = true := decide_eq_true c5
          clear c5
          by_cases c6 : x9_1 < (l1.length : Int)
          · rw [if_pos c6] at H
            have c6b0 : decide (x9_1 < (l1.length : Int)) = true := decide_eq_true c6
            clear c6
            replace H := Option.bind_eq_some_iff.mp H
            obtain ⟨t107, A70, H⟩ := H
            replace H : (if t107 = true then (if x9_1 > 0 then (if 0 ≤ (wrap64 (x9_1 - 1)) then (if (wrap64 (x9_1 - 1)) < (l1.length : Int) then (if (rd l1 (wrap64 (x9_1 - 1))) ≥ (rd l1 x9_1) then (some false) else (rules_last.l0 k1 l1 l1 (l1.length : Int) (wrap64 (x9_1 + 1)) a0_0 a0_1 l0_2 l0_3 a0_4 l0_5 l0_6 l0_7 l0_8 l0_9)) else (none)) else (none)) else (rules_last.l0 k1 l1 l1 (l1.length : Int) (wrap64 (x9_1 + 1)) a0_0 a0_1 l0_2 l0_3 a0_4 l0_5 l0_6 l0_7 l0_8 l0_9)) else (some false)) = some r := H
            have A7 := Aside0.mk A70
            clear A70
            by_cases c8 : t107 = true
            · subst c8
              have H1 : (if x9_1 > 0 then (if 0 ≤ (wrap64 (x9_1 - 1)) then (if (wrap64 (x9_1 - 1)) < (l1.length : Int) then (if (rd l1 (wrap64 (x9_1 - 1))) ≥ (rd l1 x9_1) then (some false) else (rules_last.l0 k1 l1 l1 (l1.length : Int) (wrap64 (x9_1 + 1)) a0_0 a0_1 l0_2 l0_3 a0_4 l0_5 l0_6 l0_7 l0_8 l0_9)) else (none)) else (none)) else (rules_last.l0 k1 l1 l1 (l1.length : Int) (wrap64 (x9_1 + 1)) a0_0 a0_1 l0_2 l0_3 a0_4 l0_5 l0_6 l0_7 l0_8 l0_9)) = some r := by rw [if_pos rfl] at H; exact H
              clear H
              have H := H1
              clear H1
              by_cases c9 : x9_1 > 0
              · rw [if_pos c9] at H
                have c9b0 : decide (0 < x9_1) = true := decide_eq_true c9
                clear c9
                obtain ⟨ji10, hji10⟩ : ∃ j_ : Int, (wrap64 (x9_1 - 1)) = j_ := ⟨_, rfl⟩
                replace H : (if 0 ≤ (ji10) then (if (ji10) < (l1.length : Int) then (if (rd l1 (ji10)) ≥ (rd l1 x9_1) then (some false) else (rules_last.l0 k1 l1 l1 (l1.length : Int) (wrap64 (x9_1 + 1)) a0_0 a0_1 l0_2 l0_3 a0_4 l0_5 l0_6 l0_7 l0_8 l0_9)) else (none)) else (none)) = some r := by first | (rw [hji10] at H; exact H) | (simp only [hji10] at H ⊢; exact H)
                (try rw [hji10] at A7)
                have hji10w : (IntKind.i64.wrap (x9_1 - 1)) = ji10 := (i64_w _).trans hji10
                by_cases c11 : 0 ≤ (ji10)
                · rw [if_pos c11] at H
                  have c11b0 : decide (0 ≤ (ji10)) = true := decide_eq_true c11
                  clear c11
                  by_cases c12 : (ji10) < (l1.length : Int)
                  · rw [if_pos c12] at H
                    have c12b0 : decide ((ji10) < (l1.length : Int)) = true := decide_eq_true c12
                    clear c12
                    by_cases c13 : (rd l1 (ji10)) ≥ (rd l1 x9_1)
                    · rw [if_pos c13] at H
                      have c13b0 : decide ((rd l1 x9_1) ≤ (rd l1 (ji10))) = true := decide_eq_true c13
                      clear c13
                      obtain rfl := Option.some.inj H
                      have p106 : 0 ≤ (x9_1 : Int) := of_decide_eq_true (by first | (with_reducible assumption) | assumption)
                      have q106 : x9_1 < (l1.length : Int) := of_decide_eq_true (by first | (with_reducible assumption) | assumption)
                      obtain ⟨ad106, e106, hx106_0⟩ := Kd.at_int HR1.out x9_1 p106 q106
                      cases e106
                      replace hx106_0 := (HB.out.cell (World.block_lt_of_cell? w _ hx106_0)).trans hx106_0
                      replace p106 := eq_true p106
                      replace q106 := eq_true q106
                      have hcz14_0 : wr.cell? ⟨gb105, 0, none⟩ = some (.int .i64 a0_0) := (blk_cell BK105.out 0).trans rfl
                      have hcz14_1 : wr.cell? ⟨gb105, 1, none⟩ = some (.int .i64 a0_1) := (blk_cell BK105.out 1).trans rfl
                      have hcz14_2 : wr.cell? ⟨gb105, 2, none⟩ = some (.slice A0_2 l0_2.length c0_2) := (blk_cell BK105.out 2).trans rfl
                      have hcz14_3 : wr.cell? ⟨gb105, 3, none⟩ = some (.slice A0_3 l0_3.length c0_3) := (blk_cell BK105.out 3).trans rfl
                      have hcz14_4 : wr.cell? ⟨gb105, 4, none⟩ = some (.int .i64 a0_4) := (blk_cell BK105.out 4).trans rfl
                      have hcz14_5 : wr.cell? ⟨gb105, 5, none⟩ = some (.slice A0_5 l0_5.length c0_5) := (blk_cell BK105.out 5).trans rfl
                      have hcz14_6 : wr.cell? ⟨gb105, 6, none⟩ = some (.slice A0_6 l0_6.length c0_6) := (blk_cell BK105.out 6).trans rfl
                      have hcz14_7 : wr.cell? ⟨gb105, 7, none⟩ = some (.slice A0_7 l0_7.length c0_7) := (blk_cell BK105.out 7).trans rfl
                      have hcz14_8 : wr.cell? ⟨gb105, 8, none⟩ = some (.slice A0_8 l0_8.length c0_8) := (blk_cell BK105.out 8).trans rfl
                      have hcz14_9 : wr.cell? ⟨gb105, 9, none⟩ = some (.slice A0_9 l0_9.length c0_9) := (blk_cell BK105.out 9).trans rfl
                      have hfz14_0 := blk_frozen BK105.out 0
                      have hfz14_1 := blk_frozen BK105.out 1
                      have hfz14_2 := blk_frozen BK105.out 2
                      have hfz14_3 := blk_frozen BK105.out 3
                      have hfz14_4 := blk_frozen BK105.out 4
                      have hfz14_5 := blk_frozen BK105.out 5
                      have hfz14_6 := blk_frozen BK105.out 6
                      have hfz14_7 := blk_frozen BK105.out 7
                      have hfz14_8 := blk_frozen BK105.out 8
                      have hfz14_9 := blk_frozen BK105.out 9
                      go_wp2_with (first | ((with_reducible refine gate_callee (f := 20) rfl ?_); refine goesL_ (some 17) rfl rfl Try.func20 (by kernel_rfl) rfl #[.int .i64 (rd l1 x9_1), .int .i64 0, .int .i64 a0_1] rfl (by (try simp only [List.map_toArray, List.map_cons, List.map_nil]); first | done | rfl | (simp only [List.length_drop, List.length_take]; rfl)) ?_; (with_reducible refine (rules_within.calls (rd l1 x9_1) 0 a0_1 true _ A7.out).mono ?_); rintro e w' ⟨rfl, ⟨nd, rfl⟩⟩; refine ⟨_, rfl, ?_⟩; have p108 : 0 ≤ ((ji10) : Int) := of_decide_eq_true (by first | (with_reducible assumption) | assumption); have q108 : (ji10) < (l1.length : Int) := of_decide_eq_true (by first | (with_reducible assumption) | assumption); obtain ⟨ad108, e108, hx108_0⟩ := Kd.at_int HR1.out (ji10) p108 q108; obtain rfl : ad106 = ad108 := (by injection e108); replace hx108_0 := (HB.out.cell (World.block_lt_of_cell? w _ hx108_0)).trans hx108_0; replace p108 := eq_true p108; replace q108 := eq_true q108))
                      go_ret
                      exact ⟨by first | rfl | (simp [errW_none, errW_some] <;> rfl) | (simp only [← hji10]; first | rfl | (simp [errW_none, errW_some] <;> rfl)) | (simp [*, errW_none, errW_some] <;> rfl), by repeat (first | (with_reducible first | exact HB.out | apply below_alloc | apply pw_below_drewN | apply below_drew1 | refine below_set ?_ GE105.out) | exact HB.out)⟩
                    · rw [if_neg c13] at H
                      have c13b0 : decide ((rd l1 x9_1) ≤ (rd l1 (ji10))) = false := decide_eq_false c13
                      clear c13
                      have H' := Aside0.mk H
                      clear H
                      have p106 : 0 ≤ (x9_1 : Int) := of_decide_eq_true (by first | (with_reducible assumption) | assumption)
                      have q106 : x9_1 < (l1.length : Int) := of_decide_eq_true (by first | (with_reducible assumption) | assumption)
                      obtain ⟨ad106, e106, hx106_0⟩ := Kd.at_int HR1.out x9_1 p106 q106
                      cases e106
                      replace hx106_0 := (HB.out.cell (World.block_lt_of_cell? w _ hx106_0)).trans hx106_0
                      replace p106 := eq_true p106
                      replace q106 := eq_true q106
                      have hcz15_0 : wr.cell? ⟨gb105, 0, none⟩ = some (.int .i64 a0_0) := (blk_cell BK105.out 0).trans rfl
                      have hcz15_1 : wr.cell? ⟨gb105, 1, none⟩ = some (.int .i64 a0_1) := (blk_cell BK105.out 1).trans rfl
                      have hcz15_2 : wr.cell? ⟨gb105, 2, none⟩ = some (.slice A0_2 l0_2.length c0_2) := (blk_cell BK105.out 2).trans rfl
                      have hcz15_3 : wr.cell? ⟨gb105, 3, none⟩ = some (.slice A0_3 l0_3.length c0_3) := (blk_cell BK105.out 3).trans rfl
                      have hcz15_4 : wr.cell? ⟨gb105, 4, none⟩ = some (.int .i64 a0_4) := (blk_cell BK105.out 4).trans rfl
                      have hcz15_5 : wr.cell? ⟨gb105, 5, none⟩ = some (.slice A0_5 l0_5.length c0_5) := (blk_cell BK105.out 5).trans rfl
                      have hcz15_6 : wr.cell? ⟨gb105, 6, none⟩ = some (.slice A0_6 l0_6.length c0_6) := (blk_cell BK105.out 6).trans rfl
                      have hcz15_7 : wr.cell? ⟨gb105, 7, none⟩ = some (.slice A0_7 l0_7.length c0_7) := (blk_cell BK105.out 7).trans rfl
                      have hcz15_8 : wr.cell? ⟨gb105, 8, none⟩ = some (.slice A0_8 l0_8.length c0_8) := (blk_cell BK105.out 8).trans rfl
                      have hcz15_9 : wr.cell? ⟨gb105, 9, none⟩ = some (.slice A0_9 l0_9.length c0_9) := (blk_cell BK105.out 9).trans rfl
                      have hfz15_0 := blk_frozen BK105.out 0
                      have hfz15_1 := blk_frozen BK105.out 1
                      have hfz15_2 := blk_frozen BK105.out 2
                      have hfz15_3 := blk_frozen BK105.out 3
                      have hfz15_4 := blk_frozen BK105.out 4
                      have hfz15_5 := blk_frozen BK105.out 5
                      have hfz15_6 := blk_frozen BK105.out 6
                      have hfz15_7 := blk_frozen BK105.out 7
                      have hfz15_8 := blk_frozen BK105.out 8
                      have hfz15_9 := blk_frozen BK105.out 9
                      go_wp2_with (first | ((with_reducible refine gate_callee (f := 20) rfl ?_); refine goesL_ (some 17) rfl rfl Try.func20 (by kernel_rfl) rfl #[.int .i64 (rd l1 x9_1), .int .i64 0, .int .i64 a0_1] rfl (by (try simp only [List.map_toArray, List.map_cons, List.map_nil]); first | done | rfl | (simp only [List.length_drop, List.length_take]; rfl)) ?_; (with_reducible refine (rules_within.calls (rd l1 x9_1) 0 a0_1 true _ A7.out).mono ?_); rintro e w' ⟨rfl, ⟨nd, rfl⟩⟩; refine ⟨_, rfl, ?_⟩; have p108 : 0 ≤ ((ji10) : Int) := of_decide_eq_true (by first | (with_reducible assumption) | assumption); have q108 : (ji10) < (l1.length : Int) := of_decide_eq_true (by first | (with_reducible assumption) | assumption); obtain ⟨ad108, e108, hx108_0⟩ := Kd.at_int HR1.out (ji10) p108 q108; obtain rfl : ad106 = ad108 := (by injection e108); replace hx108_0 := (HB.out.cell (World.block_lt_of_cell? w _ hx108_0)).trans hx108_0; replace p108 := eq_true p108; replace q108 := eq_true q108))
                      go_roundg k1
                      case measure => have := HK1.out; omega
                      case rel => exact ⟨(wrap64 (x9_1 + 1)), (by first | rfl | (simp; done) | (simp [*]; done)), H', ⟨by have := HK1.out; omega⟩, ⟨by (with_reducible repeat (first | refine blk_drewN ?_ _ | refine blk_drew ?_ | refine blk_alloc ?_ _)); exact BK105.out⟩, ⟨by repeat (first | (with_reducible first | exact HB.out | apply below_alloc | apply pw_below_drewN | apply below_drew1 | refine below_set ?_ GE105.out) | exact HB.out)⟩⟩
                  · rw [if_neg c12] at H
                    exact absurd H (by simp)
                · rw [if_neg c11] at H
                  exact absurd H (by simp)
              · rw [if_neg c9] at H
                have c9b0 : decide (0 < x9_1) = false := decide_eq_false c9
                clear c9
                have H' := Aside0.mk H
                clear H
                have p106 : 0 ≤ (x9_1 : Int) := of_decide_eq_true (by first | (with_reducible assumption) | assumption)
                have q106 : x9_1 < (l1.length : Int) := of_decide_eq_true (by first | (with_reducible assumption) | assumption)
                obtain ⟨ad106, e106, hx106_0⟩ := Kd.at_int HR1.out x9_1 p106 q106
                cases e106
                replace hx106_0 := (HB.out.cell (World.block_lt_of_cell? w _ hx106_0)).trans hx106_0
                replace p106 := eq_true p106
                replace q106 := eq_true q106
                have hcz16_0 : wr.cell? ⟨gb105, 0, none⟩ = some (.int .i64 a0_0) := (blk_cell BK105.out 0).trans rfl
                have hcz16_1 : wr.cell? ⟨gb105, 1, none⟩ = some (.int .i64 a0_1) := (blk_cell BK105.out 1).trans rfl
                have hcz16_2 : wr.cell? ⟨gb105, 2, none⟩ = some (.slice A0_2 l0_2.length c0_2) := (blk_cell BK105.out 2).trans rfl
                have hcz16_3 : wr.cell? ⟨gb105, 3, none⟩ = some (.slice A0_3 l0_3.length c0_3) := (blk_cell BK105.out 3).trans rfl
                have hcz16_4 : wr.cell? ⟨gb105, 4, none⟩ = some (.int .i64 a0_4) := (blk_cell BK105.out 4).trans rfl
                have hcz16_5 : wr.cell? ⟨gb105, 5, none⟩ = some (.slice A0_5 l0_5.length c0_5) := (blk_cell BK105.out 5).trans rfl
                have hcz16_6 : wr.cell? ⟨gb105, 6, none⟩ = some (.slice A0_6 l0_6.length c0_6) := (blk_cell BK105.out 6).trans rfl
                have hcz16_7 : wr.cell? ⟨gb105, 7, none⟩ = some (.slice A0_7 l0_7.length c0_7) := (blk_cell BK105.out 7).trans rfl
                have hcz16_8 : wr.cell? ⟨gb105, 8, none⟩ = some (.slice A0_8 l0_8.length c0_8) := (blk_cell BK105.out 8).trans rfl
                have hcz16_9 : wr.cell? ⟨gb105, 9, none⟩ = some (.slice A0_9 l0_9.length c0_9) := (blk_cell BK105.out 9).trans rfl
                have hfz16_0 := blk_frozen BK105.out 0
                have hfz16_1 := blk_frozen BK105.out 1
                have hfz16_2 := blk_frozen BK105.out 2
                have hfz16_3 := blk_frozen BK105.out 3
                have hfz16_4 := blk_frozen BK105.out 4
                have hfz16_5 := blk_frozen BK105.out 5
                have hfz16_6 := blk_frozen BK105.out 6
                have hfz16_7 := blk_frozen BK105.out 7
                have hfz16_8 := blk_frozen BK105.out 8
                have hfz16_9 := blk_frozen BK105.out 9
                go_wp2_with (first | ((with_reducible refine gate_callee (f := 20) rfl ?_); refine goesL_ (some 17) rfl rfl Try.func20 (by kernel_rfl) rfl #[.int .i64 (rd l1 x9_1), .int .i64 0, .int .i64 a0_1] rfl (by (try simp only [List.map_toArray, List.map_cons, List.map_nil]); first | done | rfl | (simp only [List.length_drop, List.length_take]; rfl)) ?_; (with_reducible refine (rules_within.calls (rd l1 x9_1) 0 a0_1 true _ A7.out).mono ?_); rintro e w' ⟨rfl, ⟨nd, rfl⟩⟩; refine ⟨_, rfl, ?_⟩))
                go_roundg k1
                case measure => have := HK1.out; omega
                case rel => exact ⟨(wrap64 (x9_1 + 1)), (by first | rfl | (simp; done) | (simp [*]; done)), H', ⟨by have := HK1.out; omega⟩, ⟨by (with_reducible repeat (first | refine blk_drewN ?_ _ | refine blk_drew ?_ | refine blk_alloc ?_ _)); exact BK105.out⟩, ⟨by repeat (first | (with_reducible first | exact HB.out | apply below_alloc | apply pw_below_drewN | apply below_drew1 | refine below_set ?_ GE105.out) | exact HB.out)⟩⟩
            · replace c8 := Bool.eq_false_iff.mpr c8
              subst c8
              have H1 : (some false) = some r := by rw [if_neg (show ¬ (false = true) by decide)] at H; exact H
              clear H
              have H := H1
              clear H1
              obtain rfl := Option.some.inj H
              have p106 : 0 ≤ (x9_1 : Int) := of_decide_eq_true (by first | (with_reducible assumption) | assumption)
              have q106 : x9_1 < (l1.length : Int) := of_decide_eq_true (by first | (with_reducible assumption) | assumption)
              obtain ⟨ad106, e106, hx106_0⟩ := Kd.at_int HR1.out x9_1 p106 q106
              cases e106
              replace hx106_0 := (HB.out.cell (World.block_lt_of_cell? w _ hx106_0)).trans hx106_0
              replace p106 := eq_true p106
              replace q106 := eq_true q106
              have hcz17_0 : wr.cell? ⟨gb105, 0, none⟩ = some (.int .i64 a0_0) := (blk_cell BK105.out 0).trans rfl
              have hcz17_1 : wr.cell? ⟨gb105, 1, none⟩ = some (.int .i64 a0_1) := (blk_cell BK105.out 1).trans rfl
              have hcz17_2 : wr.cell? ⟨gb105, 2, none⟩ = some (.slice A0_2 l0_2.length c0_2) := (blk_cell BK105.out 2).trans rfl
              have hcz17_3 : wr.cell? ⟨gb105, 3, none⟩ = some (.slice A0_3 l0_3.length c0_3) := (blk_cell BK105.out 3).trans rfl
              have hcz17_4 : wr.cell? ⟨gb105, 4, none⟩ = some (.int .i64 a0_4) := (blk_cell BK105.out 4).trans rfl
              have hcz17_5 : wr.cell? ⟨gb105, 5, none⟩ = some (.slice A0_5 l0_5.length c0_5) := (blk_cell BK105.out 5).trans rfl
              have hcz17_6 : wr.cell? ⟨gb105, 6, none⟩ = some (.slice A0_6 l0_6.length c0_6) := (blk_cell BK105.out 6).trans rfl
              have hcz17_7 : wr.cell? ⟨gb105, 7, none⟩ = some (.slice A0_7 l0_7.length c0_7) := (blk_cell BK105.out 7).trans rfl
              have hcz17_8 : wr.cell? ⟨gb105, 8, none⟩ = some (.slice A0_8 l0_8.length c0_8) := (blk_cell BK105.out 8).trans rfl
              have hcz17_9 : wr.cell? ⟨gb105, 9, none⟩ = some (.slice A0_9 l0_9.length c0_9) := (blk_cell BK105.out 9).trans rfl
              have hfz17_0 := blk_frozen BK105.out 0
              have hfz17_1 := blk_frozen BK105.out 1
              have hfz17_2 := blk_frozen BK105.out 2
              have hfz17_3 := blk_frozen BK105.out 3
              have hfz17_4 := blk_frozen BK105.out 4
              have hfz17_5 := blk_frozen BK105.out 5
              have hfz17_6 := blk_frozen BK105.out 6
              have hfz17_7 := blk_frozen BK105.out 7
              have hfz17_8 := blk_frozen BK105.out 8
              have hfz17_9 := blk_frozen BK105.out 9
              go_wp2_with (first | ((with_reducible refine gate_callee (f := 20) rfl ?_); refine goesL_ (some 17) rfl rfl Try.func20 (by kernel_rfl) rfl #[.int .i64 (rd l1 x9_1), .int .i64 0, .int .i64 a0_1] rfl (by (try simp only [List.map_toArray, List.map_cons, List.map_nil]); first | done | rfl | (simp only [List.length_drop, List.length_take]; rfl)) ?_; (with_reducible refine (rules_within.calls (rd l1 x9_1) 0 a0_1 false _ A7.out).mono ?_); rintro e w' ⟨rfl, ⟨nd, rfl⟩⟩; refine ⟨_, rfl, ?_⟩))
              go_ret
              exact ⟨by first | rfl | (simp [errW_none, errW_some] <;> rfl) | (simp [*, errW_none, errW_some] <;> rfl), by repeat (first | (with_reducible first | exact HB.out | apply below_alloc | apply pw_below_drewN | apply below_drew1 | refine below_set ?_ GE105.out) | exact HB.out)⟩
          · rw [if_neg c6] at H
            exact absurd H (by simp)
        · rw [if_neg c5] at H
          exact absurd H (by simp)
      · rw [if_neg c4] at H
        have c4b0 : decide (x9_1 < (l1.length : Int)) = false := decide_eq_false c4
        clear c4
        obtain rfl := Option.some.inj H
        go_wp2
        go_ret
        exact ⟨by first | rfl | (simp [errW_none, errW_some] <;> rfl) | (simp [*, errW_none, errW_some] <;> rfl), by repeat (first | (with_reducible first | exact HB.out | apply below_alloc | apply pw_below_drewN | apply below_drew1 | refine below_set ?_ GE105.out) | exact HB.out)⟩
end Go.Proofs.Ytknenadpkgajjaa.PA
end
section
namespace Go.Proofs.Ytknenadpkgajjaa.PA
open Go.RowKit Go.Proofs.YtknenadpkgajjaaW.PrintWords Go.Proofs.YtknenadpkgajjaaW.PrintLast Go.Proofs.YtknenadpkgajjaaW.PrintMore
attribute [local go_sem] max2_int min2_int max_two min_two max_three min_three max_four min_four   -- for this text's walks alone
set_option linter.unusedVariables false
set_option linter.unusedSimpArgs false
/-! ### slices_Index_string_string: function 72 -/
def slices_Index_string_string.l0 : Nat → List ByteArray → ByteArray → Int → Int → Option (Int)
  | 0, _, _, _, _ => none
  | k + 1, x0, x1, x7, x8 => if x8 < x7 then (if 0 ≤ x8 then (if x8 < (x0.length : Int) then (if x1.toList = (rdOf ByteArray.empty x0 x8).toList then (some x8) else (slices_Index_string_string.l0 k x0 x1 x7 (wrap64 (x8 + 1)))) else (none)) else (none)) else (some (-1))
def slices_Index_string_string.f (k : Nat) (l0 : List ByteArray) (a1 : ByteArray) : Option (Int) := slices_Index_string_string.l0 k l0 a1 (l0.length : Int) 0
theorem slices_Index_string_string.mono_l : ∀ k, (∀ y0 y1 y2 y3, LeO (slices_Index_string_string.l0 k y0 y1 y2 y3) (slices_Index_string_string.l0 (k + 1) y0 y1 y2 y3))
  | 0 => fun _ _ _ _ r h => by simp [slices_Index_string_string.l0] at h
  | k + 1 => by
    have ih0 := slices_Index_string_string.mono_l k
    · intro y0 y1 y2 y3
      unfold slices_Index_string_string.l0
      repeat' first
      | (with_reducible exact ih0 _ _ _ _)
      | (with_reducible exact LeO.refl _)
      | (with_reducible exact LeO.none _)
      | (with_reducible refine LeO.ite ?_ ?_)
      | (with_reducible refine LeO.bind ?_ (fun _ => ?_))
      | exact ih0 _ _ _ _
      | exact LeO.none _
      | refine LeO.ite ?_ ?_
      | refine LeO.bind ?_ (fun _ => ?_)
theorem slices_Index_string_string.mono : ∀ a0 a1 k, LeO (slices_Index_string_string.f k a0 a1) (slices_Index_string_string.f (k + 1) a0 a1) := by
  intro a0 a1 k
  have ih0 := slices_Index_string_string.mono_l k
  unfold slices_Index_string_string.f
  repeat' first
      | (with_reducible exact ih0 _ _ _ _)
      | (with_reducible exact LeO.refl _)
      | (with_reducible exact LeO.none _)
      | (with_reducible refine LeO.ite ?_ ?_)
      | (with_reducible refine LeO.bind ?_ (fun _ => ?_))
      | exact ih0 _ _ _ _
      | exact LeO.none _
      | refine LeO.ite ?_ ?_
      | refine LeO.bind ?_ (fun _ => ?_)
set_option maxHeartbeats 8000000 in
set_option maxRecDepth 100000 in
theorem slices_Index_string_string.calls (k : Nat) (A0 : Option Addr) (c0 : Nat) (l0 : List ByteArray) (a1 : ByteArray) (r : Int) (w : World) (hr0 : Kd.C Kd.string w A0 l0.length l0) (hc0 : l0.length ≤ c0) (h : slices_Index_string_string.f k l0 a1 = some r) :
    Calls Try.prog 72 #[.slice A0 l0.length c0, .string a1] w fun e w' => e = .returned (.int .i64 r) ∧ Drawn0 w w' := by
  have HR0 := Aside0.mk hr0
  have HC0 := Aside0.mk hc0
  clear hr0 hc0
  have H : (slices_Index_string_string.l0 k l0 a1 (l0.length : Int) 0) = some r := h
  clear h
  have H' := Aside0.mk H
  clear H
  go_enter Try.func72, Try.ntmps72
  go_wp2
  go_loopg [8] k (fun kq v8 w' => ∃ (x8_1 : Int), v8 = .int .i64 x8_1 ∧ Aside0 (slices_Index_string_string.l0 kq l0 a1 (l0.length : Int) x8_1 = some r) ∧ Aside0 (kq ≤ k) ∧ Drawn0 w w')
  case atStart => exact ⟨(0), (by first | rfl | (simp; done) | (simp [*]; done)), H', ⟨Nat.le_refl _⟩, by repeat (first | exact Drawn0.refl _ | apply Drawn0.step)⟩
  case round =>
    clear H'
    try clear p2
    obtain ⟨x8_1, rfl, HA, HK1, ⟨m1, rfl⟩⟩ := hrel
    cases gk with
    | zero => exact absurd HA.out (by simp [slices_Index_string_string.l0])
    | succ k1 =>
      have H := HA.out
      clear HA
      simp only [slices_Index_string_string.l0] at H
      by_cases c3 : x8_1 < (l0.length : Int)
      · rw [if_pos c3] at H
        have c3b0 : decide (x8_1 < (l0.length : Int)) = true := decide_eq_true c3
        clear c3
        by_cases c4 : 0 ≤ x8_1
        · rw [if_pos c4] at H
          have c4b0 : decide (0 ≤ x8_1) = true := decide_eq_true c4
          clear c4
          by_cases c5 : x8_1 < (l0.length : Int)
          · rw [if_pos c5] at H
            have c5b0 : decide (x8_1 < (l0.length : Int)) = true := decide_eq_true c5
            clear c5
            by_cases c6 : a1.toList = (rdOf ByteArray.empty l0 x8_1).toList
            · rw [if_pos c6] at H
              have c6b0 : (a1.toList == (rdOf ByteArray.empty l0 x8_1).toList) = true := beq_iff_eq.mpr c6
              have c6b1 : (a1.toList != (rdOf ByteArray.empty l0 x8_1).toList) = false := bne_eq_false_iff_eq.mpr c6
              clear c6
              obtain rfl := Option.some.inj H
              have p109 : 0 ≤ (x8_1 : Int) := of_decide_eq_true (by first | (with_reducible assumption) | assumption)
              have q109 : x8_1 < (l0.length : Int) := of_decide_eq_true (by first | (with_reducible assumption) | assumption)
              obtain ⟨ad109, e109, hx109_0⟩ := Kd.at_string HR0.out x8_1 p109 q109
              cases e109
              replace p109 := eq_true p109
              replace q109 := eq_true q109
              go_wp2
              go_ret
              exact ⟨by first | rfl | (simp; done) | (simp [*]; done), by repeat (first | exact Drawn0.refl _ | apply Drawn0.step)⟩
            · rw [if_neg c6] at H
              have c6b0 : (a1.toList == (rdOf ByteArray.empty l0 x8_1).toList) = false := beq_eq_false_iff_ne.mpr c6
              have c6b1 : (a1.toList != (rdOf ByteArray.empty l0 x8_1).toList) = true := bne_iff_ne.mpr c6
              have H' := Aside0.mk H
              clear H
              have p109 : 0 ≤ (x8_1 : Int) := of_decide_eq_true (by first | (with_reducible assumption) | assumption)
              have q109 : x8_1 < (l0.length : Int) := of_decide_eq_true (by first | (with_reducible assumption) | assumption)
              obtain ⟨ad109, e109, hx109_0⟩ := Kd.at_string HR0.out x8_1 p109 q109
              cases e109
              replace p109 := eq_true p109
              replace q109 := eq_true q109
              go_wp2
              go_roundg k1
              case measure => have := HK1.out; omega
              case rel => exact ⟨(wrap64 (x8_1 + 1)), (by first | rfl | (simp; done) | (simp [*]; done)), H', ⟨by have := HK1.out; omega⟩, by repeat (first | exact Drawn0.refl _ | apply Drawn0.step)⟩
          · rw [if_neg c5] at H
            exact absurd H (by simp)
        · rw [if_neg c4] at H
          exact absurd H (by simp)
      · rw [if_neg c3] at H
        have c3b0 : decide (x8_1 < (l0.length : Int)) = false := decide_eq_false c3
        clear c3
        obtain rfl := Option.some.inj H
        go_wp2
        go_ret
        exact ⟨by first | rfl | (simp; done) | (simp [*]; done), by repeat (first | exact Drawn0.refl _ | apply Drawn0.step)⟩
end Go.Proofs.Ytknenadpkgajjaa.PA
end
section
namespace Go.Proofs.Ytknenadpkgajjaa.PA
open Go.RowKit Go.Proofs.YtknenadpkgajjaaW.PrintWords Go.Proofs.YtknenadpkgajjaaW.PrintLast Go.Proofs.YtknenadpkgajjaaW.PrintMore
attribute [local go_sem] max2_int min2_int max_two min_two max_three min_three max_four min_four   -- for this text's walks alone
set_option linter.unusedVariables false
set_option linter.unusedSimpArgs false
/-! ### slices_Contains_string_string: function 53 -/
def slices_Contains_string_string.f (k : Nat) (l0 : List ByteArray) (a1 : ByteArray) : Option (Bool) := (slices_Index_string_string.f k l0 a1).bind fun t110 => (some (decide (t110 ≥ 0)))
theorem slices_Contains_string_string.mono : ∀ a0 a1 k, LeO (slices_Contains_string_string.f k a0 a1) (slices_Contains_string_string.f (k + 1) a0 a1) := by
  intro a0 a1 k
  unfold slices_Contains_string_string.f
  repeat' first
      | (with_reducible exact slices_Index_string_string.mono _ _ _)
      | (with_reducible exact LeO.refl _)
      | (with_reducible exact LeO.none _)
      | (with_reducible refine LeO.ite ?_ ?_)
      | (with_reducible refine LeO.bind ?_ (fun _ => ?_))
      | exact slices_Index_string_string.mono _ _ _
      | exact LeO.none _
      | refine LeO.ite ?_ ?_
      | refine LeO.bind ?_ (fun _ => ?_)
set_option maxHeartbeats 8000000 in
set_option maxRecDepth 100000 in
theorem slices_Contains_string_string.calls (k : Nat) (A0 : Option Addr) (c0 : Nat) (l0 : List ByteArray) (a1 : ByteArray) (r : Bool) (w : World) (hr0 : Kd.C Kd.string w A0 l0.length l0) (hc0 : l0.length ≤ c0) (h : slices_Contains_string_string.f k l0 a1 = some r) :
    Calls Try.prog 53 #[.slice A0 l0.length c0, .string a1] w fun e w' => e = .returned (.bool r) ∧ Drawn0 w w' := by
  have HR0 := Aside0.mk hr0
  have HC0 := Aside0.mk hc0
  clear hr0 hc0
  have H : ((slices_Index_string_string.f k l0 a1).bind fun t110 => (some (decide (t110 ≥ 0)))) = some r := h
  clear h
  replace H := Option.bind_eq_some_iff.mp H
  obtain ⟨t110, A30, H⟩ := H
  replace H : (some (decide (t110 ≥ 0))) = some r := H
  have A3 := Aside0.mk A30
  clear A30
  obtain rfl := Option.some.inj H
  go_enter Try.func53, Try.ntmps53
  go_wp2_with (first | ((with_reducible refine gate_callee (f := 72) rfl ?_); refine goesL_ (some 7) rfl rfl Try.func72 (by kernel_rfl) rfl #[.slice A0 l0.length c0, .string a1] rfl (by (try simp only [List.map_toArray, List.map_cons, List.map_nil]); first | done | rfl | (simp only [List.length_drop, List.length_take]; rfl)) ?_; (with_reducible refine (slices_Index_string_string.calls k _ _ l0 a1 t110 _ ?side1 ?side2 A3.out).mono ?_); (case side1 => repeat (first | exact HR0.out | (with_reducible refine Kd.C_alloc ?_ _) | (with_reducible refine Kd.C_drewN ?_ _) | (with_reducible refine Kd.C_drew ?_))); (case side2 => exact HC0.out); rintro e w' ⟨rfl, ⟨nd, rfl⟩⟩; refine ⟨_, rfl, ?_⟩))
  go_ret
  exact ⟨by first | rfl | (simp; done) | (simp [*]; done), by repeat (first | exact Drawn0.refl _ | apply Drawn0.step)⟩
end Go.Proofs.Ytknenadpkgajjaa.PA
end
section
namespace Go.Proofs.Ytknenadpkgajjaa.PA
open Go.RowKit Go.Proofs.YtknenadpkgajjaaW.PrintWords Go.Proofs.YtknenadpkgajjaaW.PrintLast Go.Proofs.YtknenadpkgajjaaW.PrintMore
attribute [local go_sem] max2_int min2_int max_two min_two max_three min_three max_four min_four   -- for this text's walks alone
set_option linter.unusedVariables false
set_option linter.unusedSimpArgs false
/-! ### rules_areFiles: function 22 -/
def rules_areFiles.l0 : Nat → List ByteArray → Int → Int → Int → Int → List Int → List Int → Int → List ByteArray → List (S28) → List (S44) → List (S46) → List (S57) → Option (Bool)
  | 0, _, _, _, _, _, _, _, _, _, _, _, _, _ => none
  | k + 1, x6, x7, x8, x112000, x112001, x112002, x112003, x112004, x112005, x112006, x112007, x112008, x112009 => if x8 < x7 then (if 0 ≤ x8 then (if x8 < (x6.length : Int) then (if x8 ≤ (x112005.length : Int) then ((slices_Contains_string_string.f k (x112005.take (x8 : Int).toNat) (rdOf ByteArray.empty x6 x8)).bind fun t114 => (if t114 = true then (some false) else (rules_areFiles.l0 k x6 x7 (wrap64 (x8 + 1)) x112000 x112001 x112002 x112003 x112004 x112005 x112006 x112007 x112008 x112009))) else (none)) else (none)) else (none)) else (some (decide ((x112005.length : Int) ≤ 6)))
def rules_areFiles.f (k : Nat) (a0_0 : Int) (a0_1 : Int) (l0_2 : List Int) (l0_3 : List Int) (a0_4 : Int) (l0_5 : List ByteArray) (l0_6 : List (S28)) (l0_7 : List (S44)) (l0_8 : List (S46)) (l0_9 : List (S57)) : Option (Bool) := rules_areFiles.l0 k l0_5 (l0_5.length : Int) 0 a0_0 a0_1 l0_2 l0_3 a0_4 l0_5 l0_6 l0_7 l0_8 l0_9
theorem rules_areFiles.mono_l : ∀ k, (∀ y0 y1 y2 y3 y4 y5 y6 y7 y8 y9 y10 y11 y12, LeO (rules_areFiles.l0 k y0 y1 y2 y3 y4 y5 y6 y7 y8 y9 y10 y11 y12) (rules_areFiles.l0 (k + 1) y0 y1 y2 y3 y4 y5 y6 y7 y8 y9 y10 y11 y12))
  | 0 => fun _ _ _ _ _ _ _ _ _ _ _ _ _ r h => by simp [rules_areFiles.l0] at h
  | k + 1 => by
    have ih0 := rules_areFiles.mono_l k
    · intro y0 y1 y2 y3 y4 y5 y6 y7 y8 y9 y10 y11 y12
      unfold rules_areFiles.l0
      repeat' first
      | (with_reducible exact ih0 _ _ _ _ _ _ _ _ _ _ _ _ _)
      | (with_reducible exact slices_Contains_string_string.mono _ _ _)
      | (with_reducible exact LeO.refl _)
      | (with_reducible exact LeO.none _)
      | (with_reducible refine LeO.ite ?_ ?_)
      | (with_reducible refine LeO.bind ?_ (fun _ => ?_))
      | exact ih0 _ _ _ _ _ _ _ _ _ _ _ _ _
      | exact slices_Contains_string_string.mono _ _ _
      | exact LeO.none _
      | refine LeO.ite ?_ ?_
      | refine LeO.bind ?_ (fun _ => ?_)
theorem rules_areFiles.mono : ∀ a0 a1 a2 a3 a4 a5 a6 a7 a8 a9 k, LeO (rules_areFiles.f k a0 a1 a2 a3 a4 a5 a6 a7 a8 a9) (rules_areFiles.f (k + 1) a0 a1 a2 a3 a4 a5 a6 a7 a8 a9) := by
  intro a0 a1 a2 a3 a4 a5 a6 a7 a8 a9 k
  have ih0 := rules_areFiles.mono_l k
  unfold rules_areFiles.f
  repeat' first
      | (with_reducible exact ih0 _ _ _ _ _ _ _ _ _ _ _ _ _)
      | (with_reducible exact slices_Contains_string_string.mono _ _ _)
      | (with_reducible exact LeO.refl _)
      | (with_reducible exact LeO.none _)
      | (with_reducible refine LeO.ite ?_ ?_)
      | (with_reducible refine LeO.bind ?_ (fun _ => ?_))
      | exact ih0 _ _ _ _ _ _ _ _ _ _ _ _ _
      | exact slices_Contains_string_string.mono _ _ _
      | exact LeO.none _
      | refine LeO.ite ?_ ?_
      | refine LeO.bind ?_ (fun _ => ?_)
set_option maxHeartbeats 8000000 in
set_option maxRecDepth 100000 in
theorem rules_areFiles.calls (k : Nat) (a0_0 : Int) (a0_1 : Int) (A0_2 : Option Addr) (c0_2 : Nat) (l0_2 : List Int) (A0_3 : Option Addr) (c0_3 : Nat) (l0_3 : List Int) (a0_4 : Int) (A0_5 : Option Addr) (c0_5 : Nat) (l0_5 : List ByteArray) (A0_6 : Option Addr) (c0_6 : Nat) (l0_6 : List (S28)) (A0_7 : Option Addr) (c0_7 : Nat) (l0_7 : List (S44)) (A0_8 : Option Addr) (c0_8 : Nat) (l0_8 : List (S46)) (A0_9 : Option Addr) (c0_9 : Nat) (l0_9 : List (S57)) (r : Bool) (w : World) (hr0_2 : Kd.C (Kd.int .i64) w A0_2 l0_2.length l0_2) (hc0_2 : l0_2.length ≤ c0_2) (hr0_3 : Kd.C (Kd.int .i64) w A0_3 l0_3.length l0_3) (hc0_3 : l0_3.length ≤ c0_3) (hr0_5 : Kd.C Kd.string w A0_5 l0_5.length l0_5) (hc0_5 : l0_5.length ≤ c0_5) (hr0_6 : Kd.C k28 w A0_6 l0_6.length l0_6) (hc0_6 : l0_6.length ≤ c0_6) (hr0_7 : Kd.C k44 w A0_7 l0_7.length l0_7) (hc0_7 : l0_7.length ≤ c0_7) (hr0_8 : Kd.C k46 w A0_8 l0_8.length l0_8) (hc0_8 : l0_8.length ≤ c0_8) (hr0_9 : Kd.C k57 w A0_9 l0_9.length l0_9) (hc0_9 : l0_9.length ≤ c0_9) (h : rules_areFiles.f k a0_0 a0_1 l0_2 l0_3 a0_4 l0_5 l0_6 l0_7 l0_8 l0_9 = some r) :
    Calls Try.prog 22 #[.agg #[.int .i64 a0_0, .int .i64 a0_1, .slice A0_2 l0_2.length c0_2, .slice A0_3 l0_3.length c0_3, .int .i64 a0_4, .slice A0_5 l0_5.length c0_5, .slice A0_6 l0_6.length c0_6, .slice A0_7 l0_7.length c0_7, .slice A0_8 l0_8.length c0_8, .slice A0_9 l0_9.length c0_9]] w fun e w' => e = .returned (.bool r) ∧ Below w.heap.size w w' := by
  have hu36 := Try.underlying36
  have HR0_2 := Aside0.mk hr0_2
  have HC0_2 := Aside0.mk hc0_2
  clear hr0_2 hc0_2
  have HR0_3 := Aside0.mk hr0_3
  have HC0_3 := Aside0.mk hc0_3
  clear hr0_3 hc0_3
  have HR0_5 := Aside0.mk hr0_5
  have HC0_5 := Aside0.mk hc0_5
  clear hr0_5 hc0_5
  have HR0_6 := Aside0.mk hr0_6
  have HC0_6 := Aside0.mk hc0_6
  clear hr0_6 hc0_6
  have HR0_7 := Aside0.mk hr0_7
  have HC0_7 := Aside0.mk hc0_7
  clear hr0_7 hc0_7
  have HR0_8 := Aside0.mk hr0_8
  have HC0_8 := Aside0.mk hc0_8
  clear hr0_8 hc0_8
  have HR0_9 := Aside0.mk hr0_9
  have HC0_9 := Aside0.mk hc0_9
  clear hr0_9 hc0_9
  have HB := Aside0.mk (Below.refl w.heap.size w)
  have H : (rules_areFiles.l0 k l0_5 (l0_5.length : Int) 0 a0_0 a0_1 l0_2 l0_3 a0_4 l0_5 l0_6 l0_7 l0_8 l0_9) = some r := h
  clear h
  have H' := Aside0.mk H
  clear H
  go_enter Try.func22, Try.ntmps22
  go_wp2_with (first | ((with_reducible refine gate_dst (N := 1) rfl ?_); refine box_event ?hg (N := 1) ?hd (cs := #[.int .i64 a0_0, .int .i64 a0_1, .slice A0_2 l0_2.length c0_2, .slice A0_3 l0_3.length c0_3, .int .i64 a0_4, .slice A0_5 l0_5.length c0_5, .slice A0_6 l0_6.length c0_6, .slice A0_7 l0_7.length c0_7, .slice A0_8 l0_8.length c0_8, .slice A0_9 l0_9.length c0_9]) (t := 36) ?hr ?_; (case hd => rfl); (case hg => rfl); (case hr => first | (go_simp; done) | (go_simp; rfl)); intro gb111 hg w2 hbox hb; have n0_ := Aside0.mk (below_step (by repeat (first | (with_reducible first | exact HB.out | apply below_alloc | apply pw_below_drewN | apply below_drew1) | exact HB.out)) hb); have n1_ := Aside0.mk (hbox); have n2_ := Aside0.mk ((by rw [hg]; exact (below_size (by repeat (first | (with_reducible first | exact HB.out | apply below_alloc | apply pw_below_drewN | apply below_drew1) | exact HB.out))) : w.heap.size ≤ gb111)); have n3_ := Aside0.mk ((by rw [hg]; exact (below_size (by repeat (first | (with_reducible first | exact HB.out | apply below_alloc | apply pw_below_drewN | apply below_drew1) | exact HB.out))) : w.heap.size ≤ gb111)); clear HB; have HB := n0_; have BK111 := n1_; have GW111 := n2_; have GE111 := n3_; clear n0_ n1_ n2_ n3_; clear hb hbox hg; have hcz3_0 : w2.cell? ⟨gb111, 0, none⟩ = some (.int .i64 a0_0) := (blk_cell BK111.out 0).trans rfl; have hcz3_1 : w2.cell? ⟨gb111, 1, none⟩ = some (.int .i64 a0_1) := (blk_cell BK111.out 1).trans rfl; have hcz3_2 : w2.cell? ⟨gb111, 2, none⟩ = some (.slice A0_2 l0_2.length c0_2) := (blk_cell BK111.out 2).trans rfl; have hcz3_3 : w2.cell? ⟨gb111, 3, none⟩ = some (.slice A0_3 l0_3.length c0_3) := (blk_cell BK111.out 3).trans rfl; have hcz3_4 : w2.cell? ⟨gb111, 4, none⟩ = some (.int .i64 a0_4) := (blk_cell BK111.out 4).trans rfl; have hcz3_5 : w2.cell? ⟨gb111, 5, none⟩ = some (.slice A0_5 l0_5.length c0_5) := (blk_cell BK111.out 5).trans rfl; have hcz3_6 : w2.cell? ⟨gb111, 6, none⟩ = some (.slice A0_6 l0_6.length c0_6) := (blk_cell BK111.out 6).trans rfl; have hcz3_7 : w2.cell? ⟨gb111, 7, none⟩ = some (.slice A0_7 l0_7.length c0_7) := (blk_cell BK111.out 7).trans rfl; have hcz3_8 : w2.cell? ⟨gb111, 8, none⟩ = some (.slice A0_8 l0_8.length c0_8) := (blk_cell BK111.out 8).trans rfl; have hcz3_9 : w2.cell? ⟨gb111, 9, none⟩ = some (.slice A0_9 l0_9.length c0_9) := (blk_cell BK111.out 9).trans rfl; have hfz3_0 := blk_frozen BK111.out 0; have hfz3_1 := blk_frozen BK111.out 1; have hfz3_2 := blk_frozen BK111.out 2; have hfz3_3 := blk_frozen BK111.out 3; have hfz3_4 := blk_frozen BK111.out 4; have hfz3_5 := blk_frozen BK111.out 5; have hfz3_6 := blk_frozen BK111.out 6; have hfz3_7 := blk_frozen BK111.out 7; have hfz3_8 := blk_frozen BK111.out 8; have hfz3_9 := blk_frozen BK111.out 9))
  go_loopg [8] k (fun kq v8 w' => ∃ (x8_1 : Int), v8 = .int .i64 x8_1 ∧ Aside0 (rules_areFiles.l0 kq l0_5 (l0_5.length : Int) x8_1 a0_0 a0_1 l0_2 l0_3 a0_4 l0_5 l0_6 l0_7 l0_8 l0_9 = some r) ∧ Aside0 (kq ≤ k) ∧ Aside0 (w'.heap[gb111]? = some (.cells #[.int .i64 a0_0, .int .i64 a0_1, (.slice A0_2 l0_2.length c0_2), (.slice A0_3 l0_3.length c0_3), .int .i64 a0_4, (.slice A0_5 l0_5.length c0_5), (.slice A0_6 l0_6.length c0_6), (.slice A0_7 l0_7.length c0_7), (.slice A0_8 l0_8.length c0_8), (.slice A0_9 l0_9.length c0_9)] 36 (0, 0))) ∧ Aside0 (Below w.heap.size w w'))
  case atStart => exact ⟨(0), (by first | rfl | (simp; done) | (simp [*]; done)), H', ⟨Nat.le_refl _⟩, ⟨by (with_reducible repeat (first | refine blk_drewN ?_ _ | refine blk_drew ?_ | refine blk_alloc ?_ _)); exact BK111.out⟩, ⟨by repeat (first | (with_reducible first | exact HB.out | apply below_alloc | apply pw_below_drewN | apply below_drew1 | refine below_set ?_ GE111.out) | exact HB.out)⟩⟩
  case round =>
    clear H'
    try clear c2
    try clear p2
    try clear hcz3_0
    try clear hcz3_1
    try clear hcz3_2
    try clear hcz3_3
    try clear hcz3_4
    try clear hcz3_5
    try clear hcz3_6
    try clear hcz3_7
    try clear hcz3_8
    try clear hcz3_9
    try clear hfz3_0
    try clear hfz3_1
    try clear hfz3_2
    try clear hfz3_3
    try clear hfz3_4
    try clear hfz3_5
    try clear hfz3_6
    try clear hfz3_7
    try clear hfz3_8
    try clear hfz3_9
    obtain ⟨x8_1, rfl, HA, HK1, BK111, HB⟩ := hrel
    cases gk with
    | zero => exact absurd HA.out (by simp [rules_areFiles.l0])
    | succ k1 =>
      have H := HA.out
      clear HA
      simp only [rules_areFiles.l0] at H
      by_cases c4 : x8_1 < (l0_5.length : Int)
      · rw [if_pos c4] at H
        have c4b0 : decide (x8_1 < (l0_5.length : Int)) = true := decide_eq_true c4
        clear c4
        by_cases c5 : 0 ≤ x8_1
        · rw [if_pos c5] at H
          have c5b0 : decide (0 ≤ x8_1) = true := decide_eq_true c5
          clear c5
          by_cases c6 : x8_1 < (l0_5.length : Int)
          · rw [if_pos c6] at H
            have c6b0 : decide (x8_1 < (l0_5.length : Int)) = true := decide_eq_true c6
            clear c6
            have c7b0 := eq_true (of_decide_eq_true (by first | (with_reducible assumption) | assumption) : 0 ≤ x8_1)
            by_cases c8 : x8_1 ≤ (l0_5.length : Int)
            · rw [if_pos c8] at H
              have c8b0 := eq_true c8
              have c8b1 : decide (x8_1 ≤ (l0_5.length : Int)) = true := decide_eq_true c8
              clear c8
              replace H := Option.bind_eq_some_iff.mp H
              obtain ⟨t114, A90, H⟩ := H
              replace H : (if t114 = true then (some false) else (rules_areFiles.l0 k1 l0_5 (l0_5.length : Int) (wrap64 (x8_1 + 1)) a0_0 a0_1 l0_2 l0_3 a0_4 l0_5 l0_6 l0_7 l0_8 l0_9)) = some r := H
              have A9 := Aside0.mk A90
              clear A90
              by_cases c10 : t114 = true
              · subst c10
                have H1 : (some false) = some r := by rw [if_pos rfl] at H; exact H
                clear H
                have H := H1
                clear H1
                obtain rfl := Option.some.inj H
                have p112 : 0 ≤ (x8_1 : Int) := of_decide_eq_true (by first | (with_reducible assumption) | assumption)
                have q112 : x8_1 < (l0_5.length : Int) := of_decide_eq_true (by first | (with_reducible assumption) | assumption)
                obtain ⟨ad112, e112, hx112_0⟩ := Kd.at_string HR0_5.out x8_1 p112 q112
                cases e112
                replace hx112_0 := (HB.out.cell (World.block_lt_of_cell? w _ hx112_0)).trans hx112_0
                replace p112 := eq_true p112
                replace q112 := eq_true q112
                have hcz11_0 : wr.cell? ⟨gb111, 0, none⟩ = some (.int .i64 a0_0) := (blk_cell BK111.out 0).trans rfl
                have hcz11_1 : wr.cell? ⟨gb111, 1, none⟩ = some (.int .i64 a0_1) := (blk_cell BK111.out 1).trans rfl
                have hcz11_2 : wr.cell? ⟨gb111, 2, none⟩ = some (.slice A0_2 l0_2.length c0_2) := (blk_cell BK111.out 2).trans rfl
                have hcz11_3 : wr.cell? ⟨gb111, 3, none⟩ = some (.slice A0_3 l0_3.length c0_3) := (blk_cell BK111.out 3).trans rfl
                have hcz11_4 : wr.cell? ⟨gb111, 4, none⟩ = some (.int .i64 a0_4) := (blk_cell BK111.out 4).trans rfl
                have hcz11_5 : wr.cell? ⟨gb111, 5, none⟩ = some (.slice (some ad112) l0_5.length c0_5) := (blk_cell BK111.out 5).trans rfl
                have hcz11_6 : wr.cell? ⟨gb111, 6, none⟩ = some (.slice A0_6 l0_6.length c0_6) := (blk_cell BK111.out 6).trans rfl
                have hcz11_7 : wr.cell? ⟨gb111, 7, none⟩ = some (.slice A0_7 l0_7.length c0_7) := (blk_cell BK111.out 7).trans rfl
                have hcz11_8 : wr.cell? ⟨gb111, 8, none⟩ = some (.slice A0_8 l0_8.length c0_8) := (blk_cell BK111.out 8).trans rfl
                have hcz11_9 : wr.cell? ⟨gb111, 9, none⟩ = some (.slice A0_9 l0_9.length c0_9) := (blk_cell BK111.out 9).trans rfl
                have hfz11_0 := blk_frozen BK111.out 0
                have hfz11_1 := blk_frozen BK111.out 1
                have hfz11_2 := blk_frozen BK111.out 2
                have hfz11_3 := blk_frozen BK111.out 3
                have hfz11_4 := blk_frozen BK111.out 4
                have hfz11_5 := blk_frozen BK111.out 5
                have hfz11_6 := blk_frozen BK111.out 6
                have hfz11_7 := blk_frozen BK111.out 7
                have hfz11_8 := blk_frozen BK111.out 8
                have hfz11_9 := blk_frozen BK111.out 9
                obtain ⟨i012, hi012, _, hsz12, _⟩ := info_parts info9
                obtain ⟨hcut12, hA12, hC12⟩ := print_take_of (P := Try.prog) Value.string (⟨#[]⟩ : ByteArray) 30 9 .i64 Try.underlying30 hi012 hsz12 (some ad112) c0_5 l0_5 x8_1 (of_decide_eq_true (by first | (with_reducible assumption) | assumption)) (of_decide_eq_true (by first | (with_reducible assumption) | assumption)) HC0_5.out
                have HR113 := Aside0.mk (Kd.C_of_reads (h1 := fun _ => rfl) (hA12 _ (Kd.reads_of_C HR0_5.out)))
                have HC113 := Aside0.mk hC12
                clear hA12 hC12 hi012 hsz12
                go_wp2_with (first | ((with_reducible refine gate_callee (f := 53) rfl ?_); refine goesL_ (some 18) rfl rfl Try.func53 (by kernel_rfl) rfl #[.slice (some ad112) (l0_5.take (x8_1 : Int).toNat).length c0_5, .string (rdOf ByteArray.empty l0_5 x8_1)] rfl (by (try simp only [List.map_toArray, List.map_cons, List.map_nil]); first | done | (rw [show (l0_5.take (x8_1 : Int).toNat).length = x8_1.toNat from (by rw [List.length_take]; have h_ : (x8_1 : Int) ≤ (l0_5.length : Int) := of_decide_eq_true (by first | (with_reducible assumption) | assumption); omega)] <;> rfl) | rfl | (simp only [List.length_drop, List.length_take]; rfl)) ?_; (with_reducible refine (slices_Contains_string_string.calls k1 _ _ (l0_5.take (x8_1 : Int).toNat) (rdOf ByteArray.empty l0_5 x8_1) true _ ?side1 ?side2 A9.out).mono ?_); (case side1 => repeat (first | exact (Kd.C_below HR113.out HB.out) | (with_reducible refine Kd.C_alloc ?_ _) | (with_reducible refine Kd.C_drewN ?_ _) | (with_reducible refine Kd.C_drew ?_))); (case side2 => exact HC113.out); rintro e w' ⟨rfl, ⟨nd, rfl⟩⟩; refine ⟨_, rfl, ?_⟩))
                go_ret
                exact ⟨by first | rfl | (simp [errW_none, errW_some] <;> rfl) | (simp [*, errW_none, errW_some] <;> rfl), by repeat (first | (with_reducible first | exact HB.out | apply below_alloc | apply pw_below_drewN | apply below_drew1 | refine below_set ?_ GE111.out) | exact HB.out)⟩
              · replace c10 := Bool.eq_false_iff.mpr c10
                subst c10
                have H1 : (rules_areFiles.l0 k1 l0_5 (l0_5.length : Int) (wrap64 (x8_1 + 1)) a0_0 a0_1 l0_2 l0_3 a0_4 l0_5 l0_6 l0_7 l0_8 l0_9) = some r := by rw [if_neg (show ¬ (false = true) by decide)] at H; exact H
                clear H
                have H := H1
                clear H1
                have H' := Aside0.mk H
                clear H
                have p112 : 0 ≤ (x8_1 : Int) := of_decide_eq_true (by first | (with_reducible assumption) | assumption)
                have q112 : x8_1 < (l0_5.length : Int) := of_decide_eq_true (by first | (with_reducible assumption) | assumption)
                obtain ⟨ad112, e112, hx112_0⟩ := Kd.at_string HR0_5.out x8_1 p112 q112
                cases e112
                replace hx112_0 := (HB.out.cell (World.block_lt_of_cell? w _ hx112_0)).trans hx112_0
                replace p112 := eq_true p112
                replace q112 := eq_true q112
                have hcz13_0 : wr.cell? ⟨gb111, 0, none⟩ = some (.int .i64 a0_0) := (blk_cell BK111.out 0).trans rfl
                have hcz13_1 : wr.cell? ⟨gb111, 1, none⟩ = some (.int .i64 a0_1) := (blk_cell BK111.out 1).trans rfl
                have hcz13_2 : wr.cell? ⟨gb111, 2, none⟩ = some (.slice A0_2 l0_2.length c0_2) := (blk_cell BK111.out 2).trans rfl
                have hcz13_3 : wr.cell? ⟨gb111, 3, none⟩ = some (.slice A0_3 l0_3.length c0_3) := (blk_cell BK111.out 3).trans rfl
                have hcz13_4 : wr.cell? ⟨gb111, 4, none⟩ = some (.int .i64 a0_4) := (blk_cell BK111.out 4).trans rfl
                have hcz13_5 : wr.cell? ⟨gb111, 5, none⟩ = some (.slice (some ad112) l0_5.length c0_5) := (blk_cell BK111.out 5).trans rfl
                have hcz13_6 : wr.cell? ⟨gb111, 6, none⟩ = some (.slice A0_6 l0_6.length c0_6) := (blk_cell BK111.out 6).trans rfl
                have hcz13_7 : wr.cell? ⟨gb111, 7, none⟩ = some (.slice A0_7 l0_7.length c0_7) := (blk_cell BK111.out 7).trans rfl
                have hcz13_8 : wr.cell? ⟨gb111, 8, none⟩ = some (.slice A0_8 l0_8.length c0_8) := (blk_cell BK111.out 8).trans rfl
                have hcz13_9 : wr.cell? ⟨gb111, 9, none⟩ = some (.slice A0_9 l0_9.length c0_9) := (blk_cell BK111.out 9).trans rfl
                have hfz13_0 := blk_frozen BK111.out 0
                have hfz13_1 := blk_frozen BK111.out 1
                have hfz13_2 := blk_frozen BK111.out 2
                have hfz13_3 := blk_frozen BK111.out 3
                have hfz13_4 := blk_frozen BK111.out 4
                have hfz13_5 := blk_frozen BK111.out 5
                have hfz13_6 := blk_frozen BK111.out 6
                have hfz13_7 := blk_frozen BK111.out 7
                have hfz13_8 := blk_frozen BK111.out 8
                have hfz13_9 := blk_frozen BK111.out 9
                obtain ⟨i014, hi014, _, hsz14, _⟩ := info_parts info9
                obtain ⟨hcut14, hA14, hC14⟩ := print_take_of (P := Try.prog) Value.string (⟨#[]⟩ : ByteArray) 30 9 .i64 Try.underlying30 hi014 hsz14 (some ad112) c0_5 l0_5 x8_1 (of_decide_eq_true (by first | (with_reducible assumption) | assumption)) (of_decide_eq_true (by first | (with_reducible assumption) | assumption)) HC0_5.out
                have HR113 := Aside0.mk (Kd.C_of_reads (h1 := fun _ => rfl) (hA14 _ (Kd.reads_of_C HR0_5.out)))
                have HC113 := Aside0.mk hC14
                clear hA14 hC14 hi014 hsz14
                go_wp2_with (first | ((with_reducible refine gate_callee (f := 53) rfl ?_); refine goesL_ (some 18) rfl rfl Try.func53 (by kernel_rfl) rfl #[.slice (some ad112) (l0_5.take (x8_1 : Int).toNat).length c0_5, .string (rdOf ByteArray.empty l0_5 x8_1)] rfl (by (try simp only [List.map_toArray, List.map_cons, List.map_nil]); first | done | (rw [show (l0_5.take (x8_1 : Int).toNat).length = x8_1.toNat from (by rw [List.length_take]; have h_ : (x8_1 : Int) ≤ (l0_5.length : Int) := of_decide_eq_true (by first | (with_reducible assumption) | assumption); omega)] <;> rfl) | rfl | (simp only [List.length_drop, List.length_take]; rfl)) ?_; (with_reducible refine (slices_Contains_string_string.calls k1 _ _ (l0_5.take (x8_1 : Int).toNat) (rdOf ByteArray.empty l0_5 x8_1) false _ ?side1 ?side2 A9.out).mono ?_); (case side1 => repeat (first | exact (Kd.C_below HR113.out HB.out) | (with_reducible refine Kd.C_alloc ?_ _) | (with_reducible refine Kd.C_drewN ?_ _) | (with_reducible refine Kd.C_drew ?_))); (case side2 => exact HC113.out); rintro e w' ⟨rfl, ⟨nd, rfl⟩⟩; refine ⟨_, rfl, ?_⟩))
                go_roundg k1
                case measure => have := HK1.out; omega
                case rel => exact ⟨(wrap64 (x8_1 + 1)), (by first | rfl | (simp; done) | (simp [*]; done)), H', ⟨by have := HK1.out; omega⟩, ⟨by (with_reducible repeat (first | refine blk_drewN ?_ _ | refine blk_drew ?_ | refine blk_alloc ?_ _)); exact BK111.out⟩, ⟨by repeat (first | (with_reducible first | exact HB.out | apply below_alloc | apply pw_below_drewN | apply below_drew1 | refine below_set ?_ GE111.out) | exact HB.out)⟩⟩
            · rw [if_neg c8] at H
              exact absurd H (by simp)
          · rw [if_neg c6] at H
            exact absurd H (by simp)
        · rw [if_neg c5] at H
          exact absurd H (by simp)
      · rw [if_neg c4] at H
        have c4b0 : decide (x8_1 < (l0_5.length : Int)) = false := decide_eq_false c4
        clear c4
        obtain rfl := Option.some.inj H
        have hcz15_0 : wr.cell? ⟨gb111, 0, none⟩ = some (.int .i64 a0_0) := (blk_cell BK111.out 0).trans rfl
        have hcz15_1 : wr.cell? ⟨gb111, 1, none⟩ = some (.int .i64 a0_1) := (blk_cell BK111.out 1).trans rfl
        have hcz15_2 : wr.cell? ⟨gb111, 2, none⟩ = some (.slice A0_2 l0_2.length c0_2) := (blk_cell BK111.out 2).trans rfl
        have hcz15_3 : wr.cell? ⟨gb111, 3, none⟩ = some (.slice A0_3 l0_3.length c0_3) := (blk_cell BK111.out 3).trans rfl
        have hcz15_4 : wr.cell? ⟨gb111, 4, none⟩ = some (.int .i64 a0_4) := (blk_cell BK111.out 4).trans rfl
        have hcz15_5 : wr.cell? ⟨gb111, 5, none⟩ = some (.slice A0_5 l0_5.length c0_5) := (blk_cell BK111.out 5).trans rfl
        have hcz15_6 : wr.cell? ⟨gb111, 6, none⟩ = some (.slice A0_6 l0_6.length c0_6) := (blk_cell BK111.out 6).trans rfl
        have hcz15_7 : wr.cell? ⟨gb111, 7, none⟩ = some (.slice A0_7 l0_7.length c0_7) := (blk_cell BK111.out 7).trans rfl
        have hcz15_8 : wr.cell? ⟨gb111, 8, none⟩ = some (.slice A0_8 l0_8.length c0_8) := (blk_cell BK111.out 8).trans rfl
        have hcz15_9 : wr.cell? ⟨gb111, 9, none⟩ = some (.slice A0_9 l0_9.length c0_9) := (blk_cell BK111.out 9).trans rfl
        have hfz15_0 := blk_frozen BK111.out 0
        have hfz15_1 := blk_frozen BK111.out 1
        have hfz15_2 := blk_frozen BK111.out 2
        have hfz15_3 := blk_frozen BK111.out 3
        have hfz15_4 := blk_frozen BK111.out 4
        have hfz15_5 := blk_frozen BK111.out 5
        have hfz15_6 := blk_frozen BK111.out 6
        have hfz15_7 := blk_frozen BK111.out 7
        have hfz15_8 := blk_frozen BK111.out 8
        have hfz15_9 := blk_frozen BK111.out 9
        go_wp2
        go_ret
        exact ⟨by first | rfl | (simp [errW_none, errW_some] <;> rfl) | (simp [*, errW_none, errW_some] <;> rfl), by repeat (first | (with_reducible first | exact HB.out | apply below_alloc | apply pw_below_drewN | apply below_drew1 | refine below_set ?_ GE111.out) | exact HB.out)⟩
end Go.Proofs.Ytknenadpkgajjaa.PA
end
section
/- A block that is known by its cells reads as a row. No program's number stands here. -/
namespace Go.Proofs.Ytknenadpkgajjaa.GLit
open Go.RowKit Go.Proofs.YtknenadpkgajjaaW.PrintWords
variable {α : Type} {d : Kd α} {w : World}
inductive Els (d : Kd α) (w : World) : List α → List Value → Prop
  | nil : Els d w [] []
  | cons {x : α} {c : List Value} {xs : List α} {l : List Value} : d.K w x c → c.length = d.sz → Els d w xs l → Els d w (x :: xs) (c ++ l)
theorem Els.c1 {x : α} {a : Value} {xs : List α} {l : List Value} (h : d.K w x [a]) (hs : d.sz = 1) (r : Els d w xs l) : Els d w (x :: xs) (a :: l) := .cons h hs.symm r
theorem Els.c2 {x : α} {a b : Value} {xs : List α} {l : List Value} (h : d.K w x [a, b]) (hs : d.sz = 2) (r : Els d w xs l) : Els d w (x :: xs) (a :: b :: l) := .cons h hs.symm r
theorem Els.c3 {x : α} {a b c : Value} {xs : List α} {l : List Value} (h : d.K w x [a, b, c]) (hs : d.sz = 3) (r : Els d w xs l) : Els d w (x :: xs) (a :: b :: c :: l) := .cons h hs.symm r
theorem Els.c4 {x : α} {a b c e : Value} {xs : List α} {l : List Value} (h : d.K w x [a, b, c, e]) (hs : d.sz = 4) (r : Els d w xs l) : Els d w (x :: xs) (a :: b :: c :: e :: l) := .cons h hs.symm r
theorem Els.c5 {x : α} {a b c e f : Value} {xs : List α} {l : List Value} (h : d.K w x [a, b, c, e, f]) (hs : d.sz = 5) (r : Els d w xs l) : Els d w (x :: xs) (a :: b :: c :: e :: f :: l) := .cons h hs.symm r
theorem Els.get {xs : List α} {l : List Value} (h : Els d w xs l) : ∀ j x, xs[j]? = some x → ∃ c, c.length = d.sz ∧ d.K w x c ∧ ∀ i u, c[i]? = some u → l[j * d.sz + i]? = some u := by
  induction h with
  | nil => intro j x h; simp at h
  | @cons x0 c xs l hK hl _ ih =>
    intro j x hj
    cases j with
    | zero =>
      simp only [List.getElem?_cons_zero, Option.some.injEq] at hj
      subst hj
      refine ⟨c, hl, hK, fun i u hi => ?_⟩
      have : i < c.length := by
        by_cases hh : i < c.length
        · exact hh
        · rw [List.getElem?_eq_none (by omega)] at hi; cases hi
      rw [Nat.zero_mul, Nat.zero_add, List.getElem?_append_left this]
      exact hi
    | succ j =>
      simp only [List.getElem?_cons_succ] at hj
      obtain ⟨c', h1, h2, h3⟩ := ih j x hj
      refine ⟨c', h1, h2, fun i u hi => ?_⟩
      rw [List.getElem?_append_right (by rw [Nat.succ_mul, hl]; omega), ← h3 i u hi]
      congr 1
      rw [Nat.succ_mul, hl]
      omega
theorem C_block {g t : Nat} {cs : Array Value} {xs : List α} (hg : w.heap[g]? = some (.cells cs t (0, 0))) (h : Els d w xs cs.toList) (hn : xs.length ≤ maxLen) : d.C w (some ⟨g, 0, none⟩) xs.length xs := by
  refine ⟨rfl, hn, fun _ => ⟨⟨g, 0, none⟩, rfl, fun j x hj => ?_⟩⟩
  obtain ⟨c, h1, h2, h3⟩ := h.get j x hj
  refine ⟨c, h1, h2, fun i u hi => ?_⟩
  have h4 := h3 i u hi
  have h5 : (⟨g, 0, none⟩ : Addr).add (j * d.sz + i) = ⟨g, j * d.sz + i, none⟩ := by
    generalize j * d.sz = q
    simp [Addr.add]
    omega
  rw [h5]
  exact (blk_cell hg _).trans (by simpa using h4)
theorem alloc_at {w : World} {o : Obj} {g : Nat} (h : g = w.heap.size) : (w.alloc o).heap[g]? = some o := by rw [h]; exact (MapKept.heap_alloc w o).1
end Go.Proofs.Ytknenadpkgajjaa.GLit
end
section
namespace Go.Proofs.Ytknenadpkgajjaa.PA
open Go.RowKit Go.Proofs.YtknenadpkgajjaaW.PrintWords Go.Proofs.YtknenadpkgajjaaW.PrintLast Go.Proofs.YtknenadpkgajjaaW.PrintMore
attribute [local go_sem] max2_int min2_int max_two min_two max_three min_three max_four min_four   -- for this text's walks alone
set_option linter.unusedVariables false
set_option linter.unusedSimpArgs false
/-! ### api_Cond_85: function 85 -/
open Go.Proofs.Ytknenadpkgajjaa.GFunc
set_option linter.unusedSimpArgs false
def api_Cond_85.f : Unit := ()
def aggCond (x : S41) : Value := .agg #[.string x.f0, .string x.f1, .int .i64 x.f2]
/-- a function value that answers p of an element, at every world behind w. -/
def AsksCond (f : FuncId) (cap : Array Value) (p : S41 → Bool) (w : World) : Prop := HasBody Try.prog f ∧ ∀ x w', Below w.heap.size w w' → Calls Try.prog f (#[aggCond x] ++ cap) w' fun e w'' => e = .returned (.bool (p x)) ∧ Below w'.heap.size w' w''
set_option maxHeartbeats 4000000 in
set_option maxRecDepth 100000 in
theorem indexCond.calls (f : FuncId) (cap : Array Value) (p : S41 → Bool) (xs : List S41) (A : Option Addr) (c : Nat) (w : World) (hr : Kd.C k41 w A xs.length xs) (hf : AsksCond f cap p w) :
    Calls Try.prog 85 #[.slice A xs.length c, .func (.func f) #[] cap] w fun e w' => e = .returned (.int .i64 (idx p xs 0)) ∧ Below w.heap.size w w' := by
  have HR := Aside0.mk hr
  have HF := Aside0.mk hf
  have hlen := Kd.C_max hr
  clear hr hf
  go_enter Try.func85, Try.ntmps85
  go_wp2
  go_loopg [8] xs.length (fun kq v8 w' => ∃ i : Nat, v8 = .int .i64 i ∧ Aside0 (i + kq = xs.length) ∧ Aside0 (idx p (xs.drop i) i = idx p xs 0) ∧ Aside0 (Below w.heap.size w w'))
  case atStart => exact ⟨0, rfl, ⟨by omega⟩, ⟨rfl⟩, ⟨by repeat (first | exact Below.refl _ _ | apply below_alloc)⟩⟩
  case round =>
    obtain ⟨i, rfl, HK, HI, HB⟩ := hrel
    by_cases hi : i < xs.length
    · obtain ⟨gk1, rfl⟩ : ∃ m, gk = m + 1 := ⟨gk - 1, by have := HK.out; omega⟩
      have h1 := HI.out
      rw [List.drop_eq_getElem_cons hi, idx] at h1
      have hx : xs[i] = rd_T41 xs ↑i := by simp [rd_T41, List.getD_eq_getElem?_getD, List.getElem?_eq_getElem hi]
      rw [hx] at h1
      obtain ⟨ad, ea, hx0, hx1, hx2⟩ := at_T41 (Kd.C_below HR.out HB.out) (↑i) (by omega) (by omega)
      subst ea
      simp only [Int.toNat_natCast] at hx0 hx1 hx2
      have H1 := Aside0.mk h1
      clear h1 hx HI
      have hi1 : ((i : Int) < (xs.length : Int)) = True := eq_true (by omega)
      have hi2 : (i < xs.length) = True := eq_true hi
      have hi3 : decide ((i : Int) < (xs.length : Int)) = true := decide_eq_true (by omega)
      go_wp2_with (fail)
      rw [run_enter HF.out.1, Oper.upon_enter]
      refine (HF.out.2 (rd_T41 xs ↑i) wr HB.out).mono ?_
      rintro e w2 ⟨he, hb2⟩
      have HB2 := Aside0.mk (below_step HB.out hb2)
      clear hb2 HB hx0 hx1 hx2
      cases hp : p (rd_T41 xs ↑i) with
      | true =>
        rw [hp] at he
        subst he
        have h1 := H1.out
        rw [if_pos hp] at h1
        have H2 := Aside0.mk h1
        clear h1 H1 hp
        go_wp2
        go_ret
        exact ⟨by rw [← H2.out]; rfl, HB2.out⟩
      | false =>
        rw [hp] at he
        subst he
        have h1 := H1.out
        rw [if_neg (by rw [hp]; decide)] at h1
        have H2 := Aside0.mk h1
        clear h1 H1 hp
        go_wp2
        go_roundg gk1
        case measure => omega
        case rel => exact ⟨i + 1, (by simp), ⟨by have := HK.out; omega⟩, H2, HB2⟩
    · have h0 : xs.drop i = [] := List.drop_eq_nil_of_le (by omega)
      have hR := HI.out
      rw [h0] at hR
      have hR2 : idx p xs 0 = -1 := hR.symm
      have HR2 := Aside0.mk hR2
      have hi3 : decide ((i : Int) < (xs.length : Int)) = false := decide_eq_false (by omega)
      clear h0 hR hR2 HI
      go_wp2
      go_ret
      exact ⟨by rw [HR2.out]; rfl, HB.out⟩
set_option maxHeartbeats 4000000 in
set_option maxRecDepth 100000 in
theorem containsCond.calls (f : FuncId) (cap : Array Value) (p : S41 → Bool) (xs : List S41) (A : Option Addr) (c : Nat) (w : World) (hr : Kd.C k41 w A xs.length xs) (hf : AsksCond f cap p w) :
    Calls Try.prog 76 #[.slice A xs.length c, .func (.func f) #[] cap] w fun e w' => e = .returned (.bool (xs.any p)) ∧ Below w.heap.size w w' := by
  have HC := Aside0.mk (indexCond.calls f cap p xs A c w hr hf)
  clear hr hf
  go_enter Try.func76, Try.ntmps76
  go_wp2_with (fail)
  refine HC.out.mono ?_
  rintro e w2 ⟨rfl, hb2⟩
  have HB2 := Aside0.mk hb2
  clear hb2 HC
  go_wp2
  go_ret
  exact ⟨by rw [← idx_any p xs 0]; rfl, HB2.out⟩
end Go.Proofs.Ytknenadpkgajjaa.PA
end
section
namespace Go.Proofs.Ytknenadpkgajjaa.PA
open Go.RowKit Go.Proofs.YtknenadpkgajjaaW.PrintWords Go.Proofs.YtknenadpkgajjaaW.PrintLast Go.Proofs.YtknenadpkgajjaaW.PrintMore
attribute [local go_sem] max2_int min2_int max_two min_two max_three min_three max_four min_four   -- for this text's walks alone
set_option linter.unusedVariables false
set_option linter.unusedSimpArgs false
/-! ### rules_isRule: function 54 -/
open Go.Proofs.Ytknenadpkgajjaa.GFunc Go.Proofs.Ytknenadpkgajjaa.GLit
attribute [local go_sem] run_store_func
set_option linter.unusedSimpArgs false
set_option linter.unusedVariables false
def inB (n a b : Int) : Bool := decide (n ≥ a) && decide (n < b)
theorem within_any (a b c : Int) (w : World) : Calls Try.prog 20 #[.int .i64 a, .int .i64 b, .int .i64 c] w fun e w' => e = .returned (.bool (inB a b c)) ∧ Drawn0 w w' := by
  refine rules_within.calls a b c _ w ?_
  unfold rules_within.f inB
  by_cases h : a ≥ b
  · rw [if_pos h, decide_eq_true h]; rfl
  · rw [if_neg h, decide_eq_false h]; rfl
set_option maxHeartbeats 4000000 in
set_option maxRecDepth 100000 in
theorem passes_any (f0 f1 f4 : Int) (A2 : Option Addr) (n2 c2 : Nat) (A3 : Option Addr) (n3 c3 : Nat) (A5 : Option Addr) (n5 c5 : Nat) (A6 : Option Addr) (n6 c6 : Nat) (A7 : Option Addr) (n7 c7 : Nat) (A8 : Option Addr) (n8 c8 : Nat) (A9 : Option Addr) (n9 c9 : Nat) (n : Int) (w : World) : Calls Try.prog 57 #[.agg #[.int .i64 f0, .int .i64 f1, .slice A2 n2 c2, .slice A3 n3 c3, .int .i64 f4, .slice A5 n5 c5, .slice A6 n6 c6, .slice A7 n7 c7, .slice A8 n8 c8, .slice A9 n9 c9], .int .i64 n] w fun e w' => e = .returned (.bool (inB n f1 f0)) ∧ Below w.heap.size w w' := by
  go_enter Try.func57, Try.ntmps57
  go_wp2_with (fail)
  refine (within_any n f1 f0 _).mono ?_
  rintro e w2 ⟨rfl, ⟨nd, rfl⟩⟩
  go_wp2
  go_ret
  exact ⟨rfl, by repeat (first | exact Below.refl _ _ | apply below_alloc | apply pw_below_drewN)⟩
def odd (f0 n : Int) : Bool := !inB n 0 f0
set_option maxHeartbeats 4000000 in
set_option maxRecDepth 100000 in
theorem odd_any (f0 f1 f4 : Int) (A2 : Option Addr) (n2 c2 : Nat) (A3 : Option Addr) (n3 c3 : Nat) (A5 : Option Addr) (n5 c5 : Nat) (A6 : Option Addr) (n6 c6 : Nat) (A7 : Option Addr) (n7 c7 : Nat) (A8 : Option Addr) (n8 c8 : Nat) (A9 : Option Addr) (n9 c9 : Nat) (b : Nat) (n : Int) (w : World) (hB : w.heap[b]? = some (.cells #[.int .i64 f0, .int .i64 f1, .slice A2 n2 c2, .slice A3 n3 c3, .int .i64 f4, .slice A5 n5 c5, .slice A6 n6 c6, .slice A7 n7 c7, .slice A8 n8 c8, .slice A9 n9 c9] 36 (0, 0))) : Calls Try.prog 73 #[.int .i64 n, .pointer (some ⟨b, 0, none⟩)] w fun e w' => e = .returned (.bool (odd f0 n)) ∧ Drawn0 w w' := by
  have k0 : w.cell? ⟨b, 0, none⟩ = some (.int .i64 f0) := (blk_cell hB 0).trans rfl
  clear hB
  go_enter Try.func73, Try.ntmps73
  go_wp2_with (fail)
  refine (within_any n 0 f0 _).mono ?_
  rintro e w2 ⟨rfl, ⟨nd, rfl⟩⟩
  go_wp2
  go_ret
  exact ⟨rfl, ⟨nd, rfl⟩⟩
set_option maxHeartbeats 4000000 in
set_option maxRecDepth 100000 in
theorem asks_oddL (f0 f1 f4 : Int) (A2 : Option Addr) (n2 c2 : Nat) (A3 : Option Addr) (n3 c3 : Nat) (A5 : Option Addr) (n5 c5 : Nat) (A6 : Option Addr) (n6 c6 : Nat) (A7 : Option Addr) (n7 c7 : Nat) (A8 : Option Addr) (n8 c8 : Nat) (A9 : Option Addr) (n9 c9 : Nat) (b o : Nat) (w : World) (hB : w.heap[b]? = some (.cells #[.int .i64 f0, .int .i64 f1, .slice A2 n2 c2, .slice A3 n3 c3, .int .i64 f4, .slice A5 n5 c5, .slice A6 n6 c6, .slice A7 n7 c7, .slice A8 n8 c8, .slice A9 n9 c9] 36 (0, 0))) (hO : w.heap[o]? = some (.cells #[.func (.func 73) #[] #[.pointer (some ⟨b, 0, none⟩)]] 49 (0, 0))) : AsksLit 74 #[.pointer (some ⟨o, 0, none⟩)] (fun x => odd f0 x.f0) w := by
  refine ⟨by unfold HasBody; kernel_rfl, fun x w' hb => ?_⟩
  have HB := Aside0.mk ((hb.block _ (blk_lt hB)).trans hB)
  have hO' := (hb.block _ (blk_lt hO)).trans hO
  have k0 : ∀ q, (w'.alloc q).cell? ⟨o, 0, none⟩ = some (.func (.func 73) #[] #[.pointer (some ⟨b, 0, none⟩)]) := fun q => (blk_cell (blk_alloc hO' q) 0).trans rfl
  clear hB hb hO hO'
  unfold aggLit
  go_enter Try.func74, Try.ntmps74
  go_wp2_with (fail)
  refine (odd_any f0 f1 f4 A2 n2 c2 A3 n3 c3 A5 n5 c5 A6 n6 c6 A7 n7 c7 A8 n8 c8 A9 n9 c9 b x.f0 _ (blk_alloc HB.out _)).mono ?_
  rintro e w2 ⟨rfl, ⟨nd, rfl⟩⟩
  go_wp2
  go_ret
  exact ⟨rfl, by repeat (first | exact Below.refl _ _ | apply below_alloc | apply pw_below_drewN)⟩
set_option maxHeartbeats 4000000 in
set_option maxRecDepth 100000 in
theorem asks_oddS (f0 f1 f4 : Int) (A2 : Option Addr) (n2 c2 : Nat) (A3 : Option Addr) (n3 c3 : Nat) (A5 : Option Addr) (n5 c5 : Nat) (A6 : Option Addr) (n6 c6 : Nat) (A7 : Option Addr) (n7 c7 : Nat) (A8 : Option Addr) (n8 c8 : Nat) (A9 : Option Addr) (n9 c9 : Nat) (b o : Nat) (w : World) (hB : w.heap[b]? = some (.cells #[.int .i64 f0, .int .i64 f1, .slice A2 n2 c2, .slice A3 n3 c3, .int .i64 f4, .slice A5 n5 c5, .slice A6 n6 c6, .slice A7 n7 c7, .slice A8 n8 c8, .slice A9 n9 c9] 36 (0, 0))) (hO : w.heap[o]? = some (.cells #[.func (.func 73) #[] #[.pointer (some ⟨b, 0, none⟩)]] 49 (0, 0))) : AsksSet 75 #[.pointer (some ⟨o, 0, none⟩)] (fun x => odd f0 x.f0) w := by
  refine ⟨by unfold HasBody; kernel_rfl, fun x w' hb => ?_⟩
  have HB := Aside0.mk ((hb.block _ (blk_lt hB)).trans hB)
  have hO' := (hb.block _ (blk_lt hO)).trans hO
  have k0 : ∀ q, (w'.alloc q).cell? ⟨o, 0, none⟩ = some (.func (.func 73) #[] #[.pointer (some ⟨b, 0, none⟩)]) := fun q => (blk_cell (blk_alloc hO' q) 0).trans rfl
  clear hB hb hO hO'
  unfold aggSet
  go_enter Try.func75, Try.ntmps75
  go_wp2_with (fail)
  refine (odd_any f0 f1 f4 A2 n2 c2 A3 n3 c3 A5 n5 c5 A6 n6 c6 A7 n7 c7 A8 n8 c8 A9 n9 c9 b x.f0 _ (blk_alloc HB.out _)).mono ?_
  rintro e w2 ⟨rfl, ⟨nd, rfl⟩⟩
  go_wp2
  go_ret
  exact ⟨rfl, by repeat (first | exact Below.refl _ _ | apply below_alloc | apply pw_below_drewN)⟩
def hasText (l : List ByteArray) (s : ByteArray) : Bool := l.any fun y => decide (s.toList = y.toList)
theorem index_texts (s : ByteArray) (l : List ByteArray) (hl : l.length ≤ 9223372036854775807) : ∀ (d i : Nat), i + d = l.length → ∃ r : Int, slices_Index_string_string.l0 (d + 1) l s (l.length : Int) i = some r ∧ decide (r ≥ 0) = hasText (l.drop i) s
  | 0, i, h => by
    refine ⟨-1, ?_, ?_⟩
    · unfold slices_Index_string_string.l0
      rw [if_neg (by omega)]
    · rw [List.drop_eq_nil_of_le (by omega)]; rfl
  | d + 1, i, h => by
    unfold slices_Index_string_string.l0
    rw [if_pos (by omega), if_pos (by omega), if_pos (by omega), List.drop_eq_getElem_cons (by omega : i < l.length)]
    have hx : rdOf ByteArray.empty l (i : Int) = l[i] := by simp [rdOf, List.getD_eq_getElem?_getD, List.getElem?_eq_getElem (show i < l.length by omega)]
    rw [hx]
    by_cases hc : s.toList = l[i].toList
    · rw [if_pos hc]
      refine ⟨i, rfl, ?_⟩
      show decide ((i : Int) ≥ 0) = (decide (s.toList = l[i].toList) || hasText (l.drop (i + 1)) s)
      rw [decide_eq_true hc, decide_eq_true (by omega)]
      rfl
    · rw [if_neg hc]
      obtain ⟨r, h1, h2⟩ := index_texts s l hl d (i + 1) (by omega)
      refine ⟨r, ?_, ?_⟩
      · rw [show wrap64 ((i : Int) + 1) = ((i + 1 : Nat) : Int) by unfold wrap64; omega]; exact h1
      · show decide (r ≥ 0) = (decide (s.toList = l[i].toList) || hasText (l.drop (i + 1)) s)
        rw [decide_eq_false hc, h2]
        rfl
theorem contains_texts (s : ByteArray) (l : List ByteArray) (hl : l.length ≤ 9223372036854775807) : slices_Contains_string_string.f (l.length + 1) l s = some (hasText l s) := by
  obtain ⟨r, h1, h2⟩ := index_texts s l hl l.length 0 (by omega)
  unfold slices_Contains_string_string.f slices_Index_string_string.f
  rw [show ((0 : Nat) : Int) = 0 from rfl] at h1
  rw [h1]
  simp only [Option.bind_some]
  rw [h2]
  rfl
def opsL : List ByteArray := [⟨#[60]⟩, ⟨#[60, 61]⟩, ⟨#[61]⟩, ⟨#[33, 61]⟩, ⟨#[62, 61]⟩, ⟨#[62]⟩]
def isCondF (files : List ByteArray) (x : S41) : Bool := hasText files x.f0 && hasText opsL x.f1
set_option maxHeartbeats 4000000 in
set_option maxRecDepth 100000 in
theorem isCond_any (f0 f1 f4 : Int) (A2 : Option Addr) (n2 c2 : Nat) (A3 : Option Addr) (n3 c3 : Nat) (A5 : Option Addr) (c5 : Nat) (A6 : Option Addr) (n6 c6 : Nat) (A7 : Option Addr) (n7 c7 : Nat) (A8 : Option Addr) (n8 c8 : Nat) (A9 : Option Addr) (n9 c9 : Nat) (files : List ByteArray) (x : S41) (w : World) (hF : Kd.C Kd.string w A5 files.length files) (hc : files.length ≤ c5) : Calls Try.prog 78 #[.agg #[.int .i64 f0, .int .i64 f1, .slice A2 n2 c2, .slice A3 n3 c3, .int .i64 f4, .slice A5 files.length c5, .slice A6 n6 c6, .slice A7 n7 c7, .slice A8 n8 c8, .slice A9 n9 c9], aggCond x] w fun e w' => e = .returned (.bool (isCondF files x)) ∧ Below w.heap.size w w' := by
  have HF := Aside0.mk hF
  have HC := Aside0.mk hc
  clear hF hc
  unfold aggCond isCondF
  go_enter Try.func78, Try.ntmps78
  go_wp2_with (fail)
  refine (slices_Contains_string_string.calls _ _ _ files x.f0 _ _ (Kd.C_alloc (Kd.C_alloc HF.out _) _) HC.out (contains_texts x.f0 files (Kd.C_max HF.out))).mono ?_
  rintro e w2 ⟨rfl, ⟨nd, rfl⟩⟩
  cases h1 : hasText files x.f0 with
  | false =>
    go_wp2
    go_ret
    exact ⟨by rw [h1]; rfl, by repeat (first | exact Below.refl _ _ | apply below_alloc | apply pw_below_drewN)⟩
  | true =>
    go_wp2_with (fail)
    refine (slices_Contains_string_string.calls _ _ _ opsL x.f1 _ _ (C_block (t := 9) (g := w.heap.size + 1 + 1) ?hg (.c1 rfl rfl (.c1 rfl rfl (.c1 rfl rfl (.c1 rfl rfl (.c1 rfl rfl (.c1 rfl rfl .nil)))))) (by simp [opsL, maxLen])) (Nat.le_refl _) (contains_texts x.f1 opsL (by simp [opsL]))).mono ?_
    case hg => repeat first | exact alloc_at (by first | (simp only [World.size_alloc]; done) | (simp [World.drewN]; done) | omega) | refine blk_alloc ?_ _ | refine blk_drewN ?_ _
    rintro e w3 ⟨rfl, ⟨nd2, rfl⟩⟩
    go_wp2
    go_ret
    exact ⟨by rw [h1]; rfl, by repeat (first | exact Below.refl _ _ | apply below_alloc | apply pw_below_drewN)⟩
set_option maxHeartbeats 4000000 in
set_option maxRecDepth 100000 in
theorem asks_cond (f0 f1 f4 : Int) (A2 : Option Addr) (n2 c2 : Nat) (A3 : Option Addr) (n3 c3 : Nat) (A5 : Option Addr) (c5 : Nat) (A6 : Option Addr) (n6 c6 : Nat) (A7 : Option Addr) (n7 c7 : Nat) (A8 : Option Addr) (n8 c8 : Nat) (A9 : Option Addr) (n9 c9 : Nat) (files : List ByteArray) (b : Nat) (w : World) (hB : w.heap[b]? = some (.cells #[.int .i64 f0, .int .i64 f1, .slice A2 n2 c2, .slice A3 n3 c3, .int .i64 f4, .slice A5 files.length c5, .slice A6 n6 c6, .slice A7 n7 c7, .slice A8 n8 c8, .slice A9 n9 c9] 36 (0, 0))) (hF : Kd.C Kd.string w A5 files.length files) (hc : files.length ≤ c5) : AsksCond 77 #[.pointer (some ⟨b, 0, none⟩)] (fun x => !isCondF files x) w := by
  refine ⟨by unfold HasBody; kernel_rfl, fun x w' hb => ?_⟩
  have hB' := (hb.block _ (blk_lt hB)).trans hB
  have HF := Aside0.mk (Kd.C_below hF hb)
  have HC := Aside0.mk hc
  have kp0 : ∀ o, (w'.alloc o).cell? ⟨b, 0, none⟩ = some (.int .i64 f0) := fun o => (blk_cell (blk_alloc hB' o) 0).trans rfl
  have kp1 : ∀ o, (w'.alloc o).cell? ⟨b, 1, none⟩ = some (.int .i64 f1) := fun o => (blk_cell (blk_alloc hB' o) 1).trans rfl
  have kp2 : ∀ o, (w'.alloc o).cell? ⟨b, 2, none⟩ = some (.slice A2 n2 c2) := fun o => (blk_cell (blk_alloc hB' o) 2).trans rfl
  have kp3 : ∀ o, (w'.alloc o).cell? ⟨b, 3, none⟩ = some (.slice A3 n3 c3) := fun o => (blk_cell (blk_alloc hB' o) 3).trans rfl
  have kp4 : ∀ o, (w'.alloc o).cell? ⟨b, 4, none⟩ = some (.int .i64 f4) := fun o => (blk_cell (blk_alloc hB' o) 4).trans rfl
  have kp5 : ∀ o, (w'.alloc o).cell? ⟨b, 5, none⟩ = some (.slice A5 files.length c5) := fun o => (blk_cell (blk_alloc hB' o) 5).trans rfl
  have kp6 : ∀ o, (w'.alloc o).cell? ⟨b, 6, none⟩ = some (.slice A6 n6 c6) := fun o => (blk_cell (blk_alloc hB' o) 6).trans rfl
  have kp7 : ∀ o, (w'.alloc o).cell? ⟨b, 7, none⟩ = some (.slice A7 n7 c7) := fun o => (blk_cell (blk_alloc hB' o) 7).trans rfl
  have kp8 : ∀ o, (w'.alloc o).cell? ⟨b, 8, none⟩ = some (.slice A8 n8 c8) := fun o => (blk_cell (blk_alloc hB' o) 8).trans rfl
  have kp9 : ∀ o, (w'.alloc o).cell? ⟨b, 9, none⟩ = some (.slice A9 n9 c9) := fun o => (blk_cell (blk_alloc hB' o) 9).trans rfl
  clear hB hb hB' hF hc
  unfold aggCond
  go_enter Try.func77, Try.ntmps77
  go_wp2_with (fail)
  refine (isCond_any f0 f1 f4 A2 n2 c2 A3 n3 c3 A5 c5 A6 n6 c6 A7 n7 c7 A8 n8 c8 A9 n9 c9 files x _ (Kd.C_alloc HF.out _) HC.out).mono ?_
  rintro e w2 ⟨rfl, hb2⟩
  have HB2 := Aside0.mk (below_step (below_alloc (Below.refl _ _) _ : Below w'.heap.size w' _) hb2)
  clear hb2
  go_wp2
  go_ret
  exact ⟨rfl, HB2.out⟩
def isRuleF (p0 : Int) (p5 : List ByteArray) (r : S28) : Bool := inB r.f0 1 21 && !(decide (r.f3.length = 0)) && !r.f1.any (fun x => odd p0 x.f0) && !r.f3.any (fun x => odd p0 x.f0) && !r.f2.any (fun x => !isCondF p5 x)
def rules_isRule.f (a0_0 : Int) (a0_1 : Int) (l0_2 : List Int) (l0_3 : List Int) (a0_4 : Int) (l0_5 : List ByteArray) (l0_6 : List S28) (l0_7 : List S44) (l0_8 : List S46) (l0_9 : List S57) (a1_0 : Int) (l1_1 : List S39) (l1_2 : List S41) (l1_3 : List S23) : Option Bool := some (isRuleF a0_0 l0_5 ⟨a1_0, l1_1, l1_2, l1_3⟩)
set_option maxHeartbeats 4000000 in
set_option maxRecDepth 100000 in
theorem rules_isRule.calls (a0_0 : Int) (a0_1 : Int) (A0_2 : Option Addr) (c0_2 : Nat) (l0_2 : List Int) (A0_3 : Option Addr) (c0_3 : Nat) (l0_3 : List Int) (a0_4 : Int) (A0_5 : Option Addr) (c0_5 : Nat) (l0_5 : List ByteArray) (A0_6 : Option Addr) (c0_6 : Nat) (l0_6 : List S28) (A0_7 : Option Addr) (c0_7 : Nat) (l0_7 : List S44) (A0_8 : Option Addr) (c0_8 : Nat) (l0_8 : List S46) (A0_9 : Option Addr) (c0_9 : Nat) (l0_9 : List S57) (a1_0 : Int) (A1_1 : Option Addr) (c1_1 : Nat) (l1_1 : List S39) (A1_2 : Option Addr) (c1_2 : Nat) (l1_2 : List S41) (A1_3 : Option Addr) (c1_3 : Nat) (l1_3 : List S23) (r : Bool) (w : World) (hr0_2 : Kd.C (Kd.int .i64) w A0_2 l0_2.length l0_2) (hc0_2 : l0_2.length ≤ c0_2) (hr0_3 : Kd.C (Kd.int .i64) w A0_3 l0_3.length l0_3) (hc0_3 : l0_3.length ≤ c0_3) (hr0_5 : Kd.C Kd.string w A0_5 l0_5.length l0_5) (hc0_5 : l0_5.length ≤ c0_5) (hr0_6 : Kd.C k28 w A0_6 l0_6.length l0_6) (hc0_6 : l0_6.length ≤ c0_6) (hr0_7 : Kd.C k44 w A0_7 l0_7.length l0_7) (hc0_7 : l0_7.length ≤ c0_7) (hr0_8 : Kd.C k46 w A0_8 l0_8.length l0_8) (hc0_8 : l0_8.length ≤ c0_8) (hr0_9 : Kd.C k57 w A0_9 l0_9.length l0_9) (hc0_9 : l0_9.length ≤ c0_9) (hr1_1 : Kd.C k39 w A1_1 l1_1.length l1_1) (hc1_1 : l1_1.length ≤ c1_1) (hr1_2 : Kd.C k41 w A1_2 l1_2.length l1_2) (hc1_2 : l1_2.length ≤ c1_2) (hr1_3 : Kd.C k23 w A1_3 l1_3.length l1_3) (hc1_3 : l1_3.length ≤ c1_3) (h : rules_isRule.f a0_0 a0_1 l0_2 l0_3 a0_4 l0_5 l0_6 l0_7 l0_8 l0_9 a1_0 l1_1 l1_2 l1_3 = some r) :
    Calls Try.prog 54 #[.agg #[.int .i64 a0_0, .int .i64 a0_1, .slice A0_2 l0_2.length c0_2, .slice A0_3 l0_3.length c0_3, .int .i64 a0_4, .slice A0_5 l0_5.length c0_5, .slice A0_6 l0_6.length c0_6, .slice A0_7 l0_7.length c0_7, .slice A0_8 l0_8.length c0_8, .slice A0_9 l0_9.length c0_9], .agg #[.int .i64 a1_0, .slice A1_1 l1_1.length c1_1, .slice A1_2 l1_2.length c1_2, .slice A1_3 l1_3.length c1_3]] w fun e w' => e = .returned (.bool r) ∧ Below w.heap.size w w' := by
  have HF := Aside0.mk (And.intro hr0_5 hc0_5)
  have HR1 := Aside0.mk hr1_1
  have HR2 := Aside0.mk hr1_2
  have HR3 := Aside0.mk hr1_3
  have HE := Aside0.mk (show isRuleF a0_0 l0_5 ⟨a1_0, l1_1, l1_2, l1_3⟩ = r from Option.some.inj h)
  clear hr0_2 hc0_2 hr0_3 hc0_3 hr0_5 hc0_5 hr0_6 hc0_6 hr0_7 hc0_7 hr0_8 hc0_8 hr0_9 hc0_9 hr1_1 hc1_1 hr1_2 hc1_2 hr1_3 hc1_3 h
  have hmf0 := hmf Try.prog
  go_enter Try.func54, Try.ntmps54
  go_wp2_with (fail)
  refine (within_any a1_0 1 21 _).mono ?_
  rintro e w2 ⟨rfl, ⟨nd, rfl⟩⟩
  cases h1 : inB a1_0 1 21 with
  | false =>
    obtain rfl : false = r := by have := HE.out; simpa [isRuleF, h1] using this
    clear HE
    go_wp2
    go_ret
    exact ⟨rfl, by repeat (first | exact Below.refl _ _ | apply below_alloc | apply pw_below_drewN)⟩
  | true =>
    by_cases h2 : l1_3.length = 0
    · obtain rfl : false = r := by have := HE.out; simpa [isRuleF, h1, h2] using this
      clear HE
      have h2b : ((l1_3.length : Int) == 0) = true := beq_iff_eq.mpr (by omega)
      clear h2
      go_wp2
      go_ret
      exact ⟨rfl, by repeat (first | exact Below.refl _ _ | apply below_alloc | apply pw_below_drewN)⟩
    · have h2b : ((l1_3.length : Int) == 0) = false := beq_eq_false_iff_ne.mpr (by omega)
      have HN := Aside0.mk h2
      clear h2
      have HP : Aside0 (((((w.alloc (.cells #[.int .i64 a0_0, .int .i64 a0_1, .slice A0_2 l0_2.length c0_2, .slice A0_3 l0_3.length c0_3, .int .i64 a0_4, .slice A0_5 l0_5.length c0_5, .slice A0_6 l0_6.length c0_6, .slice A0_7 l0_7.length c0_7, .slice A0_8 l0_8.length c0_8, .slice A0_9 l0_9.length c0_9] 36)).alloc (.cells #[.int .i64 a1_0, .slice A1_1 l1_1.length c1_1, .slice A1_2 l1_2.length c1_2, .slice A1_3 l1_3.length c1_3] 28)).alloc (.cells #[.func (.func 73) #[] #[.pointer (some ⟨w.heap.size, 0, none⟩)]] 49)).drewN nd).heap[w.heap.size]? = some (.cells #[.int .i64 a0_0, .int .i64 a0_1, .slice A0_2 l0_2.length c0_2, .slice A0_3 l0_3.length c0_3, .int .i64 a0_4, .slice A0_5 l0_5.length c0_5, .slice A0_6 l0_6.length c0_6, .slice A0_7 l0_7.length c0_7, .slice A0_8 l0_8.length c0_8, .slice A0_9 l0_9.length c0_9] 36 (0, 0))) := ⟨by repeat first | exact alloc_at (by first | (simp only [World.size_alloc]; done) | (simp [World.drewN]; done) | omega) | refine blk_alloc ?_ _ | refine blk_drewN ?_ _⟩
      have HQ : Aside0 (((((w.alloc (.cells #[.int .i64 a0_0, .int .i64 a0_1, .slice A0_2 l0_2.length c0_2, .slice A0_3 l0_3.length c0_3, .int .i64 a0_4, .slice A0_5 l0_5.length c0_5, .slice A0_6 l0_6.length c0_6, .slice A0_7 l0_7.length c0_7, .slice A0_8 l0_8.length c0_8, .slice A0_9 l0_9.length c0_9] 36)).alloc (.cells #[.int .i64 a1_0, .slice A1_1 l1_1.length c1_1, .slice A1_2 l1_2.length c1_2, .slice A1_3 l1_3.length c1_3] 28)).alloc (.cells #[.func (.func 73) #[] #[.pointer (some ⟨w.heap.size, 0, none⟩)]] 49)).drewN nd).heap[w.heap.size + 1]? = some (.cells #[.int .i64 a1_0, .slice A1_1 l1_1.length c1_1, .slice A1_2 l1_2.length c1_2, .slice A1_3 l1_3.length c1_3] 28 (0, 0))) := ⟨by repeat first | exact alloc_at (by first | (simp only [World.size_alloc]; done) | (simp [World.drewN]; done) | omega) | refine blk_alloc ?_ _ | refine blk_drewN ?_ _⟩
      have HO : Aside0 (((((w.alloc (.cells #[.int .i64 a0_0, .int .i64 a0_1, .slice A0_2 l0_2.length c0_2, .slice A0_3 l0_3.length c0_3, .int .i64 a0_4, .slice A0_5 l0_5.length c0_5, .slice A0_6 l0_6.length c0_6, .slice A0_7 l0_7.length c0_7, .slice A0_8 l0_8.length c0_8, .slice A0_9 l0_9.length c0_9] 36)).alloc (.cells #[.int .i64 a1_0, .slice A1_1 l1_1.length c1_1, .slice A1_2 l1_2.length c1_2, .slice A1_3 l1_3.length c1_3] 28)).alloc (.cells #[.func (.func 73) #[] #[.pointer (some ⟨w.heap.size, 0, none⟩)]] 49)).drewN nd).heap[w.heap.size + 1 + 1]? = some (.cells #[.func (.func 73) #[] #[.pointer (some ⟨w.heap.size, 0, none⟩)]] 49 (0, 0))) := ⟨by repeat first | exact alloc_at (by first | (simp only [World.size_alloc]; done) | (simp [World.drewN]; done) | omega) | refine blk_alloc ?_ _ | refine blk_drewN ?_ _⟩
      have HB : Aside0 (Below w.heap.size w ((((w.alloc (.cells #[.int .i64 a0_0, .int .i64 a0_1, .slice A0_2 l0_2.length c0_2, .slice A0_3 l0_3.length c0_3, .int .i64 a0_4, .slice A0_5 l0_5.length c0_5, .slice A0_6 l0_6.length c0_6, .slice A0_7 l0_7.length c0_7, .slice A0_8 l0_8.length c0_8, .slice A0_9 l0_9.length c0_9] 36)).alloc (.cells #[.int .i64 a1_0, .slice A1_1 l1_1.length c1_1, .slice A1_2 l1_2.length c1_2, .slice A1_3 l1_3.length c1_3] 28)).alloc (.cells #[.func (.func 73) #[] #[.pointer (some ⟨w.heap.size, 0, none⟩)]] 49)).drewN nd)) := ⟨by repeat (first | exact Below.refl _ _ | apply below_alloc | apply pw_below_drewN)⟩
      go_wp2_with (fail)
      refine (containsLit.calls _ _ (fun x => odd a0_0 x.f0) l1_1 _ _ _ (Kd.C_below HR1.out HB.out) (asks_oddL a0_0 a0_1 a0_4 A0_2 l0_2.length c0_2 A0_3 l0_3.length c0_3 A0_5 l0_5.length c0_5 A0_6 l0_6.length c0_6 A0_7 l0_7.length c0_7 A0_8 l0_8.length c0_8 A0_9 l0_9.length c0_9 _ _ _ HP.out HO.out)).mono ?_
      rintro e w3 ⟨rfl, hb3⟩
      have HP3 := Aside0.mk ((hb3.block _ (blk_lt HP.out)).trans HP.out)
      have HQ3 := Aside0.mk ((hb3.block _ (blk_lt HQ.out)).trans HQ.out)
      have HO3 := Aside0.mk ((hb3.block _ (blk_lt HO.out)).trans HO.out)
      have HB3 := Aside0.mk (below_step HB.out hb3)
      clear hb3 HP HQ HO HB
      cases h3 : l1_1.any (fun x => odd a0_0 x.f0) with
      | true =>
        obtain rfl : false = r := by have := HE.out; simpa [isRuleF, h1, h3] using this
        clear HE
        go_wp2
        go_ret
        exact ⟨rfl, HB3.out⟩
      | false =>
        have kq3 : w3.cell? ⟨w.heap.size + 1, 3, none⟩ = some (.slice A1_3 l1_3.length c1_3) := (blk_cell HQ3.out 3).trans rfl
        go_wp2_with (fail)
        refine (containsSet.calls _ _ (fun x => odd a0_0 x.f0) l1_3 _ _ _ (Kd.C_below HR3.out HB3.out) (asks_oddS a0_0 a0_1 a0_4 A0_2 l0_2.length c0_2 A0_3 l0_3.length c0_3 A0_5 l0_5.length c0_5 A0_6 l0_6.length c0_6 A0_7 l0_7.length c0_7 A0_8 l0_8.length c0_8 A0_9 l0_9.length c0_9 _ _ _ HP3.out HO3.out)).mono ?_
        rintro e w4 ⟨rfl, hb4⟩
        have HP4 := Aside0.mk ((hb4.block _ (blk_lt HP3.out)).trans HP3.out)
        have HQ4 := Aside0.mk ((hb4.block _ (blk_lt HQ3.out)).trans HQ3.out)
        have HB4 := Aside0.mk (below_step HB3.out hb4)
        clear hb4 HP3 HQ3 HO3 HB3 kq3
        cases h4 : l1_3.any (fun x => odd a0_0 x.f0) with
        | true =>
          obtain rfl : false = r := by have := HE.out; simpa [isRuleF, h1, h3, h4] using this
          clear HE
          go_wp2
          go_ret
          exact ⟨rfl, HB4.out⟩
        | false =>
          have kq4 : w4.cell? ⟨w.heap.size + 1, 2, none⟩ = some (.slice A1_2 l1_2.length c1_2) := (blk_cell HQ4.out 2).trans rfl
          go_wp2_with (fail)
          refine (containsCond.calls _ _ (fun x => !isCondF l0_5 x) l1_2 _ _ _ (Kd.C_below HR2.out HB4.out) (asks_cond a0_0 a0_1 a0_4 A0_2 l0_2.length c0_2 A0_3 l0_3.length c0_3 A0_5 c0_5 A0_6 l0_6.length c0_6 A0_7 l0_7.length c0_7 A0_8 l0_8.length c0_8 A0_9 l0_9.length c0_9 l0_5 _ _ HP4.out (Kd.C_below HF.out.1 HB4.out) HF.out.2)).mono ?_
          rintro e w5 ⟨rfl, hb5⟩
          have HB5 := Aside0.mk (below_step HB4.out hb5)
          clear hb5 HP4 HQ4 HB4 kq4
          have HR := Aside0.mk (show r = !(l1_2.any (fun x => !isCondF l0_5 x)) by have := HE.out; have hn := HN.out; simpa [isRuleF, h1, h3, h4, hn, eq_comm] using this)
          clear HE
          go_wp2
          go_ret
          exact ⟨by rw [HR.out]; rfl, HB5.out⟩
end Go.Proofs.Ytknenadpkgajjaa.PA
end
