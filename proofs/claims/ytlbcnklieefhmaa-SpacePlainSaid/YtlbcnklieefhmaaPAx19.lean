-- Printed by this session's gprint.py (over the kit's print.py) out of the translation.
import Derived.Test.YtlbcnklieefhmaaPAx0
import Derived.Test.YtlbcnklieefhmaaPAx18
namespace Go.Proofs.Ytlbcnklieefhmaa.PA
open Go.RowKit Go.Proofs.YtlbcnklieefhmaaW.PrintWords Go.Proofs.YtlbcnklieefhmaaW.PrintLast Go.Proofs.YtlbcnklieefhmaaW.PrintMore
attribute [local go_sem] max2_int min2_int max_two min_two max_three min_three max_four min_four   -- for this text's walks alone
set_option linter.unusedVariables false
set_option linter.unusedSimpArgs false

/-! ### space_Resolve: function 11 -/
open Go.Proofs.Ytlbcnklieefhmaa.GMap
def space_Resolve.f (k : Nat) (a0_0 : ByteArray) (l0_1 : List (S35)) (l0_2 : List (S32)) (a0_3 : Int) : Option (ByteArray × ByteArray × (List (S35)) × (List (S26)) × Int × Int × Int) :=
  (resolveF k [(⟨#[]⟩, ⟨#[]⟩)] ⟨a0_0, l0_1, l0_2, a0_3⟩).map fun r => if r.2.2 = true then (r.1.f0, r.1.f1, r.1.f2, r.1.f3, r.1.f4, 0, 0) else (⟨#[]⟩, ⟨#[]⟩, [], [], 0, r.2.1, 5)
theorem space_Resolve.mono : ∀ a0 a1 a2 a3 k, LeO (space_Resolve.f k a0 a1 a2 a3) (space_Resolve.f (k + 1) a0 a1 a2 a3) := fun _ _ _ _ k => LeO.map _ (resolveF_mono k _ _)
theorem zeroString : ∀ W, (zeroValue 9).run Try.prog W = .ok (.string ⟨#[]⟩) W := fun W => by kernel_rfl
theorem madeEmpty (w : World) : MapSS Try.prog 9 9 (w.alloc (.map #[] 0)) w.heap.size [] := MapSS.made w
set_option maxHeartbeats 4000000 in
set_option maxRecDepth 100000 in
theorem space_Resolve.calls (k : Nat) (a0_0 : ByteArray) (A0_1 : Option Addr) (c0_1 : Nat) (l0_1 : List (S35)) (A0_2 : Option Addr) (c0_2 : Nat) (l0_2 : List (S32)) (a0_3 : Int) (r1 r2 : ByteArray) (r3 : List (S35)) (r4 : List (S26)) (r5 r6 r7 : Int) (w : World)
    (hr0_1 : Kd.C k35 w A0_1 l0_1.length l0_1) (hc0_1 : l0_1.length ≤ c0_1) (hr0_2 : Kd.C k32 w A0_2 l0_2.length l0_2) (hc0_2 : l0_2.length ≤ c0_2)
    (h : space_Resolve.f k a0_0 l0_1 l0_2 a0_3 = some (r1, r2, r3, r4, r5, r6, r7)) :
    Calls Try.prog 11 #[.agg #[.string a0_0, .slice A0_1 l0_1.length c0_1, .slice A0_2 l0_2.length c0_2, .int .i64 a0_3]] w fun e w' => ∃ v2_ v3_ : Value, e = .returned (.tuple #[.agg #[.string r1, .string r2, v2_, v3_, .int .i64 r5], .int .i64 r6, .int .i64 r7]) ∧
      Kd.R k35 35 w' w.heap.size (fun _ => True) v2_ r3 ∧ Kd.R k26 26 w' w.heap.size (fun k_ => some k_ ≠ (v2_ : Value).ownBlock) v3_ r4 ∧ Below w.heap.size w w' := by
  unfold space_Resolve.f at h
  obtain ⟨q, hq, he⟩ := Option.map_eq_some_iff.mp h
  obtain ⟨y, at_, ok⟩ := q
  have HQ := Aside0.mk hq
  have HE := Aside0.mk he
  have HR1 := Aside0.mk hr0_1
  have HC1 := Aside0.mk hc0_1
  have HR2 := Aside0.mk hr0_2
  have HC2 := Aside0.mk hc0_2
  clear h hq he hr0_1 hc0_1 hr0_2 hc0_2
  have hm0 := madeEmpty ((w.alloc (.cells #[.string a0_0, .slice A0_1 l0_1.length c0_1, .slice A0_2 l0_2.length c0_2, .int .i64 a0_3] 32)).alloc (.cells #[.string ⟨#[]⟩, .string ⟨#[]⟩, .slice none 0 0, .slice none 0 0, .int .i64 0] 26))
  simp only [World.size_alloc] at hm0
  obtain ⟨w1, hrun, hm1, hg1⟩ := hm0.run_update 52 Try.underlying52 Try.underlying9 Try.underlying9 ⟨#[]⟩ ⟨#[]⟩ (by decide) (by decide) (by decide)
  have g0 : (((w.alloc (.cells #[.string a0_0, .slice A0_1 l0_1.length c0_1, .slice A0_2 l0_2.length c0_2, .int .i64 a0_3] 32)).alloc (.cells #[.string ⟨#[]⟩, .string ⟨#[]⟩, .slice none 0 0, .slice none 0 0, .int .i64 0] 26)).alloc (.map #[] 0)).heap[w.heap.size]? = some (.cells #[.string a0_0, .slice A0_1 l0_1.length c0_1, .slice A0_2 l0_2.length c0_2, .int .i64 a0_3] 32) := blk_alloc (blk_alloc (MapKept.heap_alloc w _).1 _) _
  have g1 : (((w.alloc (.cells #[.string a0_0, .slice A0_1 l0_1.length c0_1, .slice A0_2 l0_2.length c0_2, .int .i64 a0_3] 32)).alloc (.cells #[.string ⟨#[]⟩, .string ⟨#[]⟩, .slice none 0 0, .slice none 0 0, .int .i64 0] 26)).alloc (.map #[] 0)).heap[w.heap.size + 1]? = some (.cells #[.string ⟨#[]⟩, .string ⟨#[]⟩, .slice none 0 0, .slice none 0 0, .int .i64 0] 26 (0, 0)) := by
    have h4 := (MapKept.heap_alloc (w.alloc (.cells #[.string a0_0, .slice A0_1 l0_1.length c0_1, .slice A0_2 l0_2.length c0_2, .int .i64 a0_3] 32)) (.cells #[.string ⟨#[]⟩, .string ⟨#[]⟩, .slice none 0 0, .slice none 0 0, .int .i64 0] 26)).1
    rw [World.size_alloc] at h4
    exact blk_alloc h4 _
  have HG1 := Aside0.mk (blk_grown g1 hg1 (by simp))
  have HB1 := Aside0.mk (pw_below_grown (below_alloc (below_alloc (below_alloc (Below.refl w.heap.size w) (.cells #[.string a0_0, .slice A0_1 l0_1.length c0_1, .slice A0_2 l0_2.length c0_2, .int .i64 a0_3] 32)) (.cells #[.string ⟨#[]⟩, .string ⟨#[]⟩, .slice none 0 0, .slice none 0 0, .int .i64 0] 26)) (.map #[] 0)) (some (w.heap.size + 1 + 1)) (by rw [World.size_alloc, World.size_alloc, World.size_alloc]; omega) hg1 (fun k hk => by injection hk with hk; omega))
  have HM1 := Aside0.mk hm1
  clear hm0 hm1 hg1 g0 g1
  have hmm := @run_makeMap Try.prog
  go_enter Try.func11, Try.ntmps11
  go_wp2_with (fail)
  refine (resolve_calls k ⟨a0_0, l0_1, l0_2, a0_3⟩ A0_1 A0_2 c0_1 c0_2 _ _ (y, at_, ok) _ (Kd.C_below HR1.out HB1.out) HC1.out (Kd.C_below HR2.out HB1.out) HC2.out HM1.out HQ.out).mono ?_
  rintro e1 w2 ⟨⟨v2, v3, rfl, hv2, hv3, hb2⟩⟩
  obtain ⟨Y1, yc1, rfl⟩ := Kd.R_slice hv2
  obtain ⟨Y2, yc2, rfl⟩ := Kd.R_slice hv3
  have HV2 := Aside0.mk hv2
  have HV3 := Aside0.mk hv3
  have HB2 := Aside0.mk (below_step HB1.out hb2)
  have HG2 := Aside0.mk ((hb2.block _ (blk_lt HG1.out)).trans HG1.out)
  have z0 : ∀ o, (w2.alloc o).cell? ⟨w.heap.size + 1, 0, none⟩ = some (.string ⟨#[]⟩) := fun o => cell_of (blk_alloc HG2.out o) 0 rfl
  have z1 : ∀ o, (w2.alloc o).cell? ⟨w.heap.size + 1, 1, none⟩ = some (.string ⟨#[]⟩) := fun o => cell_of (blk_alloc HG2.out o) 1 rfl
  have z2 : ∀ o, (w2.alloc o).cell? ⟨w.heap.size + 1, 2, none⟩ = some (.slice none 0 0) := fun o => cell_of (blk_alloc HG2.out o) 2 rfl
  have z3 : ∀ o, (w2.alloc o).cell? ⟨w.heap.size + 1, 3, none⟩ = some (.slice none 0 0) := fun o => cell_of (blk_alloc HG2.out o) 3 rfl
  have z4 : ∀ o, (w2.alloc o).cell? ⟨w.heap.size + 1, 4, none⟩ = some (.int .i64 0) := fun o => cell_of (blk_alloc HG2.out o) 4 rfl
  have y0 : ∀ o, (w2.alloc o).frozen? ⟨w.heap.size + 1, 0, none⟩ = false := fun o => blk_frozen (blk_alloc HG2.out o) 0
  have y1 : ∀ o, (w2.alloc o).frozen? ⟨w.heap.size + 1, 1, none⟩ = false := fun o => blk_frozen (blk_alloc HG2.out o) 1
  have y2 : ∀ o, (w2.alloc o).frozen? ⟨w.heap.size + 1, 2, none⟩ = false := fun o => blk_frozen (blk_alloc HG2.out o) 2
  have y3 : ∀ o, (w2.alloc o).frozen? ⟨w.heap.size + 1, 3, none⟩ = false := fun o => blk_frozen (blk_alloc HG2.out o) 3
  have y4 : ∀ o, (w2.alloc o).frozen? ⟨w.heap.size + 1, 4, none⟩ = false := fun o => blk_frozen (blk_alloc HG2.out o) 4
  have HL := Aside0.mk (show w.heap.size ≤ w1.heap.size from HB1.out.size)
  have HN := Aside0.mk (show w.heap.size + 1 < w1.heap.size from blk_lt HG1.out)
  clear hrun hmm hv2 hv3 hb2
  cases ok with
  | true =>
    have he := HE.out
    rw [if_pos rfl] at he
    injection he with e1 he; injection he with e2 he; injection he with e3 he; injection he with e4 he; injection he with e5 he; injection he with e6 e7
    subst e1 e2 e3 e4 e5 e6 e7
    go_wp2
    refine bodyPost_ret (results_ctt rfl _ _ (w.heap.size + 1) 26 #[.string y.f0, .string y.f1, .slice Y1 y.f2.length yc1, .slice Y2 y.f3.length yc2, .int .i64 y.f4] (0, 0) _ rfl ?hg Try.underlying26 rfl (by kernel_rfl)) rfl ?_
    case hg => exact blk_put (blk_put (blk_put (blk_put (blk_put (blk_alloc HG2.out _) 0 _ rfl) 1 _ rfl) 2 _ rfl) 3 _ rfl) 4 _ rfl
    have hne : ∀ q, w1.heap.size ≤ q → q ≠ w.heap.size + 1 := fun q hq => by have := HN.out; omega
    refine ⟨_, _, rfl, ?_, ?_, ?_⟩
    · exact Kd.R_mono (Kd.R_far (Kd.R_far (Kd.R_far (Kd.R_far (Kd.R_far (Kd.R_alloc (Kd.R_lower (Kd.R_mono (Kd.R_bound HV2.out) (fun q hq => hne q hq.2.1)) HL.out) _) (fun _ hk => hk) _) (fun _ hk => hk) _) (fun _ hk => hk) _) (fun _ hk => hk) _) (fun _ hk => hk) _) (fun _ _ => trivial)
    · exact Kd.R_mono (Kd.R_far (Kd.R_far (Kd.R_far (Kd.R_far (Kd.R_far (Kd.R_alloc (Kd.R_lower (Kd.R_mono (Kd.R_bound HV3.out) (fun q hq => (⟨hq.1, hne q hq.2.1⟩ : _ ∧ _))) HL.out) _) (fun _ hk => hk.2) _) (fun _ hk => hk.2) _) (fun _ hk => hk.2) _) (fun _ hk => hk.2) _) (fun _ hk => hk.2) _) (fun _ hk => hk.1)
    · exact below_set (below_set (below_set (below_set (below_set (below_alloc HB2.out _) (by omega)) (by omega)) (by omega)) (by omega)) (by omega)
  | false =>
    have he := HE.out
    rw [if_neg (show ¬ (false = true) by decide)] at he
    injection he with e1 he; injection he with e2 he; injection he with e3 he; injection he with e4 he; injection he with e5 he; injection he with e6 e7
    subst e1 e2 e3 e4 e5 e6 e7
    go_wp2
    refine bodyPost_ret (results_ctt rfl _ _ (w.heap.size + 1) 26 #[.string ⟨#[]⟩, .string ⟨#[]⟩, .slice none 0 0, .slice none 0 0, .int .i64 0] (0, 0) _ rfl ?hg Try.underlying26 rfl (by kernel_rfl)) rfl ?_
    case hg => repeat (first | (with_reducible exact HG2.out) | (with_reducible refine blk_alloc ?_ _) | refine blk_put (cs := #[.string ⟨#[]⟩, .string ⟨#[]⟩, .slice none 0 0, .slice none 0 0, .int .i64 0]) ?_ _ _ rfl)
    refine ⟨.slice none 0 0, .slice none 0 0, rfl, Kd.R_nil _ _ _ _ _, Kd.R_nil _ _ _ _ _, ?_⟩
    repeat (first | (with_reducible exact HB2.out) | (with_reducible apply below_alloc) | refine below_set ?_ (by omega))

end Go.Proofs.Ytlbcnklieefhmaa.PA
