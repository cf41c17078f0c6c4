-- Printed by this session's lawof.py: the law's row.
import Derived.Test.YtfodnfojepckfaaGreatRows
import Derived.Test.YtfodnfojepckfaaGreatGFields
import Derived.Test.YtfodnfojepckfaaGreatGLTwinOfNothing
import Derived.WalkKit
import Derived.ProofKit
import Derived.OpenShut
import Derived.ShutString
import Derived.ChangeOld
import Derived.Below
import Derived.SizedLaws
import Derived.Carry
namespace Go.Proofs.YtfodnfojepckfaaGreat.twinOfNothing
open Go.ChangeShapes Go.WideShapes Go.ChangeAt Go.RowKit Go.Proofs.YtfodnfojepckfaaGreat.GFields
open Go.ChangeMaps (open_string shut_string)
set_option linter.unusedVariables false
theorem own : ownKnob Tryz.prog.godebug = none := by kernel_rfl
theorem laidOut : laidOutB Tryz.prog = true := by kernel_rfl
set_option maxRecDepth 100000 in
theorem lifted (os : Os) (started : os.Started) (H : Type) (enc : TypeId × Value → H) :
    ReturnsInHanded {} Tryz.checked os 3 .any (Rows.twinOfNothingSpec.pre6 enc Tryz.prog Tryz.f3 Rows.twinOfNothingRow.domain false) (Rows.twinOfNothingSpec.post enc Tryz.prog Tryz.f3 false true false false) := by
  refine returnsInHanded_of_change_sized (C := Tryz.checked) own started (by kernel_rfl) Tryz.func3
    (ChangeSpec.witness6 (enc := enc) (C := Tryz.checked) false ⟨#[], #[.agg #[.int .i64 0, .string ByteArray.empty, .int .i64 0, .string ByteArray.empty, .int .i64 0]], []⟩ 8 (by kernel_rfl) (by kernel_rfl) (by kernel_rfl) (by kernel_rfl)) ?_
  intro W base args ds gs before hval0 hW hcnd hsz0 _
  have hval : ∀ (j : Nat) t v, Tryz.f3.params[j]? = some t → args[j]? = some v → Value.okWide Tryz.prog W .any base t v := hval0
  have hW' := hW
  obtain ⟨p, q, hA0, hV, rfl, hfz, hnd⟩ := hW
  have hA : DataW.TrodAll enc Tryz.prog W 0 (fun _ => true) true Tryz.f3.params.toList args.toList ds p := hA0
  rw [Tryz.params3] at hA hval
  obtain ⟨v0, vs0, d0, ds0, p0, q0, hargs, rfl, rfl, h0, r0⟩ := trodAll_cons hA
  obtain ⟨rfl, rfl, rfl⟩ := trodAll_nil r0
  obtain rfl : args = #[v0] := by cases args; simp_all
  obtain ⟨rfl, rfl⟩ := trodVars_none hV
  obtain ⟨cs0, rfl, hc0⟩ := okWide_struct Tryz.underlying23 (hval 0 23 v0 rfl rfl)
  have k0 := h0
  have lt0 : ∀ x ∈ p0, x.block < W.heap.size := by obtain ⟨m, hm⟩ := k0; exact DataW.trod_lt m _ _ _ hm
  have hc5 : Tryz.prog.cellsOf 23 = 5 := by kernel_rfl
  rw [hc5] at hc0
  obtain ⟨c0, c1, c2, c3, c4, rfl⟩ := five hc0
  obtain ⟨fuel, hf⟩ := h0
  obtain ⟨xs, m, _, _, _, hl, hr⟩ := DataW.trod_struct Tryz.underlying23 hf
  obtain ⟨b0, rfl⟩ := field_int hl hr 0 rfl rfl (by kernel_rfl) Tryz.underlying3 rfl
  obtain ⟨b1, rfl⟩ := field_str hl hr 1 rfl rfl (by kernel_rfl) Tryz.underlying9 rfl
  obtain ⟨b2, rfl⟩ := field_int hl hr 2 rfl rfl (by kernel_rfl) Tryz.underlying3 rfl
  obtain ⟨b3, rfl⟩ := field_str hl hr 3 rfl rfl (by kernel_rfl) Tryz.underlying9 rfl
  obtain ⟨b4, rfl⟩ := field_int hl hr 4 rfl rfl (by kernel_rfl) Tryz.underlying3 rfl
  clear hA0 hval0 hsz0
  refine (GEv.twinOfNothing_calls b0 b1 b2 b3 b4 W).mono ?_
  rintro e W' ⟨rfl, bel⟩
  exact ⟨_, rfl, _, _, _, [], _, [], hW', trodAll_mk1 (shut_bool Tryz.underlying4 _), (trodAll_cons_mk (Below.trod laidOut (by kernel_rfl) (of_decide_eq_true (by kernel_rfl)) k0 bel lt0) trodAll_mk0), rfl, bel.frame _, fun h => by cases h⟩
theorem over : Rows.twinOfNothingRow.holds Tryz.pinned (OpenSpec.ofChange Rows.twinOfNothingSpec) :=
  OpenClaim.holds_of_wide 3 Tryz.f3 rfl rfl rfl rfl rfl rfl rfl ⟨rfl, rfl, rfl, rfl, rfl⟩ rfl rfl rfl rfl rfl (by kernel_rfl) Tryz.func3 (by kernel_rfl)
    (of_decide_eq_true (by kernel_rfl)) (by unfold Func.isWrapper; first | (rw [if_pos (by decide +kernel)]; kernel_rfl) | (rw [if_neg (by decide +kernel)]; exact ⟨rfl, rfl⟩))
    (fun os started H enc _ => lifted os started H enc)
theorem proved : Rows.TwinOfNothingSaid := over
#print axioms proved
end Go.Proofs.YtfodnfojepckfaaGreat.twinOfNothing
namespace Go.Proofs.YtfodnfojepckfaaGreat
/-- The row, under a short name, for the claim. -/
theorem twinOfNothing_holds : Rows.TwinOfNothingSaid := twinOfNothing.proved
end Go.Proofs.YtfodnfojepckfaaGreat
