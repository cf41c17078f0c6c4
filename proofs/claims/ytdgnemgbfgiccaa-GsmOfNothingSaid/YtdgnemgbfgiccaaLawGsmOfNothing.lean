-- Printed by this session's lawof.py: the law's row.
import Derived.Test.YtdgnemgbfgiccaaRows
import Derived.Test.YtdgnemgbfgiccaaGFields
import Derived.Test.YtdgnemgbfgiccaaGLGsmOfNothing
import Derived.WalkKit
import Derived.ProofKit
import Derived.OpenShut
import Derived.ShutString
import Derived.ChangeOld
import Derived.Below
import Derived.SizedLaws
import Derived.Carry
namespace Go.Proofs.Ytdgnemgbfgiccaa.gsmOfNothing
open Go.ChangeShapes Go.WideShapes Go.ChangeAt Go.RowKit Go.Proofs.Ytdgnemgbfgiccaa.GFields
open Go.ChangeMaps (open_string shut_string)
set_option linter.unusedVariables false
theorem own : ownKnob Try.prog.godebug = none := by kernel_rfl
theorem laidOut : laidOutB Try.prog = true := by kernel_rfl
set_option maxRecDepth 100000 in
theorem lifted (os : Os) (started : os.Started) (H : Type) (enc : TypeId × Value → H) :
    ReturnsInHanded {} Try.checked os 7 .any (Rows.gsmOfNothingSpec.pre6 enc Try.prog Try.f7 Rows.gsmOfNothingRow.domain false) (Rows.gsmOfNothingSpec.post enc Try.prog Try.f7 false true false false) := by
  refine returnsInHanded_of_change_sized (C := Try.checked) own started (by kernel_rfl) Try.func7
    (ChangeSpec.witness6 (enc := enc) (C := Try.checked) false ⟨#[], #[.agg #[.int .i64 0, .string ByteArray.empty, .int .i64 0, .string ByteArray.empty, .int .i64 0], .int .i64 0], []⟩ 8 (by kernel_rfl) (by kernel_rfl) (by kernel_rfl) (by kernel_rfl)) ?_
  intro W base args ds gs before hval0 hW hcnd hsz0 _
  have hval : ∀ (j : Nat) t v, Try.f7.params[j]? = some t → args[j]? = some v → Value.okWide Try.prog W .any base t v := hval0
  have hW' := hW
  obtain ⟨p, q, hA0, hV, rfl, hfz, hnd⟩ := hW
  have hA : DataW.TrodAll enc Try.prog W 0 (fun _ => true) true Try.f7.params.toList args.toList ds p := hA0
  rw [Try.params7] at hA hval
  obtain ⟨v0, vs0, d0, ds0, p0, q0, hargs, rfl, rfl, h0, r0⟩ := trodAll_cons hA
  obtain ⟨v1, vs1, d1, ds1, p1, q1, rfl, rfl, rfl, h1, r1⟩ := trodAll_cons r0
  obtain ⟨rfl, rfl, rfl⟩ := trodAll_nil r1
  obtain rfl : args = #[v0, v1] := by cases args; simp_all
  obtain ⟨rfl, rfl⟩ := trodVars_none hV
  obtain ⟨cs0, rfl, hc0⟩ := okWide_struct Try.underlying47 (hval 0 47 v0 rfl rfl)
  have k0 := h0
  have lt0 : ∀ x ∈ p0, x.block < W.heap.size := by obtain ⟨m, hm⟩ := k0; exact DataW.trod_lt m _ _ _ hm
  have hc5 : Try.prog.cellsOf 47 = 5 := by kernel_rfl
  rw [hc5] at hc0
  obtain ⟨c0, c1, c2, c3, c4, rfl⟩ := five hc0
  obtain ⟨fuel, hf⟩ := h0
  obtain ⟨xs, m, _, _, _, hl, hr⟩ := DataW.trod_struct Try.underlying47 hf
  obtain ⟨b0, rfl⟩ := field_int hl hr 0 rfl rfl (by kernel_rfl) Try.underlying3 rfl
  obtain ⟨b1, rfl⟩ := field_str hl hr 1 rfl rfl (by kernel_rfl) Try.underlying9 rfl
  obtain ⟨b2, rfl⟩ := field_int hl hr 2 rfl rfl (by kernel_rfl) Try.underlying3 rfl
  obtain ⟨b3, rfl⟩ := field_str hl hr 3 rfl rfl (by kernel_rfl) Try.underlying9 rfl
  obtain ⟨b4, rfl⟩ := field_int hl hr 4 rfl rfl (by kernel_rfl) Try.underlying3 rfl
  obtain ⟨a1, rfl, rfl, rfl, w1⟩ := open_int Try.underlying3 (hval 1 3 v1 rfl rfl) h1
  clear hA0 hval0 hsz0
  refine (GEv.gsmOfNothing_calls b0 b1 b2 b3 b4 a1 W).mono ?_
  rintro e W' ⟨rfl, bel⟩
  exact ⟨_, rfl, _, _, _, [], _, [], hW', trodAll_mk1 (shut_bool Try.underlying4 _), (trodAll_cons_mk (Below.trod laidOut (by kernel_rfl) (of_decide_eq_true (by kernel_rfl)) k0 bel lt0) (trodAll_cons_mk (shut_int Try.underlying3 w1) trodAll_mk0)), rfl, bel.frame _, fun h => by cases h⟩
theorem over : Rows.gsmOfNothingRow.holds Try.pinned (OpenSpec.ofChange Rows.gsmOfNothingSpec) :=
  OpenClaim.holds_of_wide 7 Try.f7 rfl rfl rfl rfl rfl rfl rfl ⟨rfl, rfl, rfl, rfl, rfl⟩ rfl rfl rfl rfl rfl (by kernel_rfl) Try.func7 (by kernel_rfl)
    (of_decide_eq_true (by kernel_rfl)) (by unfold Func.isWrapper; first | (rw [if_pos (by decide +kernel)]; kernel_rfl) | (rw [if_neg (by decide +kernel)]; exact ⟨rfl, rfl⟩))
    (fun os started H enc _ => lifted os started H enc)
theorem proved : Rows.GsmOfNothingSaid := over
#print axioms proved
end Go.Proofs.Ytdgnemgbfgiccaa.gsmOfNothing
namespace Go.Proofs.Ytdgnemgbfgiccaa
/-- The row, under a short name, for the claim. -/
theorem gsmOfNothing_holds : Rows.GsmOfNothingSaid := gsmOfNothing.proved
end Go.Proofs.Ytdgnemgbfgiccaa
