import Derived.Test.YtfgemjpoiconbaaGreatDoorGXmzD
/- The reference's 'attr', by a symbolic run. -/
namespace Go.Proofs.YtfgemjpoiconbaaGreatDoor.GEv
open Go
set_option linter.unusedSimpArgs false
set_option linter.unusedVariables false
set_option maxRecDepth 100000
set_option maxHeartbeats 4000000
/-- Behind each '=' stands a mark. -/
def EqQ (s : Bs) : Prop := ∀ (i : Nat) (r : Bs), s.drop i = 61 :: r → ∃ r', r = 34 :: r'
theorem EqQ.rest {s : Bs} (h : EqQ s) {st : Rd} (he : st.err = 0) (hh : hasR s [61] st = true) : ∃ r, restS s (goS 1 st) = 34 :: r := by
  unfold hasR at hh
  simp only [he, decide_true, Bool.true_and, decide_eq_true_eq] at hh
  cases hd : s.drop st.at' with
  | nil => rw [hd] at hh; simp at hh
  | cons c r =>
    rw [hd] at hh
    have hc : c = 61 := by simpa using hh
    subst hc
    obtain ⟨r', hr⟩ := h _ _ hd
    refine ⟨r', ?_⟩
    show (if st.err = 0 then s.drop (st.at' + 1) else []) = _
    rw [if_pos he, ← List.drop_drop, hd, hr]
    rfl
attribute [local cbv_opaque] isString isSlice isBoolT fOff iSize eqNil zero H.load H.store H.push H.dip H.put List.length List.getD Nat.add Nat.sub Nat.mul List.take List.drop top Addr.add mixH restS isS failS goS mustS blanksN hasR qualR isQual byte cmpJ ariJ valueS dupA append
attribute [local cbv_eval] List.length_cons List.length_nil addr_add mixH_top
section
variable {E : Env} (hE : E = EMY)
include hE
end
end Go.Proofs.YtfgemjpoiconbaaGreatDoor.GEv

/- The reference's 'element' without kids, by a symbolic run. -/
namespace Go.Proofs.YtfgemjpoiconbaaGreatDoor.GEv
open Go
set_option linter.unusedSimpArgs false
set_option linter.unusedVariables false
set_option maxRecDepth 100000
set_option maxHeartbeats 4000000
theorem hasR_err {s p : Bs} {st : Rd} (h : hasR s p st = true) : st.err = 0 ∧ (s.drop st.at').take p.length = p := by
  unfold hasR at h
  simpa using h
theorem hasR_le {s p : Bs} {st : Rd} (h : hasR s p st = true) (hle : st.at' ≤ s.length) : (goS p.length st).at' ≤ s.length := by
  have := congrArg List.length (hasR_err h).2
  rw [List.length_take, List.length_drop] at this
  show st.at' + p.length ≤ _
  omega
attribute [local cbv_opaque] isString isSlice isBoolT fOff iSize eqNil zero H.load H.store H.push H.dip H.put List.length List.getD Nat.add Nat.sub Nat.mul List.take List.drop top Addr.add mixH restS isS failS goS mustS blanksN hasR qualR attrR isQual byte cmpJ ariJ valueS dupA append
attribute [local cbv_eval] List.length_cons List.length_nil addr_add mixH_top
section
variable {E : Env} (hE : E = EMY)
include hE
end
end Go.Proofs.YtfgemjpoiconbaaGreatDoor.GEv

/- The reference's 'Parse' of an element without kids, by a symbolic run. -/
namespace Go.Proofs.YtfgemjpoiconbaaGreatDoor.GEv
open Go
set_option linter.unusedSimpArgs false
set_option linter.unusedVariables false
set_option maxRecDepth 100000
set_option maxHeartbeats 4000000
/-- A reader is built of its text. -/
structure RrBuild (P : Program) (fs : Array Field) : Prop where
  u : P.underlying 63 = some (.struct fs)
  z : zero P 63 = some (.agg (rdC [] ⟨0, 0, 0, 0⟩).toArray)
  f : ∀ s : Bs, fillL (fun i => (fs[i]?).bind fun f => (sizeOf P f.type).map fun s => (f.offset, s)) (rdC [] ⟨0, 0, 0, 0⟩) [(0, .string ⟨⟨s⟩⟩)] = some (rdC s ⟨0, 0, 0, 0⟩)
  a : fs.toList.all (fun f => (sizeOf P f.type).isSome) = true
theorem rrBuild : ∃ fs, RrBuild EM.P fs := by
  have hu : EM.P.underlying 63 = some (.struct (fieldsOf (EM.P.underlying 63))) := by kernel_rfl
  have hp : ((fieldsOf (EM.P.underlying 63))[0]?).map (fun f => (f.offset, sizeOf EM.P f.type)) = some (0, some 1) := by kernel_rfl
  have ha : (fieldsOf (EM.P.underlying 63)).toList.all (fun f => (sizeOf EM.P f.type).isSome) = true := by kernel_rfl
  have hz : zero EM.P 63 = some (.agg (rdC [] ⟨0, 0, 0, 0⟩).toArray) := by kernel_rfl
  refine ⟨_, hu, hz, fun s => ?_, ha⟩
  simp only [fillL, place_of hp]
  rfl
theorem miscR_parts {s : Bs} {st ST : Rd} (h : miscR s st = some ST) : ST = goS (blanksN s st) st := by
  unfold miscR at h
  simp only at h
  split at h
  · cases h
  · simpa using h.symm
attribute [local cbv_opaque] isString isSlice isBoolT fOff iSize eqNil zero H.load H.store H.push H.dip H.put List.length List.getD Nat.add Nat.sub Nat.mul List.take List.drop top Addr.add mixH restS isS failS goS mustS blanksN hasR qualR attrR isQual byte cmpJ ariJ valueS dupA append miscR
attribute [local cbv_eval] List.length_cons List.length_nil addr_add mixH_top
section
variable {E : Env} (hE : E = EMY)
include hE
end
end Go.Proofs.YtfgemjpoiconbaaGreatDoor.GEv

