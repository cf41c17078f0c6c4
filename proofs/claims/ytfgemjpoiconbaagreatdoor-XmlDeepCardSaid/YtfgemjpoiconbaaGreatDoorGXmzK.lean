import Derived.Test.YtfgemjpoiconbaaGreatDoorGXmzG
/- The reference's reader of elements with kids and without attributes: what it computes; its 'end', by a symbolic run. -/
namespace Go.Proofs.YtfgemjpoiconbaaGreatDoor.GEv
open Go
set_option linter.unusedSimpArgs false
set_option linter.unusedVariables false
set_option maxRecDepth 100000
set_option maxHeartbeats 4000000
/-- An end tag (one that is no end tag is out of its scope). -/
def endK (s n : Bs) (st : Rd) : Option Rd :=
  if (qualR s (goS 2 st)).2.err = 0 ∧ (qualR s (goS 2 st)).1 = n then
    (if hasR s [62] (goS (blanksN s (qualR s (goS 2 st)).2) (qualR s (goS 2 st)).2) = true then some (goS 1 (goS (blanksN s (qualR s (goS 2 st)).2) (qualR s (goS 2 st)).2)) else none)
  else none
mutual
/-- An element, so deep (attributes are out of its scope). -/
def elK (s : Bs) : Nat → Nat → Rd → Option Rd
  | 0, _, _ => none
  | f + 1, d, st =>
    if hasR s [60] st = false then none else
    if 12 ≤ d ∨ 400 < st.elems + 1 then some (failS st.at' 4 { st with elems := st.elems + 1 }) else
    if (qualR s (goS 1 { st with elems := st.elems + 1 })).2.err ≠ 0 then none else
    if hasR s [47, 62] (goS (blanksN s (qualR s (goS 1 { st with elems := st.elems + 1 })).2) (qualR s (goS 1 { st with elems := st.elems + 1 })).2) = true then some (goS 2 (goS (blanksN s (qualR s (goS 1 { st with elems := st.elems + 1 })).2) (qualR s (goS 1 { st with elems := st.elems + 1 })).2)) else
    if hasR s [62] (goS (blanksN s (qualR s (goS 1 { st with elems := st.elems + 1 })).2) (qualR s (goS 1 { st with elems := st.elems + 1 })).2) = true then kidsK s f (qualR s (goS 1 { st with elems := st.elems + 1 })).1 d (goS 1 (goS (blanksN s (qualR s (goS 1 { st with elems := st.elems + 1 })).2) (qualR s (goS 1 { st with elems := st.elems + 1 })).2)) else none
/-- What stands in an element, with its end tag. -/
def kidsK (s : Bs) : Nat → Bs → Nat → Rd → Option Rd
  | 0, _, _, _ => none
  | f + 1, n, d, st =>
    if st.err ≠ 0 then some st else
    match miscR s st with
    | none => none
    | some st1 =>
      if hasR s [60, 47] st1 = true then endK s n st1 else
      if hasR s [60] st1 = true then (match elK s f (d + 1) st1 with
        | some st2 => kidsK s f n d st2
        | none => none) else none
end
def parseK (f : Nat) (s : Bs) : Option (Nat × Nat) :=
  if 8000 < s.length then some (0, 3) else
  match miscR s ⟨0, 0, 0, 0⟩ with
  | none => none
  | some st => match elK s f 0 st with
    | none => none
    | some st => match miscR s st with
      | none => none
      | some st =>
        let st := if st.err = 0 ∧ st.at' < s.length then failS st.at' 2 st else st
        if st.err = 0 then some (s.length, 0) else some (st.out, st.err)
theorem qualR_le {s : Bs} {st : Rd} (ha : st.at' ≤ s.length) : (qualR s st).2.at' ≤ s.length := by
  unfold qualR
  simp only
  split
  · have := tw_le signB (s.drop st.at')
    rw [List.length_drop] at this
    show st.at' + _ ≤ _
    omega
  · rw [fail_at]; exact ha
attribute [local cbv_opaque] isString isSlice isBoolT fOff iSize eqNil zero H.load H.store H.push H.dip H.put List.length List.getD Nat.add Nat.sub Nat.mul List.take List.drop top Addr.add mixH restS isS failS goS mustS blanksN hasR qualR attrR isQual byte cmpJ ariJ valueS dupA append
attribute [local cbv_eval] List.length_cons List.length_nil addr_add mixH_top
section
variable {E : Env} (hE : E = EMY)
include hE
theorem rEnd (b : Nat) (s n : Bs) (hs : s.length ≤ 100000) (st : Rd) (g0 h : H) (hr : IsRr g0 h b s st) (hh : hasR s [60, 47] st = true) (ha : st.at' ≤ s.length) (ST : Rd) (hsp : endK s n st = some ST) (K : Value → H → Prop) (hk : ∀ v h', IsRr g0 h' b s ST → ST.at' ≤ s.length → Keep b h h' → K v h') :
    CallP E 74 [.pointer (some ⟨b, 0, none⟩), .string ⟨⟨n⟩⟩] h K := by
  have T : TyOk E.P := by rw [hE]; exact tyOk
  have R : RrOk E.P := by rw [hE]; exact rrOk
  have n1 := fun st hbd h hr ha K hk => rBlanks hE b s (by omega) st hbd g0 h hr ha K hk
  have n2 := fun p hp st h hr ha K hk => rHas hE b s p hp (by omega) st g0 h hr ha K hk
  have n3 := fun st a e h hr K hk => rFail hE b s st a e g0 h hr K hk
  have n4 := fun st h hr ha K hk => rrQual hE b s (by omega) st g0 h hr ha K hk
  refine CallP.ofXE hE rfl Tryz.func74 rfl (Nat.le_of_ble_eq_true rfl) ?_
  clear hE
  have h2 := hasR_le hh ha
  have L1 := ld_one (P := E.P) (i := 1) T.iA T.iS (read_cells hr.ex rfl) rfl
  have S2 : h.store E.P 3 ⟨b, 1, none⟩ (.int .i64 (.ofNat (st.at' + 2))) = some (h.put b (some (rrO s (goS 2 st)))) := (st_one (P := E.P) (v := .int .i64 (.ofNat (st.at' + 2))) (i := 1) T.iS hr.ex (by simp) rfl rfl).trans rfl
  have r2 := hr.put (st' := goS 2 st)
  have k2 : Keep b h (h.put b (some (rrO s (goS 2 st)))) := (Keep.refl b h).put _
  generalize h.put b (some (rrO s (goS 2 st))) = m2 at S2 r2 k2
  unfold endK at hsp
  have h2 : (goS 2 st).at' ≤ s.length := h2
  have hla : st.at' + 2 ≤ s.length := h2
  generalize goS 2 st = st2 at hsp r2 h2
  have h3 := qualR_le h2
  cbv
  refine ⟨1, R.r1, ?_⟩
  cbv
  refine ⟨_, L1, ?_⟩
  cbv
  refine ⟨1, R.r1, ?_⟩
  cbv
  refine ⟨_, L1, ?_⟩
  cbv
  refine And.intro (by show st.at' + 2 ≤ _; omega) ?_
  refine ⟨1, R.r1, ?_⟩
  cbv
  refine ⟨_, S2, ?_⟩
  cbv
  refine .inl (n4 st2 _ r2 h2 _ (fun m3 r3 k3 => ?_))
  generalize qualR s st2 = qs at hsp h3 r3 ⊢
  obtain ⟨q, st3⟩ := qs
  have h3 : st3.at' ≤ s.length := h3
  have r3 : IsRr g0 m3 b s st3 := r3
  split at hsp
  · rename_i hc
    obtain ⟨e3, rfl⟩ : st3.err = 0 ∧ q = n := hc
    have k3' := k2.trans k3
    have L33 := ld_one (P := E.P) (i := 3) T.iA T.iS (read_cells r3.ex rfl) rfl
    have h4 := blanks_le (st := st3) h3
    cbv
    refine ⟨3, R.r3, ?_⟩
    cbv
    refine ⟨_, L33, ?_⟩
    cbv
    refine And.intro (fun _ => ?_) (fun q => absurd e3 q)
    cbv
    refine And.intro (fun _ => ?_) (fun q => absurd rfl q)
    cbv
    refine .inl (n1 st3 (by omega) _ r3 (fun _ => h3) _ (fun m4 r4 k4 => ?_))
    generalize goS (blanksN s st3) st3 = st4 at hsp r4 h4
    generalize decide (0 < blanksN s st3) = gd
    cbv
    refine .inl (n2 [62] (by simp) st4 _ r4 (fun _ => h4) _ (fun m5 r5 k5 => ?_))
    cases hg : hasR s [62] st4
    · rw [hg] at hsp
      cases hsp
    · rw [hg] at hsp
      simp only [if_true, Option.some.injEq] at hsp
      subst hsp
      have h6 := hasR_le hg h4
      have h6 : st4.at' + 1 ≤ s.length := h6
      have L5 := ld_one (P := E.P) (i := 1) T.iA T.iS (read_cells r5.ex rfl) rfl
      have S6 : m5.store E.P 3 ⟨b, 1, none⟩ (.int .i64 (.ofNat (st4.at' + 1))) = some (m5.put b (some (rrO s (goS 1 st4)))) := (st_one (P := E.P) (v := .int .i64 (.ofNat (st4.at' + 1))) (i := 1) T.iS r5.ex (by simp) rfl rfl).trans rfl
      have r6 := r5.put (st' := goS 1 st4)
      have k6 : Keep b h (m5.put b (some (rrO s (goS 1 st4)))) := (k3'.trans (k4.trans k5)).put _
      cbv
      refine ⟨1, R.r1, ?_⟩
      cbv
      refine ⟨_, L5, ?_⟩
      cbv
      refine And.intro (by show st4.at' + 1 ≤ _; omega) ?_
      refine ⟨1, R.r1, ?_⟩
      cbv
      refine ⟨_, S6, ?_⟩
      generalize m5.put b (some (rrO s (goS 1 st4))) = m6 at r6 k6
      cbv
      exact ⟨_, rfl, hk _ _ r6 h6 k6⟩
  · cases hsp
end
end Go.Proofs.YtfgemjpoiconbaaGreatDoor.GEv

/- The reference's 'element' with kids and without attributes, by a symbolic run. -/
namespace Go.Proofs.YtfgemjpoiconbaaGreatDoor.GEv
open Go
set_option linter.unusedSimpArgs false
set_option linter.unusedVariables false
set_option maxRecDepth 100000
set_option maxHeartbeats 4000000
/-! ### how many elements there were -/
theorem Sbr.qualR (s : Bs) (st : Rd) : Sbr st (qualR s st).2 := by
  unfold GEv.qualR
  simp only
  split
  · exact Sbr.go _ _
  · exact Sbr.fail _ _ _
theorem Sbr.endK {s n : Bs} {st ST : Rd} (h : endK s n st = some ST) : Sbr st ST := by
  unfold GEv.endK at h
  split at h
  · split at h
    · simp only [Option.some.injEq] at h
      subst h
      exact (Sbr.go 2 st).trans ((Sbr.qualR s _).trans ((Sbr.go _ _).trans (Sbr.go _ _)))
    · cases h
  · cases h
mutual
theorem elB_elK (s : Bs) : ∀ (f d : Nat) (st ST : Rd), ElB st → elK s f d st = some ST → ElB ST
  | 0, _, _, _, _, h => by simp [elK] at h
  | f + 1, d, st, ST, hb, h => by
    unfold elK at h
    split at h
    · cases h
    · rename_i hr
      have he : st.err = 0 := (hasR_err (by simpa using hr)).1
      have hb1 := hb.2 he
      split at h
      · simp only [Option.some.injEq] at h
        subst h
        simp only [failS, he, if_true]
        exact ⟨by show st.elems + 1 ≤ 401; omega, fun q => by cases q⟩
      · have b1 : ElB { st with elems := st.elems + 1 } := ⟨by show st.elems + 1 ≤ 401; omega, fun _ => by show st.elems + 1 ≤ 400; omega⟩
        have b2 := b1.sub ((Sbr.go 1 _).trans (Sbr.qualR s (goS 1 { st with elems := st.elems + 1 })))
        generalize GEv.qualR s (goS 1 { st with elems := st.elems + 1 }) = ks at h b2
        split at h
        · cases h
        · split at h
          · simp only [Option.some.injEq] at h
            subst h
            exact b2.sub ((Sbr.go _ _).trans (Sbr.go _ _))
          · split at h
            · exact elB_kK s f _ _ _ _ (b2.sub ((Sbr.go _ _).trans (Sbr.go _ _))) h
            · cases h
theorem elB_kK (s : Bs) : ∀ (f : Nat) (n : Bs) (d : Nat) (st ST : Rd), ElB st → kidsK s f n d st = some ST → ElB ST
  | 0, _, _, _, _, _, h => by simp [kidsK] at h
  | f + 1, n, d, st, ST, hb, h => by
    unfold kidsK at h
    split at h
    · simp only [Option.some.injEq] at h
      subst h
      exact hb
    · split at h
      · cases h
      · rename_i st1 hm
        have b1 : ElB st1 := by
          unfold miscR at hm
          simp only at hm
          split at hm
          · cases hm
          · simp only [Option.some.injEq] at hm
            subst hm
            exact hb.sub (Sbr.go _ _)
        split at h
        · exact b1.sub (Sbr.endK h)
        · split at h
          · split at h
            · rename_i st2 he
              exact elB_kK s f n d _ _ (elB_elK s f _ _ _ b1 he) h
            · cases h
          · cases h
end
/-! ### contracts -/
def ElKC (E : Env) (b : Nat) (s : Bs) (f : Nat) : Prop := ∀ (d : Nat) (st : Rd) (g0 h : H) (ST : Rd) (K : Value → H → Prop), d ≤ 12 → IsRr g0 h b s st → st.err = 0 → st.at' ≤ s.length → ElB st → elK s f d st = some ST →
  (∀ (c : List Value) h', c.length = 4 → c.all one = true → IsRr g0 h' b s ST → ST.at' ≤ s.length → Keep b h h' → K (.agg c.toArray) h') → CallP E 33 [.pointer (some ⟨b, 0, none⟩), .int .i64 (.ofNat d)] h K
def KsKC (E : Env) (b : Nat) (s : Bs) (f : Nat) : Prop := ∀ (n : Bs) (d : Nat) (st : Rd) (g0 h : H) (eb : Nat) (p : Int) (ST : Rd) (K : Value → H → Prop), d < 12 → IsRr g0 h b s st → st.at' ≤ s.length → ElB st → eb < h.next → eb ≠ b → g0.next ≤ eb →
  h.m.get eb = some (boxO [.string ⟨⟨n⟩⟩, .slice none 0 0, .slice none 0 0, .int .i64 p]) → kidsK s f n d st = some ST →
  (∀ v h' vk, IsRr g0 h' b s ST → ST.at' ≤ s.length → h.next ≤ h'.next → (∀ r, r < h.next → r ≠ b → r ≠ eb → h'.m.get r = h.m.get r) → h'.m.get eb = some (boxO [.string ⟨⟨n⟩⟩, .slice none 0 0, vk, .int .i64 p]) → one vk = true → K v h') →
  CallP E 56 [.pointer (some ⟨b, 0, none⟩), .pointer (some ⟨eb, 0, none⟩), .int .i64 (.ofNat d)] h K
attribute [local cbv_opaque] isString isSlice isBoolT fOff iSize eqNil zero H.load H.store H.push H.dip H.put List.length List.getD Nat.add Nat.sub Nat.mul List.take List.drop top Addr.add mixH restS isS failS goS mustS blanksN hasR qualR attrR isQual byte cmpJ ariJ valueS dupA append
attribute [local cbv_eval] List.length_cons List.length_nil addr_add mixH_top
theorem rElemK {E : Env} (hE : E = EMY) (b : Nat) (s : Bs) (hs : s.length ≤ 100000) (f : Nat) (ih : KsKC E b s f) : ElKC E b s (f + 1) := by
  intro d st g0 h ST K hd hr he ha hbb hsp hk
  have T : TyOk E.P := by rw [hE]; exact tyOk
  have R : RrOk E.P := by rw [hE]; exact rrOk
  have zE : zero E.P 25 = some (.agg #[.string ⟨⟨[]⟩⟩, .slice none 0 0, .slice none 0 0, .int .i64 0]) := by rw [hE]; exact zElem
  obtain ⟨fs, EB⟩ : ∃ fs, ElBuild E.P fs := by rw [hE]; exact elBuild
  have n1 := fun st hbd h hr ha K hk => rBlanks hE b s (by omega) st hbd g0 h hr ha K hk
  have n2 := fun p hp st h hr ha K hk => rHas hE b s p hp (by omega) st g0 h hr ha K hk
  have n3 := fun st a e h hr K hk => rFail hE b s st a e g0 h hr K hk
  have n4 := fun st h hr ha K hk => rrQual hE b s (by omega) st g0 h hr ha K hk
  refine CallP.ofXE hE rfl Tryz.func33 rfl (Nat.le_of_ble_eq_true rfl) ?_
  clear hE
  have hel := hbb.2 he
  have hbh := hr.lt
  have hgb := hr.ge
  cbv
  refine ⟨_, zE, ?_⟩
  have g1 : Grows h (h.push (boxO zC)) := (Grows.refl h).push _
  have B1 : (h.push (boxO zC)).m.get h.next = some (boxO zC) := box_get _ _
  have N1 : (h.push (boxO zC)).next = h.next + 1 := rfl
  cbv
  generalize hm1 : h.push _ = m1
  have g1 : Grows h m1 := by subst hm1; exact g1
  have B1 : m1.m.get h.next = some (boxO zC) := by subst hm1; exact B1
  have N1 : m1.next = h.next + 1 := by subst hm1; exact N1
  clear hm1
  have r1 : IsRr g0 m1 b s st := ⟨by omega, hgb, hr.gr.trans g1, (g1.keep b hbh).trans hr.ex⟩
  have L1 := ld_one (P := E.P) (i := 1) T.iA T.iS (read_cells r1.ex rfl) rfl
  refine ⟨1, R.r1, ?_⟩
  cbv
  refine ⟨_, L1, ?_⟩
  cbv
  refine raw_build rfl zE EB.u (EB.f _) EB.a ?_
  cbv
  refine ⟨_, zE, ?_⟩
  cbv
  have S2 : (m1.push (boxO zC)).store E.P 25 ⟨m1.next, 0, none⟩ (.agg (elC [] none 0 0 none 0 0 st.at').toArray) = some ((m1.push (boxO zC)).put m1.next (some (boxO (elC [] none 0 0 none 0 0 st.at')))) := st_agg T.eS (box_get _ _) rfl rfl rfl
  refine ⟨_, S2, ?_⟩
  obtain ⟨_, g2, B2, N2⟩ := laid g1 (boxO zC) (elC [] none 0 0 none 0 0 st.at') (some 25) true
  generalize (m1.push (boxO zC)).put m1.next (some (boxO (elC [] none 0 0 none 0 0 st.at'))) = m2 at g2 B2 N2 ⊢
  clear S2
  have r2 : IsRr g0 m2 b s st := ⟨by omega, hgb, r1.gr.trans g2, (g2.keep b (by omega)).trans r1.ex⟩
  have Z2 : m2.m.get h.next = some (boxO zC) := (g2.keep h.next (by omega)).trans B1
  have k2 : Keep b h m2 := (Keep.of g1).trans (.of g2)
  have nb4 : h.next ≠ b := by omega
  have nb5 : m1.next ≠ b := by omega
  have fin : ∀ (m : H) (C : List Value), m.m.get h.next = some (boxO zC) → C.length = 4 → C.all one = true → IsRr g0 m b s ST → ST.at' ≤ s.length → Keep b h m → ∃ h', m.store E.P 25 ⟨h.next, 0, none⟩ (.agg C.toArray) = some h' ∧ h'.load E.P 25 ⟨h.next, 0, none⟩ = some (.agg C.toArray) ∧ K (.agg C.toArray) h' := by
    intro m C q1 q2 q3 q4 q5 q6
    have G : ∀ r, r ≠ h.next → (m.put h.next (some (boxO C))).m.get r = m.m.get r := fun r hr => by rw [put_get, if_neg hr]
    refine ⟨m.put h.next (some (boxO C)), st_agg T.eS q1 rfl q2 q3, ld_agg T.eA T.eS (read_cells (by rw [put_get, if_pos rfl]) q2), hk C _ q2 q3 ⟨q4.lt, q4.ge, q4.gr.put (by have := hr.gr.next; omega) _, (G b (fun q => nb4 q.symm)).trans q4.ex⟩ q5 ⟨q6.next, fun c hc hcb => (G c (by omega)).trans (q6.keep c hc hcb)⟩⟩
  unfold elK at hsp
  cbv
  cases hh : hasR s [60] st
  · rw [hh] at hsp
    cases hsp
  rw [hh] at hsp
  simp only [Bool.true_eq_false, if_false] at hsp
  refine .inl (n2 [60] (by simp) st _ r2 (fun _ => ha) _ (fun m3 r3 k3 => ?_))
  rw [hh]
  have L2 := ld_one (P := E.P) (i := 2) T.iA T.iS (read_cells r3.ex rfl) rfl
  have S4 : m3.store E.P 3 ⟨b, 2, none⟩ (.int .i64 (.ofNat (st.elems + 1))) = some (m3.put b (some (rrO s { st with elems := st.elems + 1 }))) := (st_one (P := E.P) (v := .int .i64 (.ofNat (st.elems + 1))) (i := 2) T.iS r3.ex (by simp) rfl rfl).trans rfl
  have r5 := r3.put (st' := { st with elems := st.elems + 1 })
  have k5 : Keep b m2 (m3.put b (some (rrO s { st with elems := st.elems + 1 }))) := k3.put _
  generalize m3.put b (some (rrO s { st with elems := st.elems + 1 })) = m5 at S4 r5 k5
  have L25 := ld_one (P := E.P) (i := 2) T.iA T.iS (read_cells r5.ex rfl) rfl
  have L15 := ld_one (P := E.P) (i := 1) T.iA T.iS (read_cells r5.ex rfl) rfl
  have bail : 12 ≤ d ∨ 400 < st.elems + 1 → ∀ m6 : H, IsRr g0 m6 b s (failS st.at' 4 { st with elems := st.elems + 1 }) → Keep b m5 m6 → m6.load E.P 25 ⟨m1.next, 0, none⟩ = some (.agg (elC [] none 0 0 none 0 0 st.at').toArray) ∧ ∃ h', m6.store E.P 25 ⟨h.next, 0, none⟩ (.agg (elC [] none 0 0 none 0 0 st.at').toArray) = some h' ∧ h'.load E.P 25 ⟨h.next, 0, none⟩ = some (.agg (elC [] none 0 0 none 0 0 st.at').toArray) ∧ K (.agg (elC [] none 0 0 none 0 0 st.at').toArray) h' := by
    intro hq m6 r6 k6
    rw [if_pos hq] at hsp
    simp only [Option.some.injEq] at hsp
    subst hsp
    have k6' := k5.trans k6
    exact ⟨ld_agg (P := E.P) T.eA T.eS (read_cells ((k6'.keep m1.next N2 nb5).trans B2) rfl), fin m6 (elC [] none 0 0 none 0 0 st.at') ((k6'.keep h.next (by omega) nb4).trans Z2) rfl rfl r6 (by rw [fail_at]; exact ha) (k2.trans k6')⟩
  cbv
  refine ⟨2, R.r2, ?_⟩
  cbv
  refine ⟨_, L2, ?_⟩
  cbv
  refine And.intro (by show st.elems + 1 ≤ _; omega) ?_
  refine ⟨2, R.r2, ?_⟩
  cbv
  refine ⟨_, S4, ?_⟩
  cbv
  refine And.intro (fun e12 => ?_) (fun e12 => ?_)
  · have e12 : 12 ≤ d := e12
    cbv
    refine ⟨1, R.r1, ?_⟩
    cbv
    refine ⟨_, L15, ?_⟩
    cbv
    refine .inl (n3 { st with elems := st.elems + 1 } st.at' 4 _ r5 _ (fun v6 m6 r6 k6 => ?_))
    obtain ⟨L6, h', q1, q2, q3⟩ := bail (.inl e12) m6 r6 k6
    cbv
    refine ⟨_, L6, ?_⟩
    cbv
    refine ⟨_, q1, ?_⟩
    cbv
    exact ⟨_, res_cell rfl q2, q3⟩
  have e12 : d < 12 := e12
  cbv
  refine ⟨2, R.r2, ?_⟩
  cbv
  refine ⟨_, L25, ?_⟩
  cbv
  refine And.intro (fun e4 => ?_) (fun e4 => ?_)
  · have e4 : 400 < st.elems + 1 := e4
    cbv
    refine ⟨1, R.r1, ?_⟩
    cbv
    refine ⟨_, L15, ?_⟩
    cbv
    refine .inl (n3 { st with elems := st.elems + 1 } st.at' 4 _ r5 _ (fun v6 m6 r6 k6 => ?_))
    obtain ⟨L6, h', q1, q2, q3⟩ := bail (.inr e4) m6 r6 k6
    cbv
    refine ⟨_, L6, ?_⟩
    cbv
    refine ⟨_, q1, ?_⟩
    cbv
    exact ⟨_, res_cell rfl q2, q3⟩
  have e4 : st.elems + 1 ≤ 400 := e4
  clear bail
  rw [if_neg (by omega)] at hsp
  have hlen : st.at' + 1 ≤ s.length := hasR_le hh ha
  have S6 : m5.store E.P 3 ⟨b, 1, none⟩ (.int .i64 (.ofNat (st.at' + 1))) = some (m5.put b (some (rrO s (goS 1 { st with elems := st.elems + 1 })))) := (st_one (P := E.P) (v := .int .i64 (.ofNat (st.at' + 1))) (i := 1) T.iS r5.ex (by simp) rfl rfl).trans rfl
  have r6 := r5.put (st' := goS 1 { st with elems := st.elems + 1 })
  have k6 : Keep b m2 (m5.put b (some (rrO s (goS 1 { st with elems := st.elems + 1 })))) := k5.put _
  generalize m5.put b (some (rrO s (goS 1 { st with elems := st.elems + 1 }))) = m6 at S6 r6 k6
  have h6 : (goS 1 { st with elems := st.elems + 1 }).at' ≤ s.length := hlen
  have bb6 : ElB (goS 1 { st with elems := st.elems + 1 }) := ⟨by show st.elems + 1 ≤ 401; omega, fun _ => by show st.elems + 1 ≤ 400; omega⟩
  cbv
  refine ⟨1, R.r1, ?_⟩
  cbv
  refine ⟨_, L15, ?_⟩
  cbv
  refine And.intro (by show st.at' + 1 ≤ _; omega) ?_
  refine ⟨1, R.r1, ?_⟩
  cbv
  refine ⟨_, S6, ?_⟩
  generalize goS 1 { st with elems := st.elems + 1 } = st6 at hsp r6 h6 bb6
  clear L15 L25 r5 k5 S6
  have h7 := qualR_le h6
  have bb7 := bb6.sub (Sbr.qualR s st6)
  cbv
  refine .inl (n4 st6 _ r6 h6 _ (fun m7 r7 k7 => ?_))
  generalize qualR s st6 = qs at hsp h7 r7 bb7 ⊢
  obtain ⟨n, st7⟩ := qs
  have r7 : IsRr g0 m7 b s st7 := r7
  have h7 : st7.at' ≤ s.length := h7
  have bb7 : ElB st7 := bb7
  simp only at hsp
  have q0 : st7.err = 0 := by
    by_cases q : st7.err = 0
    · exact q
    · rw [if_pos q] at hsp
      cases hsp
  rw [if_neg (fun q => q q0)] at hsp
  have k7' := k6.trans k7
  have B7 := (k7'.keep m1.next N2 nb5).trans B2
  have Z7 := (k7'.keep h.next (by omega) nb4).trans Z2
  have n27 := k7'.next
  have S8 : m7.store E.P 9 ⟨m1.next, 0, none⟩ (.string ⟨⟨n⟩⟩) = some (m7.put m1.next (some (boxO (elC n none 0 0 none 0 0 st.at')))) := (st_one (P := E.P) (v := .string ⟨⟨n⟩⟩) (i := 0) T.sS B7 (by simp) rfl rfl).trans rfl
  -- a field of the element is written
  have wr : ∀ (m : H) (st' : Rd) (c : List Value), IsRr g0 m b s st' → Keep b h m → m.m.get h.next = some (boxO zC) → IsRr g0 (m.put m1.next (some (boxO c))) b s st' ∧ Keep b h (m.put m1.next (some (boxO c))) ∧ (m.put m1.next (some (boxO c))).m.get m1.next = some (boxO c) ∧ (m.put m1.next (some (boxO c))).m.get h.next = some (boxO zC) ∧ (∀ r, r ≠ m1.next → (m.put m1.next (some (boxO c))).m.get r = m.m.get r) := by
    intro m st' c q1 q2 q3
    have G : ∀ r, r ≠ m1.next → (m.put m1.next (some (boxO c))).m.get r = m.m.get r := fun r hr => by rw [put_get, if_neg hr]
    exact ⟨⟨q1.lt, q1.ge, q1.gr.put (by have := hr.gr.next; omega) _, (G b (fun q => nb5 q.symm)).trans q1.ex⟩, ⟨q2.next, fun r hr hrb => (G r (by omega)).trans (q2.keep r hr hrb)⟩, by rw [put_get, if_pos rfl], (G _ (by omega)).trans q3, G⟩
  obtain ⟨r8, k8, B8, Z8, G8⟩ := wr m7 st7 (elC n none 0 0 none 0 0 st.at') r7 (k2.trans k7') Z7
  have N8 : (m7.put m1.next (some (boxO (elC n none 0 0 none 0 0 st.at')))).next = m7.next := rfl
  cbv
  refine ⟨0, T.e0, ?_⟩
  cbv
  refine ⟨_, S8, ?_⟩
  generalize m7.put m1.next (some (boxO (elC n none 0 0 none 0 0 st.at'))) = m at S8 r8 k8 B8 Z8 G8 N8
  cbv
  refine LoopP.onX (fun x : Unit => [(5, .pointer (some ⟨m1.next, 0, none⟩)), (4, .pointer (some ⟨h.next, 0, none⟩)), (0, .pointer (some ⟨b, 0, none⟩)), (1, .int .i64 (.ofNat d))]) (fun x => m) (fun x => True) (fun x => 0) () rfl (Less.cons rfl (Less.cons rfl (Less.cons rfl (Less.cons rfl (Less.nil _))))) trivial ?_
  intro _ _
  -- the end, with the row as it is
  have endE : ∀ m', Keep b m m' → ∀ sz, IsRr g0 m' b s sz → sz = ST → sz.at' ≤ s.length → ∃ h', m'.load E.P 25 ⟨m1.next, 0, none⟩ = some (.agg (elC n none 0 0 none 0 0 st.at').toArray) ∧ m'.store E.P 25 ⟨h.next, 0, none⟩ (.agg (elC n none 0 0 none 0 0 st.at').toArray) = some h' ∧ h'.load E.P 25 ⟨h.next, 0, none⟩ = some (.agg (elC n none 0 0 none 0 0 st.at').toArray) ∧ K (.agg (elC n none 0 0 none 0 0 st.at').toArray) h' := by
    intro m' q sz q1 q2 q4
    subst q2
    have B := (q.keep m1.next (by omega) nb5).trans B8
    obtain ⟨h', p1, p2, p3⟩ := fin m' (elC n none 0 0 none 0 0 st.at') ((q.keep h.next (by omega) nb4).trans Z8) rfl rfl q1 q4 (k8.trans q)
    exact ⟨h', ld_agg T.eA T.eS (read_cells B rfl), p1, p2, p3⟩
  have L3 := ld_one (P := E.P) (i := 3) T.iA T.iS (read_cells r8.ex rfl) rfl
  cbv
  refine ⟨3, R.r3, ?_⟩
  cbv
  refine ⟨_, L3, ?_⟩
  cbv
  refine And.intro (fun _ => ?_) (fun q => absurd q0 q)
  have hbl := blanks_le (st := st7) h7
  have bbl := bb7.sub (Sbr.go (blanksN s st7) st7)
  cbv
  refine .inl (n1 st7 (by omega) _ r8 (fun _ => h7) _ (fun m3 r3 k3 => ?_))
  generalize goS (blanksN s st7) st7 = sy at hsp r3 hbl bbl
  generalize decide (0 < blanksN s st7) = gd
  cbv
  refine .inl (n2 [47, 62] (by simp) sy _ r3 (fun _ => hbl) _ (fun m4 r4 k4 => ?_))
  cases hh1 : hasR s [47, 62] sy
  · rw [hh1] at hsp
    simp only [Bool.false_eq_true, if_false] at hsp
    cbv
    refine .inl (n2 [62] (by simp) sy _ r4 (fun _ => hbl) _ (fun m5 r5 k5 => ?_))
    cases hh2 : hasR s [62] sy
    · rw [hh2] at hsp
      simp at hsp
    · rw [hh2] at hsp
      simp only [if_true] at hsp
      have kk5 := k3.trans (k4.trans k5)
      have hle2 := hasR_le hh2 hbl
      have L15 := ld_one (P := E.P) (i := 1) T.iA T.iS (read_cells r5.ex rfl) rfl
      have S6 : m5.store E.P 3 ⟨b, 1, none⟩ (.int .i64 (.ofNat (sy.at' + 1))) = some (m5.put b (some (rrO s (goS 1 sy)))) := (st_one (P := E.P) (v := .int .i64 (.ofNat (sy.at' + 1))) (i := 1) T.iS r5.ex (by simp) rfl rfl).trans rfl
      have r6 := r5.put (st' := goS 1 sy)
      have k6 : Keep b m (m5.put b (some (rrO s (goS 1 sy)))) := kk5.put _
      have bb6 := bbl.sub (Sbr.go 1 sy)
      have hle2 : (goS 1 sy).at' ≤ s.length := hle2
      generalize m5.put b (some (rrO s (goS 1 sy))) = m6 at S6 r6 k6
      cbv
      refine ⟨1, R.r1, ?_⟩
      cbv
      refine ⟨_, L15, ?_⟩
      cbv
      refine And.intro (by show sy.at' + 1 ≤ _; omega) ?_
      refine ⟨1, R.r1, ?_⟩
      cbv
      refine ⟨_, S6, ?_⟩
      generalize goS 1 sy = sz at hsp r6 bb6 hle2
      have B6 := (k6.keep m1.next (by omega) nb5).trans B8
      have Z6 := (k6.keep h.next (by omega) nb4).trans Z8
      have n6 := k6.next
      cbv
      refine .inl (ih n d sz g0 m6 m1.next st.at' ST _ e12 r6 hle2 bb6 (by omega) nb5 (by have := hr.gr.next; omega) B6 hsp (fun v m7' vk r7' a7 n7 k7' B7' o7 => ?_))
      have kk7 : Keep b h m7' := ⟨by have := k8.next; omega, fun r p1 p2 => (k7' r (by have := k8.next; omega) p2 (by omega)).trans ((k8.trans k6).keep r p1 p2)⟩
      obtain ⟨h', q1, q2, q3⟩ := fin m7' [.string ⟨⟨n⟩⟩, .slice none 0 0, vk, .int .i64 st.at'] ((k7' h.next (by omega) nb4 (by omega)).trans Z6) rfl (by show (true && (true && (one vk && (true && true)))) = true; rw [o7]; rfl) r7' a7 kk7
      have L7 := ld_agg (P := E.P) T.eA T.eS (read_cells B7' rfl)
      cbv
      refine ⟨_, L7, ?_⟩
      cbv
      refine ⟨_, q1, ?_⟩
      cbv
      exact ⟨_, res_cell rfl q2, q3⟩
  · rw [hh1] at hsp
    simp only [if_true, Option.some.injEq] at hsp
    have hle2 := hasR_le hh1 hbl
    have L14 := ld_one (P := E.P) (i := 1) T.iA T.iS (read_cells r4.ex rfl) rfl
    have S5 : m4.store E.P 3 ⟨b, 1, none⟩ (.int .i64 (.ofNat (sy.at' + 2))) = some (m4.put b (some (rrO s (goS 2 sy)))) := (st_one (P := E.P) (v := .int .i64 (.ofNat (sy.at' + 2))) (i := 1) T.iS r4.ex (by simp) rfl rfl).trans rfl
    have r5 := r4.put (st' := goS 2 sy)
    have k5 : Keep b m (m4.put b (some (rrO s (goS 2 sy)))) := (k3.trans k4).put _
    generalize m4.put b (some (rrO s (goS 2 sy))) = m5 at S5 r5 k5
    obtain ⟨h', p1, p2, p3, p4⟩ := endE m5 k5 (goS 2 sy) r5 hsp hle2
    cbv
    refine ⟨1, R.r1, ?_⟩
    cbv
    refine ⟨_, L14, ?_⟩
    cbv
    refine And.intro (by show sy.at' + 2 ≤ _; omega) ?_
    refine ⟨1, R.r1, ?_⟩
    cbv
    refine ⟨_, S5, ?_⟩
    cbv
    refine ⟨_, p1, ?_⟩
    cbv
    refine ⟨_, p2, ?_⟩
    cbv
    exact ⟨_, res_cell rfl p3, p4⟩
end Go.Proofs.YtfgemjpoiconbaaGreatDoor.GEv

/- The reference's 'kids', by a symbolic run. -/
namespace Go.Proofs.YtfgemjpoiconbaaGreatDoor.GEv
open Go
set_option linter.unusedSimpArgs false
set_option linter.unusedVariables false
set_option maxRecDepth 100000
set_option maxHeartbeats 4000000
theorem miscR_is {s : Bs} {st ST : Rd} (h : miscR s st = some ST) : ST = goS (blanksN s st) st := by
  unfold miscR at h
  simp only at h
  split at h
  · cases h
  · simpa using h.symm
/-- The last of a row's cells is written. -/
theorem st_end {P : Program} {h : H} {t : TypeId} {b n o : Nat} {c z d : List Value} {e : Option TypeId} {f : Bool} (hs : sizeOf P t = some n) (hg : h.m.get b = some (.cells (c ++ z) e f 0)) (hc : c.length = o) (hz : z.length = n) (hd : d.length = n) (ho : d.all one = true) : h.store P t ⟨b, o, none⟩ (.agg d.toArray) = some (h.put b (some (.cells (c ++ d) e f 0))) := by
  have e1 : (Value.agg d.toArray).cells.toList = d := rfl
  unfold H.store H.write
  simp only [hs, e1, hg]
  rw [if_pos hd, if_pos ⟨Nat.zero_le _, by rw [List.length_append]; omega⟩, if_pos ho]
  have e2 : over (c ++ z) o d = c ++ d := by
    unfold over
    subst hc
    rw [List.take_left', List.drop_eq_nil_of_le (by rw [List.length_append]; omega)]
    · simp
    · rfl
  rw [e2]
attribute [local cbv_opaque] isString isSlice isBoolT fOff iSize eqNil zero H.load H.store H.push H.dip H.put List.length List.getD Nat.add Nat.sub Nat.mul List.take List.drop top Addr.add mixH restS isS failS goS mustS blanksN hasR qualR attrR isQual byte cmpJ ariJ valueS dupA append
attribute [local cbv_eval] List.length_cons List.length_nil addr_add mixH_top
theorem rKidsK {E : Env} (hE : E = EMY) (b : Nat) (s : Bs) (hs : s.length ≤ 100000) (f0 : Nat) (hf0 : f0 ≤ 10000) (ih : ∀ f, f < f0 → ElKC E b s f) : KsKC E b s f0 := by
  intro n d st g0 h eb p ST K hd hr ha hbb hebn hebb hgeb B hsp hk
  have T : TyOk E.P := by rw [hE]; exact tyOk
  have R : RrOk E.P := by rw [hE]; exact rrOk
  have RT : RowT E.P 23 25 4 := by rw [hE]; exact rowElem
  have zE : zero E.P 25 = some (.agg #[.string ⟨⟨[]⟩⟩, .slice none 0 0, .slice none 0 0, .int .i64 0]) := by rw [hE]; exact zElem
  have n1 := fun st hbd h hr ha ST hm K hk => rMisc hE b s (by omega) st hbd g0 h hr ha ST hm K hk
  have n2 := fun p hp st h hr ha K hk => rHas hE b s p hp (by omega) st g0 h hr ha K hk
  have n5 := fun n st h hr hh ha ST hsp K hk => rEnd hE b s n hs st g0 h hr hh ha ST hsp K hk
  refine CallP.ofXE hE rfl Tryz.func56 rfl (Nat.le_of_ble_eq_true rfl) ?_
  clear hE
  have hbh := hr.lt
  have hgb := hr.ge
  cbv
  refine LoopP.onX (fun x : H × Rd × Nat × List (List Value) × Value => [(0, .pointer (some ⟨b, 0, none⟩)), (1, .pointer (some ⟨eb, 0, none⟩)), (2, .int .i64 (.ofNat d))]) (fun x => x.1) (fun x => IsRr g0 x.1 b s x.2.1 ∧ x.2.1.at' ≤ s.length ∧ ElB x.2.1 ∧ h.next ≤ x.1.next ∧ (∀ r, r < h.next → r ≠ b → r ≠ eb → x.1.m.get r = h.m.get r) ∧ x.1.m.get eb = some (boxO [.string ⟨⟨n⟩⟩, .slice none 0 0, x.2.2.2.2, .int .i64 p]) ∧ IsRow x.1 h.next 25 4 x.2.2.2.1 x.2.2.2.2 ∧ x.2.2.2.1.length + x.2.2.1 ≤ f0 ∧ kidsK s x.2.2.1 n d x.2.1 = some ST) (fun x => x.2.2.1) (h, st, f0, [], .slice none 0 0) rfl (Less.cons rfl (Less.cons rfl (Less.cons rfl (Less.nil _)))) ⟨hr, ha, hbb, Nat.le_refl _, fun _ _ _ _ => rfl, B, IsRow.nil _ _ _ _, (by show 0 + f0 ≤ f0; omega), hsp⟩ ?_
  rintro ⟨m, sx, f, cs, vk⟩ ⟨i1, i2, i3, i4, i5, i6, i7, i8, i9⟩
  have i1 : IsRr g0 m b s sx := i1
  have i2 : sx.at' ≤ s.length := i2
  have i3 : ElB sx := i3
  have i4 : h.next ≤ m.next := i4
  have i5 : ∀ r, r < h.next → r ≠ b → r ≠ eb → m.m.get r = h.m.get r := i5
  have i6 : m.m.get eb = some (boxO [.string ⟨⟨n⟩⟩, .slice none 0 0, vk, .int .i64 p]) := i6
  have i7 : IsRow m h.next 25 4 cs vk := i7
  have i8 : cs.length + f ≤ f0 := i8
  have i9 : kidsK s f n d sx = some ST := i9
  obtain ⟨aa, ac, hv, hns⟩ : ∃ a c, vk = .slice a cs.length c ∧ NoSpot a := by
    rcases i7.ex with ⟨q1, q2⟩ | ⟨r, q1, _⟩
    · subst q1
      exact ⟨_, _, q2, fun x q => by cases q⟩
    · exact ⟨_, _, q1, fun x q => by cases q; rfl⟩
  subst hv
  have L3 := ld_one (P := E.P) (i := 3) T.iA T.iS (read_cells i1.ex rfl) rfl
  cases f with
  | zero => simp [kidsK] at i9
  | succ f =>
  unfold kidsK at i9
  cbv
  refine ⟨3, R.r3, ?_⟩
  cbv
  refine ⟨_, L3, ?_⟩
  cbv
  refine And.intro (fun q0 => ?_) (fun q0 => ?_)
  · have q0 : sx.err = 0 := q0
    rw [if_neg (fun q => q q0)] at i9
    cases hm : miscR s sx with
    | none => rw [hm] at i9; cases i9
    | some sy =>
    rw [hm] at i9
    have hsy := miscR_is hm
    have h3 : sy.at' ≤ s.length := by rw [hsy]; exact blanks_le i2
    have e3 : sy.err = 0 := by rw [hsy]; exact q0
    have b3 : ElB sy := by rw [hsy]; exact i3.sub (Sbr.go _ _)
    simp only at i9
    clear hsy
    cbv
    refine .inl (n1 sx (by omega) _ i1 (fun _ => i2) sy hm _ (fun v3 m3 r3 k3 => ?_))
    have L33 := ld_one (P := E.P) (i := 3) T.iA T.iS (read_cells r3.ex rfl) rfl
    cbv
    refine ⟨3, R.r3, ?_⟩
    cbv
    refine ⟨_, L33, ?_⟩
    cbv
    refine And.intro (fun _ => ?_) (fun q => absurd e3 q)
    cbv
    refine .inl (n2 [60, 47] (by simp) sy _ r3 (fun _ => h3) _ (fun m4 r4 k4 => ?_))
    have k4' := k3.trans k4
    cases hh1 : hasR s [60, 47] sy
    · rw [hh1] at i9
      simp only [Bool.false_eq_true, if_false] at i9
      cbv
      refine .inl (n2 [60] (by simp) sy _ r4 (fun _ => h3) _ (fun m5 r5 k5 => ?_))
      have k5' := k4'.trans k5
      cases hh2 : hasR s [60] sy
      · rw [hh2] at i9
        simp at i9
      rw [hh2] at i9
      simp only [if_true] at i9
      cases hel : elK s f (d + 1) sy with
      | none => rw [hel] at i9; cases i9
      | some sz =>
      rw [hel] at i9
      simp only at i9
      cbv
      refine DrawP.of [0, 1, 3, 7, 0, 0, 32, 112, 15, 0, 1023, 2047, 4095, 2047, 10239, 26623] (by kernel_rfl) (by kernel_rfl) ?_
      have B5 := (k5'.keep eb (by omega) hebb).trans i6
      have LK := ld_one (P := E.P) (i := 2) T.kA T.kS (read_cells B5 rfl) rfl
      cbv
      refine ⟨2, T.e2, ?_⟩
      cbv
      refine ⟨_, ld_at LK rfl, ?_⟩
      refine FitP.stay (f := .rd (some eb)) rfl rfl ?_
      generalize hM : mixH _ _ = M
      have hMm : M.m = m5.m ∧ M.next = m5.next ∧ Grows g0 M := by
        subst hM
        refine ⟨rfl, rfl, ?_⟩
        apply Grows.mixTop
        repeat first | with_reducible exact r5.gr | with_reducible apply Grows.dip
      clear hM
      cbv
      refine And.intro (by show d + 1 ≤ _; omega) ?_
      have rM : IsRr g0 ⟨M.m, M.next, top M.next⟩ b s sy := r5.re hMm.1 hMm.2.1 hMm.2.2.mark
      refine .inl (ih f (by omega) (d + 1) sy g0 ⟨M.m, M.next, top M.next⟩ sz _ (by omega) rM e3 h3 b3 hel (fun c m8 c4 c1 r8 a8 k8 => ?_))
      have BM : M.m.get eb = some (boxO [.string ⟨⟨n⟩⟩, .slice none 0 0, .slice aa cs.length ac, .int .i64 p]) := by rw [hMm.1]; exact B5
      have q8 : m8.m.get eb = some (boxO [.string ⟨⟨n⟩⟩, .slice none 0 0, .slice aa cs.length ac, .int .i64 p]) := (k8.keep eb (by show eb < M.next; rw [hMm.2.1]; have := k5'.next; omega) hebb).trans BM
      refine FitP.writeC (fun w => by cases w <;> rfl) (fun F hF => ?_) (fun F hF => ?_)
      · rcases hF with rfl | rfl
        · rfl
        · have e : sameO (M.m.get eb) (m8.m.get eb) = true := by rw [q8, BM]; exact sameO_box n none 0 0 aa cs.length ac p (fun x q => by cases q) hns
          show ((if (!sameO (M.m.get eb) (m8.m.get eb)) = true then _ else true) && true) = true
          rw [e]
          rfl
      generalize hM2 : mixH _ _ = M2
      have r9 : IsRr g0 M2 b s sz := by
        subst hM2
        refine r8.re rfl rfl (Grows.mix ?_ r8.gr)
        repeat first | with_reducible exact hMm.2.2 | with_reducible apply Grows.dip
      have k9 : Keep b m5 M2 := by
        subst hM2
        exact ⟨by show m5.next ≤ m8.next; have := k8.next; rw [← hMm.2.1]; exact this, fun r q1 q2 => by
          show m8.m.get r = _
          rw [k8.keep r (by show r < M.next; rw [hMm.2.1]; exact q1) q2]
          show M.m.get r = _
          rw [hMm.1]⟩
      clear hM2 q8 BM
      cbv
      refine And.intro T.kT ?_
      refine FitP.stay (f := .own) rfl rfl ?_
      generalize hM3 : mixH _ _ = M3
      have hMm3 : M3.m = M2.m ∧ M3.next = M2.next ∧ Grows g0 M3 := by
        subst hM3
        exact ⟨rfl, rfl, Grows.mixTop r9.gr⟩
      clear hM3
      cbv
      refine raw_buildSlice rfl RT.u zE T.eS (by decide) (c := zC) rfl ?_
      refine FitP.grow (f := .own) ((Grows.refl _).push _) rfl rfl ?_
      generalize hM4 : mixH _ _ = M4
      have B4 : M4.m.get M3.next = some (.cells zC (some 25) true 0) := by
        subst hM4
        exact box_get _ _
      have N4 : M4.next = M3.next + 1 := by subst hM4; rfl
      have K4 : ∀ c, c < M3.next → M4.m.get c = M3.m.get c := by
        subst hM4
        intro c hc
        show (H.push _ _).m.get c = _
        rw [push_get, if_neg (by show ¬ c = M3.next; omega)]
      have G4 : Grows g0 M4 := by
        subst hM4
        exact hMm3.2.2.mix (hMm3.2.2.mark.push _)
      clear hM4
      have N34 : M3.next = M2.next := hMm3.2.1
      have n5 := k5'.next
      have n9 := k9.next
      have old4 : ∀ r, r < m5.next → r ≠ b → M4.m.get r = m5.m.get r := fun r q1 q2 => by
        rw [K4 r (by omega), hMm3.1]
        exact k9.keep r q1 q2
      have row4 : IsRow ⟨M4.m, M4.next, top M4.next⟩ h.next 25 4 cs (.slice aa cs.length ac) := i7.keep (Nat.le_trans n5 (Nat.le_trans n9 (by show M2.next ≤ M4.next; omega))) (fun r q1 q2 _ => (old4 r (Nat.lt_of_lt_of_le q2 n5) (fun e => by have : h.next ≤ r := q1; omega)).trans (k5'.keep r q2 (fun e => by have : h.next ≤ r := q1; omega)))
      have hbR : b < M4.next := by have := r9.lt; omega
      have RB4 : M4.m.get b = some (rrO s sz) := by
        rw [K4 b (by have := r9.lt; omega), hMm3.1]
        exact r9.ex
      obtain ⟨v', h', ha1, ha2, ha3, ha4, ha5, ha6⟩ := row_append (q := M3.next) RT row4 (by show h.next ≤ M4.next; omega) (by omega) B4 rfl rfl (by show M3.next < M4.next; omega) (NotAt.of_lt i7 (.inr (by omega)))
      cbv
      refine raw_appendS rfl rfl RT.u ha1 ?_
      refine FitP.writeG (fun w => by cases w <;> rfl) (by simp [Nat.testBit]) (fun F2 hF2 => ?_)
      have gh := hr.gr.next
      have G5 : Grows g0 h' := grows_row G4.mark (by rw [ha3]; exact Nat.le_succ _) (fun r hr => ha5 r (by show r < M4.next; omega) (NotAt.of_lt i7 (.inl (by omega)))) (by
        rcases ha6 with q | q
        · exact .inl q
        · exact .inr (by omega))
      generalize hM5 : mixH _ _ = M5
      have hM5n : M5.next = M4.next + 1 := by subst hM5; exact ha3
      have old5 : ∀ r, r < h.next → M5.m.get r = M4.m.get r := by
        subst hM5
        exact fun r q => ha5 r (by show r < M4.next; omega) (NotAt.of_lt i7 (.inl q))
      have G5' : Grows g0 M5 := by
        subst hM5
        exact G4.mix G5
      have row5 : IsRow M5 h.next 25 4 (cs ++ [zC]) v' := by
        subst hM5
        exact ha2.keep (Nat.le_refl _) (fun _ _ _ _ => rfl)
      clear hM5 ha1 ha2 ha4 ha5 ha6
      have RB5 : M5.m.get b = some (rrO s sz) := (old5 b hbh).trans RB4
      have EB5 : M5.m.get eb = some (boxO [.string ⟨⟨n⟩⟩, .slice none 0 0, .slice aa cs.length ac, .int .i64 p]) := by
        rw [old5 eb hebn, old4 eb (by omega) hebb]
        exact B5
      obtain ⟨r0, hv', hr1, hr2, hr3⟩ : ∃ r0, v' = .slice (some ⟨r0, 0, none⟩) (cs.length + 1) (UNK + 4) ∧ r0 < M5.next ∧ h.next ≤ r0 ∧ M5.m.get r0 = some (.cells (cs.flatten ++ zC) (some 25) false 0) := by
        rcases row5.ex with ⟨q, _⟩ | ⟨r0, q1, _, q3, q4, q5⟩
        · simp at q
        · refine ⟨r0, by rw [q1, List.length_append]; rfl, q3, q4, ?_⟩
          rw [q5]
          simp
      subst hv'
      have hfl : cs.flatten.length = cs.length * 4 := (flat_len i7.len).1
      cbv
      refine ⟨4, T.kZ, (show cs.length < cs.length + 1 by omega), ?_⟩
      cbv
      have hoo : Nat.add 0 (cs.length.mul 4) = cs.length * 4 := Nat.zero_add _
      have S6 : (⟨M5.dip.m, M5.dip.next, top M5.dip.next⟩ : H).store E.P 25 ⟨r0, Nat.add 0 (cs.length.mul 4), none⟩ (.agg c.toArray) = some ((⟨M5.dip.m, M5.dip.next, top M5.dip.next⟩ : H).put r0 (some (.cells (cs.flatten ++ c) (some 25) false 0))) := st_end T.eS hr3 (by rw [hfl, hoo]) rfl c4 c1
      refine ⟨_, S6, ?_⟩
      refine FitP.put (b := r0) (fun w => rfl) (by simp [fits, clash, Nat.testBit]) ?_
      have hne : (eb == r0) = false := by simp; omega
      have G6 := G5'.dip.mix (G5'.dip.mark.put (show g0.next ≤ r0 by omega) (some (.cells (cs.flatten ++ c) (some 25) false 0)))
      generalize hM6 : mixH _ _ = M6
      have M6n : M6.next = M5.next := by subst hM6; rfl
      have M6g : ∀ r, r ≠ r0 → M6.m.get r = M5.m.get r := by
        subst hM6
        intro r hrr
        show (H.put _ r0 _).m.get r = _
        rw [put_get, if_neg hrr]
        rfl
      have M6r : M6.m.get r0 = some (.cells (cs.flatten ++ c) (some 25) false 0) := by
        subst hM6
        show (H.put _ r0 _).m.get r0 = _
        rw [put_get, if_pos rfl]
      have G6' : Grows g0 M6 := by subst hM6; exact G6
      clear hM6 G6 S6
      have EB6 : M6.m.get eb = some (boxO [.string ⟨⟨n⟩⟩, .slice none 0 0, .slice aa cs.length ac, .int .i64 p]) := (M6g eb (by omega)).trans EB5
      have RB6 : M6.m.get b = some (rrO s sz) := (M6g b (by omega)).trans RB5
      cbv
      refine ⟨2, T.e2, ?_⟩
      cbv
      have S7 : (⟨M6.dip.dip.m, M6.dip.dip.next, top M6.dip.dip.next⟩ : H).store E.P 23 ⟨eb, 2, none⟩ (.slice (some ⟨r0, 0, none⟩) (cs.length + 1) (UNK + 4)) = some ((⟨M6.dip.dip.m, M6.dip.dip.next, top M6.dip.dip.next⟩ : H).put eb (some (boxO [.string ⟨⟨n⟩⟩, .slice none 0 0, .slice (some ⟨r0, 0, none⟩) (cs.length + 1) (UNK + 4), .int .i64 p]))) := (st_one (P := E.P) (h := ⟨M6.dip.dip.m, M6.dip.dip.next, top M6.dip.dip.next⟩) (v := .slice (some ⟨r0, 0, none⟩) (cs.length + 1) (UNK + 4)) (i := 2) T.kS EB6 (by simp) rfl rfl).trans rfl
      refine ⟨_, S7, ?_⟩
      refine FitP.put (b := eb) (fun w => rfl) (by simp [fits, clash, hne, Nat.testBit]) ?_
      have G7 := G6'.dip.dip.mix (G6'.dip.dip.mark.put hgeb (some (boxO [.string ⟨⟨n⟩⟩, .slice none 0 0, .slice (some ⟨r0, 0, none⟩) (cs.length + 1) (UNK + 4), .int .i64 p])))
      generalize hM7 : mixH _ _ = M7
      have M7n : M7.next = M6.next := by subst hM7; rfl
      have M7g : ∀ r, r ≠ eb → M7.m.get r = M6.m.get r := by
        subst hM7
        intro r hrr
        show (H.put _ eb _).m.get r = _
        rw [put_get, if_neg hrr]
        rfl
      have M7r : M7.m.get eb = some (boxO [.string ⟨⟨n⟩⟩, .slice none 0 0, .slice (some ⟨r0, 0, none⟩) (cs.length + 1) (UNK + 4), .int .i64 p]) := by
        subst hM7
        show (H.put _ eb _).m.get eb = _
        rw [put_get, if_pos rfl]
      have G7' : Grows g0 M7 := by subst hM7; exact G7
      clear hM7 G7 S7
      have hcs : ∀ x ∈ cs ++ [c], x.length = 4 ∧ x.all one = true := fun x hx => by
        rcases List.mem_append.1 hx with q | q
        · exact i7.len x q
        · obtain rfl := List.mem_singleton.1 q
          exact ⟨c4, c1⟩
      have row7 : IsRow M7 h.next 25 4 (cs ++ [c]) (.slice (some ⟨r0, 0, none⟩) (cs.length + 1) (UNK + 4)) := ⟨hcs, .inr ⟨r0, by rw [List.length_append]; rfl, by simp, by rw [M7n, M6n]; exact hr1, hr2, by rw [M7g r0 (by omega), M6r]; simp⟩⟩
      cbv
      exact ⟨(M7, sz, f, cs ++ [c], .slice (some ⟨r0, 0, none⟩) (cs.length + 1) (UNK + 4)), Less.cons rfl (Less.cons rfl (Less.cons rfl (Less.nil _))), rfl, ⟨⟨by show b < M7.next; omega, hgb, G7', (M7g b (fun e => hebb e.symm)).trans RB6⟩, a8, elB_elK s f (d + 1) sy sz b3 hel, by show h.next ≤ M7.next; omega, fun r q1 q2 q3 => by
        show M7.m.get r = _
        rw [M7g r q3, M6g r (by omega), old5 r q1, old4 r (by omega) q2, k5'.keep r (by omega) q2]
        exact i5 r q1 q2 q3, M7r, row7, by show (cs ++ [c]).length + f ≤ f0; rw [List.length_append]; show cs.length + 1 + f ≤ f0; omega, i9⟩, Nat.lt_succ_self _⟩
    · rw [hh1] at i9
      simp only [if_true] at i9
      have B4 := (k4'.keep eb (by omega) hebb).trans i6
      have LN := ld_one (P := E.P) (i := 0) T.sA T.sS (read_cells B4 rfl) rfl
      cbv
      refine ⟨0, T.e0, ?_⟩
      cbv
      refine ⟨_, LN, ?_⟩
      cbv
      refine .inl (n5 n sy _ r4 hh1 h3 ST i9 _ (fun v5 m5 r5 a5 k5 => ?_))
      have k5' := k4'.trans k5
      cbv
      exact ⟨_, rfl, hk _ _ _ r5 a5 (by have := k5'.next; omega) (fun r q1 q2 q3 => (k5'.keep r (by omega) q2).trans (i5 r q1 q2 q3)) ((k5'.keep eb (by omega) hebb).trans i6) rfl⟩
  · have q0 : ¬ sx.err = 0 := q0
    rw [if_pos q0] at i9
    obtain rfl : sx = ST := by simpa using i9
    cbv
    exact ⟨_, rfl, hk _ _ _ i1 i2 i4 i5 i6 rfl⟩
end Go.Proofs.YtfgemjpoiconbaaGreatDoor.GEv

/- The reference's 'Parse' of elements with kids and without attributes, by a symbolic run. -/
namespace Go.Proofs.YtfgemjpoiconbaaGreatDoor.GEv
open Go
set_option linter.unusedSimpArgs false
set_option linter.unusedVariables false
set_option maxRecDepth 100000
set_option maxHeartbeats 4000000
theorem rElK {E : Env} (hE : E = EMY) (b : Nat) (s : Bs) (hs : s.length ≤ 100000) : ∀ (f : Nat), f ≤ 10000 → ElKC E b s f := by
  intro f
  induction f using Nat.strongRecOn with
  | ind f ih =>
    intro hf
    cases f with
    | zero =>
      intro d st g0 h ST K _ _ _ _ _ q _
      simp [elK] at q
    | succ f => exact rElemK hE b s hs f (rKidsK hE b s hs f (by omega) (fun g hg => ih g (by omega) (by omega)))
attribute [local cbv_opaque] isString isSlice isBoolT fOff iSize eqNil zero H.load H.store H.push H.dip H.put List.length List.getD Nat.add Nat.sub Nat.mul List.take List.drop top Addr.add mixH restS isS failS goS mustS blanksN hasR qualR attrR isQual byte cmpJ ariJ valueS dupA append miscR elK
attribute [local cbv_eval] List.length_cons List.length_nil addr_add mixH_top
section
variable {E : Env} (hE : E = EMY)
include hE
theorem rParseK (f : Nat) (hf : f ≤ 10000) (s : Bs) (hs : s.length ≤ 1000000) (h : H) (n er : Nat) (hp : parseK f s = some (n, er)) (K : Value → H → Prop)
    (hk : ∀ (c : List Value) h', Grows h h' → c.length = 4 → c.all one = true → K (.tuple #[.agg c.toArray, .int .i64 (.ofNat n), .int .i64 (.ofNat er)]) h') : CallP E 18 [.string ⟨⟨s⟩⟩] h K := by
  have T : TyOk E.P := by rw [hE]; exact tyOk
  have R : RrOk E.P := by rw [hE]; exact rrOk
  have zE : zero E.P 25 = some (.agg #[.string ⟨⟨[]⟩⟩, .slice none 0 0, .slice none 0 0, .int .i64 0]) := by rw [hE]; exact zElem
  obtain ⟨fs, EB⟩ : ∃ fs, ElBuild E.P fs := by rw [hE]; exact elBuild
  obtain ⟨rs, RB⟩ : ∃ fs, RrBuild E.P fs := by rw [hE]; exact rrBuild
  have n1 := fun b st hbd g0 h hr ha ST hm K hk => rMisc hE b s hs st hbd g0 h hr ha ST hm K hk
  have n2 := fun b hs st g0 h hr he ha hel ST hsp K hk => rElK hE b s hs f hf 0 st g0 h ST K (by omega) hr he ha hel hsp hk
  have n4 := fun b st a e g0 h hr K hk => rFail hE b s st a e g0 h hr K hk
  refine CallP.ofXE hE rfl Tryz.func18 rfl (Nat.le_of_ble_eq_true rfl) ?_
  unfold parseK at hp
  clear hE
  cbv
  refine ⟨_, zE, ?_⟩
  have g1 : Grows h (h.push (boxO zC)) := (Grows.refl h).push _
  have B1 : (h.push (boxO zC)).m.get h.next = some (boxO zC) := box_get _ _
  have N1 : (h.push (boxO zC)).next = h.next + 1 := rfl
  cbv
  generalize hm1 : h.push _ = m1
  have g1 : Grows h m1 := by subst hm1; exact g1
  have B1 : m1.m.get h.next = some (boxO zC) := by subst hm1; exact B1
  have N1 : m1.next = h.next + 1 := by subst hm1; exact N1
  clear hm1
  refine And.intro T.str ?_
  refine And.intro (fun hl => ?_) (fun hl => ?_)
  · have hl : 8000 < s.length := hl
    rw [if_pos hl] at hp
    cbv
    refine raw_build rfl zE EB.u EB.f0 EB.a ?_
    cbv
    have S1 : m1.store E.P 25 ⟨h.next, 0, none⟩ (.agg zC.toArray) = some (m1.put h.next (some (boxO zC))) := st_agg T.eS B1 rfl rfl rfl
    refine ⟨_, S1, ?_⟩
    cbv
    obtain ⟨rfl, rfl⟩ : 0 = n ∧ 3 = er := by simpa using hp
    have q2 : (m1.put h.next (some (boxO zC))).load E.P 25 ⟨h.next, 0, none⟩ = some (.agg zC.toArray) := ld_agg T.eA T.eS (read_cells (by rw [put_get, if_pos rfl]) rfl)
    exact ⟨_, res3 rfl q2 rfl rfl, hk zC _ (g1.put (Nat.le_refl _) _) rfl rfl⟩
  · have hl : s.length ≤ 8000 := hl
    rw [if_neg (by omega)] at hp
    have hsl : s.length ≤ 100000 := by omega
    cases hs1 : miscR s ⟨0, 0, 0, 0⟩ with
    | none => rw [hs1] at hp; cases hp
    | some st1 =>
    rw [hs1] at hp
    simp only at hp
    cases hs2 : elK s f 0 st1 with
    | none => rw [hs2] at hp; cases hp
    | some st2 =>
    rw [hs2] at hp
    simp only at hp
    cases hs3 : miscR s st2 with
    | none => rw [hs3] at hp; cases hp
    | some st3 =>
    rw [hs3] at hp
    simp only at hp
    have e1e := miscR_parts hs1
    have h1e : st1.err = 0 := by rw [e1e]; rfl
    have h1l : st1.at' ≤ s.length := by rw [e1e]; exact blanks_le (Nat.zero_le _)
    have h1n : ElB st1 := by rw [e1e]; exact ⟨Nat.zero_le _, fun _ => Nat.zero_le _⟩
    cbv
    refine raw_build rfl RB.z RB.u (RB.f s) RB.a ?_
    cbv
    have r2 : IsRr h (m1.push (rrO s ⟨0, 0, 0, 0⟩)) m1.next s ⟨0, 0, 0, 0⟩ := ⟨Nat.lt_succ_self _, g1.next, g1.push _, box_get _ _⟩
    have B2 : (m1.push (rrO s ⟨0, 0, 0, 0⟩)).m.get h.next = some (boxO zC) := by rw [push_get, if_neg (by omega)]; exact B1
    have N2 : (m1.push (rrO s ⟨0, 0, 0, 0⟩)).next = m1.next + 1 := rfl
    generalize hm2 : m1.push (AObj.cells _ _ _ _) = m2
    have r2 : IsRr h m2 m1.next s ⟨0, 0, 0, 0⟩ := by subst hm2; exact r2
    have B2 : m2.m.get h.next = some (boxO zC) := by subst hm2; exact B2
    have N2 : m2.next = m1.next + 1 := by subst hm2; exact N2
    clear hm2
    have nb : h.next ≠ m1.next := by omega
    refine .inl (n1 m1.next ⟨0, 0, 0, 0⟩ (by decide) h _ r2 (fun _ => Nat.zero_le _) st1 hs1 _ (fun v3 m3 r3 k3 => ?_))
    have B3 := (k3.keep h.next (by omega) nb).trans B2
    have n3 := k3.next
    cbv
    refine .inl (n2 m1.next hsl st1 h _ r3 h1e h1l h1n st2 hs2 _ (fun c m4 e4l e4o r4 h4 k4 => ?_))
    have B4 := (k4.keep h.next (by omega) nb).trans B3
    have n4n := k4.next
    cbv
    refine ⟨_, zE, ?_⟩
    cbv
    refine ⟨_, st_agg T.eS (box_get _ _) rfl e4l e4o, ?_⟩
    obtain ⟨j0, j1, j2, j3⟩ := laid r4.gr (boxO zC) c (some 25) true
    generalize (m4.push (boxO zC)).put m4.next (some (.cells c (some 25) true 0)) = m5 at j0 j1 j2 j3 ⊢
    have r5 : IsRr h m5 m1.next s st2 := ⟨Nat.lt_of_lt_of_le r4.lt j1.next, r4.ge, j0, (j1.keep m1.next r4.lt).trans r4.ex⟩
    have B5 := (j1.keep h.next (by omega)).trans B4
    have j1n := j1.next
    cbv
    refine .inl (n1 m1.next st2 (by omega) h _ r5 (fun _ => h4) st3 hs3 _ (fun v6 m6 r6 k6 => ?_))
    have k6n := k6.next
    have h6 : st3.at' ≤ s.length := by rw [miscR_parts hs3]; exact blanks_le h4
    have B6 := (k6.keep h.next (by omega) nb).trans B5
    have C6 := (k6.keep m4.next j3 (by omega)).trans j2
    have L63 := ld_one (P := E.P) (i := 3) T.iA T.iS (read_cells r6.ex rfl) rfl
    have L61 := ld_one (P := E.P) (i := 1) T.iA T.iS (read_cells r6.ex rfl) rfl
    cbv
    refine ⟨3, R.r3, ?_⟩
    cbv
    refine ⟨_, L63, ?_⟩
    cbv
    refine And.intro (fun z => ?_) (fun z => ?_)
    · have z : st3.err = 0 := z
      cbv
      refine ⟨1, R.r1, ?_⟩
      cbv
      refine ⟨_, L61, ?_⟩
      cbv
      refine And.intro T.str ?_
      refine And.intro (fun q => ?_) (fun q => ?_)
      · have q : st3.at' < s.length := q
        rw [if_pos (show st3.err = 0 ∧ st3.at' < s.length from ⟨z, q⟩)] at hp
        cbv
        refine ⟨1, R.r1, ?_⟩
        cbv
        refine ⟨_, L61, ?_⟩
        cbv
        refine .inl (n4 m1.next st3 st3.at' 2 h _ r6 _ (fun v7 m7 r7 k7 => ?_))
        have k7n := k7.next
        have B7 := (k7.keep h.next (by omega) nb).trans B6
        have C7 := (k7.keep m4.next (by omega) (by omega)).trans C6
        generalize hst8 : failS st3.at' 2 st3 = st8 at hp r7
        clear hst8
        cbv
        have L83 := ld_one (P := E.P) (i := 3) T.iA T.iS (read_cells r7.ex rfl) rfl
        have L84 := ld_one (P := E.P) (i := 4) T.iA T.iS (read_cells r7.ex rfl) rfl
        refine ⟨3, R.r3, ?_⟩
        cbv
        refine ⟨_, L83, ?_⟩
        cbv
        refine And.intro (fun e0 => ?_) (fun e0 => ?_)
        · have e0 : st8.err = 0 := e0
          rw [if_pos e0] at hp
          obtain ⟨rfl, rfl⟩ : s.length = n ∧ 0 = er := by simpa using hp
          have L6 := ld_agg (P := E.P) T.eA T.eS (read_cells C7 e4l)
          have S1 : m7.store E.P 25 ⟨h.next, 0, none⟩ (.agg c.toArray) = some (m7.put h.next (some (boxO c))) := st_agg T.eS B7 rfl e4l e4o
          have L2 : (m7.put h.next (some (boxO c))).load E.P 25 ⟨h.next, 0, none⟩ = some (.agg c.toArray) := ld_agg T.eA T.eS (read_cells (by rw [put_get, if_pos rfl]) e4l)
          have g9 := r7.gr.put (Nat.le_refl _) (some (boxO c))
          generalize m7.put h.next (some (boxO c)) = m11 at S1 L2 g9
          cbv
          refine ⟨_, L6, ?_⟩
          cbv
          refine And.intro T.str ?_
          refine ⟨_, S1, ?_⟩
          cbv
          exact ⟨_, res3 rfl L2 rfl rfl, hk c _ g9 e4l e4o⟩
        · have e0 : ¬ st8.err = 0 := e0
          rw [if_neg e0] at hp
          obtain ⟨rfl, rfl⟩ : st8.out = n ∧ st8.err = er := by simpa using hp
          have Mq : m7.m = m7.m ∧ m7.next = m7.next ∧ Grows h m7 := ⟨rfl, rfl, r7.gr⟩
          cbv
          refine DrawP.of [0, 0, 2, 6, 14, 0, 32, 96, 224, 1, 543, 2047] (by kernel_rfl) (by kernel_rfl) ?_
          cbv
          refine raw_build rfl zE EB.u EB.f0 EB.a ?_
          refine FitP.stay (f := (.rd none)) rfl rfl ?_
          generalize hM : mixH _ _ = M'
          have Mq' : M'.m = m7.m ∧ M'.next = m7.next ∧ Grows h M' := by
            subst hM
            refine ⟨Mq.1, Mq.2.1, ?_⟩
            apply Grows.mixTop
            repeat first | with_reducible exact Mq.2.2 | with_reducible apply Grows.dip
          clear hM Mq
          revert M'
          intro M Mq
          cbv
          refine ⟨4, R.r4, ?_⟩
          cbv
          refine ⟨_, ld_at L84 Mq.1, ?_⟩
          cbv
          refine FitP.stay (f := (.rd (some m1.next))) rfl rfl ?_
          generalize hM : mixH _ _ = M'
          have Mq' : M'.m = m7.m ∧ M'.next = m7.next ∧ Grows h M' := by
            subst hM
            refine ⟨Mq.1, Mq.2.1, ?_⟩
            apply Grows.mixTop
            repeat first | with_reducible exact Mq.2.2 | with_reducible apply Grows.dip
          clear hM Mq
          revert M'
          intro M Mq
          cbv
          refine ⟨3, R.r3, ?_⟩
          cbv
          refine ⟨_, ld_at L83 Mq.1, ?_⟩
          cbv
          refine FitP.stay (f := (.rd (some m1.next))) rfl rfl ?_
          generalize hM : mixH _ _ = M'
          have Mq' : M'.m = m7.m ∧ M'.next = m7.next ∧ Grows h M' := by
            subst hM
            refine ⟨Mq.1, Mq.2.1, ?_⟩
            apply Grows.mixTop
            repeat first | with_reducible exact Mq.2.2 | with_reducible apply Grows.dip
          clear hM Mq
          revert M'
          intro M Mq
          cbv
          have hM2 : M.m.get h.next = some (boxO zC) := by rw [Mq.1]; exact B7
          have S1 : (⟨M.m, M.next, top M.next⟩ : H).store E.P 25 ⟨h.next, 0, none⟩ (.agg zC.toArray) = some ((⟨M.m, M.next, top M.next⟩ : H).put h.next (some (boxO zC))) := st_agg T.eS hM2 rfl rfl rfl
          refine ⟨_, S1, ?_⟩
          have w1 : (h.next == m1.next) = false := by simp; omega
          refine FitP.put (b := h.next) (fun w => rfl) ?_ ?_
          · simp [fits, clash, w1, Nat.testBit]
          have g9 := Mq.2.2.mix (Mq.2.2.mark.put (Nat.le_refl _) (some (boxO zC)))
          have L2 : (mixH M ((⟨M.m, M.next, top M.next⟩ : H).put h.next (some (boxO zC)))).load E.P 25 ⟨h.next, 0, none⟩ = some (.agg zC.toArray) := ld_agg T.eA T.eS (read_cells (show ((⟨M.m, M.next, top M.next⟩ : H).put h.next (some (boxO zC))).m.get h.next = _ by rw [put_get, if_pos rfl]) rfl)
          generalize mixH M ((⟨M.m, M.next, top M.next⟩ : H).put h.next (some (boxO zC))) = m11 at g9 L2 ⊢
          cbv
          exact ⟨_, res3 rfl (ld_at L2 rfl) rfl rfl, hk zC _ g9.dip.dip rfl rfl⟩
      · have q : ¬ st3.at' < s.length := Nat.not_lt.2 q
        rw [if_neg (show ¬ (st3.err = 0 ∧ st3.at' < s.length) from fun x => q x.2)] at hp
        obtain ⟨m7, hm7⟩ : ∃ m7, m7 = m6 := ⟨_, rfl⟩
        rw [← hm7] at r6 B6 C6 k6n ⊢
        have r7 := r6
        have B7 := B6
        have C7 := C6
        have k7n := k6n
        generalize hst8 : st3 = st8 at hp r7
        clear hst8
        cbv
        have L83 := ld_one (P := E.P) (i := 3) T.iA T.iS (read_cells r7.ex rfl) rfl
        have L84 := ld_one (P := E.P) (i := 4) T.iA T.iS (read_cells r7.ex rfl) rfl
        refine ⟨3, R.r3, ?_⟩
        cbv
        refine ⟨_, L83, ?_⟩
        cbv
        refine And.intro (fun e0 => ?_) (fun e0 => ?_)
        · have e0 : st8.err = 0 := e0
          rw [if_pos e0] at hp
          obtain ⟨rfl, rfl⟩ : s.length = n ∧ 0 = er := by simpa using hp
          have L6 := ld_agg (P := E.P) T.eA T.eS (read_cells C7 e4l)
          have S1 : m7.store E.P 25 ⟨h.next, 0, none⟩ (.agg c.toArray) = some (m7.put h.next (some (boxO c))) := st_agg T.eS B7 rfl e4l e4o
          have L2 : (m7.put h.next (some (boxO c))).load E.P 25 ⟨h.next, 0, none⟩ = some (.agg c.toArray) := ld_agg T.eA T.eS (read_cells (by rw [put_get, if_pos rfl]) e4l)
          have g9 := r7.gr.put (Nat.le_refl _) (some (boxO c))
          generalize m7.put h.next (some (boxO c)) = m11 at S1 L2 g9
          cbv
          refine ⟨_, L6, ?_⟩
          cbv
          refine And.intro T.str ?_
          refine ⟨_, S1, ?_⟩
          cbv
          exact ⟨_, res3 rfl L2 rfl rfl, hk c _ g9 e4l e4o⟩
        · have e0 : ¬ st8.err = 0 := e0
          rw [if_neg e0] at hp
          obtain ⟨rfl, rfl⟩ : st8.out = n ∧ st8.err = er := by simpa using hp
          have Mq : m7.m = m7.m ∧ m7.next = m7.next ∧ Grows h m7 := ⟨rfl, rfl, r7.gr⟩
          cbv
          refine DrawP.of [0, 0, 2, 6, 14, 0, 32, 96, 224, 1, 543, 2047] (by kernel_rfl) (by kernel_rfl) ?_
          cbv
          refine raw_build rfl zE EB.u EB.f0 EB.a ?_
          refine FitP.stay (f := (.rd none)) rfl rfl ?_
          generalize hM : mixH _ _ = M'
          have Mq' : M'.m = m7.m ∧ M'.next = m7.next ∧ Grows h M' := by
            subst hM
            refine ⟨Mq.1, Mq.2.1, ?_⟩
            apply Grows.mixTop
            repeat first | with_reducible exact Mq.2.2 | with_reducible apply Grows.dip
          clear hM Mq
          revert M'
          intro M Mq
          cbv
          refine ⟨4, R.r4, ?_⟩
          cbv
          refine ⟨_, ld_at L84 Mq.1, ?_⟩
          cbv
          refine FitP.stay (f := (.rd (some m1.next))) rfl rfl ?_
          generalize hM : mixH _ _ = M'
          have Mq' : M'.m = m7.m ∧ M'.next = m7.next ∧ Grows h M' := by
            subst hM
            refine ⟨Mq.1, Mq.2.1, ?_⟩
            apply Grows.mixTop
            repeat first | with_reducible exact Mq.2.2 | with_reducible apply Grows.dip
          clear hM Mq
          revert M'
          intro M Mq
          cbv
          refine ⟨3, R.r3, ?_⟩
          cbv
          refine ⟨_, ld_at L83 Mq.1, ?_⟩
          cbv
          refine FitP.stay (f := (.rd (some m1.next))) rfl rfl ?_
          generalize hM : mixH _ _ = M'
          have Mq' : M'.m = m7.m ∧ M'.next = m7.next ∧ Grows h M' := by
            subst hM
            refine ⟨Mq.1, Mq.2.1, ?_⟩
            apply Grows.mixTop
            repeat first | with_reducible exact Mq.2.2 | with_reducible apply Grows.dip
          clear hM Mq
          revert M'
          intro M Mq
          cbv
          have hM2 : M.m.get h.next = some (boxO zC) := by rw [Mq.1]; exact B7
          have S1 : (⟨M.m, M.next, top M.next⟩ : H).store E.P 25 ⟨h.next, 0, none⟩ (.agg zC.toArray) = some ((⟨M.m, M.next, top M.next⟩ : H).put h.next (some (boxO zC))) := st_agg T.eS hM2 rfl rfl rfl
          refine ⟨_, S1, ?_⟩
          have w1 : (h.next == m1.next) = false := by simp; omega
          refine FitP.put (b := h.next) (fun w => rfl) ?_ ?_
          · simp [fits, clash, w1, Nat.testBit]
          have g9 := Mq.2.2.mix (Mq.2.2.mark.put (Nat.le_refl _) (some (boxO zC)))
          have L2 : (mixH M ((⟨M.m, M.next, top M.next⟩ : H).put h.next (some (boxO zC)))).load E.P 25 ⟨h.next, 0, none⟩ = some (.agg zC.toArray) := ld_agg T.eA T.eS (read_cells (show ((⟨M.m, M.next, top M.next⟩ : H).put h.next (some (boxO zC))).m.get h.next = _ by rw [put_get, if_pos rfl]) rfl)
          generalize mixH M ((⟨M.m, M.next, top M.next⟩ : H).put h.next (some (boxO zC))) = m11 at g9 L2 ⊢
          cbv
          exact ⟨_, res3 rfl (ld_at L2 rfl) rfl rfl, hk zC _ g9.dip.dip rfl rfl⟩
    · have z : ¬ st3.err = 0 := z
      rw [if_neg (show ¬ (st3.err = 0 ∧ st3.at' < s.length) from fun x => z x.1)] at hp
      obtain ⟨m7, hm7⟩ : ∃ m7, m7 = m6 := ⟨_, rfl⟩
      rw [← hm7] at r6 B6 C6 k6n ⊢
      have r7 := r6
      have B7 := B6
      have C7 := C6
      have k7n := k6n
      generalize hst8 : st3 = st8 at hp r7
      clear hst8
      cbv
      have L83 := ld_one (P := E.P) (i := 3) T.iA T.iS (read_cells r7.ex rfl) rfl
      have L84 := ld_one (P := E.P) (i := 4) T.iA T.iS (read_cells r7.ex rfl) rfl
      refine ⟨3, R.r3, ?_⟩
      cbv
      refine ⟨_, L83, ?_⟩
      cbv
      refine And.intro (fun e0 => ?_) (fun e0 => ?_)
      · have e0 : st8.err = 0 := e0
        rw [if_pos e0] at hp
        obtain ⟨rfl, rfl⟩ : s.length = n ∧ 0 = er := by simpa using hp
        have L6 := ld_agg (P := E.P) T.eA T.eS (read_cells C7 e4l)
        have S1 : m7.store E.P 25 ⟨h.next, 0, none⟩ (.agg c.toArray) = some (m7.put h.next (some (boxO c))) := st_agg T.eS B7 rfl e4l e4o
        have L2 : (m7.put h.next (some (boxO c))).load E.P 25 ⟨h.next, 0, none⟩ = some (.agg c.toArray) := ld_agg T.eA T.eS (read_cells (by rw [put_get, if_pos rfl]) e4l)
        have g9 := r7.gr.put (Nat.le_refl _) (some (boxO c))
        generalize m7.put h.next (some (boxO c)) = m11 at S1 L2 g9
        cbv
        refine ⟨_, L6, ?_⟩
        cbv
        refine And.intro T.str ?_
        refine ⟨_, S1, ?_⟩
        cbv
        exact ⟨_, res3 rfl L2 rfl rfl, hk c _ g9 e4l e4o⟩
      · have e0 : ¬ st8.err = 0 := e0
        rw [if_neg e0] at hp
        obtain ⟨rfl, rfl⟩ : st8.out = n ∧ st8.err = er := by simpa using hp
        have Mq : m7.m = m7.m ∧ m7.next = m7.next ∧ Grows h m7 := ⟨rfl, rfl, r7.gr⟩
        cbv
        refine DrawP.of [0, 0, 2, 6, 14, 0, 32, 96, 224, 1, 543, 2047] (by kernel_rfl) (by kernel_rfl) ?_
        cbv
        refine raw_build rfl zE EB.u EB.f0 EB.a ?_
        refine FitP.stay (f := (.rd none)) rfl rfl ?_
        generalize hM : mixH _ _ = M'
        have Mq' : M'.m = m7.m ∧ M'.next = m7.next ∧ Grows h M' := by
          subst hM
          refine ⟨Mq.1, Mq.2.1, ?_⟩
          apply Grows.mixTop
          repeat first | with_reducible exact Mq.2.2 | with_reducible apply Grows.dip
        clear hM Mq
        revert M'
        intro M Mq
        cbv
        refine ⟨4, R.r4, ?_⟩
        cbv
        refine ⟨_, ld_at L84 Mq.1, ?_⟩
        cbv
        refine FitP.stay (f := (.rd (some m1.next))) rfl rfl ?_
        generalize hM : mixH _ _ = M'
        have Mq' : M'.m = m7.m ∧ M'.next = m7.next ∧ Grows h M' := by
          subst hM
          refine ⟨Mq.1, Mq.2.1, ?_⟩
          apply Grows.mixTop
          repeat first | with_reducible exact Mq.2.2 | with_reducible apply Grows.dip
        clear hM Mq
        revert M'
        intro M Mq
        cbv
        refine ⟨3, R.r3, ?_⟩
        cbv
        refine ⟨_, ld_at L83 Mq.1, ?_⟩
        cbv
        refine FitP.stay (f := (.rd (some m1.next))) rfl rfl ?_
        generalize hM : mixH _ _ = M'
        have Mq' : M'.m = m7.m ∧ M'.next = m7.next ∧ Grows h M' := by
          subst hM
          refine ⟨Mq.1, Mq.2.1, ?_⟩
          apply Grows.mixTop
          repeat first | with_reducible exact Mq.2.2 | with_reducible apply Grows.dip
        clear hM Mq
        revert M'
        intro M Mq
        cbv
        have hM2 : M.m.get h.next = some (boxO zC) := by rw [Mq.1]; exact B7
        have S1 : (⟨M.m, M.next, top M.next⟩ : H).store E.P 25 ⟨h.next, 0, none⟩ (.agg zC.toArray) = some ((⟨M.m, M.next, top M.next⟩ : H).put h.next (some (boxO zC))) := st_agg T.eS hM2 rfl rfl rfl
        refine ⟨_, S1, ?_⟩
        have w1 : (h.next == m1.next) = false := by simp; omega
        refine FitP.put (b := h.next) (fun w => rfl) ?_ ?_
        · simp [fits, clash, w1, Nat.testBit]
        have g9 := Mq.2.2.mix (Mq.2.2.mark.put (Nat.le_refl _) (some (boxO zC)))
        have L2 : (mixH M ((⟨M.m, M.next, top M.next⟩ : H).put h.next (some (boxO zC)))).load E.P 25 ⟨h.next, 0, none⟩ = some (.agg zC.toArray) := ld_agg T.eA T.eS (read_cells (show ((⟨M.m, M.next, top M.next⟩ : H).put h.next (some (boxO zC))).m.get h.next = _ by rw [put_get, if_pos rfl]) rfl)
        generalize mixH M ((⟨M.m, M.next, top M.next⟩ : H).put h.next (some (boxO zC))) = m11 at g9 L2 ⊢
        cbv
        exact ⟨_, res3 rfl (ld_at L2 rfl) rfl rfl, hk zC _ g9.dip.dip rfl rfl⟩
end
end Go.Proofs.YtfgemjpoiconbaaGreatDoor.GEv

