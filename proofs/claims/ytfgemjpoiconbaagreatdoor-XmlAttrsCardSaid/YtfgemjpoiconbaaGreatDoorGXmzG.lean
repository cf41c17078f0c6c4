import Derived.Test.YtfgemjpoiconbaaGreatDoorGXmzD
/- The reference's 'attr', by a symbolic run. -/
namespace Go.Proofs.YtfgemjpoiconbaaGreatDoor.GEv
open Go
set_option linter.unusedSimpArgs false
set_option linter.unusedVariables false
set_option maxRecDepth 100000
set_option maxHeartbeats 4000000
/-- Behind each '=' stands a mark. -/
def EqQ (s : Bs) : Prop := ∀ (i : Nat) (r : Bs), s.drop i = 61 :: r → ∃ r', r = 34 :: r'
theorem EqQ.rest {s : Bs} (h : EqQ s) {st : Rd} (he : st.err = 0) (hh : hasR s [61] st = true) : ∃ r, restS s (goS 1 st) = 34 :: r := by
  unfold hasR at hh
  simp only [he, decide_true, Bool.true_and, decide_eq_true_eq] at hh
  cases hd : s.drop st.at' with
  | nil => rw [hd] at hh; simp at hh
  | cons c r =>
    rw [hd] at hh
    have hc : c = 61 := by simpa using hh
    subst hc
    obtain ⟨r', hr⟩ := h _ _ hd
    refine ⟨r', ?_⟩
    show (if st.err = 0 then s.drop (st.at' + 1) else []) = _
    rw [if_pos he, ← List.drop_drop, hd, hr]
    rfl
/-- An attribute is built of a name. -/
theorem atBuild1 : ∃ fs : Array Field, EM.P.underlying 41 = some (.struct fs) ∧ (∀ a : Bs, fillL (fun i => (fs[i]?).bind fun f => (sizeOf EM.P f.type).map fun s => (f.offset, s)) [.string ⟨⟨[]⟩⟩, .string ⟨⟨[]⟩⟩] [(0, .string ⟨⟨a⟩⟩)] = some [.string ⟨⟨a⟩⟩, .string ⟨⟨[]⟩⟩]) ∧ fs.toList.all (fun f => (sizeOf EM.P f.type).isSome) = true := by
  obtain ⟨f1, f2, h, _, _, t1, t2, o1, o2⟩ := attrFs
  have hs : sizeOf EM.P 9 = some 1 := tyOk.sS
  refine ⟨#[f1, f2], h, fun a => ?_, by simp [t1, t2, hs]⟩
  have e0 : ((#[f1, f2] : Array Field)[0]?) = some f1 := rfl
  simp only [fillL, e0, Option.bind_some, t1, hs, Option.map_some, o1]
  rfl
attribute [local cbv_opaque] isString isSlice isBoolT fOff iSize eqNil zero H.load H.store H.push H.dip H.put List.length List.getD Nat.add Nat.sub Nat.mul List.take List.drop top Addr.add mixH restS isS failS goS mustS blanksN hasR qualR isQual byte cmpJ ariJ valueS dupA append
attribute [local cbv_eval] List.length_cons List.length_nil addr_add mixH_top
section
variable {E : Env} (hE : E = EMY)
include hE
theorem rAttr (b : Nat) (s : Bs) (hs : s.length ≤ 100000) (hq : EqQ s) (st : Rd) (g0 h : H) (g : Nat) (l : List (Bs × Bs)) (va : Value) (hr : IsRr g0 h b s st) (he : st.err = 0) (ha : st.at' ≤ s.length) (hl : l.length ≤ 8) (hrow : IsRow h g 41 2 (l.map attrC) va) (hg0 : g0.next ≤ g) (hgb : b < g) (hgh : g ≤ h.next) (K : Value → H → Prop)
    (hk : ∀ v' h', IsRr g0 h' b s (attrR s l st).2 → ((attrR s l st).2.err = 0 → (attrR s l st).2.at' ≤ s.length) → (attrR s l st).2.at' ≤ s.length + 1 → (attrR s l st).1.length ≤ 8 → IsRow h' g 41 2 ((attrR s l st).1.map attrC) v' → h.next ≤ h'.next → (∀ r, r < h.next → r ≠ b → NotAt va r → h'.m.get r = h.m.get r) → K v' h') :
    CallP E 57 [.pointer (some ⟨b, 0, none⟩), va] h K := by
  have T : TyOk E.P := by rw [hE]; exact tyOk
  have R : RrOk E.P := by rw [hE]; exact rrOk
  have RT : RowT E.P 22 41 2 := by rw [hE]; exact rowAttr
  have ZA : zero E.P 41 = some (.agg #[.string ⟨⟨[]⟩⟩, .string ⟨⟨[]⟩⟩]) := by rw [hE]; exact zAttr
  obtain ⟨fs, U1, U2, U3⟩ : ∃ fs : Array Field, E.P.underlying 41 = some (.struct fs) ∧ (∀ a : Bs, fillL (fun i => (fs[i]?).bind fun f => (sizeOf E.P f.type).map fun s => (f.offset, s)) [.string ⟨⟨[]⟩⟩, .string ⟨⟨[]⟩⟩] [(0, .string ⟨⟨a⟩⟩)] = some [.string ⟨⟨a⟩⟩, .string ⟨⟨[]⟩⟩]) ∧ fs.toList.all (fun f => (sizeOf E.P f.type).isSome) = true := by rw [hE]; exact atBuild1
  have n1 := fun p hp st h hr ha K hk => rHas hE b s p hp (by omega) st g0 h hr ha K hk
  have n2 := fun st h hr ha K hk => rrQual hE b s (by omega) st g0 h hr ha K hk
  have n3 := fun st h hr ha r hre K hk => rValue hE b s hs st g0 h hr ha r hre K hk
  have n4 := fun st a e h hr K hk => rFail hE b s st a e g0 h hr K hk
  refine CallP.ofXE hE rfl Tryz.func57 rfl (Nat.le_of_ble_eq_true rfl) ?_
  clear hE
  obtain ⟨aa, ac, hv⟩ : ∃ a c, va = .slice a l.length c := by
    rcases hrow.ex with ⟨q1, q2⟩ | ⟨r, q1, _⟩
    · have : l = [] := by simpa using q1
      subst this
      exact ⟨_, _, q2⟩
    · rw [List.length_map] at q1
      exact ⟨_, _, q1⟩
  subst hv
  have keepRow : ∀ m', Keep b h m' → IsRow m' g 41 2 (l.map attrC) (.slice aa l.length ac) := fun m' k => hrow.keep k.next (fun r h1 h2 h3 => k.keep r h2 (by omega))
  have L1 := ld_one (P := E.P) (i := 1) T.iA T.iS (read_cells hr.ex rfl) rfl
  cbv
  refine ⟨1, R.r1, ?_⟩
  cbv
  refine ⟨_, L1, ?_⟩
  cbv
  refine And.intro T.lT ?_
  refine And.intro (fun q8 => ?_) (fun q8 => ?_)
  · have q8 : 8 ≤ l.length := q8
    have hA : attrR s l st = (l, failS st.at' 4 st) := by unfold attrR; rw [if_pos q8]
    rw [hA] at hk
    cbv
    refine .inl (n4 st st.at' 4 _ hr _ (fun v m1 r1 k1 => ?_))
    cbv
    exact ⟨_, rfl, hk _ _ r1 (fun e => by rw [fail_at]; exact ha) (by rw [fail_at]; omega) hl (keepRow m1 k1) k1.next (fun r q1 q2 _ => k1.keep r q1 q2)⟩
  have q8 : l.length < 8 := q8
  have hA : attrR s l st = (let (k, st1) := qualR s st
      let st2 := if st1.err = 0 ∧ dupA l k = true then failS st.at' 2 st1 else st1
      let st3 := if st2.err = 0 ∧ hasR s [61] st2 = false then failS st2.at' 2 st2 else st2
      if st3.err ≠ 0 then (l, st3) else
      let (v, st4) := valueS s (goS 1 st3)
      (l ++ [(k, v)], st4)) := by unfold attrR; rw [if_neg (by omega)]
  have hql : (qualR s st).2.at' ≤ s.length := by
    unfold qualR
    simp only
    split
    · have := tw_le signB (s.drop st.at')
      rw [List.length_drop] at this
      show st.at' + _ ≤ _
      omega
    · rw [fail_at]; exact ha
  cbv
  refine .inl (n2 st _ hr ha _ (fun m1 r1 k1 => ?_))
  generalize qualR s st = ks at hA r1 hql ⊢
  obtain ⟨k, st1⟩ := ks
  have r1 : IsRr g0 m1 b s st1 := r1
  have hql : st1.at' ≤ s.length := hql
  simp only at hA
  cbv
  refine raw_build rfl ZA U1 (U2 k) U3 ?_
  cbv
  refine ⟨_, ZA, ?_⟩
  cbv
  have S2 : (m1.push (.cells [.string ⟨⟨[]⟩⟩, .string ⟨⟨[]⟩⟩] (some 41) true 0)).store E.P 41 ⟨m1.next, 0, none⟩ (.agg (attrC (k, [])).toArray) = some ((m1.push (.cells [.string ⟨⟨[]⟩⟩, .string ⟨⟨[]⟩⟩] (some 41) true 0)).put m1.next (some (.cells (attrC (k, [])) (some 41) true 0))) := st_agg T.aS (box_get _ _) rfl rfl rfl
  refine ⟨_, S2, ?_⟩
  obtain ⟨j0, j1, j2, j3⟩ := laid r1.gr (.cells [.string ⟨⟨[]⟩⟩, .string ⟨⟨[]⟩⟩] (some 41) true 0) (attrC (k, [])) (some 41) true
  generalize (m1.push (.cells [.string ⟨⟨[]⟩⟩, .string ⟨⟨[]⟩⟩] (some 41) true 0)).put m1.next (some (.cells (attrC (k, [])) (some 41) true 0)) = m2 at j0 j1 j2 j3 S2 ⊢
  have hbn := hr.lt
  have n1n := k1.next
  have r2 : IsRr g0 m2 b s st1 := ⟨by have := r1.lt; omega, r1.ge, j0, (j1.keep b r1.lt).trans r1.ex⟩
  have k2 : Keep b h m2 := k1.trans (.of j1)
  have q6b : m1.next ≠ b := by omega
  cbv
  refine LoopP.onX (fun x : H × Nat × Rd => [(7, .int .i64 (.ofNat x.2.1)), (5, .int .i64 (.ofNat st.at')), (6, .pointer (some ⟨m1.next, 0, none⟩)), (1, .slice aa l.length ac), (0, .pointer (some ⟨b, 0, none⟩))]) (fun x => x.1) (fun x => IsRr g0 x.1 b s x.2.2 ∧ Keep b m2 x.1 ∧ x.2.1 ≤ l.length ∧ (st1.err ≠ 0 ∧ x.2.2 = st1 ∨ st1.err = 0 ∧ x.2.2 = st1 ∧ dupA (l.drop x.2.1) k = dupA l k ∨ st1.err = 0 ∧ x.2.2 = failS st.at' 2 st1 ∧ dupA l k = true)) (fun x => l.length - x.2.1) (m2, 0, st1) rfl (Less.cons rfl (Less.cons rfl (Less.cons rfl (Less.cons rfl (Less.cons rfl (Less.nil _)))))) ⟨r2, Keep.refl b m2, Nat.zero_le _, by by_cases z : st1.err = 0 <;> simp [z]⟩ ?_
  rintro ⟨m, i, sx⟩ ⟨i1, i2, i3, i4⟩
  have i1 : IsRr g0 m b s sx := i1
  have i2 : Keep b m2 m := i2
  have i3 : i ≤ l.length := i3
  have i4 : (st1.err ≠ 0 ∧ sx = st1 ∨ st1.err = 0 ∧ sx = st1 ∧ dupA (l.drop i) k = dupA l k ∨ st1.err = 0 ∧ sx = failS st.at' 2 st1 ∧ dupA l k = true) := i4
  have L3 := ld_one (P := E.P) (i := 3) T.iA T.iS (read_cells i1.ex rfl) rfl
  have hbn1 : Nat.le (Nat.add i 1) 4611686018427387904 := by show i + 1 ≤ _; omega
  -- the end: the state is what the row's names make of it
  have endS : (¬ i < l.length ∨ sx.err ≠ 0) → sx = (if st1.err = 0 ∧ dupA l k = true then failS st.at' 2 st1 else st1) := by
    intro hend
    rcases i4 with ⟨z, z2⟩ | ⟨z, z2, z3⟩ | ⟨z, z2, z3⟩
    · rw [if_neg (fun q => z q.1), z2]
    · have hi : ¬ i < l.length := by
        rcases hend with q | q
        · exact q
        · rw [z2] at q; exact absurd z q
      rw [List.drop_eq_nil_of_le (by omega)] at z3
      have z3 : dupA l k = false := z3.symm
      rw [if_neg (fun q => by rw [z3] at q; cases q.2), z2]
    · rw [if_pos ⟨z, z3⟩, z2]
  cbv
  refine And.intro T.lT ?_
  by_cases hil : i < l.length
  · refine And.intro (fun _ => ?_) (fun e => absurd hil (Nat.not_lt.2 e))
    cbv
    refine ⟨3, R.r3, ?_⟩
    cbv
    refine ⟨_, L3, ?_⟩
    cbv
    refine And.intro (fun q => ?_) (fun q => ?_)
    · have q : sx.err = 0 := q
      have hst : st1.err = 0 ∧ sx = st1 ∧ dupA (l.drop i) k = dupA l k := by
        rcases i4 with ⟨z, z2⟩ | z | ⟨z, z2, z3⟩
        · rw [z2] at q; exact absurd q z
        · exact z
        · rw [z2] at q
          simp [failS, z] at q
      obtain ⟨z1, rfl, z3⟩ := hst
      obtain ⟨x, hx⟩ : ∃ x, l[i]? = some x := ⟨_, List.getElem?_eq_getElem hil⟩
      obtain ⟨_, _, e0, har⟩ := (keepRow m (k2.trans i2)).attrs
      injection e0 with e0 e01 e02
      subst e0
      have har : ∃ b off, aa = some ⟨b, off, none⟩ ∧ b < m.next ∧ ∀ i x, l[i]? = some x → m.read b (off + i * 2) 2 = some (attrC x) := by
        rcases har with ⟨rfl, _⟩ | ⟨b, off, q1, _, q3, q4⟩
        · simp at hil
        · exact ⟨b, off, q1, q3, q4⟩
      obtain ⟨b1, off1, rfl, hb1, hrd1⟩ := har
      rw [dupA_drop hx k] at z3
      have LX := ld_one (P := E.P) (i := 0) T.sA T.sS (hrd1 i x hx) rfl
      have LK := ld_one (P := E.P) (i := 0) T.sA T.sS (read_cells ((i2.keep m1.next j3 q6b).trans j2) rfl) rfl
      have Mq : m.m = m.m ∧ m.next = m.next ∧ Grows m m := ⟨rfl, rfl, Grows.refl m⟩
      cbv
      refine DrawP.free (by kernel_rfl) (fun bef => ?_)
      cbv
      refine ⟨2, T.lZ, hil, ?_⟩
      cbv
      refine ⟨0, T.a0, ?_⟩
      cbv
      refine ⟨_, ld_at LX Mq.1, ?_⟩
      cbv
      generalize hD : H.dip _ = D
      have MqD : D.m = m.m ∧ D.next = m.next ∧ Grows m D := by
        subst hD
        refine ⟨Mq.1, Mq.2.1, ?_⟩
        repeat first | with_reducible exact Mq.2.2 | with_reducible apply Grows.dip
      clear hD Mq
      revert D
      intro M Mq
      refine FitP.stay (f := (.rd (some b1))) rfl rfl ?_
      generalize hM : mixH _ _ = M'
      have Mq' : M'.m = m.m ∧ M'.next = m.next ∧ Grows m M' := by
        subst hM
        exact ⟨Mq.1, Mq.2.1, Grows.mixTop Mq.2.2⟩
      clear hM Mq
      revert M'
      intro M Mq
      cbv
      refine ⟨0, T.a0, ?_⟩
      cbv
      refine ⟨_, ld_at LK Mq.1, ?_⟩
      cbv
      generalize hD : H.dip _ = D
      have MqD : D.m = m.m ∧ D.next = m.next ∧ Grows m D := by
        subst hD
        refine ⟨Mq.1, Mq.2.1, ?_⟩
        repeat first | with_reducible exact Mq.2.2 | with_reducible apply Grows.dip
      clear hD Mq
      revert D
      intro M Mq
      refine FitP.stay (f := (.rd (some m1.next))) rfl rfl ?_
      generalize hM : mixH _ _ = M'
      have Mq' : M'.m = m.m ∧ M'.next = m.next ∧ Grows m M' := by
        subst hM
        exact ⟨Mq.1, Mq.2.1, Grows.mixTop Mq.2.2⟩
      clear hM Mq
      revert M'
      intro M Mq
      cbv
      generalize hM2 : H.dip _ = M2
      have r3 : IsRr g0 M2 b s sx := by
        subst hM2
        refine i1.re Mq.1 Mq.2.1 (i1.gr.trans ?_)
        repeat first | with_reducible exact Mq.2.2 | with_reducible apply Grows.dip
      have k3 : Keep b m2 M2 := by
        subst hM2
        refine i2.trans (Keep.of ?_)
        repeat first | with_reducible exact Mq.2.2 | with_reducible apply Grows.dip
      clear hM2
      refine And.intro (fun q => ?_) (fun q => ?_)
      · have q : x.1 = k := q
        have hd : dupA l k = true := by rw [← z3, q]; simp
        cbv
        refine .inl (n4 sx st.at' 2 _ r3 _ (fun v m4 r4 k4 => ?_))
        cbv
        refine And.intro hbn1 ?_
        exact ⟨(m4, i + 1, failS st.at' 2 sx), Less.cons rfl (Less.cons rfl (Less.cons rfl (Less.cons rfl (Less.cons rfl (Less.nil _))))), rfl, ⟨r4, k3.trans k4, hil, .inr (.inr ⟨z1, rfl, hd⟩)⟩, (by show l.length - (i + 1) < l.length - i; omega)⟩
      · have q : ¬ x.1 = k := q
        have hd : dupA (l.drop (i + 1)) k = dupA l k := by rw [← z3, beq_false_of_ne q, Bool.false_or]
        cbv
        refine And.intro hbn1 ?_
        exact ⟨(M2, i + 1, sx), Less.cons rfl (Less.cons rfl (Less.cons rfl (Less.cons rfl (Less.cons rfl (Less.nil _))))), rfl, ⟨r3, k3, hil, .inr (.inl ⟨z1, rfl, hd⟩)⟩, (by show l.length - (i + 1) < l.length - i; omega)⟩
    · have q : ¬ sx.err = 0 := q
      have hsx := endS (.inr q)
      cbv
      have hsa : sx.at' ≤ s.length := by
        rw [hsx]
        split
        · rw [fail_at]; exact hql
        · exact hql
      have hA2 : attrR s l st = (let st3 := if sx.err = 0 ∧ hasR s [61] sx = false then failS sx.at' 2 sx else sx
          if st3.err ≠ 0 then (l, st3) else
          let (v, st4) := valueS s (goS 1 st3)
          (l ++ [(k, v)], st4)) := by rw [hA, ← hsx]
      have L3 := ld_one (P := E.P) (i := 3) T.iA T.iS (read_cells i1.ex rfl) rfl
      have kk := k2.trans i2
      have back : ∀ m' stz, IsRr g0 m' b s stz → Keep b h m' → stz.at' ≤ s.length → attrR s l st = (l, stz) → K (.slice aa l.length ac) m' := by
        intro m' stz q1 q2 q3 q4
        rw [q4] at hk
        exact hk _ _ q1 (fun _ => q3) (by show stz.at' ≤ _; omega) hl (keepRow m' q2) q2.next (fun r p1 p2 _ => q2.keep r p1 p2)
      refine ⟨3, R.r3, ?_⟩
      cbv
      refine ⟨_, L3, ?_⟩
      cbv
      refine And.intro (fun z => ?_) (fun z => ?_)
      · have z : sx.err = 0 := z
        have n1a := n1 [61] (by simp) sx m i1 (fun _ => hsa)
        cbv
        cases hh : hasR s [61] sx
        · rw [hh] at n1a hA2
          have hfe : ¬ (failS sx.at' 2 sx).err = 0 := by simp [failS, z]
          have hA2 : attrR s l st = (l, failS sx.at' 2 sx) := by
            rw [hA2]
            simp only [z, true_and, if_true]
            rw [if_pos hfe]
          refine .inl (n1a _ (fun m4 r4 k4 => ?_))
          have L14 := ld_one (P := E.P) (i := 1) T.iA T.iS (read_cells r4.ex rfl) rfl
          cbv
          refine ⟨1, R.r1, ?_⟩
          cbv
          refine ⟨_, L14, ?_⟩
          cbv
          refine .inl (n4 sx sx.at' 2 _ r4 _ (fun v m5 r5 k5 => ?_))
          have L35 := ld_one (P := E.P) (i := 3) T.iA T.iS (read_cells r5.ex rfl) rfl
          have hfa : (failS sx.at' 2 sx).at' ≤ s.length := by rw [fail_at]; exact hsa
          generalize failS sx.at' 2 sx = sy at hA2 r5 L35 hfe hfa
          cbv
          refine ⟨3, R.r3, ?_⟩
          cbv
          refine ⟨_, L35, ?_⟩
          cbv
          refine And.intro (fun e => absurd e hfe) (fun _ => ?_)
          cbv
          exact ⟨_, rfl, back m5 sy r5 (kk.trans (k4.trans k5)) hfa hA2⟩
        · rw [hh] at n1a hA2
          have hA2 : attrR s l st = ((l ++ [(k, (valueS s (goS 1 sx)).1)]), (valueS s (goS 1 sx)).2) := by
            rw [hA2]
            simp [z]
          obtain ⟨rr, hrr⟩ := hq.rest z hh
          have hs1 : (goS 1 sx).at' ≤ s.length := by
            have q := rest_le s (goS 1 sx)
            rw [hrr] at q
            simp at q
            have : (goS 1 sx).at' = sx.at' + 1 := rfl
            omega
          refine .inl (n1a _ (fun m4 r4 k4 => ?_))
          have L34 := ld_one (P := E.P) (i := 3) T.iA T.iS (read_cells r4.ex rfl) rfl
          have L14 := ld_one (P := E.P) (i := 1) T.iA T.iS (read_cells r4.ex rfl) rfl
          have S5 : m4.store E.P 3 ⟨b, 1, none⟩ (.int .i64 (.ofNat (sx.at' + 1))) = some (m4.put b (some (rrO s (goS 1 sx)))) := (st_one (P := E.P) (v := .int .i64 (.ofNat (sx.at' + 1))) (i := 1) T.iS r4.ex (by simp) rfl rfl).trans rfl
          have r5 := r4.put (st' := goS 1 sx)
          have k5 : Keep b m2 (m4.put b (some (rrO s (goS 1 sx)))) := (i2.trans k4).put _
          generalize m4.put b (some (rrO s (goS 1 sx))) = m5 at S5 r5 k5
          cbv
          refine ⟨3, R.r3, ?_⟩
          cbv
          refine ⟨_, L34, ?_⟩
          cbv
          refine And.intro (fun _ => ?_) (fun e => absurd z e)
          cbv
          refine ⟨1, R.r1, ?_⟩
          cbv
          refine ⟨_, L14, ?_⟩
          cbv
          refine And.intro (by show sx.at' + 1 ≤ _; omega) ?_
          refine ⟨1, R.r1, ?_⟩
          cbv
          refine ⟨_, S5, ?_⟩
          have hvl := value_le hs1
          generalize goS 1 sx = sy at hA2 r5 hs1 hrr hvl
          cbv
          refine .inl (n3 sy _ r5 hs1 rr hrr _ (fun m6 r6 k6 => ?_))
          generalize valueS s sy = vs at hA2 r6 hvl ⊢
          obtain ⟨u, st4⟩ := vs
          have hA2 : attrR s l st = (l ++ [(k, u)], st4) := hA2
          have r6 : IsRr g0 m6 b s st4 := r6
          have hvl : st4.at' ≤ s.length := hvl
          have k6' := k5.trans k6
          have B6 := (k6'.keep m1.next j3 q6b).trans j2
          have S7 : m6.store E.P 9 ⟨m1.next, 1, none⟩ (.string ⟨⟨u⟩⟩) = some (m6.put m1.next (some (.cells (attrC (k, u)) (some 41) true 0))) := (st_one (P := E.P) (v := .string ⟨⟨u⟩⟩) (i := 1) T.sS B6 (by simp [attrC]) rfl rfl).trans rfl
          have G7 : ∀ r, r ≠ m1.next → (m6.put m1.next (some (.cells (attrC (k, u)) (some 41) true 0))).m.get r = m6.m.get r := fun r hr => by rw [put_get, if_neg hr]
          have B7 : (m6.put m1.next (some (.cells (attrC (k, u)) (some 41) true 0))).m.get m1.next = some (.cells (attrC (k, u)) (some 41) true 0) := by rw [put_get, if_pos rfl]
          have N7 : (m6.put m1.next (some (.cells (attrC (k, u)) (some 41) true 0))).next = m6.next := rfl
          have r7 : IsRr g0 (m6.put m1.next (some (.cells (attrC (k, u)) (some 41) true 0))) b s st4 := ⟨r6.lt, r6.ge, r6.gr.put (by have := r1.gr.next; omega) _, (G7 b (fun q => q6b q.symm)).trans r6.ex⟩
          have k7 : Keep b h (m6.put m1.next (some (.cells (attrC (k, u)) (some 41) true 0))) := ⟨(k2.trans k6').next, fun r q1 q2 => (G7 r (by omega)).trans ((k2.trans k6').keep r q1 q2)⟩
          cbv
          refine ⟨1, T.a1, ?_⟩
          cbv
          refine ⟨_, S7, ?_⟩
          generalize m6.put m1.next (some (.cells (attrC (k, u)) (some 41) true 0)) = m7 at B7 N7 r7 k7
          have L7 := ld_agg (P := E.P) T.aA T.aS (read_cells B7 rfl)
          cbv
          refine ⟨_, L7, ?_⟩
          cbv
          refine raw_buildSlice rfl RT.u ZA T.aS (by decide) (c := attrC (k, u)) rfl ?_
          have g8 : Grows m7 (m7.push (.cells (attrC (k, u)) (some 41) true 0)) := (Grows.refl m7).push _
          have B8 := box_get m7 (.cells (attrC (k, u)) (some 41) true 0)
          have N8 : (m7.push (.cells (attrC (k, u)) (some 41) true 0)).next = m7.next + 1 := rfl
          generalize m7.push (.cells (attrC (k, u)) (some 41) true 0) = m8 at g8 B8 N8 ⊢
          have k8 := k7.trans (.of g8)
          have k7n := k7.next
          obtain ⟨v', h', ha1, ha2, ha3, ha4, ha5, ha6⟩ := row_append (q := m7.next) RT (keepRow _ k8) (Nat.le_trans hgh k8.next) (by rw [List.length_map]; omega) B8 rfl rfl (by omega) (NotAt.of_lt hrow (.inr k7n))
          rw [hA2] at hk
          have G9 : Grows g0 h' := grows_row (r7.gr.trans g8) (by rw [ha3]; exact Nat.le_succ _) (fun r hr => ha5 r (by omega) (NotAt.of_lt hrow (.inl (by omega)))) (by
            rcases ha6 with q | q
            · exact .inl q
            · exact .inr (by omega))
          have r9 : IsRr g0 h' b s st4 := by
            refine ⟨by rw [ha3]; omega, r7.ge, G9, ?_⟩
            rw [ha5 b (by omega) (NotAt.of_lt hrow (.inl hgb)), g8.keep b (by omega)]
            exact r7.ex
          have row9 : IsRow h' g 41 2 ((l ++ [(k, u)]).map attrC) v' := by rw [List.map_append]; exact ha2
          cbv
          refine raw_appendS rfl rfl RT.u ha1 ?_
          cbv
          exact ⟨_, rfl, hk _ _ r9 (fun _ => hvl) (by show st4.at' ≤ _; omega) (by show (l ++ [(k, u)]).length ≤ 8; simp; omega) row9 (by rw [ha3]; omega) (fun r q1 q2 q3 => by rw [ha5 r (by omega) q3]; exact k8.keep r q1 q2)⟩
      · have z : ¬ sx.err = 0 := z
        have hA2 : attrR s l st = (l, sx) := by
          rw [hA2]
          have e : (if sx.err = 0 ∧ hasR s [61] sx = false then failS sx.at' 2 sx else sx) = sx := if_neg (fun q => z q.1)
          simp only [e]
          rw [if_pos z]
        cbv
        refine ⟨3, R.r3, ?_⟩
        cbv
        refine ⟨_, L3, ?_⟩
        cbv
        refine And.intro (fun e => absurd e z) (fun _ => ?_)
        cbv
        exact ⟨_, rfl, back m sx i1 kk hsa hA2⟩
  · have hsx := endS (.inl hil)
    refine And.intro (fun e => absurd e hil) (fun _ => ?_)
    cbv
    have hsa : sx.at' ≤ s.length := by
      rw [hsx]
      split
      · rw [fail_at]; exact hql
      · exact hql
    have hA2 : attrR s l st = (let st3 := if sx.err = 0 ∧ hasR s [61] sx = false then failS sx.at' 2 sx else sx
        if st3.err ≠ 0 then (l, st3) else
        let (v, st4) := valueS s (goS 1 st3)
        (l ++ [(k, v)], st4)) := by rw [hA, ← hsx]
    have L3 := ld_one (P := E.P) (i := 3) T.iA T.iS (read_cells i1.ex rfl) rfl
    have kk := k2.trans i2
    have back : ∀ m' stz, IsRr g0 m' b s stz → Keep b h m' → stz.at' ≤ s.length → attrR s l st = (l, stz) → K (.slice aa l.length ac) m' := by
      intro m' stz q1 q2 q3 q4
      rw [q4] at hk
      exact hk _ _ q1 (fun _ => q3) (by show stz.at' ≤ _; omega) hl (keepRow m' q2) q2.next (fun r p1 p2 _ => q2.keep r p1 p2)
    refine ⟨3, R.r3, ?_⟩
    cbv
    refine ⟨_, L3, ?_⟩
    cbv
    refine And.intro (fun z => ?_) (fun z => ?_)
    · have z : sx.err = 0 := z
      have n1a := n1 [61] (by simp) sx m i1 (fun _ => hsa)
      cbv
      cases hh : hasR s [61] sx
      · rw [hh] at n1a hA2
        have hfe : ¬ (failS sx.at' 2 sx).err = 0 := by simp [failS, z]
        have hA2 : attrR s l st = (l, failS sx.at' 2 sx) := by
          rw [hA2]
          simp only [z, true_and, if_true]
          rw [if_pos hfe]
        refine .inl (n1a _ (fun m4 r4 k4 => ?_))
        have L14 := ld_one (P := E.P) (i := 1) T.iA T.iS (read_cells r4.ex rfl) rfl
        cbv
        refine ⟨1, R.r1, ?_⟩
        cbv
        refine ⟨_, L14, ?_⟩
        cbv
        refine .inl (n4 sx sx.at' 2 _ r4 _ (fun v m5 r5 k5 => ?_))
        have L35 := ld_one (P := E.P) (i := 3) T.iA T.iS (read_cells r5.ex rfl) rfl
        have hfa : (failS sx.at' 2 sx).at' ≤ s.length := by rw [fail_at]; exact hsa
        generalize failS sx.at' 2 sx = sy at hA2 r5 L35 hfe hfa
        cbv
        refine ⟨3, R.r3, ?_⟩
        cbv
        refine ⟨_, L35, ?_⟩
        cbv
        refine And.intro (fun e => absurd e hfe) (fun _ => ?_)
        cbv
        exact ⟨_, rfl, back m5 sy r5 (kk.trans (k4.trans k5)) hfa hA2⟩
      · rw [hh] at n1a hA2
        have hA2 : attrR s l st = ((l ++ [(k, (valueS s (goS 1 sx)).1)]), (valueS s (goS 1 sx)).2) := by
          rw [hA2]
          simp [z]
        obtain ⟨rr, hrr⟩ := hq.rest z hh
        have hs1 : (goS 1 sx).at' ≤ s.length := by
          have q := rest_le s (goS 1 sx)
          rw [hrr] at q
          simp at q
          have : (goS 1 sx).at' = sx.at' + 1 := rfl
          omega
        refine .inl (n1a _ (fun m4 r4 k4 => ?_))
        have L34 := ld_one (P := E.P) (i := 3) T.iA T.iS (read_cells r4.ex rfl) rfl
        have L14 := ld_one (P := E.P) (i := 1) T.iA T.iS (read_cells r4.ex rfl) rfl
        have S5 : m4.store E.P 3 ⟨b, 1, none⟩ (.int .i64 (.ofNat (sx.at' + 1))) = some (m4.put b (some (rrO s (goS 1 sx)))) := (st_one (P := E.P) (v := .int .i64 (.ofNat (sx.at' + 1))) (i := 1) T.iS r4.ex (by simp) rfl rfl).trans rfl
        have r5 := r4.put (st' := goS 1 sx)
        have k5 : Keep b m2 (m4.put b (some (rrO s (goS 1 sx)))) := (i2.trans k4).put _
        generalize m4.put b (some (rrO s (goS 1 sx))) = m5 at S5 r5 k5
        cbv
        refine ⟨3, R.r3, ?_⟩
        cbv
        refine ⟨_, L34, ?_⟩
        cbv
        refine And.intro (fun _ => ?_) (fun e => absurd z e)
        cbv
        refine ⟨1, R.r1, ?_⟩
        cbv
        refine ⟨_, L14, ?_⟩
        cbv
        refine And.intro (by show sx.at' + 1 ≤ _; omega) ?_
        refine ⟨1, R.r1, ?_⟩
        cbv
        refine ⟨_, S5, ?_⟩
        have hvl := value_le hs1
        generalize goS 1 sx = sy at hA2 r5 hs1 hrr hvl
        cbv
        refine .inl (n3 sy _ r5 hs1 rr hrr _ (fun m6 r6 k6 => ?_))
        generalize valueS s sy = vs at hA2 r6 hvl ⊢
        obtain ⟨u, st4⟩ := vs
        have hA2 : attrR s l st = (l ++ [(k, u)], st4) := hA2
        have r6 : IsRr g0 m6 b s st4 := r6
        have hvl : st4.at' ≤ s.length := hvl
        have k6' := k5.trans k6
        have B6 := (k6'.keep m1.next j3 q6b).trans j2
        have S7 : m6.store E.P 9 ⟨m1.next, 1, none⟩ (.string ⟨⟨u⟩⟩) = some (m6.put m1.next (some (.cells (attrC (k, u)) (some 41) true 0))) := (st_one (P := E.P) (v := .string ⟨⟨u⟩⟩) (i := 1) T.sS B6 (by simp [attrC]) rfl rfl).trans rfl
        have G7 : ∀ r, r ≠ m1.next → (m6.put m1.next (some (.cells (attrC (k, u)) (some 41) true 0))).m.get r = m6.m.get r := fun r hr => by rw [put_get, if_neg hr]
        have B7 : (m6.put m1.next (some (.cells (attrC (k, u)) (some 41) true 0))).m.get m1.next = some (.cells (attrC (k, u)) (some 41) true 0) := by rw [put_get, if_pos rfl]
        have N7 : (m6.put m1.next (some (.cells (attrC (k, u)) (some 41) true 0))).next = m6.next := rfl
        have r7 : IsRr g0 (m6.put m1.next (some (.cells (attrC (k, u)) (some 41) true 0))) b s st4 := ⟨r6.lt, r6.ge, r6.gr.put (by have := r1.gr.next; omega) _, (G7 b (fun q => q6b q.symm)).trans r6.ex⟩
        have k7 : Keep b h (m6.put m1.next (some (.cells (attrC (k, u)) (some 41) true 0))) := ⟨(k2.trans k6').next, fun r q1 q2 => (G7 r (by omega)).trans ((k2.trans k6').keep r q1 q2)⟩
        cbv
        refine ⟨1, T.a1, ?_⟩
        cbv
        refine ⟨_, S7, ?_⟩
        generalize m6.put m1.next (some (.cells (attrC (k, u)) (some 41) true 0)) = m7 at B7 N7 r7 k7
        have L7 := ld_agg (P := E.P) T.aA T.aS (read_cells B7 rfl)
        cbv
        refine ⟨_, L7, ?_⟩
        cbv
        refine raw_buildSlice rfl RT.u ZA T.aS (by decide) (c := attrC (k, u)) rfl ?_
        have g8 : Grows m7 (m7.push (.cells (attrC (k, u)) (some 41) true 0)) := (Grows.refl m7).push _
        have B8 := box_get m7 (.cells (attrC (k, u)) (some 41) true 0)
        have N8 : (m7.push (.cells (attrC (k, u)) (some 41) true 0)).next = m7.next + 1 := rfl
        generalize m7.push (.cells (attrC (k, u)) (some 41) true 0) = m8 at g8 B8 N8 ⊢
        have k8 := k7.trans (.of g8)
        have k7n := k7.next
        obtain ⟨v', h', ha1, ha2, ha3, ha4, ha5, ha6⟩ := row_append (q := m7.next) RT (keepRow _ k8) (Nat.le_trans hgh k8.next) (by rw [List.length_map]; omega) B8 rfl rfl (by omega) (NotAt.of_lt hrow (.inr k7n))
        rw [hA2] at hk
        have G9 : Grows g0 h' := grows_row (r7.gr.trans g8) (by rw [ha3]; exact Nat.le_succ _) (fun r hr => ha5 r (by omega) (NotAt.of_lt hrow (.inl (by omega)))) (by
          rcases ha6 with q | q
          · exact .inl q
          · exact .inr (by omega))
        have r9 : IsRr g0 h' b s st4 := by
          refine ⟨by rw [ha3]; omega, r7.ge, G9, ?_⟩
          rw [ha5 b (by omega) (NotAt.of_lt hrow (.inl hgb)), g8.keep b (by omega)]
          exact r7.ex
        have row9 : IsRow h' g 41 2 ((l ++ [(k, u)]).map attrC) v' := by rw [List.map_append]; exact ha2
        cbv
        refine raw_appendS rfl rfl RT.u ha1 ?_
        cbv
        exact ⟨_, rfl, hk _ _ r9 (fun _ => hvl) (by show st4.at' ≤ _; omega) (by show (l ++ [(k, u)]).length ≤ 8; simp; omega) row9 (by rw [ha3]; omega) (fun r q1 q2 q3 => by rw [ha5 r (by omega) q3]; exact k8.keep r q1 q2)⟩
    · have z : ¬ sx.err = 0 := z
      have hA2 : attrR s l st = (l, sx) := by
        rw [hA2]
        have e : (if sx.err = 0 ∧ hasR s [61] sx = false then failS sx.at' 2 sx else sx) = sx := if_neg (fun q => z q.1)
        simp only [e]
        rw [if_pos z]
      cbv
      refine ⟨3, R.r3, ?_⟩
      cbv
      refine ⟨_, L3, ?_⟩
      cbv
      refine And.intro (fun e => absurd e z) (fun _ => ?_)
      cbv
      exact ⟨_, rfl, back m sx i1 kk hsa hA2⟩
end
end Go.Proofs.YtfgemjpoiconbaaGreatDoor.GEv

/- The reference's 'element' without kids, by a symbolic run. -/
namespace Go.Proofs.YtfgemjpoiconbaaGreatDoor.GEv
open Go
set_option linter.unusedSimpArgs false
set_option linter.unusedVariables false
set_option maxRecDepth 100000
set_option maxHeartbeats 4000000
theorem hasR_err {s p : Bs} {st : Rd} (h : hasR s p st = true) : st.err = 0 ∧ (s.drop st.at').take p.length = p := by
  unfold hasR at h
  simpa using h
theorem hasR_le {s p : Bs} {st : Rd} (h : hasR s p st = true) (hle : st.at' ≤ s.length) : (goS p.length st).at' ≤ s.length := by
  have := congrArg List.length (hasR_err h).2
  rw [List.length_take, List.length_drop] at this
  show st.at' + p.length ≤ _
  omega
theorem attrR_le {s : Bs} {l : List (Bs × Bs)} {st : Rd} (hq : EqQ s) (he : st.err = 0) (ha : st.at' ≤ s.length) : (attrR s l st).2.at' ≤ s.length := by
  have hql : (qualR s st).2.at' ≤ s.length := by
    unfold qualR
    simp only
    split
    · have := tw_le signB (s.drop st.at')
      rw [List.length_drop] at this
      show st.at' + _ ≤ _
      omega
    · rw [fail_at]; exact ha
  unfold attrR
  split
  · rw [fail_at]; exact ha
  · simp only
    generalize qualR s st = ks at hql ⊢
    obtain ⟨k, st1⟩ := ks
    have hql : st1.at' ≤ s.length := hql
    simp only
    generalize h2 : (if st1.err = 0 ∧ dupA l k = true then failS st.at' 2 st1 else st1) = st2
    have e2 : st2.at' ≤ s.length := by
      rw [← h2]
      split
      · rw [fail_at]; exact hql
      · exact hql
    generalize h3 : (if st2.err = 0 ∧ hasR s [61] st2 = false then failS st2.at' 2 st2 else st2) = st3
    have e3 : st3.at' ≤ s.length := by
      rw [← h3]
      split
      · rw [fail_at]; exact e2
      · exact e2
    split
    · exact e3
    · rename_i hz
      have hz : st3.err = 0 := by simpa using hz
      have hh : hasR s [61] st3 = true := by
        by_cases c : st2.err = 0 ∧ hasR s [61] st2 = false
        · rw [if_pos c] at h3
          rw [← h3] at hz
          simp [failS, c.1] at hz
        · rw [if_neg c] at h3
          subst h3
          cases hx : hasR s [61] st2
          · exact absurd ⟨hz, hx⟩ c
          · rfl
      exact value_le (hasR_le hh e3)
attribute [local cbv_opaque] isString isSlice isBoolT fOff iSize eqNil zero H.load H.store H.push H.dip H.put List.length List.getD Nat.add Nat.sub Nat.mul List.take List.drop top Addr.add mixH restS isS failS goS mustS blanksN hasR qualR attrR isQual byte cmpJ ariJ valueS dupA append
attribute [local cbv_eval] List.length_cons List.length_nil addr_add mixH_top
section
variable {E : Env} (hE : E = EMY)
include hE
theorem rElem (b : Nat) (s : Bs) (hs : s.length ≤ 100000) (hq : EqQ s) (f0 : Nat) (st : Rd) (g0 h : H) (hr : IsRr g0 h b s st) (he : st.err = 0) (ha : st.at' ≤ s.length) (hel : st.elems ≤ 400) (e : El) (ST : Rd) (hsp : elR s f0 st = some (e, ST)) (K : Value → H → Prop)
    (hk : ∀ c h', IsRr g0 h' b s ST → ST.at' ≤ s.length → Keep b h h' → IsEl h' (fun x => h.next ≤ x) e c → K (.agg c.toArray) h') :
    CallP E 33 [.pointer (some ⟨b, 0, none⟩), .int .i64 (.ofNat 0)] h K := by
  have T : TyOk E.P := by rw [hE]; exact tyOk
  have R : RrOk E.P := by rw [hE]; exact rrOk
  have zE : zero E.P 25 = some (.agg #[.string ⟨⟨[]⟩⟩, .slice none 0 0, .slice none 0 0, .int .i64 0]) := by rw [hE]; exact zElem
  obtain ⟨fs, EB⟩ : ∃ fs, ElBuild E.P fs := by rw [hE]; exact elBuild
  have n1 := fun st hbd h hr ha K hk => rBlanks hE b s (by omega) st hbd g0 h hr ha K hk
  have n2 := fun p hp st h hr ha K hk => rHas hE b s p hp (by omega) st g0 h hr ha K hk
  have n2g := fun p hp st h hr ha K hk => rHasG hE b s p hp (by omega) st g0 h hr ha K hk
  have n3 := fun st a e h hr K hk => rFail hE b s st a e g0 h hr K hk
  have n4 := fun st h hr ha K hk => rrQual hE b s (by omega) st g0 h hr ha K hk
  have n5 := fun st h g l va hr he ha hl hrow hg0 hgb hgh K hk => rAttr hE b s hs hq st g0 h g l va hr he ha hl hrow hg0 hgb hgh K hk
  refine CallP.ofXE hE rfl Tryz.func33 rfl (Nat.le_of_ble_eq_true rfl) ?_
  clear hE
  have hbh := hr.lt
  have hgb := hr.ge
  cbv
  refine ⟨_, zE, ?_⟩
  have g1 : Grows h (h.push (boxO zC)) := (Grows.refl h).push _
  have B1 : (h.push (boxO zC)).m.get h.next = some (boxO zC) := box_get _ _
  have N1 : (h.push (boxO zC)).next = h.next + 1 := rfl
  cbv
  generalize hm1 : h.push _ = m1
  have g1 : Grows h m1 := by subst hm1; exact g1
  have B1 : m1.m.get h.next = some (boxO zC) := by subst hm1; exact B1
  have N1 : m1.next = h.next + 1 := by subst hm1; exact N1
  clear hm1
  have r1 : IsRr g0 m1 b s st := ⟨by omega, hgb, hr.gr.trans g1, (g1.keep b hbh).trans hr.ex⟩
  have L1 := ld_one (P := E.P) (i := 1) T.iA T.iS (read_cells r1.ex rfl) rfl
  refine ⟨1, R.r1, ?_⟩
  cbv
  refine ⟨_, L1, ?_⟩
  cbv
  refine raw_build rfl zE EB.u (EB.f _) EB.a ?_
  cbv
  refine ⟨_, zE, ?_⟩
  cbv
  have S2 : (m1.push (boxO zC)).store E.P 25 ⟨m1.next, 0, none⟩ (.agg (elC [] none 0 0 none 0 0 st.at').toArray) = some ((m1.push (boxO zC)).put m1.next (some (boxO (elC [] none 0 0 none 0 0 st.at')))) := st_agg T.eS (box_get _ _) rfl rfl rfl
  refine ⟨_, S2, ?_⟩
  obtain ⟨_, g2, B2, N2⟩ := laid g1 (boxO zC) (elC [] none 0 0 none 0 0 st.at') (some 25) true
  generalize (m1.push (boxO zC)).put m1.next (some (boxO (elC [] none 0 0 none 0 0 st.at'))) = m2 at g2 B2 N2 ⊢
  clear S2
  have r2 : IsRr g0 m2 b s st := ⟨by omega, hgb, r1.gr.trans g2, (g2.keep b (by omega)).trans r1.ex⟩
  have Z2 : m2.m.get h.next = some (boxO zC) := (g2.keep h.next (by omega)).trans B1
  have k2 : Keep b h m2 := (Keep.of g1).trans (.of g2)
  have nb4 : h.next ≠ b := by omega
  have nb5 : m1.next ≠ b := by omega
  have fin : ∀ (m : H) (C : List Value), m.m.get h.next = some (boxO zC) → C.length = 4 → C.all one = true → IsRr g0 m b s ST → ST.at' ≤ s.length → Keep b h m → IsEl m (fun x => m1.next < x) e C → ∃ h', m.store E.P 25 ⟨h.next, 0, none⟩ (.agg C.toArray) = some h' ∧ h'.load E.P 25 ⟨h.next, 0, none⟩ = some (.agg C.toArray) ∧ K (.agg C.toArray) h' := by
    intro m C q1 q2 q3 q4 q5 q6 q7
    have G : ∀ r, r ≠ h.next → (m.put h.next (some (boxO C))).m.get r = m.m.get r := fun r hr => by rw [put_get, if_neg hr]
    refine ⟨m.put h.next (some (boxO C)), st_agg T.eS q1 rfl q2 q3, ld_agg T.eA T.eS (read_cells (by rw [put_get, if_pos rfl]) q2), hk C _ ⟨q4.lt, q4.ge, q4.gr.put (by have := hr.gr.next; omega) _, (G b (fun q => nb4 q.symm)).trans q4.ex⟩ q5 ⟨q6.next, fun c hc hcb => (G c (by omega)).trans (q6.keep c hc hcb)⟩ (q7.mono (fun x hx _ => by have : m1.next < x := hx; omega) (fun x hx _ => G x (by have : m1.next < x := hx; omega)) (Nat.le_refl _))⟩
  unfold elR at hsp
  simp only at hsp
  cbv
  cases hh : hasR s [60] st
  · rw [hh] at hsp
    simp only [if_true] at hsp
    obtain ⟨rfl, rfl⟩ : El.mk [] [] [] st.at' = e ∧ failS st.at' 2 st = ST := by simpa using hsp
    refine .inl (n2 [60] (by simp) st _ r2 (fun _ => ha) _ (fun m3 r3 k3 => ?_))
    rw [hh]
    have L13 := ld_one (P := E.P) (i := 1) T.iA T.iS (read_cells r3.ex rfl) rfl
    cbv
    refine ⟨1, R.r1, ?_⟩
    cbv
    refine ⟨_, L13, ?_⟩
    cbv
    refine .inl (n3 st st.at' 2 _ r3 _ (fun v5 m5 r5 k5 => ?_))
    have k5' := k3.trans k5
    have L5 := ld_agg (P := E.P) T.eA T.eS (read_cells ((k5'.keep m1.next N2 nb5).trans B2) rfl)
    obtain ⟨h', q1, q2, q3⟩ := fin m5 (elC [] none 0 0 none 0 0 st.at') ((k5'.keep h.next (by omega) nb4).trans Z2) rfl rfl r5 (by rw [fail_at]; exact ha) (k2.trans k5') (.leaf ⟨_, _, rfl, .inl ⟨rfl, fun _ q => by cases q⟩⟩ (fun _ q => by cases q))
    cbv
    refine ⟨_, L5, ?_⟩
    cbv
    refine ⟨_, q1, ?_⟩
    cbv
    exact ⟨_, res_cell rfl q2, q3⟩
  rw [hh] at hsp
  simp only [Bool.true_eq_false, if_false] at hsp
  refine .inl (n2 [60] (by simp) st _ r2 (fun _ => ha) _ (fun m3 r3 k3 => ?_))
  rw [hh]
  have L2 := ld_one (P := E.P) (i := 2) T.iA T.iS (read_cells r3.ex rfl) rfl
  have S4 : m3.store E.P 3 ⟨b, 2, none⟩ (.int .i64 (.ofNat (st.elems + 1))) = some (m3.put b (some (rrO s { st with elems := st.elems + 1 }))) := (st_one (P := E.P) (v := .int .i64 (.ofNat (st.elems + 1))) (i := 2) T.iS r3.ex (by simp) rfl rfl).trans rfl
  have r5 := r3.put (st' := { st with elems := st.elems + 1 })
  have k5 : Keep b m2 (m3.put b (some (rrO s { st with elems := st.elems + 1 }))) := k3.put _
  generalize m3.put b (some (rrO s { st with elems := st.elems + 1 })) = m5 at S4 r5 k5
  have L25 := ld_one (P := E.P) (i := 2) T.iA T.iS (read_cells r5.ex rfl) rfl
  have L15 := ld_one (P := E.P) (i := 1) T.iA T.iS (read_cells r5.ex rfl) rfl
  cbv
  refine ⟨2, R.r2, ?_⟩
  cbv
  refine ⟨_, L2, ?_⟩
  cbv
  refine And.intro (by show st.elems + 1 ≤ _; omega) ?_
  refine ⟨2, R.r2, ?_⟩
  cbv
  refine ⟨_, S4, ?_⟩
  cbv
  refine And.intro (fun e12 => absurd e12 (by decide)) (fun _ => ?_)
  cbv
  refine ⟨2, R.r2, ?_⟩
  cbv
  refine ⟨_, L25, ?_⟩
  cbv
  refine And.intro (fun e4 => ?_) (fun e4 => ?_)
  · have e4 : 400 < st.elems + 1 := e4
    rw [if_pos e4] at hsp
    obtain ⟨rfl, rfl⟩ : El.mk [] [] [] st.at' = e ∧ failS st.at' 4 { st with elems := st.elems + 1 } = ST := by simpa using hsp
    cbv
    refine ⟨1, R.r1, ?_⟩
    cbv
    refine ⟨_, L15, ?_⟩
    cbv
    refine .inl (n3 { st with elems := st.elems + 1 } st.at' 4 _ r5 _ (fun v6 m6 r6 k6 => ?_))
    have k6' := k5.trans k6
    have L6 := ld_agg (P := E.P) T.eA T.eS (read_cells ((k6'.keep m1.next N2 nb5).trans B2) rfl)
    obtain ⟨h', q1, q2, q3⟩ := fin m6 (elC [] none 0 0 none 0 0 st.at') ((k6'.keep h.next (by omega) nb4).trans Z2) rfl rfl r6 (by rw [fail_at]; exact ha) (k2.trans k6') (.leaf ⟨_, _, rfl, .inl ⟨rfl, fun _ q => by cases q⟩⟩ (fun _ q => by cases q))
    cbv
    refine ⟨_, L6, ?_⟩
    cbv
    refine ⟨_, q1, ?_⟩
    cbv
    exact ⟨_, res_cell rfl q2, q3⟩
  have e4 : st.elems + 1 ≤ 400 := e4
  rw [if_neg (by omega)] at hsp
  have hlen : st.at' + 1 ≤ s.length := hasR_le hh ha
  have S6 : m5.store E.P 3 ⟨b, 1, none⟩ (.int .i64 (.ofNat (st.at' + 1))) = some (m5.put b (some (rrO s (goS 1 { st with elems := st.elems + 1 })))) := (st_one (P := E.P) (v := .int .i64 (.ofNat (st.at' + 1))) (i := 1) T.iS r5.ex (by simp) rfl rfl).trans rfl
  have r6 := r5.put (st' := goS 1 { st with elems := st.elems + 1 })
  have k6 : Keep b m2 (m5.put b (some (rrO s (goS 1 { st with elems := st.elems + 1 })))) := k5.put _
  generalize m5.put b (some (rrO s (goS 1 { st with elems := st.elems + 1 }))) = m6 at S6 r6 k6
  have h6 : (goS 1 { st with elems := st.elems + 1 }).at' ≤ s.length := hlen
  cbv
  refine ⟨1, R.r1, ?_⟩
  cbv
  refine ⟨_, L15, ?_⟩
  cbv
  refine And.intro (by show st.at' + 1 ≤ _; omega) ?_
  refine ⟨1, R.r1, ?_⟩
  cbv
  refine ⟨_, S6, ?_⟩
  generalize goS 1 { st with elems := st.elems + 1 } = st6 at hsp r6 h6
  clear L15 L25 r5 k5 S6
  have h7 : (qualR s st6).2.at' ≤ s.length := by
    unfold qualR
    simp only
    split
    · have := tw_le signB (s.drop st6.at')
      rw [List.length_drop] at this
      show st6.at' + _ ≤ _
      omega
    · rw [fail_at]; exact h6
  cbv
  refine .inl (n4 st6 _ r6 h6 _ (fun m7 r7 k7 => ?_))
  obtain ⟨n, st7, hqq⟩ : ∃ n st', qualR s st6 = (n, st') := ⟨_, _, rfl⟩
  rw [hqq] at hsp h7 r7 ⊢
  have r7 : IsRr g0 m7 b s st7 := r7
  have h7 : st7.at' ≤ s.length := h7
  simp only at hsp
  cases hta : tagR s f0 [] st7 with
  | none => rw [hta] at hsp; cases hsp
  | some pa =>
  obtain ⟨L, st9⟩ := pa
  rw [hta] at hsp
  obtain ⟨rfl, rfl⟩ : El.mk n L [] st.at' = e ∧ st9 = ST := by simpa using hsp
  have k7' := k6.trans k7
  have B7 := (k7'.keep m1.next N2 nb5).trans B2
  have Z7 := (k7'.keep h.next (by omega) nb4).trans Z2
  have n27 := k7'.next
  have S8 : m7.store E.P 9 ⟨m1.next, 0, none⟩ (.string ⟨⟨n⟩⟩) = some (m7.put m1.next (some (boxO (elC n none 0 0 none 0 0 st.at')))) := (st_one (P := E.P) (v := .string ⟨⟨n⟩⟩) (i := 0) T.sS B7 (by simp) rfl rfl).trans rfl
  -- a field of the element is written
  have wr : ∀ (m : H) (st' : Rd) (c : List Value), IsRr g0 m b s st' → Keep b h m → m.m.get h.next = some (boxO zC) → IsRr g0 (m.put m1.next (some (boxO c))) b s st' ∧ Keep b h (m.put m1.next (some (boxO c))) ∧ (m.put m1.next (some (boxO c))).m.get m1.next = some (boxO c) ∧ (m.put m1.next (some (boxO c))).m.get h.next = some (boxO zC) ∧ (∀ r, r ≠ m1.next → (m.put m1.next (some (boxO c))).m.get r = m.m.get r) := by
    intro m st' c q1 q2 q3
    have G : ∀ r, r ≠ m1.next → (m.put m1.next (some (boxO c))).m.get r = m.m.get r := fun r hr => by rw [put_get, if_neg hr]
    exact ⟨⟨q1.lt, q1.ge, q1.gr.put (by have := hr.gr.next; omega) _, (G b (fun q => nb5 q.symm)).trans q1.ex⟩, ⟨q2.next, fun r hr hrb => (G r (by omega)).trans (q2.keep r hr hrb)⟩, by rw [put_get, if_pos rfl], (G _ (by omega)).trans q3, G⟩
  obtain ⟨r8, k8, B8, Z8, G8⟩ := wr m7 st7 (elC n none 0 0 none 0 0 st.at') r7 (k2.trans k7') Z7
  have N8 : (m7.put m1.next (some (boxO (elC n none 0 0 none 0 0 st.at')))).next = m7.next := rfl
  cbv
  refine ⟨0, T.e0, ?_⟩
  cbv
  refine ⟨_, S8, ?_⟩
  generalize m7.put m1.next (some (boxO (elC n none 0 0 none 0 0 st.at'))) = m8 at S8 r8 k8 B8 Z8 G8 N8
  cbv
  refine LoopP.onX (fun x : H × List (Bs × Bs) × Value × Rd × Nat => [(5, .pointer (some ⟨m1.next, 0, none⟩)), (4, .pointer (some ⟨h.next, 0, none⟩)), (0, .pointer (some ⟨b, 0, none⟩)), (1, .int .i64 (.ofNat 0))]) (fun x => x.1) (fun x => IsRr g0 x.1 b s x.2.2.2.1 ∧ x.2.2.2.1.at' ≤ s.length ∧ Keep b h x.1 ∧ x.1.m.get h.next = some (boxO zC) ∧ x.1.m.get m1.next = some (boxO [.string ⟨⟨n⟩⟩, x.2.2.1, .slice none 0 0, .int .i64 st.at']) ∧ IsRow x.1 (m1.next + 1) 41 2 (x.2.1.map attrC) x.2.2.1 ∧ x.2.1.length ≤ 8 ∧ m1.next + 1 ≤ x.1.next ∧ tagR s x.2.2.2.2 x.2.1 x.2.2.2.1 = some (L, st9)) (fun x => x.2.2.2.2) (m8, [], .slice none 0 0, st7, f0) rfl (Less.cons rfl (Less.cons rfl (Less.cons rfl (Less.cons rfl (Less.nil _))))) ⟨r8, h7, k8, Z8, B8, IsRow.nil _ _ _ _, Nat.zero_le _, (by show m1.next + 1 ≤ m8.next; omega), hta⟩ ?_
  rintro ⟨m, l, va, sx, f⟩ ⟨j1, j2, j3, j4, j5, j6, j7, j8, j9⟩
  have i1 : IsRr g0 m b s sx := j1
  have i2 : sx.at' ≤ s.length := j2
  have i3 : Keep b h m := j3
  have i4 : m.m.get h.next = some (boxO zC) := j4
  have i5 : m.m.get m1.next = some (boxO [.string ⟨⟨n⟩⟩, va, .slice none 0 0, .int .i64 st.at']) := j5
  have i6 : IsRow m (m1.next + 1) 41 2 (l.map attrC) va := j6
  have i7 : l.length ≤ 8 := j7
  have i8 : m1.next + 1 ≤ m.next := j8
  have i9 : tagR s f l sx = some (L, st9) := j9
  clear j1 j2 j3 j4 j5 j6 j7 j8 j9
  cases f with
  | zero => cases i9
  | succ f =>
  obtain ⟨aa, ac, hv⟩ : ∃ a c, va = .slice a l.length c := by
    rcases i6.ex with ⟨q1, q2⟩ | ⟨r, q1, _⟩
    · have : l = [] := by simpa using q1
      subst this
      exact ⟨_, _, q2⟩
    · rw [List.length_map] at q1
      exact ⟨_, _, q1⟩
  subst hv
  have keepRow : ∀ m', Keep b m m' → IsRow m' (m1.next + 1) 41 2 (l.map attrC) (.slice aa l.length ac) := fun m' k => i6.keep k.next (fun r h1 h2 h3 => k.keep r h2 (by omega))
  -- the end, with the row as it is
  have endE : ∀ m', Keep b m m' → ∀ sz, IsRr g0 m' b s sz → l = L → sz = st9 → sz.at' ≤ s.length → ∃ h', m'.load E.P 25 ⟨m1.next, 0, none⟩ = some (.agg [.string ⟨⟨n⟩⟩, .slice aa l.length ac, .slice none 0 0, .int .i64 st.at'].toArray) ∧ m'.store E.P 25 ⟨h.next, 0, none⟩ (.agg [.string ⟨⟨n⟩⟩, .slice aa l.length ac, .slice none 0 0, .int .i64 st.at'].toArray) = some h' ∧ h'.load E.P 25 ⟨h.next, 0, none⟩ = some (.agg [.string ⟨⟨n⟩⟩, .slice aa l.length ac, .slice none 0 0, .int .i64 st.at'].toArray) ∧ K (.agg [.string ⟨⟨n⟩⟩, .slice aa l.length ac, .slice none 0 0, .int .i64 st.at'].toArray) h' := by
    intro m' q sz q1 q2 q3 q4
    subst q2 q3
    have B := (q.keep m1.next (by omega) nb5).trans i5
    have hel : IsEl m' (fun x => m1.next < x) (.mk n l [] st.at') [.string ⟨⟨n⟩⟩, .slice aa l.length ac, .slice none 0 0, .int .i64 st.at'] := .leaf ((keepRow m' q).attrs.mono (fun r q _ => by have : m1.next + 1 ≤ r := q; omega) (fun _ _ _ => rfl) (Nat.le_refl _)) (fun _ q => by cases q)
    obtain ⟨h', p1, p2, p3⟩ := fin m' _ ((q.keep h.next (by omega) nb4).trans i4) rfl rfl q1 q4 (i3.trans q) hel
    exact ⟨h', ld_agg T.eA T.eS (read_cells B rfl), p1, p2, p3⟩
  unfold tagR at i9
  have L3 := ld_one (P := E.P) (i := 3) T.iA T.iS (read_cells i1.ex rfl) rfl
  cbv
  refine ⟨3, R.r3, ?_⟩
  cbv
  refine ⟨_, L3, ?_⟩
  cbv
  refine And.intro (fun q0 => ?_) (fun q0 => ?_)
  · have q0 : sx.err = 0 := q0
    rw [if_neg (by simp [q0])] at i9
    have hbl := blanks_le i2
    have hbe : (goS (blanksN s sx) sx).err = 0 := q0
    cbv
    refine .inl (n1 sx (by omega) _ i1 (fun _ => i2) _ (fun m3 r3 k3 => ?_))
    generalize hgap : blanksN s sx = gp at i9 r3 hbl hbe ⊢
    simp only at i9
    generalize goS gp sx = sy at i9 r3 hbl hbe
    generalize hgd : decide (0 < gp) = gd
    cbv
    refine .inl (n2 [47, 62] (by simp) sy _ r3 (fun _ => hbl) _ (fun m4 r4 k4 => ?_))
    cases hh1 : hasR s [47, 62] sy
    · rw [hh1] at i9
      simp only [Bool.false_eq_true, if_false] at i9
      cbv
      refine .inl (n2 [62] (by simp) sy _ r4 (fun _ => hbl) _ (fun m5 r5 k5 => ?_))
      cases hh2 : hasR s [62] sy
      · rw [hh2] at i9
        simp only [Bool.false_eq_true, if_false] at i9
        have kk5 := k3.trans (k4.trans k5)
        cbv
        have Mq : m5.m = m5.m ∧ m5.next = m5.next ∧ Grows m5 m5 := ⟨rfl, rfl, Grows.refl m5⟩
        cases gd
        · have hg0 : gp = 0 := by have := of_decide_eq_false hgd; omega
          rw [if_pos (.inl hg0)] at i9
          refine DrawP.free (by kernel_rfl) (fun bef => ?_)
          cbv
          generalize hM2 : H.dip _ = M2
          have r6 : IsRr g0 M2 b s sy := by
            subst hM2
            refine r5.re Mq.1 Mq.2.1 (r5.gr.trans ?_)
            repeat first | with_reducible exact Mq.2.2 | with_reducible apply Grows.dip
          have kk6 : Keep b m M2 := by
            subst hM2
            refine kk5.trans ⟨?_, ?_⟩
            · show m5.next ≤ _
              have := Mq.2.1
              exact Nat.le_of_eq this.symm
            · intro r q1 q2
              exact congrArg (fun u => u.get r) Mq.1
          clear hM2
          have L16 := ld_one (P := E.P) (i := 1) T.iA T.iS (read_cells r6.ex rfl) rfl
          refine ⟨1, R.r1, ?_⟩
          cbv
          refine ⟨_, L16, ?_⟩
          cbv
          refine .inl (n3 sy sy.at' 2 _ r6 _ (fun v7 m7' r7' k7'' => ?_))
          have kk7 := kk6.trans k7''
          cbv
          exact ⟨(m7', l, .slice aa l.length ac, failS sy.at' 2 sy, f), Less.cons rfl (Less.cons rfl (Less.cons rfl (Less.cons rfl (Less.nil _)))), rfl, ⟨r7', (by show (failS sy.at' 2 sy).at' ≤ _; rw [fail_at]; exact hbl), i3.trans kk7, (kk7.keep h.next (by omega) nb4).trans i4, (kk7.keep m1.next (by omega) nb5).trans i5, keepRow m7' kk7, i7, (by show m1.next + 1 ≤ m7'.next; have := kk7.next; omega), i9⟩, Nat.lt_succ_self _⟩
        · have hg0 : ¬ gp = 0 := by have := of_decide_eq_true hgd; omega
          refine DrawP.free (by kernel_rfl) (fun bef => ?_)
          cbv
          have n2a := fun h hr K hk => n2g [47] (by simp) sy h hr (fun _ => hbl) K hk
          generalize hD : H.dip _ = D
          have MqD : D.m = m5.m ∧ D.next = m5.next ∧ Grows m5 D := by
            subst hD
            refine ⟨Mq.1, Mq.2.1, ?_⟩
            repeat first | with_reducible exact Mq.2.2 | with_reducible apply Grows.dip
          clear hD Mq
          revert D
          intro M Mq
          have rM : IsRr g0 ⟨M.m, M.next, top M.next⟩ b s sy := r5.re Mq.1 Mq.2.1 (r5.gr.trans Mq.2.2.mark)
          refine .inl (n2a _ rM _ (fun m6 r6 g6 => ?_))
          refine FitP.grow (f := .rd none) g6 rfl rfl ?_
          generalize hN5 : mixH M m6 = N5
          have rN : IsRr g0 N5 b s sy := by
            subst hN5
            exact r6.re rfl rfl ((r5.gr.trans Mq.2.2).mix r6.gr)
          have kkN : Keep b m N5 := by
            subst hN5
            refine kk5.trans ⟨?_, fun r q1 q2 => ?_⟩
            · show m5.next ≤ m6.next
              have := g6.next
              have e : (⟨M.m, M.next, top M.next⟩ : H).next = m5.next := Mq.2.1
              omega
            · show m6.m.get r = m5.m.get r
              rw [g6.keep r (by show r < M.next; rw [Mq.2.1]; exact q1)]
              exact congrArg (fun u => u.get r) Mq.1
          clear hN5 Mq
          have Mq : N5.m = N5.m ∧ N5.next = N5.next ∧ Grows N5 N5 := ⟨rfl, rfl, Grows.refl N5⟩
          have LsN := ld_one (P := E.P) (i := 0) T.sA T.sS (read_cells rN.ex rfl) rfl
          have LaN := ld_one (P := E.P) (i := 1) T.iA T.iS (read_cells rN.ex rfl) rfl
          cases hh3 : hasR s [47] sy
          · cbv
            refine ⟨1, R.r1, ?_⟩
            cbv
            refine ⟨_, ld_at LaN Mq.1, ?_⟩
            cbv
            generalize hD : H.dip _ = D
            have MqD : D.m = N5.m ∧ D.next = N5.next ∧ Grows N5 D := by
              subst hD
              refine ⟨Mq.1, Mq.2.1, ?_⟩
              repeat first | with_reducible exact Mq.2.2 | with_reducible apply Grows.dip
            clear hD Mq
            revert D
            intro M Mq
            refine FitP.stay (f := (.rd (some b))) rfl rfl ?_
            generalize hM : mixH _ _ = M'
            have Mq' : M'.m = N5.m ∧ M'.next = N5.next ∧ Grows N5 M' := by
              subst hM
              exact ⟨Mq.1, Mq.2.1, Grows.mixTop Mq.2.2⟩
            clear hM Mq
            revert M'
            intro M Mq
            cbv
            refine ⟨0, R.r0, ?_⟩
            cbv
            refine ⟨_, ld_at LsN Mq.1, ?_⟩
            cbv
            generalize hD : H.dip _ = D
            have MqD : D.m = N5.m ∧ D.next = N5.next ∧ Grows N5 D := by
              subst hD
              refine ⟨Mq.1, Mq.2.1, ?_⟩
              repeat first | with_reducible exact Mq.2.2 | with_reducible apply Grows.dip
            clear hD Mq
            revert D
            intro M Mq
            refine FitP.stay (f := (.rd (some b))) rfl rfl ?_
            generalize hM : mixH _ _ = M'
            have Mq' : M'.m = N5.m ∧ M'.next = N5.next ∧ Grows N5 M' := by
              subst hM
              exact ⟨Mq.1, Mq.2.1, Grows.mixTop Mq.2.2⟩
            clear hM Mq
            revert M'
            intro M Mq
            cbv
            refine And.intro T.str ?_
            refine FitP.stay (f := (.rd none)) rfl rfl ?_
            generalize hM : mixH _ _ = M'
            have Mq' : M'.m = N5.m ∧ M'.next = N5.next ∧ Grows N5 M' := by
              subst hM
              exact ⟨Mq.1, Mq.2.1, Grows.mixTop Mq.2.2⟩
            clear hM Mq
            revert M'
            intro M Mq
            cbv
            refine And.intro (fun qe => ?_) (fun qe => ?_)
            · have qe : sy.at' = s.length := qe
              rw [if_pos (.inr (.inr qe))] at i9
              cbv
              generalize hM2 : H.dip _ = M2
              have r6 : IsRr g0 M2 b s sy := by
                subst hM2
                refine rN.re Mq.1 Mq.2.1 (rN.gr.trans ?_)
                repeat first | with_reducible exact Mq.2.2 | with_reducible apply Grows.dip
              have kk6 : Keep b m M2 := by
                subst hM2
                refine kkN.trans ⟨?_, ?_⟩
                · show N5.next ≤ _
                  have := Mq.2.1
                  exact Nat.le_of_eq this.symm
                · intro r q1 q2
                  exact congrArg (fun u => u.get r) Mq.1
              clear hM2
              have L16 := ld_one (P := E.P) (i := 1) T.iA T.iS (read_cells r6.ex rfl) rfl
              refine ⟨1, R.r1, ?_⟩
              cbv
              refine ⟨_, L16, ?_⟩
              cbv
              refine .inl (n3 sy sy.at' 2 _ r6 _ (fun v7 m7' r7' k7'' => ?_))
              have kk7 := kk6.trans k7''
              cbv
              exact ⟨(m7', l, .slice aa l.length ac, failS sy.at' 2 sy, f), Less.cons rfl (Less.cons rfl (Less.cons rfl (Less.cons rfl (Less.nil _)))), rfl, ⟨r7', (by show (failS sy.at' 2 sy).at' ≤ _; rw [fail_at]; exact hbl), i3.trans kk7, (kk7.keep h.next (by omega) nb4).trans i4, (kk7.keep m1.next (by omega) nb5).trans i5, keepRow m7' kk7, i7, (by show m1.next + 1 ≤ m7'.next; have := kk7.next; omega), i9⟩, Nat.lt_succ_self _⟩
            · have qe : ¬ sy.at' = s.length := qe
              rw [if_neg (fun x => x.elim hg0 (fun x => x.elim (fun x => by rw [hh3] at x; cases x) qe))] at i9
              cbv
              generalize hM2 : H.dip _ = M2
              have r6 : IsRr g0 M2 b s sy := by
                subst hM2
                refine rN.re Mq.1 Mq.2.1 (rN.gr.trans ?_)
                repeat first | with_reducible exact Mq.2.2 | with_reducible apply Grows.dip
              have kk6 : Keep b m M2 := by
                subst hM2
                refine kkN.trans ⟨?_, ?_⟩
                · show N5.next ≤ _
                  have := Mq.2.1
                  exact Nat.le_of_eq this.symm
                · intro r q1 q2
                  exact congrArg (fun u => u.get r) Mq.1
              clear hM2
              have B6 := (kk6.keep m1.next (by omega) nb5).trans i5
              have LA := ld_one (P := E.P) (i := 1) T.lA T.lS (read_cells B6 rfl) rfl
              have nn6 := kk6.next
              cbv
              refine ⟨1, T.e1, ?_⟩
              cbv
              refine ⟨_, LA, ?_⟩
              cbv
              refine .inl (n5 sy _ (m1.next + 1) l _ r6 hbe hbl i7 (keepRow M2 kk6) (by have := hr.gr.next; omega) (by omega) (by omega) _ (fun v' m7' q1 q2 q3 q4 q5 q6 q7 => ?_))
              have hat := attrR_le (l := l) hq hbe hbl
              generalize attrR s l sy = aw at hat i9 q1 q2 q3 q4 q5 ⊢
              obtain ⟨l', sz⟩ := aw
              have q1 : IsRr g0 m7' b s sz := q1
              have q2 : sz.err = 0 → sz.at' ≤ s.length := q2
              have hsz : sz.at' ≤ s.length := hat
              have q4 : l'.length ≤ 8 := q4
              have q5 : IsRow m7' (m1.next + 1) 41 2 (l'.map attrC) v' := q5
              have hna : ∀ r, r < m1.next + 1 → NotAt (.slice aa l.length ac) r := fun r hr => NotAt.of_lt i6 (.inl hr)
              have B7' : m7'.m.get m1.next = some (boxO [.string ⟨⟨n⟩⟩, .slice aa l.length ac, .slice none 0 0, .int .i64 st.at']) := (q7 m1.next (by omega) nb5 (hna _ (by omega))).trans B6
              have Z7' : m7'.m.get h.next = some (boxO zC) := (q7 h.next (by omega) nb4 (hna _ (by omega))).trans ((kk6.keep h.next (by omega) nb4).trans i4)
              have K7' : Keep b h m7' := ⟨by have := i3.next; omega, fun r p1 p2 => (q7 r (by have := i3.next; omega) p2 (hna _ (by omega))).trans ((i3.trans kk6).keep r p1 p2)⟩
              obtain ⟨aa', ac', hv'⟩ : ∃ a c, v' = .slice a l'.length c := by
                rcases q5.ex with ⟨p1, p2⟩ | ⟨r, p1, _⟩
                · have : l' = [] := by simpa using p1
                  subst this
                  exact ⟨_, _, p2⟩
                · rw [List.length_map] at p1
                  exact ⟨_, _, p1⟩
              subst hv'
              have S8' : m7'.store E.P 22 ⟨m1.next, 1, none⟩ (.slice aa' l'.length ac') = some (m7'.put m1.next (some (boxO [.string ⟨⟨n⟩⟩, .slice aa' l'.length ac', .slice none 0 0, .int .i64 st.at']))) := (st_one (P := E.P) (v := .slice aa' l'.length ac') (i := 1) T.lS B7' (by simp) rfl rfl).trans rfl
              obtain ⟨r8', k8', B8', Z8', G8'⟩ := wr m7' sz [.string ⟨⟨n⟩⟩, .slice aa' l'.length ac', .slice none 0 0, .int .i64 st.at'] q1 K7' Z7'
              have row8 : IsRow (m7'.put m1.next (some (boxO [.string ⟨⟨n⟩⟩, .slice aa' l'.length ac', .slice none 0 0, .int .i64 st.at']))) (m1.next + 1) 41 2 (l'.map attrC) (.slice aa' l'.length ac') := q5.keep (Nat.le_refl _) (fun r p1 p2 p3 => G8' r (by omega))
              have N8' : (m7'.put m1.next (some (boxO [.string ⟨⟨n⟩⟩, .slice aa' l'.length ac', .slice none 0 0, .int .i64 st.at']))).next = m7'.next := rfl
              cbv
              refine ⟨1, T.e1, ?_⟩
              cbv
              refine ⟨_, S8', ?_⟩
              generalize m7'.put m1.next (some (boxO [.string ⟨⟨n⟩⟩, .slice aa' l'.length ac', .slice none 0 0, .int .i64 st.at'])) = m9 at r8' k8' B8' Z8' row8 N8' ⊢
              cbv
              exact ⟨(m9, l', .slice aa' l'.length ac', sz, f), Less.cons rfl (Less.cons rfl (Less.cons rfl (Less.cons rfl (Less.nil _)))), rfl, ⟨r8', hsz, k8', Z8', B8', row8, q4, (by show m1.next + 1 ≤ m9.next; omega), i9⟩, Nat.lt_succ_self _⟩
          · rw [if_pos (.inr (.inl hh3))] at i9
            cbv
            generalize hM2 : H.dip _ = M2
            have r6 : IsRr g0 M2 b s sy := by
              subst hM2
              refine rN.re Mq.1 Mq.2.1 (rN.gr.trans ?_)
              repeat first | with_reducible exact Mq.2.2 | with_reducible apply Grows.dip
            have kk6 : Keep b m M2 := by
              subst hM2
              refine kkN.trans ⟨?_, ?_⟩
              · show N5.next ≤ _
                have := Mq.2.1
                exact Nat.le_of_eq this.symm
              · intro r q1 q2
                exact congrArg (fun u => u.get r) Mq.1
            clear hM2
            have L16 := ld_one (P := E.P) (i := 1) T.iA T.iS (read_cells r6.ex rfl) rfl
            refine ⟨1, R.r1, ?_⟩
            cbv
            refine ⟨_, L16, ?_⟩
            cbv
            refine .inl (n3 sy sy.at' 2 _ r6 _ (fun v7 m7' r7' k7'' => ?_))
            have kk7 := kk6.trans k7''
            cbv
            exact ⟨(m7', l, .slice aa l.length ac, failS sy.at' 2 sy, f), Less.cons rfl (Less.cons rfl (Less.cons rfl (Less.cons rfl (Less.nil _)))), rfl, ⟨r7', (by show (failS sy.at' 2 sy).at' ≤ _; rw [fail_at]; exact hbl), i3.trans kk7, (kk7.keep h.next (by omega) nb4).trans i4, (kk7.keep m1.next (by omega) nb5).trans i5, keepRow m7' kk7, i7, (by show m1.next + 1 ≤ m7'.next; have := kk7.next; omega), i9⟩, Nat.lt_succ_self _⟩
      · rw [hh2] at i9
        simp at i9
    · rw [hh1] at i9
      simp only [if_true] at i9
      obtain ⟨hlL, hst9⟩ : l = L ∧ goS 2 sy = st9 := by simpa using i9
      have hle2 := hasR_le hh1 hbl
      have L14 := ld_one (P := E.P) (i := 1) T.iA T.iS (read_cells r4.ex rfl) rfl
      have S5 : m4.store E.P 3 ⟨b, 1, none⟩ (.int .i64 (.ofNat (sy.at' + 2))) = some (m4.put b (some (rrO s (goS 2 sy)))) := (st_one (P := E.P) (v := .int .i64 (.ofNat (sy.at' + 2))) (i := 1) T.iS r4.ex (by simp) rfl rfl).trans rfl
      have r5 := r4.put (st' := goS 2 sy)
      have k5 : Keep b m (m4.put b (some (rrO s (goS 2 sy)))) := (k3.trans k4).put _
      generalize m4.put b (some (rrO s (goS 2 sy))) = m5 at S5 r5 k5
      obtain ⟨h', p1, p2, p3, p4⟩ := endE m5 k5 (goS 2 sy) r5 hlL hst9 hle2
      cbv
      refine ⟨1, R.r1, ?_⟩
      cbv
      refine ⟨_, L14, ?_⟩
      cbv
      refine And.intro (by show sy.at' + 2 ≤ _; omega) ?_
      refine ⟨1, R.r1, ?_⟩
      cbv
      refine ⟨_, S5, ?_⟩
      cbv
      refine ⟨_, p1, ?_⟩
      cbv
      refine ⟨_, p2, ?_⟩
      cbv
      exact ⟨_, res_cell rfl p3, p4⟩
  · have q0 : ¬ sx.err = 0 := q0
    rw [if_pos q0] at i9
    obtain ⟨hlL, hst9⟩ : l = L ∧ sx = st9 := by simpa using i9
    obtain ⟨h', p1, p2, p3, p4⟩ := endE m (Keep.refl b m) sx i1 hlL hst9 i2
    cbv
    refine ⟨_, p1, ?_⟩
    cbv
    refine ⟨_, p2, ?_⟩
    cbv
    exact ⟨_, res_cell rfl p3, p4⟩
end
end Go.Proofs.YtfgemjpoiconbaaGreatDoor.GEv

/- The reference's 'Parse' of an element without kids, by a symbolic run. -/
namespace Go.Proofs.YtfgemjpoiconbaaGreatDoor.GEv
open Go
set_option linter.unusedSimpArgs false
set_option linter.unusedVariables false
set_option maxRecDepth 100000
set_option maxHeartbeats 4000000
/-- A reader is built of its text. -/
structure RrBuild (P : Program) (fs : Array Field) : Prop where
  u : P.underlying 63 = some (.struct fs)
  z : zero P 63 = some (.agg (rdC [] ⟨0, 0, 0, 0⟩).toArray)
  f : ∀ s : Bs, fillL (fun i => (fs[i]?).bind fun f => (sizeOf P f.type).map fun s => (f.offset, s)) (rdC [] ⟨0, 0, 0, 0⟩) [(0, .string ⟨⟨s⟩⟩)] = some (rdC s ⟨0, 0, 0, 0⟩)
  a : fs.toList.all (fun f => (sizeOf P f.type).isSome) = true
theorem rrBuild : ∃ fs, RrBuild EM.P fs := by
  have hu : EM.P.underlying 63 = some (.struct (fieldsOf (EM.P.underlying 63))) := by kernel_rfl
  have hp : ((fieldsOf (EM.P.underlying 63))[0]?).map (fun f => (f.offset, sizeOf EM.P f.type)) = some (0, some 1) := by kernel_rfl
  have ha : (fieldsOf (EM.P.underlying 63)).toList.all (fun f => (sizeOf EM.P f.type).isSome) = true := by kernel_rfl
  have hz : zero EM.P 63 = some (.agg (rdC [] ⟨0, 0, 0, 0⟩).toArray) := by kernel_rfl
  refine ⟨_, hu, hz, fun s => ?_, ha⟩
  simp only [fillL, place_of hp]
  rfl
theorem miscR_parts {s : Bs} {st ST : Rd} (h : miscR s st = some ST) : ST = goS (blanksN s st) st := by
  unfold miscR at h
  simp only at h
  split at h
  · cases h
  · simpa using h.symm
attribute [local cbv_opaque] isString isSlice isBoolT fOff iSize eqNil zero H.load H.store H.push H.dip H.put List.length List.getD Nat.add Nat.sub Nat.mul List.take List.drop top Addr.add mixH restS isS failS goS mustS blanksN hasR qualR attrR isQual byte cmpJ ariJ valueS dupA append miscR elR
attribute [local cbv_eval] List.length_cons List.length_nil addr_add mixH_top
section
variable {E : Env} (hE : E = EMY)
include hE
theorem rParse (f : Nat) (s : Bs) (hs : s.length ≤ 1000000) (hq : EqQ s) (h : H) (e : El) (n er : Nat) (hp : parseR f s = some (e, n, er)) (K : Value → H → Prop)
    (hk : ∀ c h', Grows h h' → IsEl h' (fun x => h.next ≤ x) e c → K (.tuple #[.agg c.toArray, .int .i64 (.ofNat n), .int .i64 (.ofNat er)]) h') : CallP E 18 [.string ⟨⟨s⟩⟩] h K := by
  have T : TyOk E.P := by rw [hE]; exact tyOk
  have R : RrOk E.P := by rw [hE]; exact rrOk
  have zE : zero E.P 25 = some (.agg #[.string ⟨⟨[]⟩⟩, .slice none 0 0, .slice none 0 0, .int .i64 0]) := by rw [hE]; exact zElem
  obtain ⟨fs, EB⟩ : ∃ fs, ElBuild E.P fs := by rw [hE]; exact elBuild
  obtain ⟨rs, RB⟩ : ∃ fs, RrBuild E.P fs := by rw [hE]; exact rrBuild
  have n1 := fun b st hbd g0 h hr ha ST hm K hk => rMisc hE b s hs st hbd g0 h hr ha ST hm K hk
  have n2 := fun b hs st g0 h hr he ha hel e ST hsp K hk => rElem hE b s hs hq f st g0 h hr he ha hel e ST hsp K hk
  have n4 := fun b st a e g0 h hr K hk => rFail hE b s st a e g0 h hr K hk
  refine CallP.ofXE hE rfl Tryz.func18 rfl (Nat.le_of_ble_eq_true rfl) ?_
  unfold parseR at hp
  clear hE
  cbv
  refine ⟨_, zE, ?_⟩
  have g1 : Grows h (h.push (boxO zC)) := (Grows.refl h).push _
  have B1 : (h.push (boxO zC)).m.get h.next = some (boxO zC) := box_get _ _
  have N1 : (h.push (boxO zC)).next = h.next + 1 := rfl
  cbv
  generalize hm1 : h.push _ = m1
  have g1 : Grows h m1 := by subst hm1; exact g1
  have B1 : m1.m.get h.next = some (boxO zC) := by subst hm1; exact B1
  have N1 : m1.next = h.next + 1 := by subst hm1; exact N1
  clear hm1
  refine And.intro T.str ?_
  refine And.intro (fun hl => ?_) (fun hl => ?_)
  · have hl : 8000 < s.length := hl
    rw [if_pos hl] at hp
    cbv
    refine raw_build rfl zE EB.u EB.f0 EB.a ?_
    cbv
    have S1 : m1.store E.P 25 ⟨h.next, 0, none⟩ (.agg zC.toArray) = some (m1.put h.next (some (boxO zC))) := st_agg T.eS B1 rfl rfl rfl
    refine ⟨_, S1, ?_⟩
    cbv
    obtain ⟨rfl, rfl, rfl⟩ : nothing = e ∧ 0 = n ∧ 3 = er := by simpa using hp
    have q2 : (m1.put h.next (some (boxO zC))).load E.P 25 ⟨h.next, 0, none⟩ = some (.agg zC.toArray) := ld_agg T.eA T.eS (read_cells (by rw [put_get, if_pos rfl]) rfl)
    exact ⟨_, res3 rfl q2 rfl rfl, hk zC _ (g1.put (Nat.le_refl _) _) (.leaf ⟨_, _, rfl, .inl ⟨rfl, fun _ q => by cases q⟩⟩ (fun _ q => by cases q))⟩
  · have hl : s.length ≤ 8000 := hl
    rw [if_neg (by omega)] at hp
    have hsl : s.length ≤ 100000 := by omega
    cases hs1 : miscR s ⟨0, 0, 0, 0⟩ with
    | none => rw [hs1] at hp; cases hp
    | some st1 =>
    rw [hs1] at hp
    simp only at hp
    cases hs2 : elR s f st1 with
    | none => rw [hs2] at hp; cases hp
    | some p2 =>
    obtain ⟨e1, st2⟩ := p2
    rw [hs2] at hp
    simp only at hp
    cases hs3 : miscR s st2 with
    | none => rw [hs3] at hp; cases hp
    | some st3 =>
    rw [hs3] at hp
    simp only at hp
    have e1e := miscR_parts hs1
    have h1e : st1.err = 0 := by rw [e1e]; rfl
    have h1l : st1.at' ≤ s.length := by rw [e1e]; exact blanks_le (Nat.zero_le _)
    have h1n : st1.elems ≤ 400 := by rw [e1e]; exact Nat.zero_le _
    cbv
    refine raw_build rfl RB.z RB.u (RB.f s) RB.a ?_
    cbv
    have r2 : IsRr h (m1.push (rrO s ⟨0, 0, 0, 0⟩)) m1.next s ⟨0, 0, 0, 0⟩ := ⟨Nat.lt_succ_self _, g1.next, g1.push _, box_get _ _⟩
    have B2 : (m1.push (rrO s ⟨0, 0, 0, 0⟩)).m.get h.next = some (boxO zC) := by rw [push_get, if_neg (by omega)]; exact B1
    have N2 : (m1.push (rrO s ⟨0, 0, 0, 0⟩)).next = m1.next + 1 := rfl
    generalize hm2 : m1.push (AObj.cells _ _ _ _) = m2
    have r2 : IsRr h m2 m1.next s ⟨0, 0, 0, 0⟩ := by subst hm2; exact r2
    have B2 : m2.m.get h.next = some (boxO zC) := by subst hm2; exact B2
    have N2 : m2.next = m1.next + 1 := by subst hm2; exact N2
    clear hm2
    have nb : h.next ≠ m1.next := by omega
    refine .inl (n1 m1.next ⟨0, 0, 0, 0⟩ (by decide) h _ r2 (fun _ => Nat.zero_le _) st1 hs1 _ (fun v3 m3 r3 k3 => ?_))
    have B3 := (k3.keep h.next (by omega) nb).trans B2
    have n3 := k3.next
    cbv
    refine .inl (n2 m1.next hsl st1 h _ r3 h1e h1l h1n e1 st2 hs2 _ (fun c m4 r4 h4 k4 e4 => ?_))
    have B4 := (k4.keep h.next (by omega) nb).trans B3
    have n4n := k4.next
    have e4l := e4.len
    have e4o := e4.one
    cbv
    refine ⟨_, zE, ?_⟩
    cbv
    refine ⟨_, st_agg T.eS (box_get _ _) rfl e4l e4o, ?_⟩
    obtain ⟨j0, j1, j2, j3⟩ := laid r4.gr (boxO zC) c (some 25) true
    generalize (m4.push (boxO zC)).put m4.next (some (.cells c (some 25) true 0)) = m5 at j0 j1 j2 j3 ⊢
    have r5 : IsRr h m5 m1.next s st2 := ⟨Nat.lt_of_lt_of_le r4.lt j1.next, r4.ge, j0, (j1.keep m1.next r4.lt).trans r4.ex⟩
    have B5 := (j1.keep h.next (by omega)).trans B4
    have e5 := e4.grows j1
    have j1n := j1.next
    cbv
    refine .inl (n1 m1.next st2 (by omega) h _ r5 (fun _ => h4) st3 hs3 _ (fun v6 m6 r6 k6 => ?_))
    have k6n := k6.next
    have h6 : st3.at' ≤ s.length := by rw [miscR_parts hs3]; exact blanks_le h4
    have B6 := (k6.keep h.next (by omega) nb).trans B5
    have C6 := (k6.keep m4.next j3 (by omega)).trans j2
    have e6 : IsEl m6 (fun x => m3.next ≤ x) e1 c := e5.mono (fun _ q _ => q) (fun r q hr => k6.keep r hr (by have : m3.next ≤ r := q; omega)) k6n
    have L63 := ld_one (P := E.P) (i := 3) T.iA T.iS (read_cells r6.ex rfl) rfl
    have L61 := ld_one (P := E.P) (i := 1) T.iA T.iS (read_cells r6.ex rfl) rfl
    cbv
    refine ⟨3, R.r3, ?_⟩
    cbv
    refine ⟨_, L63, ?_⟩
    cbv
    refine And.intro (fun z => ?_) (fun z => ?_)
    · have z : st3.err = 0 := z
      cbv
      refine ⟨1, R.r1, ?_⟩
      cbv
      refine ⟨_, L61, ?_⟩
      cbv
      refine And.intro T.str ?_
      refine And.intro (fun q => ?_) (fun q => ?_)
      · have q : st3.at' < s.length := q
        rw [if_pos (show st3.err = 0 ∧ st3.at' < s.length from ⟨z, q⟩)] at hp
        cbv
        refine ⟨1, R.r1, ?_⟩
        cbv
        refine ⟨_, L61, ?_⟩
        cbv
        refine .inl (n4 m1.next st3 st3.at' 2 h _ r6 _ (fun v7 m7 r7 k7 => ?_))
        have k7n := k7.next
        have B7 := (k7.keep h.next (by omega) nb).trans B6
        have C7 := (k7.keep m4.next (by omega) (by omega)).trans C6
        have e7 : IsEl m7 (fun x => m3.next ≤ x) e1 c := e6.mono (fun _ q _ => q) (fun r q hr => k7.keep r hr (by have : m3.next ≤ r := q; omega)) k7n
        generalize hst8 : failS st3.at' 2 st3 = st8 at hp r7
        clear hst8
        cbv
        have L83 := ld_one (P := E.P) (i := 3) T.iA T.iS (read_cells r7.ex rfl) rfl
        have L84 := ld_one (P := E.P) (i := 4) T.iA T.iS (read_cells r7.ex rfl) rfl
        refine ⟨3, R.r3, ?_⟩
        cbv
        refine ⟨_, L83, ?_⟩
        cbv
        refine And.intro (fun e0 => ?_) (fun e0 => ?_)
        · have e0 : st8.err = 0 := e0
          rw [if_pos e0] at hp
          obtain ⟨rfl, rfl, rfl⟩ : e1 = e ∧ s.length = n ∧ 0 = er := by simpa using hp
          have L6 := ld_agg (P := E.P) T.eA T.eS (read_cells C7 e4l)
          have S1 : m7.store E.P 25 ⟨h.next, 0, none⟩ (.agg c.toArray) = some (m7.put h.next (some (boxO c))) := st_agg T.eS B7 rfl e4l e4o
          have L2 : (m7.put h.next (some (boxO c))).load E.P 25 ⟨h.next, 0, none⟩ = some (.agg c.toArray) := ld_agg T.eA T.eS (read_cells (by rw [put_get, if_pos rfl]) e4l)
          have e9 : IsEl (m7.put h.next (some (boxO c))) (fun x => h.next ≤ x) e1 c := e7.mono (fun r q _ => by have : m3.next ≤ r := q; omega) (fun r q _ => by rw [put_get, if_neg (by have : m3.next ≤ r := q; omega)]) (show m7.next ≤ (m7.put h.next (some (boxO c))).next from Nat.le_refl _)
          have g9 := r7.gr.put (Nat.le_refl _) (some (boxO c))
          generalize m7.put h.next (some (boxO c)) = m11 at S1 L2 e9 g9
          cbv
          refine ⟨_, L6, ?_⟩
          cbv
          refine And.intro T.str ?_
          refine ⟨_, S1, ?_⟩
          cbv
          exact ⟨_, res3 rfl L2 rfl rfl, hk c _ g9 e9⟩
        · have e0 : ¬ st8.err = 0 := e0
          rw [if_neg e0] at hp
          obtain ⟨rfl, rfl, rfl⟩ : nothing = e ∧ st8.out = n ∧ st8.err = er := by simpa using hp
          have Mq : m7.m = m7.m ∧ m7.next = m7.next ∧ Grows h m7 := ⟨rfl, rfl, r7.gr⟩
          cbv
          refine DrawP.of [0, 0, 2, 6, 14, 0, 32, 96, 224, 1, 543, 2047] (by kernel_rfl) (by kernel_rfl) ?_
          cbv
          refine raw_build rfl zE EB.u EB.f0 EB.a ?_
          refine FitP.stay (f := (.rd none)) rfl rfl ?_
          generalize hM : mixH _ _ = M'
          have Mq' : M'.m = m7.m ∧ M'.next = m7.next ∧ Grows h M' := by
            subst hM
            refine ⟨Mq.1, Mq.2.1, ?_⟩
            apply Grows.mixTop
            repeat first | with_reducible exact Mq.2.2 | with_reducible apply Grows.dip
          clear hM Mq
          revert M'
          intro M Mq
          cbv
          refine ⟨4, R.r4, ?_⟩
          cbv
          refine ⟨_, ld_at L84 Mq.1, ?_⟩
          cbv
          refine FitP.stay (f := (.rd (some m1.next))) rfl rfl ?_
          generalize hM : mixH _ _ = M'
          have Mq' : M'.m = m7.m ∧ M'.next = m7.next ∧ Grows h M' := by
            subst hM
            refine ⟨Mq.1, Mq.2.1, ?_⟩
            apply Grows.mixTop
            repeat first | with_reducible exact Mq.2.2 | with_reducible apply Grows.dip
          clear hM Mq
          revert M'
          intro M Mq
          cbv
          refine ⟨3, R.r3, ?_⟩
          cbv
          refine ⟨_, ld_at L83 Mq.1, ?_⟩
          cbv
          refine FitP.stay (f := (.rd (some m1.next))) rfl rfl ?_
          generalize hM : mixH _ _ = M'
          have Mq' : M'.m = m7.m ∧ M'.next = m7.next ∧ Grows h M' := by
            subst hM
            refine ⟨Mq.1, Mq.2.1, ?_⟩
            apply Grows.mixTop
            repeat first | with_reducible exact Mq.2.2 | with_reducible apply Grows.dip
          clear hM Mq
          revert M'
          intro M Mq
          cbv
          have hM2 : M.m.get h.next = some (boxO zC) := by rw [Mq.1]; exact B7
          have S1 : (⟨M.m, M.next, top M.next⟩ : H).store E.P 25 ⟨h.next, 0, none⟩ (.agg zC.toArray) = some ((⟨M.m, M.next, top M.next⟩ : H).put h.next (some (boxO zC))) := st_agg T.eS hM2 rfl rfl rfl
          refine ⟨_, S1, ?_⟩
          have w1 : (h.next == m1.next) = false := by simp; omega
          refine FitP.put (b := h.next) (fun w => rfl) ?_ ?_
          · simp [fits, clash, w1, Nat.testBit]
          have g9 := Mq.2.2.mix (Mq.2.2.mark.put (Nat.le_refl _) (some (boxO zC)))
          have L2 : (mixH M ((⟨M.m, M.next, top M.next⟩ : H).put h.next (some (boxO zC)))).load E.P 25 ⟨h.next, 0, none⟩ = some (.agg zC.toArray) := ld_agg T.eA T.eS (read_cells (show ((⟨M.m, M.next, top M.next⟩ : H).put h.next (some (boxO zC))).m.get h.next = _ by rw [put_get, if_pos rfl]) rfl)
          generalize mixH M ((⟨M.m, M.next, top M.next⟩ : H).put h.next (some (boxO zC))) = m11 at g9 L2 ⊢
          cbv
          exact ⟨_, res3 rfl (ld_at L2 rfl) rfl rfl, hk zC _ g9.dip.dip (.leaf ⟨_, _, rfl, .inl ⟨rfl, fun _ q => by cases q⟩⟩ (fun _ q => by cases q))⟩
      · have q : ¬ st3.at' < s.length := Nat.not_lt.2 q
        rw [if_neg (show ¬ (st3.err = 0 ∧ st3.at' < s.length) from fun x => q x.2)] at hp
        obtain ⟨m7, hm7⟩ : ∃ m7, m7 = m6 := ⟨_, rfl⟩
        rw [← hm7] at r6 B6 C6 e6 k6n ⊢
        have r7 := r6
        have B7 := B6
        have C7 := C6
        have e7 := e6
        have k7n := k6n
        generalize hst8 : st3 = st8 at hp r7
        clear hst8
        cbv
        have L83 := ld_one (P := E.P) (i := 3) T.iA T.iS (read_cells r7.ex rfl) rfl
        have L84 := ld_one (P := E.P) (i := 4) T.iA T.iS (read_cells r7.ex rfl) rfl
        refine ⟨3, R.r3, ?_⟩
        cbv
        refine ⟨_, L83, ?_⟩
        cbv
        refine And.intro (fun e0 => ?_) (fun e0 => ?_)
        · have e0 : st8.err = 0 := e0
          rw [if_pos e0] at hp
          obtain ⟨rfl, rfl, rfl⟩ : e1 = e ∧ s.length = n ∧ 0 = er := by simpa using hp
          have L6 := ld_agg (P := E.P) T.eA T.eS (read_cells C7 e4l)
          have S1 : m7.store E.P 25 ⟨h.next, 0, none⟩ (.agg c.toArray) = some (m7.put h.next (some (boxO c))) := st_agg T.eS B7 rfl e4l e4o
          have L2 : (m7.put h.next (some (boxO c))).load E.P 25 ⟨h.next, 0, none⟩ = some (.agg c.toArray) := ld_agg T.eA T.eS (read_cells (by rw [put_get, if_pos rfl]) e4l)
          have e9 : IsEl (m7.put h.next (some (boxO c))) (fun x => h.next ≤ x) e1 c := e7.mono (fun r q _ => by have : m3.next ≤ r := q; omega) (fun r q _ => by rw [put_get, if_neg (by have : m3.next ≤ r := q; omega)]) (show m7.next ≤ (m7.put h.next (some (boxO c))).next from Nat.le_refl _)
          have g9 := r7.gr.put (Nat.le_refl _) (some (boxO c))
          generalize m7.put h.next (some (boxO c)) = m11 at S1 L2 e9 g9
          cbv
          refine ⟨_, L6, ?_⟩
          cbv
          refine And.intro T.str ?_
          refine ⟨_, S1, ?_⟩
          cbv
          exact ⟨_, res3 rfl L2 rfl rfl, hk c _ g9 e9⟩
        · have e0 : ¬ st8.err = 0 := e0
          rw [if_neg e0] at hp
          obtain ⟨rfl, rfl, rfl⟩ : nothing = e ∧ st8.out = n ∧ st8.err = er := by simpa using hp
          have Mq : m7.m = m7.m ∧ m7.next = m7.next ∧ Grows h m7 := ⟨rfl, rfl, r7.gr⟩
          cbv
          refine DrawP.of [0, 0, 2, 6, 14, 0, 32, 96, 224, 1, 543, 2047] (by kernel_rfl) (by kernel_rfl) ?_
          cbv
          refine raw_build rfl zE EB.u EB.f0 EB.a ?_
          refine FitP.stay (f := (.rd none)) rfl rfl ?_
          generalize hM : mixH _ _ = M'
          have Mq' : M'.m = m7.m ∧ M'.next = m7.next ∧ Grows h M' := by
            subst hM
            refine ⟨Mq.1, Mq.2.1, ?_⟩
            apply Grows.mixTop
            repeat first | with_reducible exact Mq.2.2 | with_reducible apply Grows.dip
          clear hM Mq
          revert M'
          intro M Mq
          cbv
          refine ⟨4, R.r4, ?_⟩
          cbv
          refine ⟨_, ld_at L84 Mq.1, ?_⟩
          cbv
          refine FitP.stay (f := (.rd (some m1.next))) rfl rfl ?_
          generalize hM : mixH _ _ = M'
          have Mq' : M'.m = m7.m ∧ M'.next = m7.next ∧ Grows h M' := by
            subst hM
            refine ⟨Mq.1, Mq.2.1, ?_⟩
            apply Grows.mixTop
            repeat first | with_reducible exact Mq.2.2 | with_reducible apply Grows.dip
          clear hM Mq
          revert M'
          intro M Mq
          cbv
          refine ⟨3, R.r3, ?_⟩
          cbv
          refine ⟨_, ld_at L83 Mq.1, ?_⟩
          cbv
          refine FitP.stay (f := (.rd (some m1.next))) rfl rfl ?_
          generalize hM : mixH _ _ = M'
          have Mq' : M'.m = m7.m ∧ M'.next = m7.next ∧ Grows h M' := by
            subst hM
            refine ⟨Mq.1, Mq.2.1, ?_⟩
            apply Grows.mixTop
            repeat first | with_reducible exact Mq.2.2 | with_reducible apply Grows.dip
          clear hM Mq
          revert M'
          intro M Mq
          cbv
          have hM2 : M.m.get h.next = some (boxO zC) := by rw [Mq.1]; exact B7
          have S1 : (⟨M.m, M.next, top M.next⟩ : H).store E.P 25 ⟨h.next, 0, none⟩ (.agg zC.toArray) = some ((⟨M.m, M.next, top M.next⟩ : H).put h.next (some (boxO zC))) := st_agg T.eS hM2 rfl rfl rfl
          refine ⟨_, S1, ?_⟩
          have w1 : (h.next == m1.next) = false := by simp; omega
          refine FitP.put (b := h.next) (fun w => rfl) ?_ ?_
          · simp [fits, clash, w1, Nat.testBit]
          have g9 := Mq.2.2.mix (Mq.2.2.mark.put (Nat.le_refl _) (some (boxO zC)))
          have L2 : (mixH M ((⟨M.m, M.next, top M.next⟩ : H).put h.next (some (boxO zC)))).load E.P 25 ⟨h.next, 0, none⟩ = some (.agg zC.toArray) := ld_agg T.eA T.eS (read_cells (show ((⟨M.m, M.next, top M.next⟩ : H).put h.next (some (boxO zC))).m.get h.next = _ by rw [put_get, if_pos rfl]) rfl)
          generalize mixH M ((⟨M.m, M.next, top M.next⟩ : H).put h.next (some (boxO zC))) = m11 at g9 L2 ⊢
          cbv
          exact ⟨_, res3 rfl (ld_at L2 rfl) rfl rfl, hk zC _ g9.dip.dip (.leaf ⟨_, _, rfl, .inl ⟨rfl, fun _ q => by cases q⟩⟩ (fun _ q => by cases q))⟩
    · have z : ¬ st3.err = 0 := z
      rw [if_neg (show ¬ (st3.err = 0 ∧ st3.at' < s.length) from fun x => z x.1)] at hp
      obtain ⟨m7, hm7⟩ : ∃ m7, m7 = m6 := ⟨_, rfl⟩
      rw [← hm7] at r6 B6 C6 e6 k6n ⊢
      have r7 := r6
      have B7 := B6
      have C7 := C6
      have e7 := e6
      have k7n := k6n
      generalize hst8 : st3 = st8 at hp r7
      clear hst8
      cbv
      have L83 := ld_one (P := E.P) (i := 3) T.iA T.iS (read_cells r7.ex rfl) rfl
      have L84 := ld_one (P := E.P) (i := 4) T.iA T.iS (read_cells r7.ex rfl) rfl
      refine ⟨3, R.r3, ?_⟩
      cbv
      refine ⟨_, L83, ?_⟩
      cbv
      refine And.intro (fun e0 => ?_) (fun e0 => ?_)
      · have e0 : st8.err = 0 := e0
        rw [if_pos e0] at hp
        obtain ⟨rfl, rfl, rfl⟩ : e1 = e ∧ s.length = n ∧ 0 = er := by simpa using hp
        have L6 := ld_agg (P := E.P) T.eA T.eS (read_cells C7 e4l)
        have S1 : m7.store E.P 25 ⟨h.next, 0, none⟩ (.agg c.toArray) = some (m7.put h.next (some (boxO c))) := st_agg T.eS B7 rfl e4l e4o
        have L2 : (m7.put h.next (some (boxO c))).load E.P 25 ⟨h.next, 0, none⟩ = some (.agg c.toArray) := ld_agg T.eA T.eS (read_cells (by rw [put_get, if_pos rfl]) e4l)
        have e9 : IsEl (m7.put h.next (some (boxO c))) (fun x => h.next ≤ x) e1 c := e7.mono (fun r q _ => by have : m3.next ≤ r := q; omega) (fun r q _ => by rw [put_get, if_neg (by have : m3.next ≤ r := q; omega)]) (show m7.next ≤ (m7.put h.next (some (boxO c))).next from Nat.le_refl _)
        have g9 := r7.gr.put (Nat.le_refl _) (some (boxO c))
        generalize m7.put h.next (some (boxO c)) = m11 at S1 L2 e9 g9
        cbv
        refine ⟨_, L6, ?_⟩
        cbv
        refine And.intro T.str ?_
        refine ⟨_, S1, ?_⟩
        cbv
        exact ⟨_, res3 rfl L2 rfl rfl, hk c _ g9 e9⟩
      · have e0 : ¬ st8.err = 0 := e0
        rw [if_neg e0] at hp
        obtain ⟨rfl, rfl, rfl⟩ : nothing = e ∧ st8.out = n ∧ st8.err = er := by simpa using hp
        have Mq : m7.m = m7.m ∧ m7.next = m7.next ∧ Grows h m7 := ⟨rfl, rfl, r7.gr⟩
        cbv
        refine DrawP.of [0, 0, 2, 6, 14, 0, 32, 96, 224, 1, 543, 2047] (by kernel_rfl) (by kernel_rfl) ?_
        cbv
        refine raw_build rfl zE EB.u EB.f0 EB.a ?_
        refine FitP.stay (f := (.rd none)) rfl rfl ?_
        generalize hM : mixH _ _ = M'
        have Mq' : M'.m = m7.m ∧ M'.next = m7.next ∧ Grows h M' := by
          subst hM
          refine ⟨Mq.1, Mq.2.1, ?_⟩
          apply Grows.mixTop
          repeat first | with_reducible exact Mq.2.2 | with_reducible apply Grows.dip
        clear hM Mq
        revert M'
        intro M Mq
        cbv
        refine ⟨4, R.r4, ?_⟩
        cbv
        refine ⟨_, ld_at L84 Mq.1, ?_⟩
        cbv
        refine FitP.stay (f := (.rd (some m1.next))) rfl rfl ?_
        generalize hM : mixH _ _ = M'
        have Mq' : M'.m = m7.m ∧ M'.next = m7.next ∧ Grows h M' := by
          subst hM
          refine ⟨Mq.1, Mq.2.1, ?_⟩
          apply Grows.mixTop
          repeat first | with_reducible exact Mq.2.2 | with_reducible apply Grows.dip
        clear hM Mq
        revert M'
        intro M Mq
        cbv
        refine ⟨3, R.r3, ?_⟩
        cbv
        refine ⟨_, ld_at L83 Mq.1, ?_⟩
        cbv
        refine FitP.stay (f := (.rd (some m1.next))) rfl rfl ?_
        generalize hM : mixH _ _ = M'
        have Mq' : M'.m = m7.m ∧ M'.next = m7.next ∧ Grows h M' := by
          subst hM
          refine ⟨Mq.1, Mq.2.1, ?_⟩
          apply Grows.mixTop
          repeat first | with_reducible exact Mq.2.2 | with_reducible apply Grows.dip
        clear hM Mq
        revert M'
        intro M Mq
        cbv
        have hM2 : M.m.get h.next = some (boxO zC) := by rw [Mq.1]; exact B7
        have S1 : (⟨M.m, M.next, top M.next⟩ : H).store E.P 25 ⟨h.next, 0, none⟩ (.agg zC.toArray) = some ((⟨M.m, M.next, top M.next⟩ : H).put h.next (some (boxO zC))) := st_agg T.eS hM2 rfl rfl rfl
        refine ⟨_, S1, ?_⟩
        have w1 : (h.next == m1.next) = false := by simp; omega
        refine FitP.put (b := h.next) (fun w => rfl) ?_ ?_
        · simp [fits, clash, w1, Nat.testBit]
        have g9 := Mq.2.2.mix (Mq.2.2.mark.put (Nat.le_refl _) (some (boxO zC)))
        have L2 : (mixH M ((⟨M.m, M.next, top M.next⟩ : H).put h.next (some (boxO zC)))).load E.P 25 ⟨h.next, 0, none⟩ = some (.agg zC.toArray) := ld_agg T.eA T.eS (read_cells (show ((⟨M.m, M.next, top M.next⟩ : H).put h.next (some (boxO zC))).m.get h.next = _ by rw [put_get, if_pos rfl]) rfl)
        generalize mixH M ((⟨M.m, M.next, top M.next⟩ : H).put h.next (some (boxO zC))) = m11 at g9 L2 ⊢
        cbv
        exact ⟨_, res3 rfl (ld_at L2 rfl) rfl rfl, hk zC _ g9.dip.dip (.leaf ⟨_, _, rfl, .inl ⟨rfl, fun _ q => by cases q⟩⟩ (fun _ q => by cases q))⟩
end
end Go.Proofs.YtfgemjpoiconbaaGreatDoor.GEv

