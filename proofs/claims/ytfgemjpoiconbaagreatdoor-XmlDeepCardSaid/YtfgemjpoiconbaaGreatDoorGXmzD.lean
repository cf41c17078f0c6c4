import Derived.Test.YtfgemjpoiconbaaGreatDoorGXmxF
import Derived.Test.YtfgemjpoiconbaaGreatDoorGXmpA
/- The reference's reader of elements without kids: what it computes; its first methods, by symbolic runs. -/
namespace Go.Proofs.YtfgemjpoiconbaaGreatDoor.GEv
open Go
set_option linter.unusedSimpArgs false
set_option linter.unusedVariables false
set_option maxRecDepth 100000
set_option maxHeartbeats 2000000
/-! ### what it computes -/
def hasR (s p : Bs) (st : Rd) : Bool := decide (st.err = 0) && decide ((s.drop st.at').take p.length = p)
def qualR (s : Bs) (st : Rd) : Bs × Rd :=
  let q := (s.drop st.at').takeWhile signB
  if isQual q then (q, goS q.length st) else ([], failS st.at' 2 st)
def attrR (s : Bs) (l : List (Bs × Bs)) (st : Rd) : List (Bs × Bs) × Rd :=
  if 8 ≤ l.length then (l, failS st.at' 4 st) else
  let (k, st1) := qualR s st
  let st2 := if st1.err = 0 ∧ dupA l k = true then failS st.at' 2 st1 else st1
  let st3 := if st2.err = 0 ∧ hasR s [61] st2 = false then failS st2.at' 2 st2 else st2
  if st3.err ≠ 0 then (l, st3) else
  let (v, st4) := valueS s (goS 1 st3)
  (l ++ [(k, v)], st4)
/-- Blanks alone (remarks are out of its scope). -/
def miscR (s : Bs) (st : Rd) : Option Rd :=
  let st1 := goS (blanksN s st) st
  if hasR s [60, 33, 45, 45] st1 then none else some st1
/-- What stands behind an element's name (kids are out of its scope). -/
def tagR (s : Bs) : Nat → List (Bs × Bs) → Rd → Option (List (Bs × Bs) × Rd)
  | 0, _, _ => none
  | f + 1, l, st =>
    if st.err ≠ 0 then some (l, st) else
    let n := blanksN s st
    let st := goS n st
    if hasR s [47, 62] st then some (l, goS 2 st) else
    if hasR s [62] st then none else
    if n = 0 ∨ hasR s [47] st = true ∨ st.at' = s.length then tagR s f l (failS st.at' 2 st) else
    let (l, st) := attrR s l st
    tagR s f l st
/-! ### in memory -/
abbrev rrO (s : Bs) (st : Rd) : AObj := .cells (rdC s st) (some 63) true 0
structure IsRr (g h : H) (b : Nat) (s : Bs) (st : Rd) : Prop where
  lt : b < h.next
  ge : g.next ≤ b
  gr : Grows g h
  ex : h.m.get b = some (.cells (rdC s st) (some 63) true 0)
structure RrOk (P : Program) : Prop where
  r0 : fOff P 63 0 = some 0
  r1 : fOff P 63 1 = some 1
  r2 : fOff P 63 2 = some 2
  r3 : fOff P 63 3 = some 3
  r4 : fOff P 63 4 = some 4
theorem rrOk : RrOk EM.P := ⟨by kernel_rfl, by kernel_rfl, by kernel_rfl, by kernel_rfl, by kernel_rfl⟩
theorem IsRr.re {g h h' : H} {b : Nat} {s : Bs} {st : Rd} (hr : IsRr g h b s st) (hm : h'.m = h.m) (hn : h'.next = h.next) (k : Grows g h') : IsRr g h' b s st := ⟨by rw [hn]; exact hr.lt, hr.ge, k, by rw [hm]; exact hr.ex⟩
theorem IsRr.put {g h : H} {b : Nat} {s : Bs} {st st' : Rd} (hr : IsRr g h b s st) : IsRr g (h.put b (some (rrO s st'))) b s st' :=
  ⟨hr.lt, hr.ge, hr.gr.put hr.ge _, by rw [put_get, if_pos rfl]⟩
attribute [local cbv_opaque] isString isSlice isBoolT fOff iSize eqNil zero H.load H.store H.push H.dip H.put List.length Nat.add Nat.sub Nat.mul List.take List.drop top Addr.add mixH List.append restS isS failS goS mustS blanksN hasR cmpJ ariJ
attribute [local cbv_eval] List.length_cons List.length_nil addr_add mixH_top
section
variable {E : Env} (hE : E = EMY)
include hE
theorem rFail (b : Nat) (s : Bs) (st : Rd) (a e : Nat) (g0 h : H) (hr : IsRr g0 h b s st) (K : Value → H → Prop) (hk : ∀ v h', IsRr g0 h' b s (failS a e st) → Keep b h h' → K v h') : CallP E 34 [.pointer (some ⟨b, 0, none⟩), .int .i64 (.ofNat a), .int .i64 (.ofNat e)] h K := by
  have T : TyOk E.P := by rw [hE]; exact tyOk
  have R : RrOk E.P := by rw [hE]; exact rrOk
  refine CallP.ofXE hE rfl Tryz.func34 rfl (Nat.le_of_ble_eq_true rfl) ?_
  clear hE
  have L3 := ld_one (P := E.P) (i := 3) T.iA T.iS (read_cells hr.ex rfl) rfl
  cbv
  refine ⟨3, R.r3, ?_⟩
  cbv
  refine ⟨_, L3, ?_⟩
  cbv
  refine And.intro (fun q => ?_) (fun q => ?_)
  · have q : st.err = 0 := q
    have hF : failS a e st = { st with err := e, out := a } := by simp [failS, q]
    rw [hF] at hk
    have r1 := hr.put (st' := { st with err := e })
    have r2 := r1.put (st' := { st with err := e, out := a })
    have S1 : h.store E.P 3 ⟨b, 3, none⟩ (.int .i64 (.ofNat e)) = some (h.put b (some (rrO s { st with err := e }))) := (st_one (P := E.P) (v := .int .i64 (.ofNat e)) (i := 3) T.iS hr.ex (by simp) rfl rfl).trans rfl
    have S2 : (h.put b (some (rrO s { st with err := e }))).store E.P 3 ⟨b, 4, none⟩ (.int .i64 (.ofNat a)) = some ((h.put b (some (rrO s { st with err := e }))).put b (some (rrO s { st with err := e, out := a }))) := (st_one (P := E.P) (v := .int .i64 (.ofNat a)) (i := 4) T.iS r1.ex (by simp) rfl rfl).trans rfl
    have k1 : Keep b h (h.put b (some (rrO s { st with err := e }))) := (Keep.refl b h).put _
    generalize h.put b (some (rrO s { st with err := e })) = h1 at S1 S2 r1 r2 k1
    have k2 : Keep b h (h1.put b (some (rrO s { st with err := e, out := a }))) := k1.put _
    generalize h1.put b (some (rrO s { st with err := e, out := a })) = h2 at S2 r2 k2
    cbv
    refine ⟨3, R.r3, ?_⟩
    cbv
    refine ⟨_, S1, ?_⟩
    cbv
    refine ⟨4, R.r4, ?_⟩
    cbv
    refine ⟨_, S2, ?_⟩
    cbv
    exact ⟨_, rfl, hk _ _ r2 k2⟩
  · have q : ¬ st.err = 0 := q
    have hF : failS a e st = st := by simp [failS, q]
    rw [hF] at hk
    cbv
    exact ⟨_, rfl, hk _ _ hr (Keep.refl b h)⟩
theorem rHasG (b : Nat) (s p : Bs) (hp : p.length ≤ 1000) (hs : s.length ≤ 1000000) (st : Rd) (g0 h : H) (hr : IsRr g0 h b s st) (ha : st.err = 0 → st.at' ≤ s.length) (K : Value → H → Prop) (hk : ∀ h', IsRr g0 h' b s st → Grows h h' → K (.bool (hasR s p st)) h') : CallP E 53 [.pointer (some ⟨b, 0, none⟩), .string ⟨⟨p⟩⟩] h K := by
  have T : TyOk E.P := by rw [hE]; exact tyOk
  have R : RrOk E.P := by rw [hE]; exact rrOk
  refine CallP.ofXE hE rfl Tryz.func53 rfl (Nat.le_of_ble_eq_true rfl) ?_
  clear hE
  have B := read_cells hr.ex rfl
  have L0 := ld_one (P := E.P) (i := 0) T.sA T.sS B rfl
  have L1 := ld_one (P := E.P) (i := 1) T.iA T.iS B rfl
  have L3 := ld_one (P := E.P) (i := 3) T.iA T.iS B rfl
  have Mq : h.m = h.m ∧ h.next = h.next ∧ Grows h h := ⟨rfl, rfl, Grows.refl h⟩
  cbv
  refine DrawP.free (by kernel_rfl) (fun bef => ?_)
  cbv
  refine ⟨3, R.r3, ?_⟩
  cbv
  refine ⟨_, ld_at L3 Mq.1, ?_⟩
  cbv
  refine FitP.stay (f := (.rd (some b))) rfl rfl ?_
  generalize hM : mixH _ _ = M'
  have Mq' : M'.m = h.m ∧ M'.next = h.next ∧ Grows h M' := by
    subst hM
    refine ⟨Mq.1, Mq.2.1, ?_⟩
    apply Grows.mixTop
    repeat first | with_reducible exact Mq.2.2 | with_reducible apply Grows.dip
  clear hM Mq
  revert M'
  intro M Mq
  cbv
  refine And.intro (fun q => ?_) (fun q => ?_)
  · have q : st.err = 0 := q
    have ha := ha q
    have hH : hasR s p st = decide ((s.drop st.at').take p.length = p) := by simp [hasR, q]
    rw [hH] at hk
    cbv
    refine ⟨0, R.r0, ?_⟩
    cbv
    refine ⟨_, ld_at L0 Mq.1, ?_⟩
    cbv
    refine FitP.stay (f := (.rd (some b))) rfl rfl ?_
    generalize hM : mixH _ _ = M'
    have Mq' : M'.m = h.m ∧ M'.next = h.next ∧ Grows h M' := by
      subst hM
      refine ⟨Mq.1, Mq.2.1, ?_⟩
      apply Grows.mixTop
      repeat first | with_reducible exact Mq.2.2 | with_reducible apply Grows.dip
    clear hM Mq
    revert M'
    intro M Mq
    cbv
    refine And.intro T.str ?_
    refine FitP.stay (f := (.rd none)) rfl rfl ?_
    generalize hM : mixH _ _ = M'
    have Mq' : M'.m = h.m ∧ M'.next = h.next ∧ Grows h M' := by
      subst hM
      refine ⟨Mq.1, Mq.2.1, ?_⟩
      apply Grows.mixTop
      repeat first | with_reducible exact Mq.2.2 | with_reducible apply Grows.dip
    clear hM Mq
    revert M'
    intro M Mq
    cbv
    refine ⟨1, R.r1, ?_⟩
    cbv
    refine ⟨_, ld_at L1 Mq.1, ?_⟩
    cbv
    refine FitP.stay (f := (.rd (some b))) rfl rfl ?_
    generalize hM : mixH _ _ = M'
    have Mq' : M'.m = h.m ∧ M'.next = h.next ∧ Grows h M' := by
      subst hM
      refine ⟨Mq.1, Mq.2.1, ?_⟩
      apply Grows.mixTop
      repeat first | with_reducible exact Mq.2.2 | with_reducible apply Grows.dip
    clear hM Mq
    revert M'
    intro M Mq
    cbv
    have hz : (Int.ofNat s.length - Int.ofNat st.at') = Int.ofNat (s.length - st.at') := by
      show ((s.length : Nat) : Int) - ((st.at' : Nat) : Int) = ((s.length - st.at' : Nat) : Int)
      omega
    refine bin_subI hz rfl rfl (by show (-9223372036854775808 : Int) ≤ ((s.length - st.at' : Nat) : Int); omega) (by show ((s.length - st.at' : Nat) : Int) < 9223372036854775808; omega) (fun q => q) ?_
    generalize hd : s.length - st.at' = dl
    cbv
    refine And.intro T.str ?_
    refine FitP.stay (f := (.rd none)) rfl rfl ?_
    generalize hM : mixH _ _ = M'
    have Mq' : M'.m = h.m ∧ M'.next = h.next ∧ Grows h M' := by
      subst hM
      refine ⟨Mq.1, Mq.2.1, ?_⟩
      apply Grows.mixTop
      repeat first | with_reducible exact Mq.2.2 | with_reducible apply Grows.dip
    clear hM Mq
    revert M'
    intro M Mq
    cbv
    refine And.intro (fun q2 => ?_) (fun q2 => ?_)
    · have q2 : p.length ≤ dl := q2
      cbv
      refine ⟨0, R.r0, ?_⟩
      cbv
      refine ⟨_, ld_at L0 Mq.1, ?_⟩
      cbv
      refine FitP.stay (f := (.rd (some b))) rfl rfl ?_
      generalize hM : mixH _ _ = M'
      have Mq' : M'.m = h.m ∧ M'.next = h.next ∧ Grows h M' := by
        subst hM
        refine ⟨Mq.1, Mq.2.1, ?_⟩
        apply Grows.mixTop
        repeat first | with_reducible exact Mq.2.2 | with_reducible apply Grows.dip
      clear hM Mq
      revert M'
      intro M Mq
      cbv
      refine ⟨1, R.r1, ?_⟩
      cbv
      refine ⟨_, ld_at L1 Mq.1, ?_⟩
      cbv
      refine FitP.stay (f := (.rd (some b))) rfl rfl ?_
      generalize hM : mixH _ _ = M'
      have Mq' : M'.m = h.m ∧ M'.next = h.next ∧ Grows h M' := by
        subst hM
        refine ⟨Mq.1, Mq.2.1, ?_⟩
        apply Grows.mixTop
        repeat first | with_reducible exact Mq.2.2 | with_reducible apply Grows.dip
      clear hM Mq
      revert M'
      intro M Mq
      cbv
      refine ⟨1, R.r1, ?_⟩
      cbv
      refine ⟨_, ld_at L1 Mq.1, ?_⟩
      cbv
      refine FitP.stay (f := (.rd (some b))) rfl rfl ?_
      generalize hM : mixH _ _ = M'
      have Mq' : M'.m = h.m ∧ M'.next = h.next ∧ Grows h M' := by
        subst hM
        refine ⟨Mq.1, Mq.2.1, ?_⟩
        apply Grows.mixTop
        repeat first | with_reducible exact Mq.2.2 | with_reducible apply Grows.dip
      clear hM Mq
      revert M'
      intro M Mq
      cbv
      refine And.intro T.str ?_
      refine FitP.stay (f := (.rd none)) rfl rfl ?_
      generalize hM : mixH _ _ = M'
      have Mq' : M'.m = h.m ∧ M'.next = h.next ∧ Grows h M' := by
        subst hM
        refine ⟨Mq.1, Mq.2.1, ?_⟩
        apply Grows.mixTop
        repeat first | with_reducible exact Mq.2.2 | with_reducible apply Grows.dip
      clear hM Mq
      revert M'
      intro M Mq
      cbv
      refine And.intro (by show st.at' + p.length ≤ _; omega) ?_
      cbv
      refine And.intro T.str (And.intro (by show st.at' ≤ st.at' + p.length; omega) (And.intro (by show st.at' + p.length ≤ s.length; omega) ?_))
      have ht : List.take (Nat.sub (Nat.add st.at' p.length) st.at') (List.drop st.at' s) = (s.drop st.at').take p.length := by
        show List.take (st.at' + p.length - st.at') (List.drop st.at' s) = _
        rw [Nat.add_sub_cancel_left]
      rw [ht]
      refine And.intro (fun q3 => ?_) (fun q3 => ?_)
      · have q3 : (s.drop st.at').take p.length = p := q3
        rw [decide_eq_true q3] at hk
        cbv
        refine ⟨_, rfl, hk _ (hr.re Mq.1 Mq.2.1 ?_) ?_⟩
        · refine hr.gr.trans ?_
          repeat first | with_reducible exact Mq.2.2 | with_reducible apply Grows.dip
        · repeat first | with_reducible exact Mq.2.2 | with_reducible apply Grows.dip
      · have q3 : ¬ (s.drop st.at').take p.length = p := q3
        rw [decide_eq_false q3] at hk
        cbv
        refine ⟨_, rfl, hk _ (hr.re Mq.1 Mq.2.1 ?_) ?_⟩
        · refine hr.gr.trans ?_
          repeat first | with_reducible exact Mq.2.2 | with_reducible apply Grows.dip
        · repeat first | with_reducible exact Mq.2.2 | with_reducible apply Grows.dip
    · have q2 : dl < p.length := q2
      have hF : ¬ (s.drop st.at').take p.length = p := by
        intro e
        have := congrArg List.length e
        rw [List.length_take, List.length_drop] at this
        omega
      rw [decide_eq_false hF] at hk
      cbv
      refine ⟨_, rfl, hk _ (hr.re Mq.1 Mq.2.1 ?_) ?_⟩
      · refine hr.gr.trans ?_
        repeat first | with_reducible exact Mq.2.2 | with_reducible apply Grows.dip
      · repeat first | with_reducible exact Mq.2.2 | with_reducible apply Grows.dip
  · have q : ¬ st.err = 0 := q
    have hH : hasR s p st = false := by simp [hasR, q]
    rw [hH] at hk
    cbv
    refine ⟨_, rfl, hk _ (hr.re Mq.1 Mq.2.1 ?_) ?_⟩
    · refine hr.gr.trans ?_
      repeat first | with_reducible exact Mq.2.2 | with_reducible apply Grows.dip
    · repeat first | with_reducible exact Mq.2.2 | with_reducible apply Grows.dip
theorem rHas (b : Nat) (s p : Bs) (hp : p.length ≤ 1000) (hs : s.length ≤ 1000000) (st : Rd) (g0 h : H) (hr : IsRr g0 h b s st) (ha : st.err = 0 → st.at' ≤ s.length) (K : Value → H → Prop) (hk : ∀ h', IsRr g0 h' b s st → Keep b h h' → K (.bool (hasR s p st)) h') : CallP E 53 [.pointer (some ⟨b, 0, none⟩), .string ⟨⟨p⟩⟩] h K :=
  rHasG hE b s p hp hs st g0 h hr ha K (fun h' q1 q2 => hk h' q1 (.of q2))
end
end Go.Proofs.YtfgemjpoiconbaaGreatDoor.GEv

/- The reference's 'blanks', 'misc', 'qual', by symbolic runs. -/
namespace Go.Proofs.YtfgemjpoiconbaaGreatDoor.GEv
open Go
set_option linter.unusedSimpArgs false
set_option linter.unusedVariables false
set_option maxRecDepth 100000
set_option maxHeartbeats 2000000
theorem has1_nil {s : Bs} {st : Rd} (h : restS s st = []) (x : UInt8) : hasR s [x] st = false := by
  unfold hasR
  unfold restS at h
  split at h
  · simp [h]
  · rename_i q; simp [q]
theorem has1_cons {s r : Bs} {c : UInt8} {st : Rd} (h : restS s st = c :: r) (x : UInt8) : hasR s [x] st = decide (c = x) := by
  unfold hasR
  unfold restS at h
  split at h
  · rename_i q
    rw [h]
    simp [q]
  · cases h
theorem blanks_nil {s : Bs} {st : Rd} (h : restS s st = []) : blanksN s st = 0 := by unfold blanksN; rw [h]; rfl
theorem blanks_not {s r : Bs} {c : UInt8} {st : Rd} (h : restS s st = c :: r) (hc : blankB c = false) : blanksN s st = 0 := by
  unfold blanksN
  rw [h, List.takeWhile_cons, hc]
  rfl
theorem rest_step {s r : Bs} {c : UInt8} {st : Rd} (h : restS s st = c :: r) : restS s (goS 1 st) = r ∧ st.err = 0 ∧ st.at' < s.length := by
  unfold restS at h
  split at h
  · rename_i q
    refine ⟨?_, q, ?_⟩
    · show (if st.err = 0 then s.drop (st.at' + 1) else []) = r
      rw [if_pos q, ← List.drop_drop, h]
      rfl
    · have := congrArg List.length h
      simp at this
      omega
  · cases h
theorem blanks_is {s r : Bs} {c : UInt8} {st : Rd} (h : restS s st = c :: r) (hc : blankB c = true) : blanksN s st = blanksN s (goS 1 st) + 1 := by
  unfold blanksN
  rw [(rest_step h).1, h, List.takeWhile_cons, hc]
  simp
attribute [local cbv_opaque] isString isSlice isBoolT fOff iSize eqNil zero H.load H.store H.push H.dip H.put List.length Nat.add Nat.sub Nat.mul List.take List.drop top Addr.add mixH restS isS failS goS mustS blanksN hasR cmpJ ariJ
attribute [local cbv_eval] List.length_cons List.length_nil addr_add mixH_top
section
variable {E : Env} (hE : E = EMY)
include hE
theorem rBlanks (b : Nat) (s : Bs) (hs : s.length ≤ 1000000) (st : Rd) (hbd : st.at' ≤ 2000000) (g0 h : H) (hr : IsRr g0 h b s st) (ha : st.err = 0 → st.at' ≤ s.length) (K : Value → H → Prop) (hk : ∀ h', IsRr g0 h' b s (goS (blanksN s st) st) → Keep b h h' → K (.bool (decide (0 < blanksN s st))) h') : CallP E 52 [.pointer (some ⟨b, 0, none⟩)] h K := by
  have T : TyOk E.P := by rw [hE]; exact tyOk
  have R : RrOk E.P := by rw [hE]; exact rrOk
  have n1 := fun p hp st h hr ha K hk => rHas hE b s p hp hs st g0 h hr ha K hk
  refine CallP.ofXE hE rfl Tryz.func52 rfl (Nat.le_of_ble_eq_true rfl) ?_
  clear hE
  have L1 := ld_one (P := E.P) (i := 1) T.iA T.iS (read_cells hr.ex rfl) rfl
  cbv
  refine ⟨1, R.r1, ?_⟩
  cbv
  refine ⟨_, L1, ?_⟩
  cbv
  refine LoopP.onX (fun x : H × Nat => [(3, .int .i64 (.ofNat st.at')), (0, .pointer (some ⟨b, 0, none⟩))]) (fun x => x.1) (fun x => IsRr g0 x.1 b s (goS x.2 st) ∧ Keep b h x.1 ∧ (st.err = 0 → st.at' + x.2 ≤ s.length) ∧ blanksN s (goS x.2 st) + x.2 = blanksN s st) (fun x => blanksN s (goS x.2 st)) (h, 0) rfl (Less.cons rfl (Less.cons rfl (Less.nil _))) ⟨hr, Keep.refl b h, ha, rfl⟩ ?_
  rintro ⟨m, j⟩ ⟨i1, i2, i3, i4⟩
  have i1 : IsRr g0 m b s (goS j st) := i1
  have i2 : Keep b h m := i2
  have i3 : st.err = 0 → st.at' + j ≤ s.length := i3
  have i4 : blanksN s (goS j st) + j = blanksN s st := i4
  have n2 := fun p hp h hr K hk => n1 p hp (goS j st) h hr i3 K hk
  -- the end: nothing more is blank
  have fin : ∀ m', IsRr g0 m' b s (goS j st) → Keep b h m' → blanksN s (goS j st) = 0 → m'.load E.P 3 ⟨b, 1, none⟩ = some (.int .i64 (.ofNat (st.at' + j))) ∧ ((0 < blanksN s st) ↔ st.at' < st.at' + j) ∧ K (.bool (decide (0 < blanksN s st))) m' := by
    intro m' q1 q2 q3
    have e : j = blanksN s st := by omega
    exact ⟨ld_one (P := E.P) (i := 1) T.iA T.iS (read_cells q1.ex rfl) rfl, by omega, hk m' (by rw [← e]; exact q1) q2⟩
  cases hre : restS s (goS j st) with
  | nil =>
    have hn := blanks_nil hre
    have h1 := has1_nil hre 32
    have h2 := has1_nil hre 9
    have h3 := has1_nil hre 10
    have h4 := has1_nil hre 13
    cbv
    refine .inl (n2 [32] (by simp) _ i1 _ (fun m1 r1 k1 => ?_))
    rw [h1]
    cbv
    refine .inl (n2 [9] (by simp) _ r1 _ (fun m2 r2 k2 => ?_))
    rw [h2]
    cbv
    refine .inl (n2 [10] (by simp) _ r2 _ (fun m3 r3 k3 => ?_))
    rw [h3]
    cbv
    refine .inl (n2 [13] (by simp) _ r3 _ (fun m4 r4 k4 => ?_))
    rw [h4]
    obtain ⟨LL, hio, hkk⟩ := fin m4 r4 (i2.trans (k1.trans (k2.trans (k3.trans k4)))) hn
    cbv
    refine ⟨1, R.r1, ?_⟩
    cbv
    refine ⟨_, LL, ?_⟩
    cbv
    refine And.intro (fun q => ?_) (fun q => ?_)
    · have q : st.at' < st.at' + j := q
      rw [decide_eq_true (hio.2 q)] at hkk
      cbv
      exact ⟨_, rfl, hkk⟩
    · have q : ¬ st.at' < st.at' + j := Nat.not_lt.2 q
      rw [decide_eq_false (fun x => q (hio.1 x))] at hkk
      cbv
      exact ⟨_, rfl, hkk⟩
  | cons c r =>
    obtain ⟨hs1, hs2, hs3⟩ := rest_step hre
    have hs3 : st.at' + j < s.length := hs3
    have h1 := has1_cons hre 32
    have h2 := has1_cons hre 9
    have h3 := has1_cons hre 10
    have h4 := has1_cons hre 13
    by_cases hb : blankB c = true
    · have hn := blanks_is hre hb
      have hgg : goS 1 (goS j st) = goS (j + 1) st := goS_goS 1 j st
      rw [hgg] at hn
      have stp : ∀ m', IsRr g0 m' b s (goS j st) → Keep b h m' → ∃ m'', m'.load E.P 3 ⟨b, 1, none⟩ = some (.int .i64 (.ofNat (st.at' + j))) ∧ m'.store E.P 3 ⟨b, 1, none⟩ (.int .i64 (.ofNat (st.at' + j + 1))) = some m'' ∧ IsRr g0 m'' b s (goS (j + 1) st) ∧ Keep b h m'' := fun m' q1 q2 =>
        ⟨_, ld_one (P := E.P) (i := 1) T.iA T.iS (read_cells q1.ex rfl) rfl, (st_one (P := E.P) (v := .int .i64 (.ofNat (st.at' + j + 1))) (i := 1) T.iS q1.ex (by simp) rfl rfl).trans rfl, q1.put (st' := goS (j + 1) st), q2.put _⟩
      have hcc : c = 32 ∨ c = 9 ∨ c = 10 ∨ c = 13 := by
        simp only [blankB, Bool.or_eq_true, beq_iff_eq] at hb
        rcases hb with ((h | h) | h) | h
        · exact .inl h
        · exact .inr (.inl h)
        · exact .inr (.inr (.inr h))
        · exact .inr (.inr (.inl h))
      rcases hcc with rfl | rfl | rfl | rfl
      · cbv
        refine .inl (n2 [32] (by simp) _ i1 _ (fun m1 r1 k1 => ?_))
        rw [h1, decide_eq_true rfl]
        obtain ⟨mm, LL, SS, rr, qq⟩ := stp m1 r1 (i2.trans k1)
        cbv
        refine ⟨1, R.r1, ?_⟩
        cbv
        refine ⟨_, LL, ?_⟩
        cbv
        refine And.intro (by show st.at' + j + 1 ≤ _; omega) ?_
        refine ⟨1, R.r1, ?_⟩
        cbv
        refine ⟨_, SS, ?_⟩
        cbv
        exact ⟨(mm, j + 1), Less.cons rfl (Less.cons rfl (Less.nil _)), rfl, ⟨rr, qq, (fun _ => by show st.at' + (j + 1) ≤ _; omega), (by show blanksN s (goS (j + 1) st) + (j + 1) = _; omega)⟩, (by show blanksN s (goS (j + 1) st) < blanksN s (goS j st); omega)⟩
      · cbv
        refine .inl (n2 [32] (by simp) _ i1 _ (fun m1 r1 k1 => ?_))
        rw [h1, decide_eq_false (by decide)]
        cbv
        refine .inl (n2 [9] (by simp) _ r1 _ (fun m2 r2 k2 => ?_))
        rw [h2, decide_eq_true rfl]
        obtain ⟨mm, LL, SS, rr, qq⟩ := stp m2 r2 ((i2.trans k1).trans k2)
        cbv
        refine ⟨1, R.r1, ?_⟩
        cbv
        refine ⟨_, LL, ?_⟩
        cbv
        refine And.intro (by show st.at' + j + 1 ≤ _; omega) ?_
        refine ⟨1, R.r1, ?_⟩
        cbv
        refine ⟨_, SS, ?_⟩
        cbv
        exact ⟨(mm, j + 1), Less.cons rfl (Less.cons rfl (Less.nil _)), rfl, ⟨rr, qq, (fun _ => by show st.at' + (j + 1) ≤ _; omega), (by show blanksN s (goS (j + 1) st) + (j + 1) = _; omega)⟩, (by show blanksN s (goS (j + 1) st) < blanksN s (goS j st); omega)⟩
      · cbv
        refine .inl (n2 [32] (by simp) _ i1 _ (fun m1 r1 k1 => ?_))
        rw [h1, decide_eq_false (by decide)]
        cbv
        refine .inl (n2 [9] (by simp) _ r1 _ (fun m2 r2 k2 => ?_))
        rw [h2, decide_eq_false (by decide)]
        cbv
        refine .inl (n2 [10] (by simp) _ r2 _ (fun m3 r3 k3 => ?_))
        rw [h3, decide_eq_true rfl]
        obtain ⟨mm, LL, SS, rr, qq⟩ := stp m3 r3 (((i2.trans k1).trans k2).trans k3)
        cbv
        refine ⟨1, R.r1, ?_⟩
        cbv
        refine ⟨_, LL, ?_⟩
        cbv
        refine And.intro (by show st.at' + j + 1 ≤ _; omega) ?_
        refine ⟨1, R.r1, ?_⟩
        cbv
        refine ⟨_, SS, ?_⟩
        cbv
        exact ⟨(mm, j + 1), Less.cons rfl (Less.cons rfl (Less.nil _)), rfl, ⟨rr, qq, (fun _ => by show st.at' + (j + 1) ≤ _; omega), (by show blanksN s (goS (j + 1) st) + (j + 1) = _; omega)⟩, (by show blanksN s (goS (j + 1) st) < blanksN s (goS j st); omega)⟩
      · cbv
        refine .inl (n2 [32] (by simp) _ i1 _ (fun m1 r1 k1 => ?_))
        rw [h1, decide_eq_false (by decide)]
        cbv
        refine .inl (n2 [9] (by simp) _ r1 _ (fun m2 r2 k2 => ?_))
        rw [h2, decide_eq_false (by decide)]
        cbv
        refine .inl (n2 [10] (by simp) _ r2 _ (fun m3 r3 k3 => ?_))
        rw [h3, decide_eq_false (by decide)]
        cbv
        refine .inl (n2 [13] (by simp) _ r3 _ (fun m4 r4 k4 => ?_))
        rw [h4, decide_eq_true rfl]
        obtain ⟨mm, LL, SS, rr, qq⟩ := stp m4 r4 ((((i2.trans k1).trans k2).trans k3).trans k4)
        cbv
        refine ⟨1, R.r1, ?_⟩
        cbv
        refine ⟨_, LL, ?_⟩
        cbv
        refine And.intro (by show st.at' + j + 1 ≤ _; omega) ?_
        refine ⟨1, R.r1, ?_⟩
        cbv
        refine ⟨_, SS, ?_⟩
        cbv
        exact ⟨(mm, j + 1), Less.cons rfl (Less.cons rfl (Less.nil _)), rfl, ⟨rr, qq, (fun _ => by show st.at' + (j + 1) ≤ _; omega), (by show blanksN s (goS (j + 1) st) + (j + 1) = _; omega)⟩, (by show blanksN s (goS (j + 1) st) < blanksN s (goS j st); omega)⟩
    · have hn := blanks_not hre (by simpa using hb)
      have hc : c ≠ 32 ∧ c ≠ 9 ∧ c ≠ 10 ∧ c ≠ 13 := by
        simp only [blankB, Bool.or_eq_true, beq_iff_eq, not_or] at hb
        exact ⟨hb.1.1.1, hb.1.1.2, hb.2, hb.1.2⟩
      rw [decide_eq_false hc.1] at h1
      rw [decide_eq_false hc.2.1] at h2
      rw [decide_eq_false hc.2.2.1] at h3
      rw [decide_eq_false hc.2.2.2] at h4
      cbv
      refine .inl (n2 [32] (by simp) _ i1 _ (fun m1 r1 k1 => ?_))
      rw [h1]
      cbv
      refine .inl (n2 [9] (by simp) _ r1 _ (fun m2 r2 k2 => ?_))
      rw [h2]
      cbv
      refine .inl (n2 [10] (by simp) _ r2 _ (fun m3 r3 k3 => ?_))
      rw [h3]
      cbv
      refine .inl (n2 [13] (by simp) _ r3 _ (fun m4 r4 k4 => ?_))
      rw [h4]
      obtain ⟨LL, hio, hkk⟩ := fin m4 r4 (i2.trans (k1.trans (k2.trans (k3.trans k4)))) hn
      cbv
      refine ⟨1, R.r1, ?_⟩
      cbv
      refine ⟨_, LL, ?_⟩
      cbv
      refine And.intro (fun q => ?_) (fun q => ?_)
      · have q : st.at' < st.at' + j := q
        rw [decide_eq_true (hio.2 q)] at hkk
        cbv
        exact ⟨_, rfl, hkk⟩
      · have q : ¬ st.at' < st.at' + j := Nat.not_lt.2 q
        rw [decide_eq_false (fun x => q (hio.1 x))] at hkk
        cbv
        exact ⟨_, rfl, hkk⟩
end
end Go.Proofs.YtfgemjpoiconbaaGreatDoor.GEv

/- The reference's 'misc', 'qual', by symbolic runs. -/
namespace Go.Proofs.YtfgemjpoiconbaaGreatDoor.GEv
open Go
set_option linter.unusedSimpArgs false
set_option linter.unusedVariables false
set_option maxRecDepth 100000
set_option maxHeartbeats 2000000
theorem drop_tw (p : UInt8 → Bool) : ∀ l : Bs, (l.drop (l.takeWhile p).length).takeWhile p = []
  | [] => rfl
  | c :: l => by
    rw [List.takeWhile_cons]
    split
    · rw [List.length_cons, List.drop_succ_cons]
      exact drop_tw p l
    · rename_i h
      rw [List.length_nil, List.drop_zero, List.takeWhile_cons, if_neg h]
theorem tw_take (p : UInt8 → Bool) (l : Bs) : l.take (l.takeWhile p).length = l.takeWhile p := by
  have h1 := List.takeWhile_append_dropWhile (p := p) (l := l)
  have h2 : (l.takeWhile p ++ l.dropWhile p).take (l.takeWhile p).length = l.takeWhile p := List.take_left ..
  rw [h1] at h2
  exact h2
theorem blanks_done (s : Bs) (st : Rd) : blanksN s (goS (blanksN s st) st) = 0 := by
  unfold blanksN
  have e : restS s (goS ((restS s st).takeWhile blankB).length st) = (restS s st).drop ((restS s st).takeWhile blankB).length := by
    unfold restS
    show (if st.err = 0 then _ else _) = _
    split
    · rw [List.drop_drop]; rfl
    · simp
  rw [e, drop_tw]
  rfl
theorem blanks_leR {s : Bs} {st : Rd} (h : st.err = 0 → st.at' ≤ s.length) : (goS (blanksN s st) st).err = 0 → (goS (blanksN s st) st).at' ≤ s.length := fun e => blanks_le (h e)
theorem blanks_bd {s : Bs} {st : Rd} (hs : s.length ≤ 1000000) (ha : st.err = 0 → st.at' ≤ s.length) (h : st.at' ≤ 2000000) : (goS (blanksN s st) st).at' ≤ 2000000 := by
  by_cases e : st.err = 0
  · have := blanks_le (ha e)
    omega
  · have : blanksN s st = 0 := blanks_nil (by unfold restS; rw [if_neg e])
    rw [this]
    exact h
section
attribute [local cbv_opaque] isString isSlice isBoolT fOff iSize eqNil zero H.load H.store H.push
variable {E : Env} (hE : E = EMY)
include hE
theorem rFirstY (c : Nat) (h : H) (K : Value → H → Prop) (hk : K (.bool (first c)) h) : CallP E 59 [.int .u8 (.ofNat c)] h K := by
  refine CallP.ofE hE rfl Tryz.func59 rfl (Nat.le_of_ble_eq_true rfl) ?_
  clear hE
  cbv
  repeat' (refine And.intro (fun h1 => ?_) (fun h1 => ?_) <;> cbv)
  all_goals refine ⟨_, rfl, ?_⟩
  all_goals (refine eqb hk ?_; clear hk; simp [first]; omega)
theorem rByteY (c : Nat) (h : H) (K : Value → H → Prop) (hk : K (.bool (byte c)) h) : CallP E 60 [.int .u8 (.ofNat c)] h K := by
  refine CallP.ofE hE rfl Tryz.func60 rfl (Nat.le_of_ble_eq_true rfl) ?_
  have n1 := fun h K hk => rFirstY hE c h K hk
  clear hE
  have hb : byte c = (first c || (decide (48 ≤ c) && decide (c ≤ 57)) || decide (c = 45) || decide (c = 46)) := rfl
  generalize first c = b at n1 hb
  cases b
  all_goals cbv
  all_goals (refine .inl (n1 _ _ ?_); cbv)
  all_goals repeat' (refine And.intro (fun h1 => ?_) (fun h1 => ?_) <;> cbv)
  all_goals refine ⟨_, rfl, ?_⟩
  all_goals (refine eqb hk ?_; clear hk; simp [hb]; try omega)
end
attribute [local cbv_opaque] isString isSlice isBoolT fOff iSize eqNil zero H.load H.store H.push H.dip H.put List.length List.getD Nat.add Nat.sub Nat.mul List.take List.drop top Addr.add mixH restS isS failS goS mustS blanksN hasR isQual byte cmpJ ariJ
attribute [local cbv_eval] List.length_cons List.length_nil addr_add mixH_top
section
variable {E : Env} (hE : E = EMY)
include hE
theorem rMisc (b : Nat) (s : Bs) (hs : s.length ≤ 1000000) (st : Rd) (hbd : st.at' ≤ 2000000) (g0 h : H) (hr : IsRr g0 h b s st) (ha : st.err = 0 → st.at' ≤ s.length) (ST : Rd) (hm : miscR s st = some ST) (K : Value → H → Prop) (hk : ∀ v h', IsRr g0 h' b s ST → Keep b h h' → K v h') : CallP E 32 [.pointer (some ⟨b, 0, none⟩)] h K := by
  have n1 := fun st hbd h hr ha K hk => rBlanks hE b s hs st hbd g0 h hr ha K hk
  have n2 := fun st h hr ha K hk => rHas hE b s [60, 33, 45, 45] (by simp) hs st g0 h hr ha K hk
  refine CallP.ofXE hE rfl Tryz.func32 rfl (Nat.le_of_ble_eq_true rfl) ?_
  clear hE
  unfold miscR at hm
  simp only at hm
  have hh : hasR s [60, 33, 45, 45] (goS (blanksN s st) st) = false ∧ goS (blanksN s st) st = ST := by
    split at hm
    · cases hm
    · rename_i q
      exact ⟨by simpa using q, by simpa using hm⟩
  obtain ⟨hh, rfl⟩ := hh
  have hd := blanks_done s st
  have hla := blanks_leR ha
  have hlb := blanks_bd hs ha hbd
  generalize hST : goS (blanksN s st) st = ST at hh hd hla hlb hk
  cbv
  refine LoopP.onX (fun x : H × Rd => [(0, .pointer (some ⟨b, 0, none⟩))]) (fun x => x.1) (fun x => IsRr g0 x.1 b s x.2 ∧ Keep b h x.1 ∧ goS (blanksN s x.2) x.2 = ST ∧ x.2.at' ≤ 2000000 ∧ (x.2.err = 0 → x.2.at' ≤ s.length)) (fun x => blanksN s x.2) (h, st) rfl (Less.cons rfl (Less.nil _)) ⟨hr, Keep.refl b h, hST, hbd, ha⟩ ?_
  rintro ⟨m, sx⟩ ⟨i1, i2, i3, i4, i5⟩
  have i1 : IsRr g0 m b s sx := i1
  have i2 : Keep b h m := i2
  have i3 : goS (blanksN s sx) sx = ST := i3
  have n1 := n1 sx i4 m i1 i5
  rw [i3] at n1
  cbv
  refine .inl (n1 _ (fun m1 r1 k1 => ?_))
  have n2a := n2 ST m1 r1 hla
  rw [hh] at n2a
  by_cases hn : 0 < blanksN s sx
  · rw [decide_eq_true hn]
    cbv
    refine .inl (n2a _ (fun m2 r2 k2 => ?_))
    cbv
    exact ⟨(m2, ST), Less.cons rfl (Less.nil _), rfl, ⟨r2, i2.trans (k1.trans k2), (by show goS (blanksN s ST) ST = ST; rw [hd]; rfl), hlb, hla⟩, (by show blanksN s ST < blanksN s sx; omega)⟩
  · rw [decide_eq_false hn]
    cbv
    refine .inl (n2a _ (fun m2 r2 k2 => ?_))
    cbv
    exact ⟨_, rfl, hk _ _ r2 (i2.trans (k1.trans k2))⟩
theorem rrQual (b : Nat) (s : Bs) (hs : s.length ≤ 1000000) (st : Rd) (g0 h : H) (hr : IsRr g0 h b s st) (ha : st.at' ≤ s.length) (K : Value → H → Prop) (hk : ∀ h', IsRr g0 h' b s (qualR s st).2 → Keep b h h' → K (.string ⟨⟨(qualR s st).1⟩⟩) h') : CallP E 55 [.pointer (some ⟨b, 0, none⟩)] h K := by
  have T : TyOk E.P := by rw [hE]; exact tyOk
  have R : RrOk E.P := by rw [hE]; exact rrOk
  have n1 := fun c h K hk => rByteY hE c h K hk
  have n3 := fun l hl h K hk => yrQual hE l hl h K hk
  have n4 := fun a e h hr K hk => rFail hE b s st a e g0 h hr K hk
  refine CallP.ofXE hE rfl Tryz.func55 rfl (Nat.le_of_ble_eq_true rfl) ?_
  clear hE
  have L1 := ld_one (P := E.P) (i := 1) T.iA T.iS (read_cells hr.ex rfl) rfl
  cbv
  refine ⟨1, R.r1, ?_⟩
  cbv
  refine ⟨_, L1, ?_⟩
  cbv
  refine LoopP.onX (fun x : H × Nat => [(3, .int .i64 (.ofNat (st.at' + x.2))), (0, .pointer (some ⟨b, 0, none⟩))]) (fun x => x.1) (fun x => IsRr g0 x.1 b s st ∧ Keep b h x.1 ∧ st.at' + x.2 ≤ s.length ∧ ((s.drop (st.at' + x.2)).takeWhile signB).length + x.2 = ((s.drop st.at').takeWhile signB).length) (fun x => s.length - x.2) (h, 0) rfl (Less.cons rfl (Less.cons rfl (Less.nil _))) ⟨hr, Keep.refl b h, ha, rfl⟩ ?_
  rintro ⟨m, j⟩ ⟨i1, i2, i3, i4⟩
  have i1 : IsRr g0 m b s st := i1
  have i2 : Keep b h m := i2
  have i3 : st.at' + j ≤ s.length := i3
  have i4 : ((s.drop (st.at' + j)).takeWhile signB).length + j = ((s.drop st.at').takeWhile signB).length := i4
  have B := read_cells i1.ex rfl
  have L0 := ld_one (P := E.P) (i := 0) T.sA T.sS B rfl
  have L1 := ld_one (P := E.P) (i := 1) T.iA T.iS B rfl
  generalize ha0 : st.at' + j = a at i3 i4
  cbv
  refine ⟨0, R.r0, ?_⟩
  cbv
  refine ⟨_, L0, ?_⟩
  cbv
  refine And.intro T.str ?_
  by_cases hlt : a < s.length
  · have hdr : s.drop a = s.getD a 0 :: s.drop (a + 1) := drop_get hlt
    rw [hdr, List.takeWhile_cons] at i4
    refine And.intro (fun _ => ?_) (fun e => absurd hlt (Nat.not_lt.2 e))
    cbv
    refine ⟨0, R.r0, ?_⟩
    cbv
    refine ⟨_, L0, ?_⟩
    cbv
    refine And.intro T.str (And.intro hlt ?_)
    generalize hc : s.getD a 0 = c at i4 hdr
    have n1a := fun h K hk => n1 c.toNat h K hk
    have hbn1 : Nat.le (Nat.add a 1) 4611686018427387904 := by show a + 1 ≤ _; omega
    have nxt : signB c = true → ((s.drop (st.at' + (j + 1))).takeWhile signB).length + (j + 1) = ((s.drop st.at').takeWhile signB).length := by
      intro q
      rw [q] at i4
      simp only [if_true, List.length_cons] at i4
      rw [show st.at' + (j + 1) = a + 1 by omega]
      omega
    have nxa : (Value.int .i64 (.ofNat (Nat.add a 1))) = .int .i64 (.ofNat (st.at' + (j + 1))) := by
      rw [show Nat.add a 1 = st.at' + (j + 1) by show a + 1 = _; omega]
    cases hb : byte c.toNat
    · rw [hb] at n1a
      refine .inl (n1a _ _ ?_)
      cbv
      refine ⟨0, R.r0, ?_⟩
      cbv
      refine ⟨_, L0, ?_⟩
      cbv
      refine And.intro T.str (And.intro hlt ?_)
      rw [hc]
      refine And.intro (fun e58 => ?_) (fun e58 => ?_)
      · have e58 : c = 58 := UInt8.toNat_inj.1 e58
        have hsg : signB c = true := by rw [e58]; rfl
        cbv
        refine And.intro hbn1 ?_
        exact ⟨(m, j + 1), Less.cons (congrArg some nxa) (Less.cons rfl (Less.nil _)), rfl, ⟨i1, i2, (by show st.at' + (j + 1) ≤ _; omega), nxt hsg⟩, (by show s.length - (j + 1) < s.length - j; omega)⟩
      · have e58 : ¬ c = 58 := fun e => e58 (by rw [e]; rfl)
        have hsg : signB c = false := by simp [signB, hb, e58]
        rw [hsg] at i4
        have hj : j = ((s.drop st.at').takeWhile signB).length := by simpa using i4
        cbv
        have Mq : m.m = m.m ∧ m.next = m.next ∧ Grows m m := ⟨rfl, rfl, Grows.refl m⟩
        refine DrawP.free (by kernel_rfl) (fun bef => ?_)
        cbv
        refine ⟨0, R.r0, ?_⟩
        cbv
        refine ⟨_, ld_at L0 Mq.1, ?_⟩
        cbv
        refine FitP.stay (f := (.rd (some b))) rfl rfl ?_
        generalize hM : mixH _ _ = M'
        have Mq' : M'.m = m.m ∧ M'.next = m.next ∧ Grows m M' := by
          subst hM
          refine ⟨Mq.1, Mq.2.1, ?_⟩
          apply Grows.mixTop
          repeat first | with_reducible exact Mq.2.2 | with_reducible apply Grows.dip
        clear hM Mq
        revert M'
        intro M Mq
        cbv
        refine ⟨1, R.r1, ?_⟩
        cbv
        refine ⟨_, ld_at L1 Mq.1, ?_⟩
        cbv
        refine FitP.stay (f := (.rd (some b))) rfl rfl ?_
        generalize hM : mixH _ _ = M'
        have Mq' : M'.m = m.m ∧ M'.next = m.next ∧ Grows m M' := by
          subst hM
          refine ⟨Mq.1, Mq.2.1, ?_⟩
          apply Grows.mixTop
          repeat first | with_reducible exact Mq.2.2 | with_reducible apply Grows.dip
        clear hM Mq
        revert M'
        intro M Mq
        cbv
        refine And.intro T.str (And.intro (by show st.at' ≤ a; omega) (And.intro (by show a ≤ s.length; omega) ?_))
        have hsub : Nat.sub a st.at' = ((s.drop st.at').takeWhile signB).length := by show a - st.at' = _; omega
        rw [hsub, tw_take]
        have hqr : qualR s st = if isQual ((s.drop st.at').takeWhile signB) then ((s.drop st.at').takeWhile signB, goS ((s.drop st.at').takeWhile signB).length st) else ([], failS st.at' 2 st) := rfl
        have hql : ((s.drop st.at').takeWhile signB).length ≤ 1000000 := by
          have := tw_le signB (s.drop st.at')
          rw [List.length_drop] at this
          omega
        generalize (s.drop st.at').takeWhile signB = q at hqr hql hj hsub ⊢
        refine .inl (n3 q hql _ _ ?_)
        generalize hM2 : H.dip _ = M2
        have r2 : IsRr g0 M2 b s st := by
          subst hM2
          refine i1.re Mq.1 Mq.2.1 (i1.gr.trans ?_)
          repeat first | with_reducible exact Mq.2.2 | with_reducible apply Grows.dip
        have k2 : Keep b h M2 := by
          subst hM2
          refine i2.trans (Keep.of ?_)
          repeat first | with_reducible exact Mq.2.2 | with_reducible apply Grows.dip
        clear hM2
        have L2 := ld_one (P := E.P) (i := 1) T.iA T.iS (read_cells r2.ex rfl) rfl
        cases hq : isQual q
        · rw [hq] at hqr
          have hqr : qualR s st = ([], failS st.at' 2 st) := hqr
          rw [hqr] at hk
          cbv
          refine ⟨1, R.r1, ?_⟩
          cbv
          refine ⟨_, L2, ?_⟩
          cbv
          refine .inl (n4 st.at' 2 _ r2 _ (fun v m3 r3 k3 => ?_))
          cbv
          exact ⟨_, rfl, hk _ r3 (k2.trans k3)⟩
        · rw [hq] at hqr
          have hqr : qualR s st = (q, goS q.length st) := hqr
          rw [hqr] at hk
          have haq : a = st.at' + q.length := by omega
          have S3 : M2.store E.P 3 ⟨b, 1, none⟩ (.int .i64 (.ofNat a)) = some (M2.put b (some (rrO s (goS q.length st)))) := by
            rw [haq]
            exact (st_one (P := E.P) (v := .int .i64 (.ofNat (st.at' + q.length))) (i := 1) T.iS r2.ex (by simp) rfl rfl).trans rfl
          have r3 := r2.put (st' := goS q.length st)
          have k3 : Keep b h (M2.put b (some (rrO s (goS q.length st)))) := k2.put _
          generalize M2.put b (some (rrO s (goS q.length st))) = M3 at S3 r3 k3
          cbv
          refine ⟨1, R.r1, ?_⟩
          cbv
          refine ⟨_, S3, ?_⟩
          cbv
          exact ⟨_, rfl, hk _ r3 k3⟩
    · rw [hb] at n1a
      have hsg : signB c = true := by simp [signB, hb]
      refine .inl (n1a _ _ ?_)
      cbv
      refine And.intro hbn1 ?_
      exact ⟨(m, j + 1), Less.cons (congrArg some nxa) (Less.cons rfl (Less.nil _)), rfl, ⟨i1, i2, (by show st.at' + (j + 1) ≤ _; omega), nxt hsg⟩, (by show s.length - (j + 1) < s.length - j; omega)⟩
  · have hj : j = ((s.drop st.at').takeWhile signB).length := by
      have e : s.drop a = [] := List.drop_eq_nil_of_le (by omega)
      rw [e] at i4
      simpa using i4
    refine And.intro (fun e => absurd e hlt) (fun _ => ?_)
    cbv
    have Mq : m.m = m.m ∧ m.next = m.next ∧ Grows m m := ⟨rfl, rfl, Grows.refl m⟩
    refine DrawP.free (by kernel_rfl) (fun bef => ?_)
    cbv
    refine ⟨0, R.r0, ?_⟩
    cbv
    refine ⟨_, ld_at L0 Mq.1, ?_⟩
    cbv
    refine FitP.stay (f := (.rd (some b))) rfl rfl ?_
    generalize hM : mixH _ _ = M'
    have Mq' : M'.m = m.m ∧ M'.next = m.next ∧ Grows m M' := by
      subst hM
      refine ⟨Mq.1, Mq.2.1, ?_⟩
      apply Grows.mixTop
      repeat first | with_reducible exact Mq.2.2 | with_reducible apply Grows.dip
    clear hM Mq
    revert M'
    intro M Mq
    cbv
    refine ⟨1, R.r1, ?_⟩
    cbv
    refine ⟨_, ld_at L1 Mq.1, ?_⟩
    cbv
    refine FitP.stay (f := (.rd (some b))) rfl rfl ?_
    generalize hM : mixH _ _ = M'
    have Mq' : M'.m = m.m ∧ M'.next = m.next ∧ Grows m M' := by
      subst hM
      refine ⟨Mq.1, Mq.2.1, ?_⟩
      apply Grows.mixTop
      repeat first | with_reducible exact Mq.2.2 | with_reducible apply Grows.dip
    clear hM Mq
    revert M'
    intro M Mq
    cbv
    refine And.intro T.str (And.intro (by show st.at' ≤ a; omega) (And.intro (by show a ≤ s.length; omega) ?_))
    have hsub : Nat.sub a st.at' = ((s.drop st.at').takeWhile signB).length := by show a - st.at' = _; omega
    rw [hsub, tw_take]
    have hqr : qualR s st = if isQual ((s.drop st.at').takeWhile signB) then ((s.drop st.at').takeWhile signB, goS ((s.drop st.at').takeWhile signB).length st) else ([], failS st.at' 2 st) := rfl
    have hql : ((s.drop st.at').takeWhile signB).length ≤ 1000000 := by
      have := tw_le signB (s.drop st.at')
      rw [List.length_drop] at this
      omega
    generalize (s.drop st.at').takeWhile signB = q at hqr hql hj hsub ⊢
    refine .inl (n3 q hql _ _ ?_)
    generalize hM2 : H.dip _ = M2
    have r2 : IsRr g0 M2 b s st := by
      subst hM2
      refine i1.re Mq.1 Mq.2.1 (i1.gr.trans ?_)
      repeat first | with_reducible exact Mq.2.2 | with_reducible apply Grows.dip
    have k2 : Keep b h M2 := by
      subst hM2
      refine i2.trans (Keep.of ?_)
      repeat first | with_reducible exact Mq.2.2 | with_reducible apply Grows.dip
    clear hM2
    have L2 := ld_one (P := E.P) (i := 1) T.iA T.iS (read_cells r2.ex rfl) rfl
    cases hq : isQual q
    · rw [hq] at hqr
      have hqr : qualR s st = ([], failS st.at' 2 st) := hqr
      rw [hqr] at hk
      cbv
      refine ⟨1, R.r1, ?_⟩
      cbv
      refine ⟨_, L2, ?_⟩
      cbv
      refine .inl (n4 st.at' 2 _ r2 _ (fun v m3 r3 k3 => ?_))
      cbv
      exact ⟨_, rfl, hk _ r3 (k2.trans k3)⟩
    · rw [hq] at hqr
      have hqr : qualR s st = (q, goS q.length st) := hqr
      rw [hqr] at hk
      have haq : a = st.at' + q.length := by omega
      have S3 : M2.store E.P 3 ⟨b, 1, none⟩ (.int .i64 (.ofNat a)) = some (M2.put b (some (rrO s (goS q.length st)))) := by
        rw [haq]
        exact (st_one (P := E.P) (v := .int .i64 (.ofNat (st.at' + q.length))) (i := 1) T.iS r2.ex (by simp) rfl rfl).trans rfl
      have r3 := r2.put (st' := goS q.length st)
      have k3 : Keep b h (M2.put b (some (rrO s (goS q.length st)))) := k2.put _
      generalize M2.put b (some (rrO s (goS q.length st))) = M3 at S3 r3 k3
      cbv
      refine ⟨1, R.r1, ?_⟩
      cbv
      refine ⟨_, S3, ?_⟩
      cbv
      exact ⟨_, rfl, hk _ r3 k3⟩
end
end Go.Proofs.YtfgemjpoiconbaaGreatDoor.GEv

/- The reference's 'value', by a symbolic run. -/
namespace Go.Proofs.YtfgemjpoiconbaaGreatDoor.GEv
open Go
set_option linter.unusedSimpArgs false
set_option linter.unusedVariables false
set_option maxRecDepth 100000
set_option maxHeartbeats 4000000
attribute [local cbv_opaque] isString isSlice isBoolT fOff iSize eqNil zero H.load H.store H.push H.dip H.put List.length List.getD Nat.add Nat.sub Nat.mul List.take List.drop top Addr.add mixH restS isS failS goS mustS blanksN hasR isQual byte cmpJ ariJ unescape valueS
attribute [local cbv_eval] List.length_cons List.length_nil addr_add mixH_top
section
variable {E : Env} (hE : E = EMY)
include hE
end
end Go.Proofs.YtfgemjpoiconbaaGreatDoor.GEv

