import Derived.Test.YtfgemjpoiconbaaGreatDoorGXmO
/- The reader of package xml in the run's memory; its first methods, by symbolic runs. -/
namespace Go.Proofs.YtfgemjpoiconbaaGreatDoor.GEv
open Go
set_option linter.unusedSimpArgs false
set_option linter.unusedVariables false
set_option maxRecDepth 100000
abbrev rdO (s : Bs) (st : Rd) : AObj := .cells [.string ⟨⟨s⟩⟩, .int .i64 (.ofNat st.at'), .int .i64 (.ofNat st.elems), .int .i64 (.ofNat st.err), .int .i64 (.ofNat st.out)] (some 56) true 0
/-- A reader that has read so far; what was there before it (g) is as it was. -/
structure IsRd (g h : H) (b : Nat) (s : Bs) (st : Rd) : Prop where
  lt : b < h.next
  ge : g.next ≤ b
  gr : Grows g h
  ex : h.m.get b = some (.cells [.string ⟨⟨s⟩⟩, .int .i64 (.ofNat st.at'), .int .i64 (.ofNat st.elems), .int .i64 (.ofNat st.err), .int .i64 (.ofNat st.out)] (some 56) true 0)
/-- All but one block is as it was. -/
structure Keep (b : Nat) (h h' : H) : Prop where
  next : h.next ≤ h'.next
  keep : ∀ c, c < h.next → c ≠ b → h'.m.get c = h.m.get c
theorem Keep.refl (b : Nat) (h : H) : Keep b h h := ⟨Nat.le_refl _, fun _ _ _ => rfl⟩
theorem Keep.trans {b : Nat} {x y z : H} (p : Keep b x y) (q : Keep b y z) : Keep b x z := ⟨Nat.le_trans p.next q.next, fun c h1 h2 => (q.keep c (Nat.lt_of_lt_of_le h1 p.next) h2).trans (p.keep c h1 h2)⟩
theorem Keep.of {b : Nat} {x y : H} (g : Grows x y) : Keep b x y := ⟨g.next, fun c h1 _ => g.keep c h1⟩
theorem Keep.put {b : Nat} {x y : H} (p : Keep b x y) (o : Option AObj) : Keep b x (y.put b o) := ⟨p.next, fun c h1 h2 => by rw [put_get, if_neg h2]; exact p.keep c h1 h2⟩
structure RdOk (P : Program) : Prop where
  r0 : fOff P 56 0 = some 0
  r1 : fOff P 56 1 = some 1
  r2 : fOff P 56 2 = some 2
  r3 : fOff P 56 3 = some 3
  r4 : fOff P 56 4 = some 4
  eS : sizeOf P 29 = some 1
  eA : isAgg P 29 = some false
theorem rdOk : RdOk EM.P := ⟨by kernel_rfl, by kernel_rfl, by kernel_rfl, by kernel_rfl, by kernel_rfl, by kernel_rfl, by kernel_rfl⟩
theorem IsRd.re {g h h' : H} {b : Nat} {s : Bs} {st : Rd} (hr : IsRd g h b s st) (hm : h'.m = h.m) (hn : h'.next = h.next) (k : Grows g h') : IsRd g h' b s st := ⟨by rw [hn]; exact hr.lt, hr.ge, k, by rw [hm]; exact hr.ex⟩
attribute [local cbv_opaque] isString isSlice isBoolT fOff iSize eqNil zero H.load H.store H.push H.dip H.put List.length Nat.add Nat.sub Nat.mul List.take List.drop top Addr.add mixH List.append
attribute [local cbv_eval] List.length_cons List.length_nil addr_add mixH_top
/-- The reader's place is moved. -/
theorem IsRd.put {g h : H} {b : Nat} {s : Bs} {st st' : Rd} (hr : IsRd g h b s st) : IsRd g (h.put b (some (rdO s st'))) b s st' :=
  ⟨hr.lt, hr.ge, hr.gr.put hr.ge _, by rw [put_get, if_pos rfl]⟩
/-- One cell of it written. -/
theorem st_one {P : Program} {h : H} {t : TypeId} {b i : Nat} {c : List Value} {e : Option TypeId} {f : Bool} {v : Value} (hs : sizeOf P t = some 1) (hg : h.m.get b = some (.cells c e f 0)) (hi : i < c.length) (hv : v.cells.toList = [v]) (ho : one v = true) : h.store P t ⟨b, i, none⟩ v = some (h.put b (some (.cells (c.take i ++ [v] ++ c.drop (i + 1)) e f 0))) := by
  unfold H.store H.write
  simp only [hs, hv, hg]
  rw [if_pos (show ([v] : List Value).length = 1 from rfl), if_pos (show 0 ≤ i ∧ i + ([v] : List Value).length ≤ c.length from ⟨Nat.zero_le _, hi⟩), if_pos (by simp [ho])]
  rfl
section
variable {E : Env} (hE : E = EMY)
include hE
theorem nRest (b : Nat) (s : Bs) (st : Rd) (g0 h : H) (hr : IsRd g0 h b s st) (ha : st.at' ≤ s.length) (K : Value → H → Prop) (hk : ∀ h', IsRd g0 h' b s st → Keep b h h' → K (.string ⟨⟨restS s st⟩⟩) h') : CallP E 28 [.pointer (some ⟨b, 0, none⟩)] h K := by
  have T : TyOk E.P := by rw [hE]; exact tyOk
  have R : RdOk E.P := by rw [hE]; exact rdOk
  refine CallP.ofXE hE rfl Tryz.func28 rfl (Nat.le_of_ble_eq_true rfl) ?_
  clear hE
  have B := read_cells hr.ex rfl
  have L3 := ld_one (P := E.P) (i := 3) R.eA R.eS B rfl
  cbv
  refine ⟨3, R.r3, ?_⟩
  cbv
  refine ⟨_, L3, ?_⟩
  cbv
  refine And.intro (fun q => ?_) (fun q => ?_)
  · have q : st.err = 0 := q
    have hR : restS s st = s.drop st.at' := by simp [restS, q]
    rw [hR] at hk
    have L0 := ld_one (P := E.P) (i := 0) T.sA T.sS B rfl
    have L1 := ld_one (P := E.P) (i := 1) T.iA T.iS B rfl
    have Mq : h.m = h.m ∧ h.next = h.next ∧ Grows h h := ⟨rfl, rfl, Grows.refl h⟩
    cbv
    refine DrawP.free (by kernel_rfl) (fun bef => ?_)
    cbv
    refine ⟨0, R.r0, ?_⟩
    cbv
    refine ⟨_, ld_at L0 Mq.1, ?_⟩
    cbv
    refine FitP.stay (f := (.rd (some b))) rfl rfl ?_
    generalize hM : mixH _ _ = M'
    have Mq' : M'.m = h.m ∧ M'.next = h.next ∧ Grows h M' := by
      subst hM
      refine ⟨Mq.1, Mq.2.1, ?_⟩
      apply Grows.mixTop
      repeat first | exact Mq.2.2 | apply Grows.dip
    clear hM Mq
    revert M'
    intro M Mq
    cbv
    refine ⟨1, R.r1, ?_⟩
    cbv
    refine ⟨_, ld_at L1 Mq.1, ?_⟩
    cbv
    refine FitP.stay (f := (.rd (some b))) rfl rfl ?_
    generalize hM : mixH _ _ = M'
    have Mq' : M'.m = h.m ∧ M'.next = h.next ∧ Grows h M' := by
      subst hM
      refine ⟨Mq.1, Mq.2.1, ?_⟩
      apply Grows.mixTop
      repeat first | exact Mq.2.2 | apply Grows.dip
    clear hM Mq
    revert M'
    intro M Mq
    cbv
    have hS : isString E.P 9 = true := T.str
    refine And.intro hS (And.intro ha (And.intro (Nat.le_refl _) ?_))
    have e1 : List.take (Nat.sub s.length st.at') (List.drop st.at' s) = s.drop st.at' := by
      show List.take (s.length - st.at') (List.drop st.at' s) = _
      exact List.take_of_length_le (by rw [List.length_drop]; omega)
    refine ⟨_, rfl, ?_⟩
    show K (.string ⟨⟨List.take (Nat.sub s.length st.at') (List.drop st.at' s)⟩⟩) _
    rw [e1]
    exact hk _ (hr.re Mq.1 Mq.2.1 ((hr.gr.trans Mq.2.2).dip.dip)) (Keep.of Mq.2.2.dip.dip)
  · have q : ¬ st.err = 0 := q
    have hR : restS s st = [] := by simp [restS, q]
    rw [hR] at hk
    cbv
    exact ⟨_, rfl, hk _ hr (Keep.refl b h)⟩
theorem nFails (b : Nat) (s : Bs) (st : Rd) (a e : Nat) (g0 h : H) (hr : IsRd g0 h b s st) (K : Value → H → Prop) (hk : ∀ v h', IsRd g0 h' b s (failS a e st) → Keep b h h' → K v h') : CallP E 29 [.pointer (some ⟨b, 0, none⟩), .int .i64 (.ofNat a), .int .i64 (.ofNat e)] h K := by
  have T : TyOk E.P := by rw [hE]; exact tyOk
  have R : RdOk E.P := by rw [hE]; exact rdOk
  refine CallP.ofXE hE rfl Tryz.func29 rfl (Nat.le_of_ble_eq_true rfl) ?_
  clear hE
  have L3 := ld_one (P := E.P) (i := 3) R.eA R.eS (read_cells hr.ex rfl) rfl
  cbv
  refine ⟨3, R.r3, ?_⟩
  cbv
  refine ⟨_, L3, ?_⟩
  cbv
  refine And.intro (fun q => ?_) (fun q => ?_)
  · have q : st.err = 0 := q
    have hF : failS a e st = { st with err := e, out := a } := by simp [failS, q]
    rw [hF] at hk
    have r1 := hr.put (st' := { st with err := e })
    have r2 := r1.put (st' := { st with err := e, out := a })
    have S1 : h.store E.P 29 ⟨b, 3, none⟩ (.int .i64 (.ofNat e)) = some (h.put b (some (rdO s { st with err := e }))) := (st_one (P := E.P) (v := .int .i64 (.ofNat e)) (i := 3) R.eS hr.ex (by simp) rfl rfl).trans rfl
    have S2 : (h.put b (some (rdO s { st with err := e }))).store E.P 3 ⟨b, 4, none⟩ (.int .i64 (.ofNat a)) = some ((h.put b (some (rdO s { st with err := e }))).put b (some (rdO s { st with err := e, out := a }))) := (st_one (P := E.P) (v := .int .i64 (.ofNat a)) (i := 4) T.iS r1.ex (by simp) rfl rfl).trans rfl
    have k1 : Keep b h (h.put b (some (rdO s { st with err := e }))) := (Keep.refl b h).put _
    generalize h.put b (some (rdO s { st with err := e })) = h1 at S1 S2 r1 r2 k1
    have k2 : Keep b h (h1.put b (some (rdO s { st with err := e, out := a }))) := k1.put _
    generalize h1.put b (some (rdO s { st with err := e, out := a })) = h2 at S2 r2 k2
    cbv
    refine ⟨3, R.r3, ?_⟩
    cbv
    refine ⟨_, S1, ?_⟩
    cbv
    refine ⟨4, R.r4, ?_⟩
    cbv
    refine ⟨_, S2, ?_⟩
    cbv
    exact ⟨_, rfl, hk _ _ r2 k2⟩
  · have q : ¬ st.err = 0 := q
    have hF : failS a e st = st := by simp [failS, q]
    rw [hF] at hk
    cbv
    exact ⟨_, rfl, hk _ _ hr (Keep.refl b h)⟩
end
end Go.Proofs.YtfgemjpoiconbaaGreatDoor.GEv

/- The reader's 'is', 'must', 'blanks', by symbolic runs. -/
namespace Go.Proofs.YtfgemjpoiconbaaGreatDoor.GEv
open Go
set_option linter.unusedSimpArgs false
set_option linter.unusedVariables false
set_option maxRecDepth 100000
attribute [local cbv_opaque] isString isSlice isBoolT fOff iSize eqNil zero H.load H.store H.push H.dip H.put List.length Nat.add Nat.sub Nat.mul List.take List.drop top Addr.add mixH List.append restS isS failS goS mustS blanksN cmpJ ariJ
attribute [local cbv_eval] List.length_cons List.length_nil addr_add mixH_top
section
variable {E : Env} (hE : E = EMY)
include hE
theorem slPrefix (s p : Bs) (hl : p.length ≤ 1000) (h : H) (K : Value → H → Prop) (hk : ∀ h', h'.m = h.m → h'.next = h.next → Grows h h' → K (.bool (decide (s.take p.length = p))) h') : CallP E 63 [.string ⟨⟨s⟩⟩, .string ⟨⟨p⟩⟩] h K := by
  have T : TyOk E.P := by rw [hE]; exact tyOk
  refine CallP.ofXE hE rfl Tryz.func63 rfl (Nat.le_of_ble_eq_true rfl) ?_
  clear hE
  cbv
  refine And.intro T.str (And.intro T.str ?_)
  refine And.intro (fun q => ?_) (fun q => ?_)
  · have q : p.length ≤ s.length := q
    cbv
    refine And.intro T.str ?_
    refine And.intro T.str ?_
    refine And.intro (Nat.zero_le _) (And.intro q ?_)
    refine And.intro (fun q1 => ?_) (fun q1 => ?_)
    · have q1 : s.take p.length = p := q1
      rw [decide_eq_true q1] at hk
      cbv
      exact ⟨_, rfl, hk _ rfl rfl (Grows.refl h)⟩
    · have q1 : ¬ s.take p.length = p := q1
      rw [decide_eq_false q1] at hk
      cbv
      exact ⟨_, rfl, hk _ rfl rfl (Grows.refl h)⟩
  · have q : s.length < p.length := q
    have hF : decide (s.take p.length = p) = false := by
      apply decide_eq_false
      intro e
      have := congrArg List.length e
      rw [List.length_take] at this
      omega
    rw [hF] at hk
    cbv
    exact ⟨_, rfl, hk _ rfl rfl (Grows.refl h)⟩
theorem nPrefix (s p : Bs) (hl : p.length ≤ 1000) (h : H) (K : Value → H → Prop) (hk : ∀ h', h'.m = h.m → h'.next = h.next → Grows h h' → K (.bool (decide (s.take p.length = p))) h') : CallP E 43 [.string ⟨⟨s⟩⟩, .string ⟨⟨p⟩⟩] h K := by
  have n1 := fun h K hk => slPrefix hE s p hl h K hk
  refine CallP.ofXE hE rfl Tryz.func43 rfl (Nat.le_of_ble_eq_true rfl) ?_
  clear hE
  cbv
  refine .inl (n1 _ _ (fun h1 e1 e2 e3 => ?_))
  have hk := hk h1 e1 e2 e3
  generalize decide (s.take p.length = p) = z at hk ⊢
  cbv
  exact ⟨_, rfl, hk⟩
theorem xIs (b : Nat) (s p : Bs) (hp : p.length ≤ 1000) (hs : s.length ≤ 1000000) (st : Rd) (g0 h : H) (hr : IsRd g0 h b s st) (ha : st.at' ≤ s.length) (K : Value → H → Prop) (hk : ∀ h', IsRd g0 h' b s (isS s p st).2 → Keep b h h' → K (.bool (isS s p st).1) h') : CallP E 46 [.pointer (some ⟨b, 0, none⟩), .string ⟨⟨p⟩⟩] h K := by
  have T : TyOk E.P := by rw [hE]; exact tyOk
  have R : RdOk E.P := by rw [hE]; exact rdOk
  have n1 := fun h hr K hk => nRest hE b s st g0 h hr ha K hk
  have n2 := fun h K hk => nPrefix hE (restS s st) p hp h K hk
  refine CallP.ofXE hE rfl Tryz.func46 rfl (Nat.le_of_ble_eq_true rfl) ?_
  clear hE
  cbv
  refine .inl (n1 _ hr _ (fun h1 r1 k1 => ?_))
  cbv
  refine .inl (n2 _ _ (fun h2 e1 e2 e3 => ?_))
  have r2 : IsRd g0 h2 b s st := r1.re e1 e2 (r1.gr.trans e3)
  have k2 : Keep b h h2 := k1.trans (.of e3)
  by_cases q : (restS s st).take p.length = p
  · have hI : isS s p st = (true, goS p.length st) := by simp [isS, q]
    rw [hI] at hk
    rw [decide_eq_true q]
    have L1 := ld_one (P := E.P) (i := 1) T.iA T.iS (read_cells r2.ex rfl) rfl
    have r3 := r2.put (st' := goS p.length st)
    have S1 : h2.store E.P 3 ⟨b, 1, none⟩ (.int .i64 (.ofNat (st.at' + p.length))) = some (h2.put b (some (rdO s (goS p.length st)))) := (st_one (P := E.P) (v := .int .i64 (.ofNat (st.at' + p.length))) (i := 1) T.iS r2.ex (by simp) rfl rfl).trans rfl
    have k3 : Keep b h (h2.put b (some (rdO s (goS p.length st)))) := k2.put _
    generalize h2.put b (some (rdO s (goS p.length st))) = h3 at S1 r3 k3
    cbv
    refine ⟨1, R.r1, ?_⟩
    cbv
    refine ⟨_, L1, ?_⟩
    cbv
    refine And.intro T.str (And.intro (by show st.at' + p.length ≤ _; omega) ?_)
    refine ⟨1, R.r1, ?_⟩
    cbv
    refine ⟨_, S1, ?_⟩
    cbv
    exact ⟨_, rfl, hk _ r3 k3⟩
  · have hI : isS s p st = (false, st) := by simp [isS, q]
    rw [hI] at hk
    rw [decide_eq_false q]
    cbv
    exact ⟨_, rfl, hk _ r2 k2⟩
theorem xMust (b : Nat) (s p : Bs) (hp : p.length ≤ 1000) (hs : s.length ≤ 1000000) (st : Rd) (g0 h : H) (hr : IsRd g0 h b s st) (ha : st.at' ≤ s.length) (K : Value → H → Prop) (hk : ∀ v h', IsRd g0 h' b s (mustS s p st) → Keep b h h' → K v h') : CallP E 47 [.pointer (some ⟨b, 0, none⟩), .string ⟨⟨p⟩⟩] h K := by
  have T : TyOk E.P := by rw [hE]; exact tyOk
  have R : RdOk E.P := by rw [hE]; exact rdOk
  have n1 := fun h hr K hk => xIs hE b s p hp hs st g0 h hr ha K hk
  have n2 := fun st a e h hr K hk => nFails hE b s st a e g0 h hr K hk
  refine CallP.ofXE hE rfl Tryz.func47 rfl (Nat.le_of_ble_eq_true rfl) ?_
  clear hE
  cbv
  refine .inl (n1 _ hr _ (fun h1 r1 k1 => ?_))
  obtain ⟨z, st1, hz⟩ : ∃ z st1, isS s p st = (z, st1) := ⟨_, _, rfl⟩
  unfold mustS at hk
  rw [hz] at hk r1 ⊢
  have r1 : IsRd g0 h1 b s st1 := r1
  have L1 := ld_one (P := E.P) (i := 1) T.iA T.iS (read_cells r1.ex rfl) rfl
  cases z
  · have hk : ∀ v h', IsRd g0 h' b s (failS st1.at' 2 st1) → Keep b h h' → K v h' := hk
    cbv
    refine ⟨1, R.r1, ?_⟩
    cbv
    refine ⟨_, L1, ?_⟩
    cbv
    refine .inl (n2 st1 st1.at' 2 _ r1 _ (fun v h2 r2 k2 => ?_))
    cbv
    exact ⟨_, rfl, hk _ _ r2 (k1.trans k2)⟩
  · have hk : ∀ v h', IsRd g0 h' b s st1 → Keep b h h' → K v h' := hk
    cbv
    exact ⟨_, rfl, hk _ _ r1 k1⟩
theorem trimY (l : Bs) (h : H) (K : Value → H → Prop) (hk : K (.string ⟨⟨l.dropWhile blankB⟩⟩) h) : CallP E 70 [.string ⟨⟨l⟩⟩, .string ⟨⟨[32, 9, 13, 10]⟩⟩] h K := by
  refine CallP.memo (v := .string ⟨⟨l.dropWhile blankB⟩⟩) ?_ (by rw [hE]; exact ⟨_, _, Tryz.func70, rfl⟩) hk
  rw [hE]
  rfl
theorem xBlanks (b : Nat) (s : Bs) (hs : s.length ≤ 1000000) (st : Rd) (g0 h : H) (hr : IsRd g0 h b s st) (ha : st.at' ≤ s.length) (K : Value → H → Prop) (hk : ∀ h', IsRd g0 h' b s (goS (blanksN s st) st) → Keep b h h' → K (.bool (decide (0 < blanksN s st))) h') : CallP E 49 [.pointer (some ⟨b, 0, none⟩)] h K := by
  have T : TyOk E.P := by rw [hE]; exact tyOk
  have R : RdOk E.P := by rw [hE]; exact rdOk
  have n1 := fun h hr K hk => nRest hE b s st g0 h hr ha K hk
  have n2 := fun h K hk => trimY hE (restS s st) h K hk
  refine CallP.ofXE hE rfl Tryz.func49 rfl (Nat.le_of_ble_eq_true rfl) ?_
  clear hE
  have hrl : (restS s st).length ≤ s.length := by
    unfold restS
    split
    · rw [List.length_drop]; omega
    · simp
  have hn : (restS s st).length = blanksN s st + ((restS s st).dropWhile blankB).length := by
    unfold blanksN
    rw [← List.length_append, List.takeWhile_append_dropWhile]
  have hd : Nat.sub (restS s st).length ((restS s st).dropWhile blankB).length = blanksN s st := by show (restS s st).length - ((restS s st).dropWhile blankB).length = _; omega
  generalize (restS s st).dropWhile blankB = w at hn hd n2
  cbv
  refine .inl (n1 _ hr _ (fun h1 r1 k1 => ?_))
  cbv
  refine And.intro T.str ?_
  refine .inl (n2 _ _ ?_)
  have hz : (Int.ofNat (restS s st).length - Int.ofNat w.length) = Int.ofNat (blanksN s st) := by
    show ((restS s st).length : Int) - (w.length : Int) = (blanksN s st : Int)
    omega
  have hb : blanksN s st ≤ s.length := by omega
  cbv
  refine And.intro T.str ?_
  refine bin_subI hz rfl rfl (by show (-9223372036854775808 : Int) ≤ (blanksN s st : Int); omega) (by show (blanksN s st : Int) < 9223372036854775808; omega) (fun q => q) ?_
  cbv
  have L1 := ld_one (P := E.P) (i := 1) T.iA T.iS (read_cells r1.ex rfl) rfl
  have r3 := r1.put (st' := goS (blanksN s st) st)
  have S1 : h1.store E.P 3 ⟨b, 1, none⟩ (.int .i64 (.ofNat (st.at' + blanksN s st))) = some (h1.put b (some (rdO s (goS (blanksN s st) st)))) := (st_one (P := E.P) (v := .int .i64 (.ofNat (st.at' + blanksN s st))) (i := 1) T.iS r1.ex (by simp) rfl rfl).trans rfl
  have k3 : Keep b h (h1.put b (some (rdO s (goS (blanksN s st) st)))) := k1.put _
  generalize h1.put b (some (rdO s (goS (blanksN s st) st))) = h3 at S1 r3 k3
  have hk := hk h3 r3 k3
  refine ⟨1, R.r1, ?_⟩
  cbv
  refine ⟨_, L1, ?_⟩
  cbv
  refine And.intro (by show st.at' + blanksN s st ≤ _; omega) ?_
  cbv
  refine ⟨1, R.r1, ?_⟩
  cbv
  refine ⟨_, S1, ?_⟩
  cbv
  refine And.intro (fun q => ?_) (fun q => ?_)
  · have q : 0 < blanksN s st := q
    rw [decide_eq_true q] at hk
    cbv
    exact ⟨_, rfl, hk⟩
  · have q : ¬ 0 < blanksN s st := Nat.not_lt.2 q
    rw [decide_eq_false q] at hk
    cbv
    exact ⟨_, rfl, hk⟩
end
end Go.Proofs.YtfgemjpoiconbaaGreatDoor.GEv

/- The reader's 'qual', by a symbolic run. -/
namespace Go.Proofs.YtfgemjpoiconbaaGreatDoor.GEv
open Go
set_option linter.unusedSimpArgs false
set_option linter.unusedVariables false
set_option maxRecDepth 100000
attribute [local cbv_opaque] isString isSlice isBoolT fOff iSize eqNil zero H.load H.store H.push H.dip H.put List.length Nat.add Nat.sub Nat.mul List.take List.drop top Addr.add mixH List.append restS isS failS goS mustS blanksN qualS isQual cmpJ ariJ
attribute [local cbv_eval] List.length_cons List.length_nil addr_add mixH_top
section
variable {E : Env} (hE : E = EMY)
include hE
theorem tlfY (l : Bs) (hl : l.length ≤ 1000000) (h : H) (K : Value → H → Prop) (hk : K (.string ⟨⟨l.dropWhile signB⟩⟩) h) : CallP E 64 [.string ⟨⟨l⟩⟩, .func (.func 65) #[] #[]] h K := by
  refine CallP.memo (v := .string ⟨⟨l.dropWhile signB⟩⟩) ?_ (by rw [hE]; exact ⟨_, _, Tryz.func64, rfl⟩) hk
  rw [hE]
  have h1 : isLe (⟨⟨l⟩⟩ : ByteArray).size 1000000 = true := Nat.ble_eq_true_of_le hl
  show tlfP [.string ⟨⟨l⟩⟩, .func (.func 65) #[] #[]] = _
  simp only [tlfP, h1]
theorem xQual (b : Nat) (s : Bs) (hs : s.length ≤ 1000000) (st : Rd) (g0 h : H) (hr : IsRd g0 h b s st) (ha : st.at' ≤ s.length) (K : Value → H → Prop) (hk : ∀ h', IsRd g0 h' b s (qualS s st).2 → Keep b h h' → K (.string ⟨⟨(qualS s st).1⟩⟩) h') : CallP E 44 [.pointer (some ⟨b, 0, none⟩)] h K := by
  have T : TyOk E.P := by rw [hE]; exact tyOk
  have R : RdOk E.P := by rw [hE]; exact rdOk
  have hrl : (restS s st).length ≤ s.length := by
    unfold restS
    split
    · rw [List.length_drop]; omega
    · simp
  have n1 := fun h hr K hk => nRest hE b s st g0 h hr ha K hk
  have n2 := fun h K hk => tlfY hE (restS s st) (by omega) h K hk
  have n3 := fun l hl h K hk => yQual hE l hl h K hk
  have n4 := fun a e h hr K hk => nFails hE b s st a e g0 h hr K hk
  refine CallP.ofXE hE rfl Tryz.func44 rfl (Nat.le_of_ble_eq_true rfl) ?_
  clear hE
  obtain ⟨l, hl⟩ : ∃ l, l = restS s st := ⟨_, rfl⟩
  obtain ⟨q, hq⟩ : ∃ q, q = l.takeWhile signB := ⟨_, rfl⟩
  have e1 : (restS s st).dropWhile signB = l.dropWhile signB := by rw [hl]
  have e2 : qualS s st = (q, goS q.length (if isQual q then st else failS st.at' 2 st)) := by unfold qualS; rw [← hl, ← hq]
  have hlen : l.length = q.length + (l.dropWhile signB).length := by rw [hq, ← List.length_append, List.takeWhile_append_dropWhile]
  have htk : l.take q.length = q := by
    have := List.takeWhile_append_dropWhile (p := signB) (l := l)
    rw [← hq] at this
    rw [← this, List.take_left]
  rw [e2] at hk
  rw [← hl] at n1 n2 hrl
  have hql : q.length ≤ s.length := by omega
  generalize l.dropWhile signB = w at hlen n2
  have hz : (Int.ofNat l.length - Int.ofNat w.length) = Int.ofNat q.length := by
    show (l.length : Int) - (w.length : Int) = (q.length : Int)
    omega
  have n3 := fun h K hk => n3 q (by omega) h K hk
  clear hl e1 e2 hq
  cbv
  refine .inl (n1 _ hr _ (fun h1 r1 k1 => ?_))
  cbv
  refine And.intro T.str ?_
  refine .inl (n2 _ _ ?_)
  cbv
  refine And.intro T.str ?_
  refine bin_subI hz rfl rfl (by show (-9223372036854775808 : Int) ≤ (q.length : Int); omega) (by show (q.length : Int) < 9223372036854775808; omega) (fun q => q) ?_
  cbv
  refine And.intro T.str (And.intro (Nat.zero_le _) (And.intro (by show q.length ≤ l.length; omega) ?_))
  have ht : List.take (Nat.sub q.length 0) (List.drop 0 l) = q := htk
  rw [ht]
  refine .inl (n3 _ _ ?_)
  have tail : ∀ (st1 : Rd) (h2 : H), IsRd g0 h2 b s st1 → Keep b h h2 → ∃ h3, h2.store E.P 3 ⟨b, 1, none⟩ (.int .i64 (.ofNat (st1.at' + q.length))) = some h3 ∧ IsRd g0 h3 b s (goS q.length st1) ∧ Keep b h h3 := fun st1 h2 r2 k2 =>
    ⟨_, (st_one (P := E.P) (v := .int .i64 (.ofNat (st1.at' + q.length))) (i := 1) T.iS r2.ex (by simp) rfl rfl).trans rfl, r2.put (st' := goS q.length st1), k2.put _⟩
  have hat : (failS st.at' 2 st).at' = st.at' := by unfold failS; split <;> rfl
  cases hI : isQual q
  · rw [hI] at hk
    have hk : ∀ h', IsRd g0 h' b s (goS q.length (failS st.at' 2 st)) → Keep b h h' → K (.string ⟨⟨q⟩⟩) h' := hk
    have L1 := ld_one (P := E.P) (i := 1) T.iA T.iS (read_cells r1.ex rfl) rfl
    cbv
    refine ⟨1, R.r1, ?_⟩
    cbv
    refine ⟨_, L1, ?_⟩
    cbv
    refine .inl (n4 st.at' 2 _ r1 _ (fun v h2 r2 k2 => ?_))
    obtain ⟨h3, S1, r3, k3⟩ := tail _ h2 r2 (k1.trans k2)
    have L2 := ld_one (P := E.P) (i := 1) T.iA T.iS (read_cells r2.ex rfl) rfl
    rw [hat] at S1 L2
    cbv
    refine ⟨1, R.r1, ?_⟩
    cbv
    refine ⟨_, L2, ?_⟩
    cbv
    refine And.intro T.str ?_
    refine And.intro (by show st.at' + q.length ≤ _; omega) ?_
    cbv
    refine ⟨1, R.r1, ?_⟩
    cbv
    refine ⟨_, S1, ?_⟩
    cbv
    exact ⟨_, rfl, hk _ r3 k3⟩
  · rw [hI] at hk
    have hk : ∀ h', IsRd g0 h' b s (goS q.length st) → Keep b h h' → K (.string ⟨⟨q⟩⟩) h' := hk
    obtain ⟨h3, S1, r3, k3⟩ := tail _ h1 r1 k1
    have L2 := ld_one (P := E.P) (i := 1) T.iA T.iS (read_cells r1.ex rfl) rfl
    cbv
    refine ⟨1, R.r1, ?_⟩
    cbv
    refine ⟨_, L2, ?_⟩
    cbv
    refine And.intro T.str ?_
    refine And.intro (by show st.at' + q.length ≤ _; omega) ?_
    cbv
    refine ⟨1, R.r1, ?_⟩
    cbv
    refine ⟨_, S1, ?_⟩
    cbv
    exact ⟨_, rfl, hk _ r3 k3⟩
end
end Go.Proofs.YtfgemjpoiconbaaGreatDoor.GEv

/- What the reader's 'value' and 'remarks' call of the library. -/
namespace Go.Proofs.YtfgemjpoiconbaaGreatDoor.GEv
open Go
set_option linter.unusedSimpArgs false
set_option linter.unusedVariables false
section
variable {E : Env} (hE : E = EMY)
include hE
theorem cutY (c : UInt8) (l : Bs) (hl : l.length ≤ 1000000) (h : H) (K : Value → H → Prop) (hk : K (cutV c l) h) : CallP E 50 [.string ⟨⟨l⟩⟩, .string ⟨⟨[c]⟩⟩] h K := by
  refine CallP.memo (v := cutV c l) ?_ (by rw [hE]; exact ⟨_, _, Tryz.func50, rfl⟩) hk
  rw [hE]
  have h1 : isLe (⟨⟨l⟩⟩ : ByteArray).size 1000000 = true := Nat.ble_eq_true_of_le hl
  show cutX [.string ⟨⟨l⟩⟩, .string ⟨⟨[c]⟩⟩] = _
  simp only [cutX, h1]
theorem cut2Y (l : Bs) (hl : l.length ≤ 1000000) (h : H) (K : Value → H → Prop) (hk : K (cut2V l) h) : CallP E 50 [.string ⟨⟨l⟩⟩, .string ⟨⟨[45, 45]⟩⟩] h K := by
  refine CallP.memo (v := cut2V l) ?_ (by rw [hE]; exact ⟨_, _, Tryz.func50, rfl⟩) hk
  rw [hE]
  have h1 : isLe (⟨⟨l⟩⟩ : ByteArray).size 1000000 = true := Nat.ble_eq_true_of_le hl
  show cutX [.string ⟨⟨l⟩⟩, .string ⟨⟨[45, 45]⟩⟩] = _
  simp only [cutX, h1]
theorem containsY (l : Bs) (h : H) (K : Value → H → Prop) (hk : K (.bool (decide ((60 : UInt8) ∈ l))) h) : CallP E 83 [.string ⟨⟨l⟩⟩, .string ⟨⟨[60]⟩⟩] h K := by
  refine CallP.memo (v := .bool (decide ((60 : UInt8) ∈ l))) ?_ (by rw [hE]; exact ⟨_, _, Tryz.func83, rfl⟩) hk
  rw [hE]
  rfl
end
end Go.Proofs.YtfgemjpoiconbaaGreatDoor.GEv

/- The reader's 'value', by a symbolic run. -/
namespace Go.Proofs.YtfgemjpoiconbaaGreatDoor.GEv
open Go
set_option linter.unusedSimpArgs false
set_option linter.unusedVariables false
set_option maxRecDepth 100000
set_option maxHeartbeats 2000000
attribute [local cbv_opaque] isString isSlice isBoolT fOff iSize eqNil zero H.load H.store H.push H.dip H.put List.length Nat.add Nat.sub Nat.mul List.take List.drop top Addr.add mixH restS isS failS goS mustS blanksN qualS isQual valueS valueV cmpJ ariJ unescape cutB optV cutV List.getD
attribute [local cbv_eval] List.length_cons List.length_nil addr_add mixH_top
/-- What 'Cut' gives, and what it means for a value. -/
theorem cutV_parts (c : UInt8) (r : Bs) : ∃ w y z, cutV c r = .tuple #[.string ⟨⟨w⟩⟩, .string ⟨⟨y⟩⟩, .bool z] ∧ w.length + z.toNat ≤ r.length ∧ (c = 34 ∨ c = 39 → valueV (c :: r) = match z, unescape w with
    | true, some v => if (60 : UInt8) ∈ w ∨ 60 < v.length then none else some (v, w.length + 2)
    | _, _ => none) := by
  unfold cutV valueV
  cases hc : cutB c r with
  | none => exact ⟨r, [], false, rfl, Nat.le_refl _, fun q => by simp only [if_pos q, hc]⟩
  | some p =>
    obtain ⟨w, y⟩ := p
    refine ⟨w, y, true, rfl, ?_, fun q => ?_⟩
    · have := (cutB_some hc).1
      rw [this]
      simp
    · simp only [if_pos q, hc]
      cases unescape w <;> rfl
section
variable {E : Env} (hE : E = EMY)
include hE
theorem xValue (b : Nat) (s : Bs) (hs : s.length ≤ 100000) (st : Rd) (g0 h : H) (hr : IsRd g0 h b s st) (ha : st.at' ≤ s.length) (K : Value → H → Prop) (hk : ∀ h', IsRd g0 h' b s (valueS s st).2 → Keep b h h' → K (.string ⟨⟨(valueS s st).1⟩⟩) h') : CallP E 69 [.pointer (some ⟨b, 0, none⟩)] h K := by
  have T : TyOk E.P := by rw [hE]; exact tyOk
  have R : RdOk E.P := by rw [hE]; exact rdOk
  have hrl : (restS s st).length ≤ s.length := by
    unfold restS
    split
    · rw [List.length_drop]; omega
    · simp
  have n1 := fun h hr K hk => nRest hE b s st g0 h hr ha K hk
  have n4 := fun a e h hr K hk => nFails hE b s st a e g0 h hr K hk
  have n5 := fun c l hl h K hk => cutY hE c l hl h K hk
  have n6 := fun l hl h K hk => yUnesc hE l hl h K hk
  have n7 := fun l h K hk => containsY hE l h K hk
  refine CallP.ofXE hE rfl Tryz.func69 rfl (Nat.le_of_ble_eq_true rfl) ?_
  clear hE
  have hv : valueS s st = match valueV (restS s st) with
    | some (v, n) => (v, goS n st)
    | none => ([], failS st.at' 2 st) := rfl
  cases hl : restS s st with
  | nil =>
    rw [hl] at n1 hv
    have hv : valueS s st = ([], failS st.at' 2 st) := hv
    rw [hv] at hk
    cbv
    refine .inl (n1 _ hr _ (fun h1 r1 k1 => ?_))
    have L1 := ld_one (P := E.P) (i := 1) T.iA T.iS (read_cells r1.ex rfl) rfl
    cbv
    refine And.intro (fun _ => ?_) (fun e => absurd rfl e)
    cbv
    refine ⟨1, R.r1, ?_⟩
    cbv
    refine ⟨_, L1, ?_⟩
    cbv
    refine .inl (n4 st.at' 2 _ r1 _ (fun v h2 r2 k2 => ?_))
    cbv
    exact ⟨_, rfl, hk _ r2 (k1.trans k2)⟩
  | cons c r =>
    rw [hl] at n1 hv hrl
    cbv
    refine .inl (n1 _ hr _ (fun h1 r1 k1 => ?_))
    have L1 := ld_one (P := E.P) (i := 1) T.iA T.iS (read_cells r1.ex rfl) rfl
    cbv
    refine And.intro (fun e => by cases e) (fun _ => ?_)
    have hg : ((c :: r).getD 0 0) = c := rfl
    refine And.intro T.str (And.intro (by show 1 ≤ r.length + 1; omega) ?_)
    rw [hg]
    have t1 : List.take (Nat.sub (Nat.add r.length 1) 1) (List.drop 1 (c :: r)) = r := by
      show List.take (r.length + 1 - 1) r = r
      rw [Nat.add_sub_cancel, List.take_length]
    have t2 : List.take 1 (List.drop 0 (c :: r)) = [c] := rfl
    obtain ⟨w, y, z, hV, hwl, hval⟩ := cutV_parts c r
    have n5 := fun h K hk => n5 c r (by simp at hrl; omega) h K hk
    have n6 := fun h K hk => n6 w (by simp at hrl; omega) h K hk
    have n7 := fun h K hk => n7 w h K hk
    refine And.intro (fun e34 => ?_) (fun e34 => ?_)
    · have hq : c = 34 ∨ c = 39 := .inl (UInt8.toNat_inj.1 e34)
      cbv
      refine DrawP.free (by kernel_rfl) (fun bef => ?_)
      cbv
      refine And.intro T.str (And.intro (by show 1 ≤ r.length + 1; omega) (And.intro (Nat.le_refl _) (And.intro T.str (And.intro (by show 1 ≤ r.length + 1; omega) ?_))))
      rw [t1, t2]
      refine .inl (n5 _ _ ?_)
      rw [hV]
      refine FitP.stay (f := .rd none) rfl rfl ?_
      generalize hM : mixH _ _ = M'
      have r2 : IsRd g0 M' b s st := by
        subst hM
        refine r1.re rfl rfl (r1.gr.trans (Grows.mixTop ?_))
        repeat first | with_reducible exact Grows.refl _ | with_reducible apply Grows.dip
      have k2 : Keep b h M' := by
        subst hM
        refine k1.trans (.of (Grows.mixTop ?_))
        repeat first | with_reducible exact Grows.refl _ | with_reducible apply Grows.dip
      clear hM
      cbv
      generalize hM : H.dip _ = M2
      have r3 : IsRd g0 M2 b s st := by
        subst hM
        refine r2.re rfl rfl (r2.gr.trans ?_)
        repeat first | with_reducible exact Grows.refl _ | with_reducible apply Grows.dip
      have k3 : Keep b h M2 := by
        subst hM
        refine k2.trans (.of ?_)
        repeat first | with_reducible exact Grows.refl _ | with_reducible apply Grows.dip
      clear hM r2 k2
      cases hu : unescape w with
      | none =>
        have hf : valueV (c :: r) = none := by rw [hval hq, hu]; cases z <;> rfl
        rw [hu, show optV none = .tuple #[.string ⟨⟨[]⟩⟩, .bool false] from rfl] at n6
        refine .inl (n6 _ _ ?_)
        cases z
        · have hv : valueS s st = ([], failS st.at' 2 st) := by rw [hv, hf]
          rw [hv] at hk
          have L1 := ld_one (P := E.P) (i := 1) T.iA T.iS (read_cells r3.ex rfl) rfl
          cbv
          refine ⟨1, R.r1, ?_⟩
          cbv
          refine ⟨_, L1, ?_⟩
          cbv
          refine .inl (n4 st.at' 2 _ r3 _ (fun v h4 r4 k4 => ?_))
          cbv
          exact ⟨_, rfl, hk _ r4 (k3.trans k4)⟩
        · have hv : valueS s st = ([], failS st.at' 2 st) := by rw [hv, hf]
          rw [hv] at hk
          have L1 := ld_one (P := E.P) (i := 1) T.iA T.iS (read_cells r3.ex rfl) rfl
          cbv
          refine ⟨1, R.r1, ?_⟩
          cbv
          refine ⟨_, L1, ?_⟩
          cbv
          refine .inl (n4 st.at' 2 _ r3 _ (fun v h4 r4 k4 => ?_))
          cbv
          exact ⟨_, rfl, hk _ r4 (k3.trans k4)⟩
      | some u =>
        rw [hu, show optV (some u) = .tuple #[.string ⟨⟨u⟩⟩, .bool true] from rfl] at n6
        refine .inl (n6 _ _ ?_)
        cases z
        · have hf : valueV (c :: r) = none := by rw [hval hq, hu]
          have hv : valueS s st = ([], failS st.at' 2 st) := by rw [hv, hf]
          rw [hv] at hk
          have L1 := ld_one (P := E.P) (i := 1) T.iA T.iS (read_cells r3.ex rfl) rfl
          cbv
          refine ⟨1, R.r1, ?_⟩
          cbv
          refine ⟨_, L1, ?_⟩
          cbv
          refine .inl (n4 st.at' 2 _ r3 _ (fun v h4 r4 k4 => ?_))
          cbv
          exact ⟨_, rfl, hk _ r4 (k3.trans k4)⟩
        · have hval := hval hq
          rw [hu] at hval
          cbv
          refine .inl (n7 _ _ ?_)
          by_cases hm : (60 : UInt8) ∈ w
          · have hf : valueV (c :: r) = none := by rw [hval]; exact if_pos (.inl hm)
            rw [decide_eq_true hm]
            have hv : valueS s st = ([], failS st.at' 2 st) := by rw [hv, hf]
            rw [hv] at hk
            have L1 := ld_one (P := E.P) (i := 1) T.iA T.iS (read_cells r3.ex rfl) rfl
            cbv
            refine ⟨1, R.r1, ?_⟩
            cbv
            refine ⟨_, L1, ?_⟩
            cbv
            refine .inl (n4 st.at' 2 _ r3 _ (fun v h4 r4 k4 => ?_))
            cbv
            exact ⟨_, rfl, hk _ r4 (k3.trans k4)⟩
          · rw [decide_eq_false hm]
            cbv
            refine And.intro T.str ?_
            refine And.intro (fun q60 => ?_) (fun q60 => ?_)
            · have hf : valueV (c :: r) = none := by rw [hval]; exact if_pos (.inr q60)
              have hv : valueS s st = ([], failS st.at' 2 st) := by rw [hv, hf]
              rw [hv] at hk
              have L1 := ld_one (P := E.P) (i := 1) T.iA T.iS (read_cells r3.ex rfl) rfl
              cbv
              refine ⟨1, R.r1, ?_⟩
              cbv
              refine ⟨_, L1, ?_⟩
              cbv
              refine .inl (n4 st.at' 2 _ r3 _ (fun v h4 r4 k4 => ?_))
              cbv
              exact ⟨_, rfl, hk _ r4 (k3.trans k4)⟩
            · have q60 : u.length ≤ 60 := q60
              have hf : valueV (c :: r) = some (u, w.length + 2) := by rw [hval]; exact if_neg (fun q => q.elim hm (fun q => absurd q60 (Nat.not_le.2 q)))
              have hv : valueS s st = (u, goS (w.length + 2) st) := by rw [hv, hf]
              rw [hv] at hk
              have L1 := ld_one (P := E.P) (i := 1) T.iA T.iS (read_cells r3.ex rfl) rfl
              have r4 := r3.put (st' := goS (w.length + 2) st)
              have S1 : M2.store E.P 3 ⟨b, 1, none⟩ (.int .i64 (.ofNat (st.at' + (w.length + 2)))) = some (M2.put b (some (rdO s (goS (w.length + 2) st)))) := (st_one (P := E.P) (v := .int .i64 (.ofNat (st.at' + (w.length + 2)))) (i := 1) T.iS r3.ex (by simp) rfl rfl).trans rfl
              have k4 : Keep b h (M2.put b (some (rdO s (goS (w.length + 2) st)))) := k3.put _
              generalize M2.put b (some (rdO s (goS (w.length + 2) st))) = M3 at S1 r4 k4
              cbv
              refine ⟨1, R.r1, ?_⟩
              cbv
              refine ⟨_, L1, ?_⟩
              cbv
              refine And.intro T.str (And.intro ?_ (And.intro ?_ ?_))
              · show w.length + 2 ≤ _
                simp at hrl
                omega
              · show st.at' + (w.length + 2) ≤ _
                simp at hrl
                omega
              refine ⟨1, R.r1, ?_⟩
              cbv
              refine ⟨_, S1, ?_⟩
              cbv
              exact ⟨_, rfl, hk _ r4 k4⟩
    · have e34 : ¬ c.toNat = 34 := e34
      cbv
      refine And.intro T.str (And.intro (by show 1 ≤ r.length + 1; omega) ?_)
      rw [hg]
      refine And.intro (fun e39 => ?_) (fun e39 => ?_)
      · have hq : c = 34 ∨ c = 39 := .inr (UInt8.toNat_inj.1 e39)
        cbv
        refine DrawP.free (by kernel_rfl) (fun bef => ?_)
        cbv
        refine And.intro T.str (And.intro (by show 1 ≤ r.length + 1; omega) (And.intro (Nat.le_refl _) (And.intro T.str (And.intro (by show 1 ≤ r.length + 1; omega) ?_))))
        rw [t1, t2]
        refine .inl (n5 _ _ ?_)
        rw [hV]
        refine FitP.stay (f := .rd none) rfl rfl ?_
        generalize hM : mixH _ _ = M'
        have r2 : IsRd g0 M' b s st := by
          subst hM
          refine r1.re rfl rfl (r1.gr.trans (Grows.mixTop ?_))
          repeat first | with_reducible exact Grows.refl _ | with_reducible apply Grows.dip
        have k2 : Keep b h M' := by
          subst hM
          refine k1.trans (.of (Grows.mixTop ?_))
          repeat first | with_reducible exact Grows.refl _ | with_reducible apply Grows.dip
        clear hM
        cbv
        generalize hM : H.dip _ = M2
        have r3 : IsRd g0 M2 b s st := by
          subst hM
          refine r2.re rfl rfl (r2.gr.trans ?_)
          repeat first | with_reducible exact Grows.refl _ | with_reducible apply Grows.dip
        have k3 : Keep b h M2 := by
          subst hM
          refine k2.trans (.of ?_)
          repeat first | with_reducible exact Grows.refl _ | with_reducible apply Grows.dip
        clear hM r2 k2
        cases hu : unescape w with
        | none =>
          have hf : valueV (c :: r) = none := by rw [hval hq, hu]; cases z <;> rfl
          rw [hu, show optV none = .tuple #[.string ⟨⟨[]⟩⟩, .bool false] from rfl] at n6
          refine .inl (n6 _ _ ?_)
          cases z
          · have hv : valueS s st = ([], failS st.at' 2 st) := by rw [hv, hf]
            rw [hv] at hk
            have L1 := ld_one (P := E.P) (i := 1) T.iA T.iS (read_cells r3.ex rfl) rfl
            cbv
            refine ⟨1, R.r1, ?_⟩
            cbv
            refine ⟨_, L1, ?_⟩
            cbv
            refine .inl (n4 st.at' 2 _ r3 _ (fun v h4 r4 k4 => ?_))
            cbv
            exact ⟨_, rfl, hk _ r4 (k3.trans k4)⟩
          · have hv : valueS s st = ([], failS st.at' 2 st) := by rw [hv, hf]
            rw [hv] at hk
            have L1 := ld_one (P := E.P) (i := 1) T.iA T.iS (read_cells r3.ex rfl) rfl
            cbv
            refine ⟨1, R.r1, ?_⟩
            cbv
            refine ⟨_, L1, ?_⟩
            cbv
            refine .inl (n4 st.at' 2 _ r3 _ (fun v h4 r4 k4 => ?_))
            cbv
            exact ⟨_, rfl, hk _ r4 (k3.trans k4)⟩
        | some u =>
          rw [hu, show optV (some u) = .tuple #[.string ⟨⟨u⟩⟩, .bool true] from rfl] at n6
          refine .inl (n6 _ _ ?_)
          cases z
          · have hf : valueV (c :: r) = none := by rw [hval hq, hu]
            have hv : valueS s st = ([], failS st.at' 2 st) := by rw [hv, hf]
            rw [hv] at hk
            have L1 := ld_one (P := E.P) (i := 1) T.iA T.iS (read_cells r3.ex rfl) rfl
            cbv
            refine ⟨1, R.r1, ?_⟩
            cbv
            refine ⟨_, L1, ?_⟩
            cbv
            refine .inl (n4 st.at' 2 _ r3 _ (fun v h4 r4 k4 => ?_))
            cbv
            exact ⟨_, rfl, hk _ r4 (k3.trans k4)⟩
          · have hval := hval hq
            rw [hu] at hval
            cbv
            refine .inl (n7 _ _ ?_)
            by_cases hm : (60 : UInt8) ∈ w
            · have hf : valueV (c :: r) = none := by rw [hval]; exact if_pos (.inl hm)
              rw [decide_eq_true hm]
              have hv : valueS s st = ([], failS st.at' 2 st) := by rw [hv, hf]
              rw [hv] at hk
              have L1 := ld_one (P := E.P) (i := 1) T.iA T.iS (read_cells r3.ex rfl) rfl
              cbv
              refine ⟨1, R.r1, ?_⟩
              cbv
              refine ⟨_, L1, ?_⟩
              cbv
              refine .inl (n4 st.at' 2 _ r3 _ (fun v h4 r4 k4 => ?_))
              cbv
              exact ⟨_, rfl, hk _ r4 (k3.trans k4)⟩
            · rw [decide_eq_false hm]
              cbv
              refine And.intro T.str ?_
              refine And.intro (fun q60 => ?_) (fun q60 => ?_)
              · have hf : valueV (c :: r) = none := by rw [hval]; exact if_pos (.inr q60)
                have hv : valueS s st = ([], failS st.at' 2 st) := by rw [hv, hf]
                rw [hv] at hk
                have L1 := ld_one (P := E.P) (i := 1) T.iA T.iS (read_cells r3.ex rfl) rfl
                cbv
                refine ⟨1, R.r1, ?_⟩
                cbv
                refine ⟨_, L1, ?_⟩
                cbv
                refine .inl (n4 st.at' 2 _ r3 _ (fun v h4 r4 k4 => ?_))
                cbv
                exact ⟨_, rfl, hk _ r4 (k3.trans k4)⟩
              · have q60 : u.length ≤ 60 := q60
                have hf : valueV (c :: r) = some (u, w.length + 2) := by rw [hval]; exact if_neg (fun q => q.elim hm (fun q => absurd q60 (Nat.not_le.2 q)))
                have hv : valueS s st = (u, goS (w.length + 2) st) := by rw [hv, hf]
                rw [hv] at hk
                have L1 := ld_one (P := E.P) (i := 1) T.iA T.iS (read_cells r3.ex rfl) rfl
                have r4 := r3.put (st' := goS (w.length + 2) st)
                have S1 : M2.store E.P 3 ⟨b, 1, none⟩ (.int .i64 (.ofNat (st.at' + (w.length + 2)))) = some (M2.put b (some (rdO s (goS (w.length + 2) st)))) := (st_one (P := E.P) (v := .int .i64 (.ofNat (st.at' + (w.length + 2)))) (i := 1) T.iS r3.ex (by simp) rfl rfl).trans rfl
                have k4 : Keep b h (M2.put b (some (rdO s (goS (w.length + 2) st)))) := k3.put _
                generalize M2.put b (some (rdO s (goS (w.length + 2) st))) = M3 at S1 r4 k4
                cbv
                refine ⟨1, R.r1, ?_⟩
                cbv
                refine ⟨_, L1, ?_⟩
                cbv
                refine And.intro T.str (And.intro ?_ (And.intro ?_ ?_))
                · show w.length + 2 ≤ _
                  simp at hrl
                  omega
                · show st.at' + (w.length + 2) ≤ _
                  simp at hrl
                  omega
                refine ⟨1, R.r1, ?_⟩
                cbv
                refine ⟨_, S1, ?_⟩
                cbv
                exact ⟨_, rfl, hk _ r4 k4⟩
      · have e39 : ¬ c.toNat = 39 := e39
        have hN : valueV (c :: r) = none := by
          have q : ¬ (c = 34 ∨ c = 39) := by
            rintro (rfl | rfl)
            · exact e34 rfl
            · exact e39 rfl
          simp only [valueV, if_neg q]
        have hv : valueS s st = ([], failS st.at' 2 st) := by rw [hv, hN]
        rw [hv] at hk
        cbv
        refine ⟨1, R.r1, ?_⟩
        cbv
        refine ⟨_, L1, ?_⟩
        cbv
        refine .inl (n4 st.at' 2 _ r1 _ (fun v h2 r2 k2 => ?_))
        cbv
        exact ⟨_, rfl, hk _ r2 (k1.trans k2)⟩
end
end Go.Proofs.YtfgemjpoiconbaaGreatDoor.GEv

/- Rows that grow by one; places that stay within the text. -/
namespace Go.Proofs.YtfgemjpoiconbaaGreatDoor.GEv
open Go
set_option linter.unusedSimpArgs false
set_option linter.unusedVariables false
set_option maxRecDepth 100000
/-! ### places -/
theorem rest_le (s : Bs) (st : Rd) : st.at' + (restS s st).length ≤ max s.length st.at' := by
  unfold restS
  split
  · rw [List.length_drop]; omega
  · simp; omega
theorem fail_at (a e : Nat) (st : Rd) : (failS a e st).at' = st.at' := by unfold failS; split <;> rfl
theorem is_le {s p : Bs} {st : Rd} (h : st.at' ≤ s.length) : (isS s p st).2.at' ≤ s.length := by
  unfold isS
  split
  · rename_i q
    have := rest_le s st
    have := congrArg List.length q
    rw [List.length_take] at this
    show st.at' + p.length ≤ s.length
    omega
  · exact h
theorem must_le {s p : Bs} {st : Rd} (h : st.at' ≤ s.length) : (mustS s p st).at' ≤ s.length := by
  have q := is_le (p := p) h
  unfold mustS
  split
  · rename_i e; rw [e] at q; exact q
  · rename_i e; rw [e] at q; rw [fail_at]; exact q
theorem tw_le (p : UInt8 → Bool) (l : Bs) : (l.takeWhile p).length ≤ l.length := (List.takeWhile_sublist p).length_le
theorem blanks_le {s : Bs} {st : Rd} (h : st.at' ≤ s.length) : (goS (blanksN s st) st).at' ≤ s.length := by
  have := rest_le s st
  have := tw_le blankB (restS s st)
  show st.at' + blanksN s st ≤ _
  unfold blanksN
  omega
theorem qual_le {s : Bs} {st : Rd} (h : st.at' ≤ s.length) : (qualS s st).2.at' ≤ s.length := by
  have := rest_le s st
  have := tw_le signB (restS s st)
  unfold qualS
  show (if isQual ((restS s st).takeWhile signB) then st else failS st.at' 2 st).at' + ((restS s st).takeWhile signB).length ≤ _
  split
  · omega
  · rw [fail_at]; omega
theorem valueV_len {r v : Bs} {n : Nat} (h : valueV r = some (v, n)) : n ≤ r.length := by
  unfold valueV at h
  split at h
  · cases h
  · split at h
    · split at h
      · rename_i q1 r1 w x hc
        split at h
        · split at h
          · cases h
          · cases h
            have := congrArg List.length (cutB_some hc).1
            simp at this
            simp
            omega
        · cases h
      · cases h
    · cases h
theorem value_le {s : Bs} {st : Rd} (h : st.at' ≤ s.length) : (valueS s st).2.at' ≤ s.length := by
  have := rest_le s st
  unfold valueS
  split
  · rename_i v n e
    have := valueV_len e
    show st.at' + n ≤ _
    omega
  · rw [fail_at]; exact h
/-! ### rows -/
/-- Another value of a builtin 'append': a slice is appended. -/
theorem raw_appendS {E : Env} {l : L} {h h' : H} {dst ty pos after guard x y} {sT xT e : TypeId} {s v w : Value} {K : Value → H → Prop} (hx : evL l x = some s) (hy : evL l y = some v) (hu : E.P.underlying xT = some (.slice e)) (ha : append E.P h sT false s v = some (w, h')) (hk : K w h') :
    RawP E l h ⟨dst, .call ⟨.builtin .append, #[x, y], #[sT, xT]⟩, ty, pos, after, guard⟩ K := ⟨fun tm hv => by
  refine OpP.val ?_ hk
  show hCallB E.P tm h _ _ _ = _
  have q : evList tm [x, y] = some [s, v] := by simp only [evList, evL_ok hv hx, evL_ok hv hy]
  have q' : evList tm (#[x, y] : Array Operand).toList = some [s, v] := q
  simp only [hCallB, q', evBuiltin]
  show (match E.P.underlying xT with
    | some (.int _) => none
    | some _ => pairR (append E.P h sT false s v)
    | none => none) = _
  rw [hu, ha]
  rfl⟩
/-- A row of one's own: nothing yet, or a block. -/
structure IsRow (h : H) (g : Nat) (e : TypeId) (size : Nat) (l : List (List Value)) (v : Value) : Prop where
  len : ∀ c ∈ l, c.length = size ∧ c.all one = true
  ex : (l = [] ∧ v = .slice none 0 0) ∨ ∃ r, v = .slice (some ⟨r, 0, none⟩) l.length (UNK + size) ∧ l ≠ [] ∧ r < h.next ∧ g ≤ r ∧ h.m.get r = some (.cells l.flatten (some e) false 0)
/-- That row does not lie there. -/
def NotAt (v : Value) (r : Nat) : Prop := ∀ n c, v ≠ .slice (some ⟨r, 0, none⟩) n c
theorem flat_len {size : Nat} : ∀ {l : List (List Value)}, (∀ c ∈ l, c.length = size ∧ c.all one = true) → l.flatten.length = l.length * size ∧ l.flatten.all one = true
  | [], _ => by simp
  | c :: l, h => by
    obtain ⟨h1, h2⟩ := flat_len (l := l) fun x hx => h x (List.mem_cons_of_mem _ hx)
    obtain ⟨h3, h4⟩ := h c (List.mem_cons_self ..)
    simp only [List.flatten_cons, List.length_append, List.length_cons, List.all_append, h1, h2, h3, h4, Bool.and_self, and_true]
    rw [Nat.add_mul, Nat.one_mul, Nat.add_comm]
theorem IsRow.keep {h h' : H} {g : Nat} {e : TypeId} {size : Nat} {l : List (List Value)} {v : Value} (hi : IsRow h g e size l v) (hn : h.next ≤ h'.next) (hk : ∀ r, g ≤ r → r < h.next → ¬ NotAt v r → h'.m.get r = h.m.get r) : IsRow h' g e size l v := by
  refine ⟨hi.len, ?_⟩
  rcases hi.ex with q | ⟨r, q1, q2, q3, q4, q5⟩
  · exact .inl q
  · exact .inr ⟨r, q1, q2, Nat.lt_of_lt_of_le q3 hn, q4, by rw [hk r q4 q3 (fun q => q _ _ q1)]; exact q5⟩
/-- What is asked of a row's type. -/
structure RowT (P : Program) (sT e : TypeId) (size : Nat) : Prop where
  u : P.underlying sT = some (.slice e)
  i : ∃ i : TypeInfo, P.info? e = some i ∧ i.size = size ∧ 0 < i.size ∧ 0 < i.bytes ∧ i.bytes ≤ 1000000
  z : ∃ z, zero P e = some z ∧ z.cells.toList.length = size
theorem row_append {P : Program} {h : H} {g : Nat} {sT e : TypeId} {size : Nat} {l : List (List Value)} {v : Value} {q : Nat} {c : List Value} {fq : Bool} (T : RowT P sT e size) (hi : IsRow h g e size l v) (hg : g ≤ h.next) (hl : l.length ≤ 10000) (hq : h.m.get q = some (.cells c (some e) fq 0)) (hc : c.length = size) (ho : c.all one = true) (hqn : q < h.next) (hqv : NotAt v q) :
    ∃ v' h', append P h sT false v (.slice (some ⟨q, 0, none⟩) 1 1) = some (v', h') ∧ IsRow h' g e size (l ++ [c]) v' ∧ h'.next = h.next + 1 ∧ (∀ r, r < h.next → NotAt v' r) ∧ (∀ r, r < h.next → NotAt v r → h'.m.get r = h.m.get r) ∧ (h'.low = h.low ∨ g ≤ h'.low) := by
  obtain ⟨i, hi1, hi2, hi3, hi4, hi5⟩ := T.i
  obtain ⟨z, hz1, hz2⟩ := T.z
  obtain ⟨f1, f2⟩ := flat_len hi.len
  have hlen' : ∀ x ∈ l ++ [c], x.length = size ∧ x.all one = true := by
    intro x hx
    rcases List.mem_append.1 hx with hx | hx
    · exact hi.len x hx
    · rw [List.mem_singleton.1 hx]; exact ⟨hc, ho⟩
  have hbx : h.bears i.size (.slice (some ⟨q, 0, none⟩) 1 1) = some c := by
    simp only [H.bears, Option.isNone_none, if_true, Nat.one_mul]
    exact read_cells hq (by omega)
  have hb48 : (l.length + 1) * 4 + 2048 ≤ 42052 := by omega
  have hmul : ((l.length + 1) * 4 + 2048) * i.bytes ≤ 2 ^ 48 := Nat.le_trans (Nat.mul_le_mul hb48 hi5) (by decide)
  have c0 : True ∧ 0 < i.size ∧ 0 < i.bytes ∧ z.cells.toList.length = i.size ∧ ((l.length + 1) * 4 + 2048) * i.bytes ≤ 2 ^ 48 := ⟨trivial, hi3, hi4, by omega, hmul⟩
  have c1 : c.length = 1 * i.size ∧ c.all one = true := ⟨by omega, ho⟩
  have na : ∀ (n k : Nat) (r : Nat), r < h.next → NotAt (.slice (some ⟨h.next, 0, none⟩) n k) r := by
    intro n k r hr n' c' e
    injection e with e1
    injection e1 with e1
    injection e1 with e1
    omega
  rcases hi.ex with ⟨rfl, rfl⟩ | ⟨r, rfl, hne, hr, hgr, hm⟩
  · refine ⟨.slice (some ⟨h.next, 0, none⟩) 1 (UNK + size), h.push (.cells c (some e) false 0), ?_, ⟨hlen', .inr ⟨h.next, rfl, by simp, Nat.lt_succ_self _, hg, by rw [push_get, if_pos rfl]; simp⟩⟩, rfl, na _ _, fun r hr _ => by rw [push_get, if_neg (by omega)], .inl rfl⟩
    have c0 : True ∧ 0 < i.size ∧ 0 < i.bytes ∧ z.cells.toList.length = i.size ∧ ((0 + 1) * 4 + 2048) * i.bytes ≤ 2 ^ 48 := c0
    simp only [append, T.u, hi1, hz1, lenV]
    rw [if_pos c0]
    simp only [hbx]
    rw [if_pos c1, if_pos (by decide), appendKnown, if_neg (by omega)]
    simp only [H.bears, if_true, List.nil_append, Nat.zero_add, hi2]
  · refine ⟨.slice (some ⟨h.next, 0, none⟩) (l.length + 1) (UNK + size), (h.put r none).push (.cells (l.flatten ++ c) (some e) false 0), ?_, ⟨hlen', .inr ⟨h.next, by simp, by simp, Nat.lt_succ_self _, hg, ?_⟩⟩, rfl, na _ _, fun x hx hxv => ?_, ?_⟩
    · simp only [append, T.u, hi1, hz1, lenV]
      rw [if_pos c0]
      simp only [hbx]
      rw [if_pos c1, if_neg (by simp)]
      have e4 : cut l.flatten 0 (l.length * i.size) = some l.flatten := by
        unfold cut
        rw [if_pos (by rw [f1, hi2]; omega), List.drop_zero, List.take_of_length_le (by rw [f1, hi2]; omega)]
      simp only [Option.isNone_none, if_true, appendUnk, hm]
      rw [if_neg (by decide), if_pos (by rw [hi2]), if_pos (Nat.zero_le _)]
      rw [e4]
      simp only [if_true, Nat.sub_zero, hi2]
    · show ((h.put r none).push _).m.get h.next = _
      rw [push_get, put_next, if_pos rfl]
      simp
    · rw [push_get, if_neg (by show ¬ x = h.next; omega), put_get, if_neg (fun ex => hxv _ _ (by rw [ex]))]
    · show (h.put r none).low = h.low ∨ g ≤ (h.put r none).low
      rw [put_low]
      split
      · exact .inr hgr
      · exact .inl rfl
/-- Memory that a row's growth leaves behind. -/
theorem grows_row {g h h' : H} (k : Grows g h) (hn : h.next ≤ h'.next) (hk : ∀ r, r < g.next → h'.m.get r = h.m.get r) (hl : h'.low = h.low ∨ g.next ≤ h'.low) : Grows g h' :=
  ⟨Nat.le_trans k.next hn, fun b hb => (hk b hb).trans (k.keep b hb), fun x h1 h2 => by
    rcases hl with q | q
    · rw [q]; exact k.low x h1 h2
    · exact Nat.le_trans h1 q⟩
/-- In a region that draws: one that writes, whatever it clashes with. -/
theorem FitP.writeC {l : L} {o : Oper} {h h1 : H} {bef i : Nat} {seen : List (Nat × Foot)} {K : List (Nat × Foot) → Prop} (hf : ∀ w, footL l o w h.m h1.m = some (if w = true then .gen h.m h1.m else .rd none)) (hfit : ∀ f, (f = .rd none ∨ f = .gen h.m h1.m) → fits bef f seen = true) (hk : ∀ f, (f = .rd none ∨ f = .gen h.m h1.m) → K ((i, f) :: seen)) : FitP l o h h1 bef seen i K := by
  have q : (if Nat.blt h1.low h.next = true then Foot.gen h.m h1.m else .rd none) = .rd none ∨ (if Nat.blt h1.low h.next = true then Foot.gen h.m h1.m else .rd none) = .gen h.m h1.m := by
    split
    · exact .inr rfl
    · exact .inl rfl
  exact ⟨_, _, rfl, hf _, hfit _ q, hk _ q⟩
theorem rowAttr : RowT EM.P 22 41 2 := by
  refine ⟨by kernel_rfl, ?_, ⟨_, zAttr, rfl⟩⟩
  have h : (EM.P.info? 41).map (fun i => (i.size == 2 && Nat.blt 0 i.bytes && Nat.ble i.bytes 1000000)) = some true := by kernel_rfl
  cases hi : EM.P.info? 41 with
  | none => rw [hi] at h; cases h
  | some i =>
    rw [hi] at h
    simp only [Option.map_some, Option.some.injEq, Bool.and_eq_true, beq_iff_eq] at h
    exact ⟨i, rfl, h.1.1, by omega, Nat.le_of_ble_eq_true h.1.2, Nat.le_of_ble_eq_true h.2⟩
theorem rowElem : RowT EM.P 23 25 4 := by
  refine ⟨by kernel_rfl, ?_, ⟨_, zElem, rfl⟩⟩
  have h : (EM.P.info? 25).map (fun i => (i.size == 4 && Nat.blt 0 i.bytes && Nat.ble i.bytes 1000000)) = some true := by kernel_rfl
  cases hi : EM.P.info? 25 with
  | none => rw [hi] at h; cases h
  | some i =>
    rw [hi] at h
    simp only [Option.map_some, Option.some.injEq, Bool.and_eq_true, beq_iff_eq] at h
    exact ⟨i, rfl, h.1.1, by omega, Nat.le_of_ble_eq_true h.1.2, Nat.le_of_ble_eq_true h.2⟩
end Go.Proofs.YtfgemjpoiconbaaGreatDoor.GEv

/- Is an attribute named twice? By symbolic runs. -/
namespace Go.Proofs.YtfgemjpoiconbaaGreatDoor.GEv
open Go
set_option linter.unusedSimpArgs false
set_option linter.unusedVariables false
set_option maxRecDepth 100000
attribute [local cbv_opaque] isString isSlice isBoolT fOff iSize eqNil zero H.load H.store H.push H.dip H.put List.length Nat.add Nat.sub Nat.mul List.take List.drop top Addr.add mixH dupA
attribute [local cbv_eval] List.length_cons List.length_nil addr_add mixH_top
theorem dupA_drop {l : List (Bs × Bs)} {i : Nat} {x : Bs × Bs} (hi : l[i]? = some x) (k : Bs) : dupA (l.drop i) k = (x.1 == k || dupA (l.drop (i + 1)) k) := by
  have hlt := (List.getElem?_eq_some_iff.1 hi).1
  have he := (List.getElem?_eq_some_iff.1 hi).2
  rw [List.drop_eq_getElem_cons hlt, he]
  simp [dupA]
section
variable {E : Env} (hE : E = EMY)
include hE
theorem nDup1 (x : Bs × Bs) (k : Bs) (q : Nat) (g : H) (hq : g.m.get q = some (.cells [.string ⟨⟨k⟩⟩] (some 9) true 0)) (hqn : q < g.next) (K : Value → H → Prop) (hk : ∀ h', Grows g h' → K (.bool (x.1 == k)) h') :
    CallP E 68 [.agg (attrC x).toArray, .pointer (some ⟨q, 0, none⟩)] g K := by
  have T : TyOk E.P := by rw [hE]; exact tyOk
  refine CallP.ofXE hE rfl Tryz.func68 rfl (Nat.le_of_ble_eq_true rfl) ?_
  clear hE
  obtain ⟨xn, xv⟩ := x
  cbv
  generalize e1 : g.push _ = g1
  have G1 : g1.m.get g.next = some (.cells [.string ⟨⟨xn⟩⟩, .string ⟨⟨xv⟩⟩] (some 41) true 0) := by rw [← e1]; exact box_get _ _
  have W : Grows g g1 := by rw [← e1]; exact (Grows.refl g).push _
  have L0 := ld_one (P := E.P) (i := 0) T.sA T.sS (read_cells G1 rfl) rfl
  have L1 := ld_one (P := E.P) (i := 0) T.sA T.sS (read_cells ((W.keep q hqn).trans hq) rfl) rfl
  refine ⟨0, T.a0, ?_⟩
  cbv
  refine ⟨_, L0, ?_⟩
  cbv
  refine ⟨_, L1, ?_⟩
  cbv
  have W2 : Grows g g1 := W
  refine And.intro (fun q => ?_) (fun q => ?_)
  · have q : xn = k := q
    have e : ((xn, xv).1 == k) = true := by simpa using q
    rw [e] at hk
    cbv
    exact ⟨_, rfl, hk _ W2⟩
  · have q : ¬ xn = k := q
    have e : ((xn, xv).1 == k) = false := by simpa using q
    rw [e] at hk
    cbv
    exact ⟨_, rfl, hk _ W2⟩
theorem nDupI (l : List (Bs × Bs)) (hl : l.length ≤ 1000) (k : Bs) (q : Nat) (va : Value) (g : H) (S : Nat → Prop) (hia : IsAt g S l va) (hq : g.m.get q = some (.cells [.string ⟨⟨k⟩⟩] (some 9) true 0)) (hqn : q < g.next) (K : Value → H → Prop)
    (hk1 : dupA l k = true → ∀ (n : Nat) h', Grows g h' → K (.int .i64 (.ofNat n)) h') (hk2 : dupA l k = false → ∀ h', Grows g h' → K (.int .i64 (.negSucc 0)) h') :
    CallP E 82 [va, .func (.func 68) #[] #[.pointer (some ⟨q, 0, none⟩)]] g K := by
  have T : TyOk E.P := by rw [hE]; exact tyOk
  have n1 := fun x h hq hqn K hk => nDup1 hE x k q h hq hqn K hk
  obtain ⟨aa, acap, rfl, har⟩ := hia
  refine CallP.ofXE hE rfl Tryz.func82 rfl (Nat.le_of_ble_eq_true rfl) ?_
  clear hE
  cbv
  refine And.intro T.lT ?_
  refine LoopP.onX (fun x : H × Nat => [(8, .int .i64 (.ofNat x.2)), (7, .int .i64 (.ofNat l.length)), (0, .slice aa l.length acap), (1, .func (.func 68) #[] #[.pointer (some ⟨q, 0, none⟩)])]) (fun x => x.1) (fun x => Grows g x.1 ∧ x.2 ≤ l.length ∧ dupA (l.drop x.2) k = dupA l k) (fun x => l.length - x.2) (g, 0) rfl (Less.cons rfl (Less.cons rfl (Less.cons rfl (Less.cons rfl (Less.nil _))))) ⟨Grows.refl g, Nat.zero_le _, by simp⟩ ?_
  rintro ⟨m, i⟩ ⟨i0, i1, i2⟩
  have i0 : Grows g m := i0
  have i1 : i ≤ l.length := i1
  have i2 : dupA (l.drop i) k = dupA l k := i2
  have hbn1 : Nat.le (Nat.add i 1) 4611686018427387904 := by show i + 1 ≤ _; omega
  by_cases hil : i < l.length
  · obtain ⟨x, hx⟩ : ∃ x, l[i]? = some x := ⟨_, List.getElem?_eq_getElem hil⟩
    have har : ∃ b off, aa = some ⟨b, off, none⟩ ∧ S b ∧ b < g.next ∧ ∀ i x, l[i]? = some x → g.read b (off + i * 2) 2 = some (attrC x) := by
      rcases har with ⟨rfl, _⟩ | q
      · simp at hil
      · exact q
    obtain ⟨b1, off1, rfl, _, hb1, hrd1⟩ := har
    have A1 := ld_agg (P := E.P) T.aA T.aS (i0.read (hrd1 i x hx) hb1)
    have n1 := fun K hk => n1 x m ((i0.keep q hqn).trans hq) (Nat.lt_of_lt_of_le hqn i0.next) K hk
    rw [dupA_drop hx k] at i2
    cbv
    refine And.intro (fun _ => ?_) (fun e => absurd hil (Nat.not_lt.2 e))
    cbv
    refine ⟨2, T.lZ, hil, ?_⟩
    cbv
    refine ⟨_, A1, ?_⟩
    cbv
    refine .inl (n1 _ (fun m2 g2 => ?_))
    cases hb : x.1 == k
    · rw [hb, Bool.false_or] at i2
      cbv
      refine And.intro hbn1 ?_
      exact ⟨(m2, i + 1), Less.cons rfl (Less.cons rfl (Less.cons rfl (Less.cons rfl (Less.nil _)))), rfl, ⟨i0.trans g2, hil, i2⟩, (by show l.length - (i + 1) < l.length - i; omega)⟩
    · rw [hb, Bool.true_or] at i2
      cbv
      exact ⟨_, rfl, hk1 i2.symm i _ (i0.trans g2)⟩
  · have e2 : dupA l k = false := by
      rw [← i2, List.drop_eq_nil_of_le (by omega)]
      rfl
    cbv
    refine And.intro (fun e => absurd e hil) (fun _ => ?_)
    cbv
    exact ⟨_, rfl, hk2 e2 _ i0⟩
theorem nDup (l : List (Bs × Bs)) (hl : l.length ≤ 1000) (k : Bs) (q : Nat) (va : Value) (g : H) (S : Nat → Prop) (hia : IsAt g S l va) (hq : g.m.get q = some (.cells [.string ⟨⟨k⟩⟩] (some 9) true 0)) (hqn : q < g.next) (K : Value → H → Prop)
    (hk : ∀ h', Grows g h' → K (.bool (dupA l k)) h') :
    CallP E 67 [va, .func (.func 68) #[] #[.pointer (some ⟨q, 0, none⟩)]] g K := by
  have n1 := fun K hk1 hk2 => nDupI hE l hl k q va g S hia hq hqn K hk1 hk2
  refine CallP.ofXE hE rfl Tryz.func67 rfl (Nat.le_of_ble_eq_true rfl) ?_
  clear hE
  cbv
  refine .inl (n1 _ (fun e n h' g' => ?_) (fun e h' g' => ?_))
  · rw [e] at hk
    cbv
    refine And.intro (fun _ => ?_) (fun e => absurd e (by show ¬ _; omega))
    cbv
    exact ⟨_, rfl, hk _ g'⟩
  · rw [e] at hk
    cbv
    refine And.intro (fun e => absurd e (by decide)) (fun _ => ?_)
    cbv
    exact ⟨_, rfl, hk _ g'⟩
end
end Go.Proofs.YtfgemjpoiconbaaGreatDoor.GEv

/- The reader's 'attrs', by a symbolic run. -/
namespace Go.Proofs.YtfgemjpoiconbaaGreatDoor.GEv
open Go
set_option linter.unusedSimpArgs false
set_option linter.unusedVariables false
set_option maxRecDepth 100000
set_option maxHeartbeats 2000000
theorem zStr : zero EM.P 9 = some (.string ⟨⟨[]⟩⟩) := by kernel_rfl
theorem flat_at {size : Nat} : ∀ {l : List (List Value)} {i : Nat} {c : List Value}, (∀ c ∈ l, c.length = size ∧ c.all one = true) → l[i]? = some c → (l.flatten.drop (i * size)).take size = c ∧ i * size + size ≤ l.flatten.length
  | [], i, c, _, h => by simp at h
  | x :: l, 0, c, h, hi => by
    obtain rfl : x = c := by simpa using hi
    obtain ⟨h1, _⟩ := h x (List.mem_cons_self ..)
    rw [Nat.zero_mul, List.drop_zero, List.flatten_cons]
    refine ⟨by rw [List.take_append_of_le_length (by omega), List.take_of_length_le (by omega)], by rw [List.length_append]; omega⟩
  | x :: l, i + 1, c, h, hi => by
    obtain ⟨h1, _⟩ := h x (List.mem_cons_self ..)
    obtain ⟨h2, h3⟩ := flat_at (l := l) (i := i) (c := c) (fun y hy => h y (List.mem_cons_of_mem _ hy)) (by simpa using hi)
    have e : (i + 1) * size = x.length + i * size := by rw [Nat.add_mul, Nat.one_mul, h1, Nat.add_comm]
    rw [e, List.flatten_cons, ← List.drop_drop, List.drop_left, List.length_append]
    exact ⟨h2, by omega⟩
theorem IsRow.at {h : H} {g : Nat} {e : TypeId} {size : Nat} {l : List (List Value)} {v : Value} (hi : IsRow h g e size l v) {i : Nat} {c : List Value} (hc : l[i]? = some c) : ∃ r, v = .slice (some ⟨r, 0, none⟩) l.length (UNK + size) ∧ r < h.next ∧ g ≤ r ∧ h.read r (0 + i * size) size = some c := by
  obtain ⟨f1, f2⟩ := flat_at hi.len hc
  rcases hi.ex with ⟨q, _⟩ | ⟨r, q1, q2, q3, q4, q5⟩
  · rw [q] at hc; simp at hc
  · refine ⟨r, q1, q3, q4, ?_⟩
    unfold H.read
    rw [q5, Nat.zero_add]
    simp only [cut]
    rw [if_pos f2, f1]
theorem IsRow.attrs {h : H} {g : Nat} {l : List (Bs × Bs)} {v : Value} (hi : IsRow h g 41 2 (l.map attrC) v) : IsAt h (fun c => g ≤ c) l v := by
  rcases hi.ex with ⟨q, rfl⟩ | ⟨r, q1, q2, q3, q4, q5⟩
  · have : l = [] := by simpa using q
    subst this
    exact ⟨none, 0, rfl, .inl ⟨rfl, fun _ e => by cases e⟩⟩
  · rw [List.length_map] at q1
    refine ⟨_, _, q1, .inr ⟨r, 0, rfl, q4, q3, fun i x hx => ?_⟩⟩
    obtain ⟨r', e1, _, _, e4⟩ := hi.at (i := i) (c := attrC x) (by rw [List.getElem?_map, hx]; rfl)
    rw [List.length_map, q1] at e1
    injection e1 with e1
    injection e1 with e1
    injection e1 with e1
    subst e1
    exact e4
theorem IsRow.nil (h : H) (g : Nat) (e : TypeId) (size : Nat) : IsRow h g e size [] (.slice none 0 0) := ⟨by simp, .inl ⟨rfl, rfl⟩⟩
theorem NotAt.of_lt {h : H} {g : Nat} {e : TypeId} {size : Nat} {l : List (List Value)} {v : Value} (hi : IsRow h g e size l v) {r : Nat} (hr : r < g ∨ h.next ≤ r) : NotAt v r := by
  intro n c e
  rcases hi.ex with ⟨_, q⟩ | ⟨x, q1, q2, q3, q4, q5⟩
  · rw [q] at e; cases e
  · rw [q1] at e
    injection e with e
    injection e with e
    injection e with e
    omega
/-- An attribute is built. -/
structure AtBuild (P : Program) (fs : Array Field) : Prop where
  u : P.underlying 41 = some (.struct fs)
  z : zero P 41 = some (.agg #[.string ⟨⟨[]⟩⟩, .string ⟨⟨[]⟩⟩])
  f : ∀ a b : Bs, fillL (fun i => (fs[i]?).bind fun f => (sizeOf P f.type).map fun s => (f.offset, s)) [.string ⟨⟨[]⟩⟩, .string ⟨⟨[]⟩⟩] [(0, .string ⟨⟨a⟩⟩), (1, .string ⟨⟨b⟩⟩)] = some [.string ⟨⟨a⟩⟩, .string ⟨⟨b⟩⟩]
  a : fs.toList.all (fun f => (sizeOf P f.type).isSome) = true
theorem atBuild : ∃ fs, AtBuild EM.P fs := by
  obtain ⟨f1, f2, h, _, _, t1, t2, o1, o2⟩ := attrFs
  have hs : sizeOf EM.P 9 = some 1 := tyOk.sS
  refine ⟨#[f1, f2], h, zAttr, fun a b => ?_, by simp [t1, t2, hs]⟩
  have e0 : ((#[f1, f2] : Array Field)[0]?) = some f1 := rfl
  have e1 : ((#[f1, f2] : Array Field)[1]?) = some f2 := rfl
  simp only [fillL, e0, e1, Option.bind_some, t1, t2, hs, Option.map_some, o1, o2]
  rfl
theorem sameO_str (k : Bs) (e : Option TypeId) (f : Bool) (z : Nat) : sameO (some (.cells [.string ⟨⟨k⟩⟩] e f z)) (some (.cells [.string ⟨⟨k⟩⟩] e f z)) = true := by
  have hn : sameV (.string ⟨⟨k⟩⟩) (.string ⟨⟨k⟩⟩) = true := (ba_beq _ _).2 rfl
  have he : sameEl e e = true := by cases e <;> simp [sameEl]
  simp [sameO, sameVs, hn, he]
attribute [local cbv_opaque] isString isSlice isBoolT fOff iSize eqNil zero H.load H.store H.push H.dip H.put List.length Nat.add Nat.sub Nat.mul List.take List.drop top Addr.add mixH restS isS failS goS mustS blanksN qualS valueS isQual cmpJ ariJ List.getD dupA append
attribute [local cbv_eval] List.length_cons List.length_nil addr_add mixH_top
section
variable {E : Env} (hE : E = EMY)
include hE
theorem xAttrs (f0 : Nat) (b : Nat) (s : Bs) (hs : s.length ≤ 100000) (st0 : Rd) (g0 h : H) (hr0 : IsRd g0 h b s st0) (ha0 : st0.at' ≤ s.length) (L : List (Bs × Bs)) (ST : Rd) (hf0 : attrsS s f0 [] st0 = some (L, ST)) (K : Value → H → Prop)
    (hk : ∀ v h', IsRd g0 h' b s ST → ST.at' ≤ s.length → Keep b h h' → L.length ≤ 8 → IsAt h' (fun c => h.next ≤ c) L v → K v h') : CallP E 45 [.pointer (some ⟨b, 0, none⟩)] h K := by
  have T : TyOk E.P := by rw [hE]; exact tyOk
  have R : RdOk E.P := by rw [hE]; exact rdOk
  have RT : RowT E.P 22 41 2 := by rw [hE]; exact rowAttr
  have zS : zero E.P 9 = some (.string ⟨⟨[]⟩⟩) := by rw [hE]; exact zStr
  obtain ⟨fs, AB⟩ : ∃ fs, AtBuild E.P fs := by rw [hE]; exact atBuild
  have n1 := fun st h hr ha K hk => xBlanks hE b s (by omega) st g0 h hr ha K hk
  have n2 := fun st h hr ha K hk => nRest hE b s st g0 h hr ha K hk
  have n3 := fun st a e h hr K hk => nFails hE b s st a e g0 h hr K hk
  have n4 := fun st h hr ha K hk => xQual hE b s (by omega) st g0 h hr ha K hk
  have n5 := fun l hl k q va g S hia hq hqn K hk => nDup hE l hl k q va g S hia hq hqn K hk
  have n6 := fun p hp st h hr ha K hk => xMust hE b s p hp (by omega) st g0 h hr ha K hk
  have n7 := fun st h hr ha K hk => xValue hE b s hs st g0 h hr ha K hk
  refine CallP.ofXE hE rfl Tryz.func45 rfl (Nat.le_of_ble_eq_true rfl) ?_
  clear hE
  cbv
  refine LoopP.onX (fun x : H × List (Bs × Bs) × Value × Rd × Nat => [(3, x.2.2.1), (0, .pointer (some ⟨b, 0, none⟩))]) (fun x => x.1) (fun x => IsRd g0 x.1 b s x.2.2.2.1 ∧ Keep b h x.1 ∧ x.2.2.2.1.at' ≤ s.length ∧ x.2.1.length ≤ 8 ∧ IsRow x.1 h.next 41 2 (x.2.1.map attrC) x.2.2.1 ∧ attrsS s x.2.2.2.2 x.2.1 x.2.2.2.1 = some (L, ST)) (fun x => x.2.2.2.2) (h, [], .slice none 0 0, st0, f0) rfl (Less.cons rfl (Less.cons rfl (Less.nil _))) ⟨hr0, Keep.refl b h, ha0, Nat.zero_le _, IsRow.nil _ _ _ _, hf0⟩ ?_
  rintro ⟨m, l, v, st, f⟩ ⟨j1, j2, j3, j4, j5, j6⟩
  have i1 : IsRd g0 m b s st := j1
  have i2 : Keep b h m := j2
  have i3 : st.at' ≤ s.length := j3
  have i4 : l.length ≤ 8 := j4
  have i5 : IsRow m h.next 41 2 (l.map attrC) v := j5
  have i6 : attrsS s f l st = some (L, ST) := j6
  clear j1 j2 j3 j4 j5 j6
  cases f with
  | zero => cases i6
  | succ f =>
  have hbl := blanks_le i3
  unfold attrsS at i6
  obtain ⟨aa, ac, hv⟩ : ∃ a c, v = .slice a l.length c := by
    rcases i5.ex with ⟨q1, q2⟩ | ⟨r, q1, _⟩
    · have : l = [] := by simpa using q1
      subst this
      exact ⟨_, _, q2⟩
    · rw [List.length_map] at q1
      exact ⟨_, _, q1⟩
  subst hv
  -- a row is as it was where only the reader changed
  have keepRow : ∀ m', Keep b m m' → IsRow m' h.next 41 2 (l.map attrC) (.slice aa l.length ac) := fun m' k => i5.keep k.next (fun r h1 h2 h3 => k.keep r h2 (by have := hr0.lt; omega))
  cbv
  refine .inl (n1 st _ i1 i3 _ (fun m1 r1 k1 => ?_))
  generalize blanksN s st = n at hbl i6 r1
  by_cases hn : 0 < n
  · rw [decide_eq_true hn]
    simp only [if_neg (show ¬ n = 0 by omega)] at i6
    generalize goS n st = st1 at hbl i6 r1
    cbv
    refine .inl (n2 st1 _ r1 hbl _ (fun m2 r2 k2 => ?_))
    have k2' := k1.trans k2
    cases hre : restS s st1 with
    | nil =>
      rw [hre] at i6
      obtain ⟨rfl, rfl⟩ : l = L ∧ st1 = ST := by simpa using i6
      have row := (keepRow m2 k2').attrs
      cbv
      refine And.intro (fun _ => ?_) (fun e => absurd rfl e)
      cbv
      exact ⟨_, rfl, hk _ _ r2 hbl (i2.trans k2') i4 row⟩
    | cons c r =>
      rw [hre] at i6
      simp only at i6
      have hg : ((c :: r).getD 0 0) = c := rfl
      cbv
      refine And.intro (fun e => by cases e) (fun _ => ?_)
      refine And.intro T.str (And.intro (by show 1 ≤ r.length + 1; omega) ?_)
      rw [hg]
      refine And.intro (fun e47 => ?_) (fun e47 => ?_)
      · rw [if_pos (.inl (UInt8.toNat_inj.1 e47))] at i6
        obtain ⟨rfl, rfl⟩ : l = L ∧ st1 = ST := by simpa using i6
        have row := (keepRow m2 k2').attrs
        cbv
        exact ⟨_, rfl, hk _ _ r2 hbl (i2.trans k2') i4 row⟩
      have e47 : ¬ c.toNat = 47 := e47
      cbv
      refine And.intro T.str (And.intro (by show 1 ≤ r.length + 1; omega) ?_)
      rw [hg]
      refine And.intro (fun e62 => ?_) (fun e62 => ?_)
      · rw [if_pos (.inr (UInt8.toNat_inj.1 e62))] at i6
        obtain ⟨rfl, rfl⟩ : l = L ∧ st1 = ST := by simpa using i6
        have row := (keepRow m2 k2').attrs
        cbv
        exact ⟨_, rfl, hk _ _ r2 hbl (i2.trans k2') i4 row⟩
      have e62 : ¬ c.toNat = 62 := e62
      rw [if_neg (fun q => q.elim (fun q => e47 (by rw [q]; rfl)) (fun q => e62 (by rw [q]; rfl)))] at i6
      cbv
      refine And.intro T.lT ?_
      refine And.intro (fun e8 => ?_) (fun e8 => ?_)
      · have e8 : 8 ≤ l.length := e8
        rw [if_pos e8] at i6
        obtain ⟨rfl, rfl⟩ : l = L ∧ failS st1.at' 4 st1 = ST := by simpa using i6
        have L1 := ld_one (P := E.P) (i := 1) T.iA T.iS (read_cells r2.ex rfl) rfl
        cbv
        refine ⟨1, R.r1, ?_⟩
        cbv
        refine ⟨_, L1, ?_⟩
        cbv
        refine .inl (n3 st1 st1.at' 4 _ r2 _ (fun v h4 r4 k4 => ?_))
        have row := (keepRow h4 (k2'.trans k4)).attrs
        cbv
        exact ⟨_, rfl, hk _ _ r4 (by rw [fail_at]; exact hbl) (i2.trans (k2'.trans k4)) i4 row⟩
      have e8 : l.length < 8 := e8
      rw [if_neg (by omega)] at i6
      have L1 := ld_one (P := E.P) (i := 1) T.iA T.iS (read_cells r2.ex rfl) rfl
      cbv
      refine ⟨1, R.r1, ?_⟩
      cbv
      refine ⟨_, L1, ?_⟩
      cbv
      refine .inl (n4 st1 _ r2 hbl _ (fun m3 r3 k3 => ?_))
      have hql := qual_le hbl
      generalize qualS s st1 = ks at i6 r3 hql ⊢
      obtain ⟨k, st2⟩ := ks
      have r3 : IsRd g0 m3 b s st2 := r3
      have hql : st2.at' ≤ s.length := hql
      simp only at i6
      have k3' := k2'.trans k3
      have S1 : (m3.push (.cells [.string ⟨⟨[]⟩⟩] (some 9) true 0)).store E.P 9 ⟨m3.next, 0, none⟩ (.string ⟨⟨k⟩⟩) = some ((m3.push (.cells [.string ⟨⟨[]⟩⟩] (some 9) true 0)).put m3.next (some (.cells [.string ⟨⟨k⟩⟩] (some 9) true 0))) := (st_one (P := E.P) (v := .string ⟨⟨k⟩⟩) (i := 0) T.sS (box_get _ _) (by simp) rfl rfl).trans rfl
      obtain ⟨j0, j1, j2, j3⟩ := laid r3.gr (.cells [.string ⟨⟨[]⟩⟩] (some 9) true 0) [.string ⟨⟨k⟩⟩] (some 9) true
      have r4 : IsRd g0 ((m3.push (.cells [.string ⟨⟨[]⟩⟩] (some 9) true 0)).put m3.next (some (.cells [.string ⟨⟨k⟩⟩] (some 9) true 0))) b s st2 := ⟨Nat.lt_of_lt_of_le r3.lt j1.next, r3.ge, j0, (j1.keep b r3.lt).trans r3.ex⟩
      have q0 : m3.next ≠ b := by have := r3.lt; omega
      refine ⟨_, zS, ?_⟩
      cbv
      refine ⟨_, S1, ?_⟩
      generalize (m3.push (.cells [.string ⟨⟨[]⟩⟩] (some 9) true 0)).put m3.next (some (.cells [.string ⟨⟨k⟩⟩] (some 9) true 0)) = m4 at j0 j1 j2 j3 r4 ⊢
      have k4 : Keep b m m4 := k3'.trans (.of j1)
      have a4 := (keepRow m4 k4).attrs
      have hq0 : h.next ≤ m3.next := (i2.trans k3').next
      cbv
      refine .inl (n5 l (by omega) k m3.next _ m4 _ a4 j2 j3 _ (fun m5 g5 => ?_))
      have r5 : IsRd g0 m5 b s st2 := ⟨Nat.lt_of_lt_of_le r4.lt g5.next, r4.ge, r4.gr.trans g5, (g5.keep b r4.lt).trans r4.ex⟩
      have k5 : Keep b m m5 := k4.trans (.of g5)
      have q5 := (g5.keep m3.next j3).trans j2
      have q5n := Nat.lt_of_lt_of_le j3 g5.next
      have hdu : (l.any fun x => x.1 == k) = dupA l k := rfl
      rw [hdu] at i6
      clear j0 j1 j2 j3 r4 k4 a4 g5 S1
      cases hd : dupA l k
      · rw [hd] at i6
        simp only [Bool.false_eq_true, if_false] at i6
        have r6 := r5
        have k6 := k5
        have q6 := q5
        have q6n := q5n
        cbv
        refine .inl (n6 [61] (by simp) st2 _ r6 hql _ (fun v7 m7 r7 k7 => ?_))
        have hml := must_le (p := [61]) hql
        generalize mustS s [61] st2 = st3 at i6 r7 hml
        have k7' := k6.trans k7
        have q7 := (k7.keep m3.next q6n q0).trans q6
        have q7n := Nat.lt_of_lt_of_le q6n k7.next
        cbv
        refine DrawP.of [0, 0, 0, 4, 14, 30, 63, 127] (by kernel_rfl) (by kernel_rfl) ?_
        cbv
        have LQ := ld_one (P := E.P) (i := 0) T.sA T.sS (read_cells q7 rfl) rfl
        refine ⟨_, ld_at LQ rfl, ?_⟩
        refine FitP.stay (f := .rd (some m3.next)) rfl rfl ?_
        generalize hM : mixH _ _ = M
        have hMm : M.m = m7.m ∧ M.next = m7.next ∧ Grows g0 M := by
          subst hM
          exact ⟨rfl, rfl, Grows.mixTop r7.gr.dip⟩
        clear hM
        cbv
        have rM : IsRd g0 ⟨M.dip.m, M.dip.next, top M.dip.next⟩ b s st3 := r7.re hMm.1 hMm.2.1 hMm.2.2.dip.mark
        refine .inl (n7 st3 _ rM hml _ (fun m8 r8 k8 => ?_))
        have q8 : m8.m.get m3.next = some (.cells [.string ⟨⟨k⟩⟩] (some 9) true 0) := (k8.keep m3.next (by show m3.next < M.next; rw [hMm.2.1]; exact q7n) q0).trans (by show M.m.get m3.next = _; rw [hMm.1]; exact q7)
        have qM : M.m.get m3.next = some (.cells [.string ⟨⟨k⟩⟩] (some 9) true 0) := by rw [hMm.1]; exact q7
        refine FitP.writeC (fun w => by cases w <;> rfl) (fun F hF => ?_) (fun F hF => ?_)
        · rcases hF with rfl | rfl
          · rfl
          · have e : sameO (M.m.get m3.next) (m8.m.get m3.next) = true := by rw [q8, qM]; exact sameO_str _ _ _ _
            show ((if (!sameO (M.m.get m3.next) (m8.m.get m3.next)) = true then _ else true) && true) = true
            rw [e]
            rfl
        have hvl := value_le hml
        generalize valueS s st3 = vs at i6 r8 hvl ⊢
        obtain ⟨u, st4⟩ := vs
        have hvl : st4.at' ≤ s.length := hvl
        simp only at i6
        generalize hM2 : mixH _ _ = M2
        have r9 : IsRd g0 M2 b s st4 := by
          subst hM2
          exact r8.re rfl rfl (hMm.2.2.dip.mix r8.gr)
        have k9 : Keep b m M2 := by
          subst hM2
          refine k7'.trans (Keep.trans (y := M) ⟨by rw [hMm.2.1]; exact Nat.le_refl _, fun c _ _ => by rw [hMm.1]⟩ ⟨k8.next, k8.keep⟩)
        clear hM2
        cbv
        refine raw_build rfl AB.z AB.u (AB.f k u) AB.a ?_
        refine FitP.stay (f := .rd none) rfl (by rcases hF with rfl | rfl <;> rfl) ?_
        generalize hM3 : mixH _ _ = M3
        have hMm3 : M3.m = M2.m ∧ M3.next = M2.next ∧ Grows g0 M3 := by
          subst hM3
          exact ⟨rfl, rfl, Grows.mixTop r9.gr⟩
        clear hM3
        cbv
        refine raw_buildSlice rfl RT.u AB.z T.aS (by decide) (c := attrC (k, u)) rfl ?_
        refine FitP.grow (f := .own) ((Grows.refl _).push _) rfl (by rcases hF with rfl | rfl <;> rfl) ?_
        generalize hM4 : mixH _ _ = M4
        have B4 : M4.m.get M3.next = some (.cells (attrC (k, u)) (some 41) true 0) := by
          subst hM4
          exact box_get _ _
        have N4 : M4.next = M3.next + 1 := by subst hM4; rfl
        have K4 : ∀ c, c < M3.next → M4.m.get c = M3.m.get c := by
          subst hM4
          intro c hc
          show (H.push _ _).m.get c = _
          rw [push_get, if_neg (by show ¬ c = M3.next; omega)]
        have G4 : Grows g0 M4 := by
          subst hM4
          exact hMm3.2.2.mix (hMm3.2.2.mark.push _)
        clear hM4
        cbv
        have N34 : M3.next = M2.next := hMm3.2.1
        have k10 : Keep b m ⟨M4.m, M4.next, top M4.next⟩ := k9.trans ⟨by show M2.next ≤ M4.next; omega, fun c hc _ => by
          show M4.m.get c = _
          rw [K4 c (by omega), hMm3.1]⟩
        have hmn := k9.next
        obtain ⟨v', h', ha1, ha2, ha3, ha4, ha5, ha6⟩ := row_append (q := M3.next) RT (keepRow _ k10) (i2.trans k10).next (by rw [List.length_map]; omega) B4 rfl rfl (by show M3.next < M4.next; omega) (NotAt.of_lt i5 (.inr (by omega)))
        refine raw_appendS rfl rfl RT.u ha1 ?_
        refine FitP.writeG (fun w => by cases w <;> rfl) (by simp [Nat.testBit]) (fun F2 hF2 => ?_)
        have hbh := hr0.lt
        have hgb := hr0.ge
        have G5 : Grows g0 h' := grows_row G4.mark (by rw [ha3]; exact Nat.le_succ _) (fun r hr => ha5 r (by show r < M4.next; have := (i2.trans k10).next; have : h.next ≤ M4.next := this; omega) (NotAt.of_lt i5 (.inl (by omega)))) (by
          rcases ha6 with q | q
          · exact .inl q
          · exact .inr (by omega))
        have hh4 : h.next ≤ M4.next := (i2.trans k10).next
        generalize hM5 : mixH _ _ = M5
        have r10 : IsRd g0 M5 b s st4 := by
          subst hM5
          refine ⟨by show b < h'.next; rw [ha3]; exact Nat.lt_succ_of_lt (Nat.lt_of_lt_of_le hbh hh4), hgb, G4.mix G5, ?_⟩
          show h'.m.get b = _
          rw [ha5 b (by show b < M4.next; omega) (NotAt.of_lt i5 (.inl hbh))]
          show M4.m.get b = _
          rw [K4 b (by have := r9.lt; omega), hMm3.1]
          exact r9.ex
        have k11 : Keep b h M5 := by
          subst hM5
          refine ⟨by show h.next ≤ h'.next; rw [ha3]; exact Nat.le_succ_of_le hh4, fun c hc hcb => ?_⟩
          show h'.m.get c = _
          rw [ha5 c (by show c < M4.next; omega) (NotAt.of_lt i5 (.inl hc))]
          exact (i2.trans k10).keep c hc hcb
        have row11 : IsRow M5 h.next 41 2 ((l ++ [(k, u)]).map attrC) v' := by
          subst hM5
          rw [List.map_append]
          exact ha2.keep (Nat.le_refl _) (fun _ _ _ _ => rfl)
        clear hM5
        cbv
        refine ⟨(M5.dip, l ++ [(k, u)], v', st4, f), Less.cons rfl (Less.cons rfl (Less.nil _)), rfl, ⟨r10.re rfl rfl r10.gr.dip, ⟨k11.next, k11.keep⟩, hvl, by simp; omega, row11.keep (Nat.le_refl _) (fun _ _ _ _ => rfl), i6⟩, Nat.lt_succ_self _⟩
      · rw [hd] at i6
        simp only [if_true] at i6
        cbv
        refine .inl (n3 st2 st1.at' 2 _ r5 _ (fun v6 m6 r6 k56 => ?_))
        have k6 := k5.trans k56
        have q6 := (k56.keep m3.next q5n q0).trans q5
        have q6n := Nat.lt_of_lt_of_le q5n k56.next
        have hql : (failS st1.at' 2 st2).at' ≤ s.length := by rw [fail_at]; exact hql
        generalize failS st1.at' 2 st2 = st2 at i6 r6 hql
        cbv
        refine .inl (n6 [61] (by simp) st2 _ r6 hql _ (fun v7 m7 r7 k7 => ?_))
        have hml := must_le (p := [61]) hql
        generalize mustS s [61] st2 = st3 at i6 r7 hml
        have k7' := k6.trans k7
        have q7 := (k7.keep m3.next q6n q0).trans q6
        have q7n := Nat.lt_of_lt_of_le q6n k7.next
        cbv
        refine DrawP.of [0, 0, 0, 4, 14, 30, 63, 127] (by kernel_rfl) (by kernel_rfl) ?_
        cbv
        have LQ := ld_one (P := E.P) (i := 0) T.sA T.sS (read_cells q7 rfl) rfl
        refine ⟨_, ld_at LQ rfl, ?_⟩
        refine FitP.stay (f := .rd (some m3.next)) rfl rfl ?_
        generalize hM : mixH _ _ = M
        have hMm : M.m = m7.m ∧ M.next = m7.next ∧ Grows g0 M := by
          subst hM
          exact ⟨rfl, rfl, Grows.mixTop r7.gr.dip⟩
        clear hM
        cbv
        have rM : IsRd g0 ⟨M.dip.m, M.dip.next, top M.dip.next⟩ b s st3 := r7.re hMm.1 hMm.2.1 hMm.2.2.dip.mark
        refine .inl (n7 st3 _ rM hml _ (fun m8 r8 k8 => ?_))
        have q8 : m8.m.get m3.next = some (.cells [.string ⟨⟨k⟩⟩] (some 9) true 0) := (k8.keep m3.next (by show m3.next < M.next; rw [hMm.2.1]; exact q7n) q0).trans (by show M.m.get m3.next = _; rw [hMm.1]; exact q7)
        have qM : M.m.get m3.next = some (.cells [.string ⟨⟨k⟩⟩] (some 9) true 0) := by rw [hMm.1]; exact q7
        refine FitP.writeC (fun w => by cases w <;> rfl) (fun F hF => ?_) (fun F hF => ?_)
        · rcases hF with rfl | rfl
          · rfl
          · have e : sameO (M.m.get m3.next) (m8.m.get m3.next) = true := by rw [q8, qM]; exact sameO_str _ _ _ _
            show ((if (!sameO (M.m.get m3.next) (m8.m.get m3.next)) = true then _ else true) && true) = true
            rw [e]
            rfl
        have hvl := value_le hml
        generalize valueS s st3 = vs at i6 r8 hvl ⊢
        obtain ⟨u, st4⟩ := vs
        have hvl : st4.at' ≤ s.length := hvl
        simp only at i6
        generalize hM2 : mixH _ _ = M2
        have r9 : IsRd g0 M2 b s st4 := by
          subst hM2
          exact r8.re rfl rfl (hMm.2.2.dip.mix r8.gr)
        have k9 : Keep b m M2 := by
          subst hM2
          refine k7'.trans (Keep.trans (y := M) ⟨by rw [hMm.2.1]; exact Nat.le_refl _, fun c _ _ => by rw [hMm.1]⟩ ⟨k8.next, k8.keep⟩)
        clear hM2
        cbv
        refine raw_build rfl AB.z AB.u (AB.f k u) AB.a ?_
        refine FitP.stay (f := .rd none) rfl (by rcases hF with rfl | rfl <;> rfl) ?_
        generalize hM3 : mixH _ _ = M3
        have hMm3 : M3.m = M2.m ∧ M3.next = M2.next ∧ Grows g0 M3 := by
          subst hM3
          exact ⟨rfl, rfl, Grows.mixTop r9.gr⟩
        clear hM3
        cbv
        refine raw_buildSlice rfl RT.u AB.z T.aS (by decide) (c := attrC (k, u)) rfl ?_
        refine FitP.grow (f := .own) ((Grows.refl _).push _) rfl (by rcases hF with rfl | rfl <;> rfl) ?_
        generalize hM4 : mixH _ _ = M4
        have B4 : M4.m.get M3.next = some (.cells (attrC (k, u)) (some 41) true 0) := by
          subst hM4
          exact box_get _ _
        have N4 : M4.next = M3.next + 1 := by subst hM4; rfl
        have K4 : ∀ c, c < M3.next → M4.m.get c = M3.m.get c := by
          subst hM4
          intro c hc
          show (H.push _ _).m.get c = _
          rw [push_get, if_neg (by show ¬ c = M3.next; omega)]
        have G4 : Grows g0 M4 := by
          subst hM4
          exact hMm3.2.2.mix (hMm3.2.2.mark.push _)
        clear hM4
        cbv
        have N34 : M3.next = M2.next := hMm3.2.1
        have k10 : Keep b m ⟨M4.m, M4.next, top M4.next⟩ := k9.trans ⟨by show M2.next ≤ M4.next; omega, fun c hc _ => by
          show M4.m.get c = _
          rw [K4 c (by omega), hMm3.1]⟩
        have hmn := k9.next
        obtain ⟨v', h', ha1, ha2, ha3, ha4, ha5, ha6⟩ := row_append (q := M3.next) RT (keepRow _ k10) (i2.trans k10).next (by rw [List.length_map]; omega) B4 rfl rfl (by show M3.next < M4.next; omega) (NotAt.of_lt i5 (.inr (by omega)))
        refine raw_appendS rfl rfl RT.u ha1 ?_
        refine FitP.writeG (fun w => by cases w <;> rfl) (by simp [Nat.testBit]) (fun F2 hF2 => ?_)
        have hbh := hr0.lt
        have hgb := hr0.ge
        have G5 : Grows g0 h' := grows_row G4.mark (by rw [ha3]; exact Nat.le_succ _) (fun r hr => ha5 r (by show r < M4.next; have := (i2.trans k10).next; have : h.next ≤ M4.next := this; omega) (NotAt.of_lt i5 (.inl (by omega)))) (by
          rcases ha6 with q | q
          · exact .inl q
          · exact .inr (by omega))
        have hh4 : h.next ≤ M4.next := (i2.trans k10).next
        generalize hM5 : mixH _ _ = M5
        have r10 : IsRd g0 M5 b s st4 := by
          subst hM5
          refine ⟨by show b < h'.next; rw [ha3]; exact Nat.lt_succ_of_lt (Nat.lt_of_lt_of_le hbh hh4), hgb, G4.mix G5, ?_⟩
          show h'.m.get b = _
          rw [ha5 b (by show b < M4.next; omega) (NotAt.of_lt i5 (.inl hbh))]
          show M4.m.get b = _
          rw [K4 b (by have := r9.lt; omega), hMm3.1]
          exact r9.ex
        have k11 : Keep b h M5 := by
          subst hM5
          refine ⟨by show h.next ≤ h'.next; rw [ha3]; exact Nat.le_succ_of_le hh4, fun c hc hcb => ?_⟩
          show h'.m.get c = _
          rw [ha5 c (by show c < M4.next; omega) (NotAt.of_lt i5 (.inl hc))]
          exact (i2.trans k10).keep c hc hcb
        have row11 : IsRow M5 h.next 41 2 ((l ++ [(k, u)]).map attrC) v' := by
          subst hM5
          rw [List.map_append]
          exact ha2.keep (Nat.le_refl _) (fun _ _ _ _ => rfl)
        clear hM5
        cbv
        refine ⟨(M5.dip, l ++ [(k, u)], v', st4, f), Less.cons rfl (Less.cons rfl (Less.nil _)), rfl, ⟨r10.re rfl rfl r10.gr.dip, ⟨k11.next, k11.keep⟩, hvl, by simp; omega, row11.keep (Nat.le_refl _) (fun _ _ _ _ => rfl), i6⟩, Nat.lt_succ_self _⟩
  · rw [decide_eq_false hn]
    simp only [if_pos (show n = 0 by omega)] at i6
    obtain ⟨rfl, rfl⟩ : l = L ∧ goS n st = ST := by simpa using i6
    have row := (keepRow m1 k1).attrs
    cbv
    exact ⟨_, rfl, hk _ _ r1 hbl (i2.trans k1) i4 row⟩
end
end Go.Proofs.YtfgemjpoiconbaaGreatDoor.GEv

/- The reader's 'remarks', by a symbolic run. -/
namespace Go.Proofs.YtfgemjpoiconbaaGreatDoor.GEv
open Go
set_option linter.unusedSimpArgs false
set_option linter.unusedVariables false
set_option maxRecDepth 100000
set_option maxHeartbeats 2000000
theorem sub_filter (l : Bs) : l.flatMap (sub1 38 []) = l.filter (· ≠ 38) := by
  induction l with
  | nil => rfl
  | cons c l ih =>
    rw [List.flatMap_cons, ih]
    by_cases hc : c = 38
    · subst hc; simp [sub1]
    · simp [sub1, hc]
theorem cut2_len {l t q : Bs} (h : cut2 l = some (t, q)) : t.length + 2 ≤ l.length := by
  have := cut2_index l
  rw [h] at this
  have := congrArg List.length this.2
  simp at this
  omega
theorem replY {E : Env} (hE : E = EMY) (l : Bs) (hl : l.length ≤ 4000000000) (h : H) (K : Value → H → Prop) (hk : K (.string ⟨⟨l.filter (· ≠ 38)⟩⟩) h) : CallP E 42 [.string ⟨⟨l⟩⟩, .string ⟨⟨[38]⟩⟩, .string ⟨⟨[]⟩⟩] h K := by
  refine CallP.memo (v := .string ⟨⟨l.filter (· ≠ 38)⟩⟩) ?_ (by rw [hE]; exact ⟨_, _, Tryz.func42, rfl⟩) hk
  rw [hE]
  show replP [.string ⟨⟨l⟩⟩, .string ⟨⟨[38]⟩⟩, .string ⟨⟨[]⟩⟩] = _
  have h1 : Nat.ble (⟨⟨l⟩⟩ : ByteArray).size 4000000000 = true := Nat.ble_eq_true_of_le hl
  have h2 : Nat.ble (⟨⟨[]⟩⟩ : ByteArray).size 6 = true := rfl
  have h3 : Nat.ble 1 (⟨⟨[38]⟩⟩ : ByteArray).size = true := rfl
  simp only [replP, h1, h2, h3]
  rw [← sub_filter, ← replaceAll_flat]
theorem cut2V_parts (l : Bs) : ∃ w y z, cut2V l = .tuple #[.string ⟨⟨w⟩⟩, .string ⟨⟨y⟩⟩, .bool z] ∧ w.length + (if z = true then 2 else 0) ≤ l.length ∧ ((z = true ∧ cut2 l = some (w, y)) ∨ (z = false ∧ cut2 l = none)) := by
  unfold cut2V
  cases hc : cut2 l with
  | none => exact ⟨l, [], false, rfl, by simp, .inr ⟨rfl, rfl⟩⟩
  | some p =>
    obtain ⟨w, y⟩ := p
    exact ⟨w, y, true, rfl, by simpa using cut2_len hc, .inl ⟨rfl, rfl⟩⟩
attribute [local cbv_opaque] isString isSlice isBoolT fOff iSize eqNil zero H.load H.store H.push H.dip H.put List.length Nat.add Nat.sub Nat.mul List.take List.drop top Addr.add mixH restS isS failS goS mustS blanksN qualS valueS isQual cmpJ ariJ List.getD cut2V cut2 unescape List.filter optV
attribute [local cbv_eval] List.length_cons List.length_nil addr_add mixH_top
section
variable {E : Env} (hE : E = EMY)
include hE
theorem xRemarks (f0 : Nat) (b : Nat) (s : Bs) (hs : s.length ≤ 100000) (st0 : Rd) (g0 h : H) (hr0 : IsRd g0 h b s st0) (ha0 : st0.at' ≤ s.length) (ST : Rd) (hf0 : remarksS s f0 st0 = some ST) (K : Value → H → Prop)
    (hk : ∀ v h', IsRd g0 h' b s ST → ST.at' ≤ s.length → Keep b h h' → K v h') : CallP E 27 [.pointer (some ⟨b, 0, none⟩)] h K := by
  have T : TyOk E.P := by rw [hE]; exact tyOk
  have R : RdOk E.P := by rw [hE]; exact rdOk
  have n1 := fun st h hr ha K hk => xBlanks hE b s (by omega) st g0 h hr ha K hk
  have n2 := fun st h hr ha K hk => nRest hE b s st g0 h hr ha K hk
  have n3 := fun st a e h hr K hk => nFails hE b s st a e g0 h hr K hk
  have n4 := fun p hp st h hr ha K hk => xIs hE b s p hp (by omega) st g0 h hr ha K hk
  have n5 := fun l h K hk => nPrefix hE l [60, 33, 45, 45] (by simp) h K hk
  have n6 := fun l hl h K hk => cut2Y hE l hl h K hk
  have n7 := fun l hl h K hk => replY hE l hl h K hk
  have n8 := fun l hl h K hk => yUnesc hE l hl h K hk
  refine CallP.ofXE hE rfl Tryz.func27 rfl (Nat.le_of_ble_eq_true rfl) ?_
  clear hE
  cbv
  refine LoopP.onX (fun x : H × Rd × Nat => [(0, .pointer (some ⟨b, 0, none⟩))]) (fun x => x.1) (fun x => IsRd g0 x.1 b s x.2.1 ∧ Keep b h x.1 ∧ x.2.1.at' ≤ s.length ∧ remarksS s x.2.2 x.2.1 = some ST) (fun x => x.2.2) (h, st0, f0) rfl (Less.cons rfl (Less.nil _)) ⟨hr0, Keep.refl b h, ha0, hf0⟩ ?_
  rintro ⟨m, st, f⟩ ⟨j1, j2, j3, j4⟩
  have i1 : IsRd g0 m b s st := j1
  have i2 : Keep b h m := j2
  have i3 : st.at' ≤ s.length := j3
  have i4 : remarksS s f st = some ST := j4
  clear j1 j2 j3 j4
  cases f with
  | zero => cases i4
  | succ f =>
  have hbl := blanks_le i3
  unfold remarksS at i4
  cbv
  refine .inl (n1 st _ i1 i3 _ (fun m1 r1 k1 => ?_))
  generalize blanksN s st = n at hbl i4 r1
  simp only at i4
  generalize goS n st = st1 at hbl i4 r1
  have L1 := ld_one (P := E.P) (i := 1) T.iA T.iS (read_cells r1.ex rfl) rfl
  have n5 := fun h K hk => n5 (restS s st1) h K hk
  rw [show (([60, 33, 45, 45] : Bs).length) = 4 from rfl] at n5
  by_cases hp : (restS s st1).take 4 = [60, 33, 45, 45]
  · have hi : isS s [60, 33, 45, 45] st1 = (true, goS 4 st1) := by
      unfold isS
      exact if_pos hp
    have hil := is_le (p := [60, 33, 45, 45]) hbl
    rw [hi] at i4 hil
    simp only at i4
    have hil : (goS 4 st1).at' ≤ s.length := hil
    have n4a := n4 [60, 33, 45, 45] (by simp) st1
    rw [hi] at n4a
    generalize goS 4 st1 = st2 at i4 hil n4a
    obtain ⟨w, y, z, hV, hwl, hz⟩ := cut2V_parts (restS s st2)
    have hrl := rest_le s st2
    have n6 := fun h K hk => n6 (restS s st2) (by omega) h K hk
    rw [hV] at n6
    have n7 := fun h K hk => n7 w (by split at hwl <;> omega) h K hk
    have hfl : (w.filter (· ≠ 38)).length ≤ w.length := List.length_filter_le _ _
    have n8 := fun h K hk => n8 (w.filter (· ≠ 38)) (by split at hwl <;> omega) h K hk
    by_cases hn : 0 < n
    · rw [decide_eq_true hn]
      cbv
      refine ⟨1, R.r1, ?_⟩
      cbv
      refine ⟨_, L1, ?_⟩
      cbv
      refine .inl (n4a _ r1 hbl _ (fun m4 r4 k4 => ?_))
      cbv
      refine .inl (n2 st2 _ r4 hil _ (fun m5 r5 k5 => ?_))
      cbv
      refine .inl (n6 _ _ ?_)
      cbv
      refine .inl (n7 _ _ ?_)
      cbv
      have k5' := i2.trans (k1.trans (k4.trans k5))
      cases hu : unescape (w.filter (· ≠ 38)) with
      | none =>
        have hST : failS st1.at' 2 st2 = ST := by
          rcases hz with ⟨_, hc⟩ | ⟨_, hc⟩
          · rw [hc] at i4
            simp only [hu] at i4
            simpa using i4
          · rw [hc] at i4
            simpa using i4
        subst hST
        rw [hu, show optV none = .tuple #[.string ⟨⟨[]⟩⟩, .bool false] from rfl] at n8
        refine .inl (n8 _ _ ?_)
        cases z
        · cbv
          refine .inl (n3 st2 st1.at' 2 _ r5 _ (fun v m6 r6 k6 => ?_))
          cbv
          exact ⟨_, rfl, hk _ _ r6 (by rw [fail_at]; exact hil) (k5'.trans k6)⟩
        · cbv
          refine .inl (n3 st2 st1.at' 2 _ r5 _ (fun v m6 r6 k6 => ?_))
          cbv
          exact ⟨_, rfl, hk _ _ r6 (by rw [fail_at]; exact hil) (k5'.trans k6)⟩
      | some u =>
        rw [hu, show optV (some u) = .tuple #[.string ⟨⟨u⟩⟩, .bool true] from rfl] at n8
        refine .inl (n8 _ _ ?_)
        rcases hz with ⟨rfl, hc⟩ | ⟨rfl, hc⟩
        · rw [hc] at i4
          simp only [hu, Option.isSome_some, if_true] at i4
          have hwl : w.length + 2 ≤ (restS s st2).length := by simpa using hwl
          have L2 := ld_one (P := E.P) (i := 1) T.iA T.iS (read_cells r5.ex rfl) rfl
          have r6 := r5.put (st' := goS w.length st2)
          have S1 : m5.store E.P 3 ⟨b, 1, none⟩ (.int .i64 (.ofNat (st2.at' + w.length))) = some (m5.put b (some (rdO s (goS w.length st2)))) := (st_one (P := E.P) (v := .int .i64 (.ofNat (st2.at' + w.length))) (i := 1) T.iS r5.ex (by simp) rfl rfl).trans rfl
          have k6 : Keep b h (m5.put b (some (rdO s (goS w.length st2)))) := k5'.put _
          generalize m5.put b (some (rdO s (goS w.length st2))) = m6 at S1 r6 k6
          have h6 : (goS w.length st2).at' ≤ s.length := by show st2.at' + w.length ≤ s.length; omega
          cbv
          refine ⟨1, R.r1, ?_⟩
          cbv
          refine ⟨_, L2, ?_⟩
          cbv
          refine And.intro T.str (And.intro (by show st2.at' + w.length ≤ _; omega) ?_)
          refine ⟨1, R.r1, ?_⟩
          cbv
          refine ⟨_, S1, ?_⟩
          generalize goS w.length st2 = st3 at r6 h6 i4
          have h7 := is_le (p := [45, 45, 62]) h6
          have n4b := n4 [45, 45, 62] (by simp) st3
          obtain ⟨zz, st4, hzz⟩ : ∃ z st', isS s [45, 45, 62] st3 = (z, st') := ⟨_, _, rfl⟩
          rw [hzz] at i4 h7 n4b
          have h7 : st4.at' ≤ s.length := h7
          cbv
          refine .inl (n4b _ r6 h6 _ (fun m7 r7 k7 => ?_))
          cases zz
          · simp only at i4
            cbv
            refine .inl (n3 st4 st1.at' 2 _ r7 _ (fun v m8 r8 k8 => ?_))
            cbv
            exact ⟨(m8, failS st1.at' 2 st4, f), Less.cons rfl (Less.nil _), rfl, ⟨r8, k6.trans (k7.trans k8), by rw [fail_at]; exact h7, i4⟩, Nat.lt_succ_self _⟩
          · simp only at i4
            cbv
            exact ⟨(m7, st4, f), Less.cons rfl (Less.nil _), rfl, ⟨r7, k6.trans k7, h7, i4⟩, Nat.lt_succ_self _⟩
        · rw [hc] at i4
          have hST : failS st1.at' 2 st2 = ST := by simpa using i4
          subst hST
          cbv
          refine .inl (n3 st2 st1.at' 2 _ r5 _ (fun v m6 r6 k6 => ?_))
          cbv
          exact ⟨_, rfl, hk _ _ r6 (by rw [fail_at]; exact hil) (k5'.trans k6)⟩
    · rw [decide_eq_false hn]
      rw [decide_eq_true hp] at n5
      cbv
      refine .inl (n2 st1 _ r1 hbl _ (fun m2 r2 k2 => ?_))
      cbv
      refine .inl (n5 _ _ (fun m3 e1 e2 e3 => ?_))
      have r3 : IsRd g0 m3 b s st1 := r2.re e1 e2 (r2.gr.trans e3)
      have k3 := k1.trans (k2.trans (.of e3))
      have L1 := ld_one (P := E.P) (i := 1) T.iA T.iS (read_cells r3.ex rfl) rfl
      clear r1 k1 r2 k2 e1 e2 e3
      have r1 := r3
      have k1 := k3
      cbv
      refine ⟨1, R.r1, ?_⟩
      cbv
      refine ⟨_, L1, ?_⟩
      cbv
      refine .inl (n4a _ r1 hbl _ (fun m4 r4 k4 => ?_))
      cbv
      refine .inl (n2 st2 _ r4 hil _ (fun m5 r5 k5 => ?_))
      cbv
      refine .inl (n6 _ _ ?_)
      cbv
      refine .inl (n7 _ _ ?_)
      cbv
      have k5' := i2.trans (k1.trans (k4.trans k5))
      cases hu : unescape (w.filter (· ≠ 38)) with
      | none =>
        have hST : failS st1.at' 2 st2 = ST := by
          rcases hz with ⟨_, hc⟩ | ⟨_, hc⟩
          · rw [hc] at i4
            simp only [hu] at i4
            simpa using i4
          · rw [hc] at i4
            simpa using i4
        subst hST
        rw [hu, show optV none = .tuple #[.string ⟨⟨[]⟩⟩, .bool false] from rfl] at n8
        refine .inl (n8 _ _ ?_)
        cases z
        · cbv
          refine .inl (n3 st2 st1.at' 2 _ r5 _ (fun v m6 r6 k6 => ?_))
          cbv
          exact ⟨_, rfl, hk _ _ r6 (by rw [fail_at]; exact hil) (k5'.trans k6)⟩
        · cbv
          refine .inl (n3 st2 st1.at' 2 _ r5 _ (fun v m6 r6 k6 => ?_))
          cbv
          exact ⟨_, rfl, hk _ _ r6 (by rw [fail_at]; exact hil) (k5'.trans k6)⟩
      | some u =>
        rw [hu, show optV (some u) = .tuple #[.string ⟨⟨u⟩⟩, .bool true] from rfl] at n8
        refine .inl (n8 _ _ ?_)
        rcases hz with ⟨rfl, hc⟩ | ⟨rfl, hc⟩
        · rw [hc] at i4
          simp only [hu, Option.isSome_some, if_true] at i4
          have hwl : w.length + 2 ≤ (restS s st2).length := by simpa using hwl
          have L2 := ld_one (P := E.P) (i := 1) T.iA T.iS (read_cells r5.ex rfl) rfl
          have r6 := r5.put (st' := goS w.length st2)
          have S1 : m5.store E.P 3 ⟨b, 1, none⟩ (.int .i64 (.ofNat (st2.at' + w.length))) = some (m5.put b (some (rdO s (goS w.length st2)))) := (st_one (P := E.P) (v := .int .i64 (.ofNat (st2.at' + w.length))) (i := 1) T.iS r5.ex (by simp) rfl rfl).trans rfl
          have k6 : Keep b h (m5.put b (some (rdO s (goS w.length st2)))) := k5'.put _
          generalize m5.put b (some (rdO s (goS w.length st2))) = m6 at S1 r6 k6
          have h6 : (goS w.length st2).at' ≤ s.length := by show st2.at' + w.length ≤ s.length; omega
          cbv
          refine ⟨1, R.r1, ?_⟩
          cbv
          refine ⟨_, L2, ?_⟩
          cbv
          refine And.intro T.str (And.intro (by show st2.at' + w.length ≤ _; omega) ?_)
          refine ⟨1, R.r1, ?_⟩
          cbv
          refine ⟨_, S1, ?_⟩
          generalize goS w.length st2 = st3 at r6 h6 i4
          have h7 := is_le (p := [45, 45, 62]) h6
          have n4b := n4 [45, 45, 62] (by simp) st3
          obtain ⟨zz, st4, hzz⟩ : ∃ z st', isS s [45, 45, 62] st3 = (z, st') := ⟨_, _, rfl⟩
          rw [hzz] at i4 h7 n4b
          have h7 : st4.at' ≤ s.length := h7
          cbv
          refine .inl (n4b _ r6 h6 _ (fun m7 r7 k7 => ?_))
          cases zz
          · simp only at i4
            cbv
            refine .inl (n3 st4 st1.at' 2 _ r7 _ (fun v m8 r8 k8 => ?_))
            cbv
            exact ⟨(m8, failS st1.at' 2 st4, f), Less.cons rfl (Less.nil _), rfl, ⟨r8, k6.trans (k7.trans k8), by rw [fail_at]; exact h7, i4⟩, Nat.lt_succ_self _⟩
          · simp only at i4
            cbv
            exact ⟨(m7, st4, f), Less.cons rfl (Less.nil _), rfl, ⟨r7, k6.trans k7, h7, i4⟩, Nat.lt_succ_self _⟩
        · rw [hc] at i4
          have hST : failS st1.at' 2 st2 = ST := by simpa using i4
          subst hST
          cbv
          refine .inl (n3 st2 st1.at' 2 _ r5 _ (fun v m6 r6 k6 => ?_))
          cbv
          exact ⟨_, rfl, hk _ _ r6 (by rw [fail_at]; exact hil) (k5'.trans k6)⟩
  · have hi : isS s [60, 33, 45, 45] st1 = (false, st1) := by
      unfold isS
      exact if_neg hp
    rw [hi] at i4
    simp only at i4
    have n4a := n4 [60, 33, 45, 45] (by simp) st1
    rw [hi] at n4a
    by_cases hn : 0 < n
    · rw [decide_eq_true hn]
      rw [if_neg (by omega)] at i4
      cbv
      refine ⟨1, R.r1, ?_⟩
      cbv
      refine ⟨_, L1, ?_⟩
      cbv
      refine .inl (n4a _ r1 hbl _ (fun m2 r2 k2 => ?_))
      cbv
      refine ⟨(m2, st1, f), Less.cons rfl (Less.nil _), rfl, ⟨r2, i2.trans (k1.trans k2), hbl, i4⟩, Nat.lt_succ_self _⟩
    · rw [decide_eq_false hn]
      rw [if_pos (by omega)] at i4
      obtain rfl : st1 = ST := by simpa using i4
      cbv
      refine .inl (n2 st1 _ r1 hbl _ (fun m2 r2 k2 => ?_))
      cbv
      rw [decide_eq_false hp] at n5
      refine .inl (n5 _ _ (fun m3 e1 e2 e3 => ?_))
      have r3 : IsRd g0 m3 b s st1 := r2.re e1 e2 (r2.gr.trans e3)
      cbv
      exact ⟨_, rfl, hk _ _ r3 hbl (i2.trans (k1.trans (k2.trans (.of e3))))⟩
end
end Go.Proofs.YtfgemjpoiconbaaGreatDoor.GEv

