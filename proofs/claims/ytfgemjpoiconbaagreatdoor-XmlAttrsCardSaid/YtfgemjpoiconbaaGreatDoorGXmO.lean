import Derived.Test.YtfgemjpoiconbaaGreatDoorGXmH
import Derived.Test.YtfgemjpoiconbaaGreatDoorGNmK
/- 'fair', by a symbolic run. -/
namespace Go.Proofs.YtfgemjpoiconbaaGreatDoor.GEv
open Go
set_option linter.unusedSimpArgs false
set_option linter.unusedVariables false
set_option maxRecDepth 100000
attribute [local cbv_opaque] isString isSlice isBoolT fOff iSize eqNil zero H.load H.store H.push H.dip H.put List.length List.getD Nat.add Nat.sub Nat.mul List.take List.drop top Addr.add dupA isQual signs
attribute [local cbv_eval] List.length_cons List.length_nil addr_add
end Go.Proofs.YtfgemjpoiconbaaGreatDoor.GEv

/- The reference's 'Print', by a symbolic run. -/
namespace Go.Proofs.YtfgemjpoiconbaaGreatDoor.GEv
open Go
set_option linter.unusedSimpArgs false
set_option linter.unusedVariables false
set_option maxRecDepth 100000
theorem CallP.ofXE {E E' : Env} {f : FuncId} {fn : Func} {c : Code} {args : List Value} {h : H} {K : Value → H → Prop} (hE : E = E') (hm : memoOf E'.memo f args = none) (hf : E'.P.funcs[f]? = some fn) (hb : fn.body = some c) (hl : args.length ≤ fn.ntmps)
    (hk : syX E fn.ntmps c (argsL 0 args) h (retL E.P fn.results.toList K) (retL E.P fn.results.toList K) (fun _ _ _ => False)) : CallP E f args h K := CallP.ofX (by rw [hE]; exact hm) (by rw [hE]; exact hf) hb hl hk
theorem ld_at {P : Program} {h h' : H} {t : TypeId} {b o : Nat} {v : Value} (hl : h.load P t ⟨b, o, none⟩ = some v) (hm : h'.m = h.m) : h'.load P t ⟨b, o, none⟩ = some v := by
  unfold H.load H.read at hl ⊢
  rw [hm]
  exact hl
theorem Grows.mixTop {g h : H} (k : Grows g h) : Grows g (mixH h ⟨h.m, h.next, top h.next⟩) := k.dip
theorem le_of {a b : Nat} (h : a ≤ b) : Nat.le a b := h
theorem DrawP.free {E : Env} {nt : Nat} {id : Nat} {ops : Array Oper} {l : L} {h : H} {kn : L → H → Prop} (hl : Region.lexB .any ops = true) (hs : ∀ bef, syDX E nt ops.toList bef ops.toList 0 [] l h kn) : DrawP E nt id ops l h kn := DrawP.of _ rfl hl (hs _)
/-! ### how long a text is -/
theorem attrT_len {x : Bs × Bs} (h : x.1.length ≤ 10000 ∧ x.2.length ≤ 10000) : (attrT x).length ≤ 80000 := by
  have := escape_len true x.2
  simp only [attrT, List.length_append, List.length_cons, List.length_nil]
  omega
theorem attrsT_len : ∀ (l : List (Bs × Bs)), (∀ x ∈ l, x.1.length ≤ 10000 ∧ x.2.length ≤ 10000) → (l.flatMap attrT).length ≤ 80000 * l.length
  | [], _ => by simp
  | x :: l, h => by
    have h1 := attrT_len (h x (List.mem_cons_self ..))
    have h2 := attrsT_len l (fun y hy => h y (List.mem_cons_of_mem _ hy))
    simp only [List.flatMap_cons, List.length_append, List.length_cons]
    omega
mutual
theorem printE_len : ∀ (e : El), Small e → (printE e).length ≤ 100000000 * szE e
  | .mk n a [] p, h => by
    cases h with
    | mk hn ha hx hk hs =>
    have := attrsT_len a hx
    simp only [printE, szE, szK, List.length_append, List.length_cons, List.length_nil]
    omega
  | .mk n a (k :: ks) p, h => by
    cases h with
    | mk hn ha hx hk hs =>
    have := attrsT_len a hx
    have := printL_len (k :: ks) hs
    simp only [printE, szE, List.length_append, List.length_cons, List.length_nil] at this ⊢
    omega
theorem printL_len : ∀ (k : List El), (∀ e ∈ k, Small e) → (printL k).length ≤ 100000000 * szK k
  | [], _ => by simp [printL]
  | k :: ks, h => by
    have h1 := printE_len k (h k (List.mem_cons_self ..))
    have h2 := printL_len ks (fun y hy => h y (List.mem_cons_of_mem _ hy))
    simp only [printL, szK, List.length_append]
    omega
end
theorem printL_append : ∀ (a b : List El), printL (a ++ b) = printL a ++ printL b
  | [], b => by simp [printL]
  | k :: ks, b => by simp [printL, printL_append ks b]
theorem printL_take {l : List El} {i : Nat} {e : El} (hi : l[i]? = some e) : printL (l.take (i + 1)) = printL (l.take i) ++ printE e := by
  have hlt := (List.getElem?_eq_some_iff.1 hi).1
  have he := (List.getElem?_eq_some_iff.1 hi).2
  rw [List.take_succ_eq_append_getElem hlt, he, printL_append]
  simp [printL]
theorem attrsT_take {l : List (Bs × Bs)} {i : Nat} {x : Bs × Bs} (hi : l[i]? = some x) : (l.take (i + 1)).flatMap attrT = (l.take i).flatMap attrT ++ attrT x := by
  have hlt := (List.getElem?_eq_some_iff.1 hi).1
  have he := (List.getElem?_eq_some_iff.1 hi).2
  rw [List.take_succ_eq_append_getElem hlt, he]
  simp
theorem szK_take : ∀ (l : List El) (i : Nat), szK (l.take i) ≤ szK l
  | [], i => by simp
  | k :: l, 0 => by simp [szK]
  | k :: l, i + 1 => by
    have := szK_take l i
    simp only [List.take_succ_cons, szK]
    omega
attribute [local cbv_opaque] isString isSlice isBoolT fOff iSize eqNil zero H.load H.store H.push H.dip H.put List.length Nat.add Nat.sub Nat.mul List.take List.drop top Addr.add escape printE printL List.append attrT List.flatMap mixH
attribute [local cbv_eval] List.length_cons List.length_nil addr_add mixH_top
theorem rPrint {E : Env} (hE : E = EMY) : ∀ (n : Nat) (e : El), szE e ≤ n → szE e ≤ 1000 → Small e → ∀ (c : List Value) (h : H) (S : Nat → Prop), IsEl h S e c → ∀ (K : Value → H → Prop), (∀ h', Grows h h' → K (.string ⟨⟨printE e⟩⟩) h') →
    CallP E 17 [.agg c.toArray] h K := by
  intro n
  induction n with
  | zero => intro e he; cases e; simp only [szE] at he; omega
  | succ n ih =>
  intro e he hz hbig c h S hi K hk
  obtain ⟨va, vk, rfl, hat, a, cap, rfl, hkr⟩ := hi.parts
  obtain ⟨nm, at0, kd, p⟩ := e
  have hat : IsAt h S at0 va := hat
  obtain ⟨aa, acap, rfl, har⟩ := hat
  cases hbig with
  | mk hbn hba hbx hbk hbs =>
  have T : TyOk E.P := by rw [hE]; exact tyOk
  refine CallP.ofXE hE rfl Tryz.func17 rfl (Nat.le_of_ble_eq_true rfl) ?_
  have ih := fun e h1 h2 h7 c h S h3 K h6 => ih e h1 h2 h7 c h S h3 K h6
  have nE := fun l a hl h K hk => yrEsc hE l a hl h K hk
  clear hE
  have G : (h.push (.cells [.string ⟨⟨nm⟩⟩, .slice aa at0.length acap, .slice a kd.length cap, .int .i64 p] (some 25) true 0)).m.get h.next = some (.cells [.string ⟨⟨nm⟩⟩, .slice aa at0.length acap, .slice a kd.length cap, .int .i64 p] (some 25) true 0) := by rw [push_get, if_pos rfl]
  have GG := (Grows.refl h).push (.cells [.string ⟨⟨nm⟩⟩, .slice aa at0.length acap, .slice a kd.length cap, .int .i64 p] (some 25) true 0)
  have GN : h.next < (h.push (.cells [.string ⟨⟨nm⟩⟩, .slice aa at0.length acap, .slice a kd.length cap, .int .i64 p] (some 25) true 0)).next := Nat.lt_succ_self _
  have hkr : (kd = [] ∧ NoSpot a) ∨ ∃ b off, ∃ d : Nat → List Value, a = some ⟨b, off, none⟩ ∧ S b ∧ b < h.next ∧ (∀ i, i < kd.length → h.read b (off + i * 4) 4 = some (d i)) ∧ ∀ i x, kd[i]? = some x → IsEl h S x (d i) := hkr
  have L0 := ld_one (P := E.P) (i := 0) T.sA T.sS (read_cells G rfl) rfl
  clear hat hi
  cbv
  refine ⟨0, T.e0, ?_⟩
  cbv
  refine ⟨_, L0, ?_⟩
  cbv
  generalize h.push (.cells [.string ⟨⟨nm⟩⟩, .slice aa at0.length acap, .slice a kd.length cap, .int .i64 p] (some 25) true 0) = g at G GG GN L0 ⊢
  have B := read_cells G rfl
  refine And.intro (by show 1 + nm.length ≤ _; omega) ?_
  have e0 : ([60] : Bs).append nm = [60] ++ nm ++ (at0.take 0).flatMap attrT := by simp
  rw [e0]
  refine LoopP.onX (fun x : H × Nat × Bs => [(4, .int .i64 (.ofNat x.2.1)), (3, .string ⟨⟨x.2.2⟩⟩), (1, .pointer (some ⟨h.next, 0, none⟩))]) (fun x => x.1) (fun x => Grows g x.1 ∧ x.2.1 ≤ at0.length ∧ x.2.2 = [60] ++ nm ++ (at0.take x.2.1).flatMap attrT) (fun x => at0.length - x.2.1) (g, 0, [60] ++ nm ++ (at0.take 0).flatMap attrT) rfl (Less.cons rfl (Less.cons rfl (Less.cons rfl (Less.nil _)))) ⟨Grows.refl g, Nat.zero_le _, rfl⟩ ?_
  rintro ⟨m, i, t⟩ ⟨i0, i1, i2⟩
  have i0 : Grows g m := i0
  have i1 : i ≤ at0.length := i1
  have i2 : t = [60] ++ nm ++ (at0.take i).flatMap attrT := i2
  have htl : t.length ≤ 100000000 := by
    have := attrsT_len (at0.take i) (fun x hx => hbx x (List.mem_of_mem_take hx))
    rw [i2]
    simp only [List.length_append, List.length_take, List.length_cons, List.length_nil] at this ⊢
    omega
  have L1 := ld_one (P := E.P) (i := 1) T.lA T.lS (i0.read B GN) rfl
  have hbn1 : Nat.le (Nat.add i 1) 4611686018427387904 := by show i + 1 ≤ _; omega
  by_cases hil : i < at0.length
  · obtain ⟨⟨xn, xv⟩, hx⟩ : ∃ x, at0[i]? = some x := ⟨_, List.getElem?_eq_getElem hil⟩
    have har : ∃ b off, aa = some ⟨b, off, none⟩ ∧ S b ∧ b < h.next ∧ ∀ i x, at0[i]? = some x → h.read b (off + i * 2) 2 = some (attrC x) := by
      rcases har with ⟨rfl, _⟩ | q
      · simp at hil
      · exact q
    obtain ⟨b, off, rfl, _, hb, hrd⟩ := har
    have R := i0.read (GG.read (hrd i _ hx) hb) (Nat.lt_of_lt_of_le hb GG.next)
    have A0 := ld_one (P := E.P) (i := 0) T.sA T.sS R rfl
    have A1 := ld_one (P := E.P) (i := 1) T.sA T.sS R rfl
    obtain ⟨hx1, hx2⟩ := hbx _ (List.mem_of_getElem? hx)
    have hx1 : xn.length ≤ 10000 := hx1
    have hx2 : xv.length ≤ 10000 := hx2
    have htk := attrsT_take hx
    cbv
    refine ⟨1, T.e1, ?_⟩
    cbv
    refine ⟨_, L1, ?_⟩
    cbv
    refine And.intro T.lT ?_
    refine And.intro (fun _ => ?_) (fun e => absurd hil (Nat.not_lt.2 e))
    cbv
    have Mq : m.m = m.m ∧ Grows g m := ⟨rfl, i0⟩
    refine DrawP.free (by kernel_rfl) (fun bef => ?_)
    cbv
    refine And.intro (by show t.length + 1 ≤ _; omega) ?_
    refine ⟨1, T.e1, ?_⟩
    cbv
    refine ⟨_, ld_at L1 Mq.1, ?_⟩
    cbv
    refine FitP.stay (f := (.rd (some h.next))) rfl rfl ?_
    generalize hM : mixH _ _ = M'
    have Mq' : M'.m = m.m ∧ Grows g M' := by
      subst hM
      refine ⟨Mq.1, ?_⟩
      apply Grows.mixTop
      repeat first | exact Mq.2 | apply Grows.dip
    clear hM Mq
    revert M'
    intro M Mq
    cbv
    refine ⟨2, T.lZ, hil, ?_⟩
    cbv
    refine ⟨0, T.a0, ?_⟩
    cbv
    refine ⟨_, ld_at A0 Mq.1, ?_⟩
    cbv
    refine FitP.stay (f := (.rd (some b))) rfl rfl ?_
    generalize hM : mixH _ _ = M'
    have Mq' : M'.m = m.m ∧ Grows g M' := by
      subst hM
      refine ⟨Mq.1, ?_⟩
      apply Grows.mixTop
      repeat first | exact Mq.2 | apply Grows.dip
    clear hM Mq
    revert M'
    intro M Mq
    cbv
    have hel := escape_len true xv
    refine And.intro (by refine le_of ?_; simp only [List.append_eq, List.length_append, List.length_cons, List.length_nil, Nat.add_eq]; omega) (And.intro (by refine le_of ?_; simp only [List.append_eq, List.length_append, List.length_cons, List.length_nil, Nat.add_eq]; omega) ?_)
    refine ⟨1, T.e1, ?_⟩
    cbv
    refine ⟨_, ld_at L1 Mq.1, ?_⟩
    cbv
    refine FitP.stay (f := (.rd (some h.next))) rfl rfl ?_
    generalize hM : mixH _ _ = M'
    have Mq' : M'.m = m.m ∧ Grows g M' := by
      subst hM
      refine ⟨Mq.1, ?_⟩
      apply Grows.mixTop
      repeat first | exact Mq.2 | apply Grows.dip
    clear hM Mq
    revert M'
    intro M Mq
    cbv
    refine ⟨2, T.lZ, hil, ?_⟩
    cbv
    refine ⟨1, T.a1, ?_⟩
    cbv
    refine ⟨_, ld_at A1 Mq.1, ?_⟩
    cbv
    refine FitP.stay (f := (.rd (some b))) rfl rfl ?_
    generalize hM : mixH _ _ = M'
    have Mq' : M'.m = m.m ∧ Grows g M' := by
      subst hM
      refine ⟨Mq.1, ?_⟩
      apply Grows.mixTop
      repeat first | exact Mq.2 | apply Grows.dip
    clear hM Mq
    revert M'
    intro M Mq
    cbv
    refine .inl (nE xv true (by omega) _ _ ?_)
    refine FitP.stay (f := (.rd none)) rfl rfl ?_
    generalize hM : mixH _ _ = M'
    have Mq' : M'.m = m.m ∧ Grows g M' := by
      subst hM
      refine ⟨Mq.1, ?_⟩
      apply Grows.mixTop
      repeat first | exact Mq.2 | apply Grows.dip
    clear hM Mq
    revert M'
    intro M Mq
    cbv
    refine And.intro (by refine le_of ?_; simp only [List.append_eq, List.length_append, List.length_cons, List.length_nil, Nat.add_eq]; omega) (And.intro (by refine le_of ?_; simp only [List.append_eq, List.length_append, List.length_cons, List.length_nil, Nat.add_eq]; omega) (And.intro hbn1 ?_))
    refine ⟨(M.dip.dip.dip, i + 1, _), Less.cons rfl (Less.cons rfl (Less.cons rfl (Less.nil _))), rfl, ⟨Mq.2.dip.dip.dip, hil, ?_⟩, (by show at0.length - (i + 1) < at0.length - i; omega)⟩
    show _ = [60] ++ nm ++ (at0.take (i + 1)).flatMap attrT
    rw [htk, i2]
    simp [attrT]
  · have e1 : at0.take i = at0 := List.take_of_length_le (by omega)
    rw [e1] at i2
    cbv
    refine ⟨1, T.e1, ?_⟩
    cbv
    refine ⟨_, L1, ?_⟩
    cbv
    refine And.intro T.lT ?_
    refine And.intro (fun e => absurd e hil) (fun _ => ?_)
    cbv
    have L2 := ld_one (P := E.P) (i := 2) T.kA T.kS (i0.read B GN) rfl
    refine ⟨2, T.e2, ?_⟩
    cbv
    refine ⟨_, L2, ?_⟩
    cbv
    refine And.intro T.kT ?_
    refine And.intro (fun hk0 => ?_) (fun hk0 => ?_)
    · obtain rfl : kd = [] := List.eq_nil_of_length_eq_zero hk0
      have hp : printE (.mk nm at0 [] p) = t ++ [47, 62] := by rw [i2]; simp [printE]
      rw [hp] at hk
      cbv
      refine And.intro (by refine le_of ?_; simp only [List.append_eq, List.length_append, List.length_cons, List.length_nil, Nat.add_eq]; omega) ?_
      exact ⟨_, rfl, hk _ (GG.trans i0)⟩
    have hp : printE (.mk nm at0 kd p) = t ++ [62] ++ printL kd ++ ([60, 47] ++ nm ++ [62]) := by
      cases kd with
      | nil => exact absurd rfl hk0
      | cons k ks => rw [i2]; simp [printE]
    rw [hp] at hk
    cbv
    refine And.intro (by refine le_of ?_; simp only [List.append_eq, List.length_append, List.length_cons, List.length_nil, Nat.add_eq]; omega) ?_
    have e2 : t.append [62] = t ++ [62] ++ printL (kd.take 0) := by simp [printL]
    rw [e2]
    refine LoopP.onX (fun x : H × Nat × Bs => [(5, .int .i64 (.ofNat x.2.1)), (3, .string ⟨⟨x.2.2⟩⟩), (1, .pointer (some ⟨h.next, 0, none⟩))]) (fun x => x.1) (fun x => Grows g x.1 ∧ x.2.1 ≤ kd.length ∧ x.2.2 = t ++ [62] ++ printL (kd.take x.2.1)) (fun x => kd.length - x.2.1) (m, 0, t ++ [62] ++ printL (kd.take 0)) rfl (Less.cons rfl (Less.cons rfl (Less.cons rfl (Less.nil _)))) ⟨i0, Nat.zero_le _, rfl⟩ ?_
    clear i0 i1 i2 L1 L2 hil hbn1 e2
    rintro ⟨m, i, u⟩ ⟨i0, i1, i2⟩
    have i0 : Grows g m := i0
    have i1 : i ≤ kd.length := i1
    have i2 : u = t ++ [62] ++ printL (kd.take i) := i2
    have hzk : szK kd ≤ 1000 := by simp only [szE] at hz; omega
    have hul : u.length ≤ 200000000000 := by
      have h1 := printL_len (kd.take i) (fun x hx => hbs x (List.mem_of_mem_take hx))
      have h2 := szK_take kd i
      rw [i2]
      simp only [List.length_append, List.length_cons, List.length_nil] at h1 ⊢
      omega
    have L2 := ld_one (P := E.P) (i := 2) T.kA T.kS (i0.read B GN) rfl
    have hbn1 : Nat.le (Nat.add i 1) 4611686018427387904 := by show i + 1 ≤ _; omega
    by_cases hil : i < kd.length
    · obtain ⟨x, hx⟩ : ∃ x, kd[i]? = some x := ⟨_, List.getElem?_eq_getElem hil⟩
      have hkr : ∃ b off, ∃ d : Nat → List Value, a = some ⟨b, off, none⟩ ∧ S b ∧ b < h.next ∧ (∀ i, i < kd.length → h.read b (off + i * 4) 4 = some (d i)) ∧ ∀ i x, kd[i]? = some x → IsEl h S x (d i) := by
        rcases hkr with ⟨rfl, _⟩ | q
        · simp at hil
        · exact q
      obtain ⟨b, off, c, rfl, _, hb, hrd, hie⟩ := hkr
      have R := i0.read (GG.read (hrd i hil) hb) (Nat.lt_of_lt_of_le hb GG.next)
      have A0 := ld_agg (P := E.P) T.eA T.eS R
      have hmem := List.mem_of_getElem? hx
      have hszm := szK_mem hmem
      have hpl := printE_len x (hbs x hmem)
      have htk := printL_take hx
      cbv
      refine ⟨2, T.e2, ?_⟩
      cbv
      refine ⟨_, L2, ?_⟩
      cbv
      refine And.intro T.kT ?_
      refine And.intro (fun _ => ?_) (fun e => absurd hil (Nat.not_lt.2 e))
      cbv
      refine ⟨2, T.e2, ?_⟩
      cbv
      refine ⟨_, L2, ?_⟩
      cbv
      refine ⟨4, T.kZ, hil, ?_⟩
      cbv
      refine ⟨_, A0, ?_⟩
      cbv
      refine .inl (ih x (by simp only [szE] at he; omega) (by omega) (hbs x hmem) (c i) m S ((hie i x hx).grows (GG.trans i0)) _ (fun m3 g3 => ?_))
      cbv
      refine And.intro (by refine le_of ?_; simp only [List.append_eq, List.length_append, List.length_cons, List.length_nil, Nat.add_eq]; omega) (And.intro hbn1 ?_)
      refine ⟨(m3, i + 1, _), Less.cons rfl (Less.cons rfl (Less.cons rfl (Less.nil _))), rfl, ⟨i0.trans g3, hil, ?_⟩, (by show kd.length - (i + 1) < kd.length - i; omega)⟩
      show _ = t ++ [62] ++ printL (kd.take (i + 1))
      rw [htk, i2]
      simp
    · have e1 : kd.take i = kd := List.take_of_length_le (by omega)
      rw [e1] at i2
      rw [← i2] at hk
      have L0 := ld_one (P := E.P) (i := 0) T.sA T.sS (i0.read B GN) rfl
      cbv
      refine ⟨2, T.e2, ?_⟩
      cbv
      refine ⟨_, L2, ?_⟩
      cbv
      refine And.intro T.kT ?_
      refine And.intro (fun e => absurd e hil) (fun _ => ?_)
      cbv
      refine And.intro (by refine le_of ?_; simp only [List.append_eq, List.length_append, List.length_cons, List.length_nil, Nat.add_eq]; omega) ?_
      refine ⟨0, T.e0, ?_⟩
      cbv
      refine ⟨_, L0, ?_⟩
      cbv
      refine And.intro (by refine le_of ?_; simp only [List.append_eq, List.length_append, List.length_cons, List.length_nil, Nat.add_eq]; omega) (And.intro (by refine le_of ?_; simp only [List.append_eq, List.length_append, List.length_cons, List.length_nil, Nat.add_eq]; omega) ?_)
      refine ⟨_, rfl, ?_⟩
      have hf : ((u.append [60, 47]).append nm).append [62] = u ++ ([60, 47] ++ nm ++ [62]) := by simp
      show K (.string ⟨⟨((u.append [60, 47]).append nm).append [62]⟩⟩) m
      rw [hf]
      exact hk _ (GG.trans i0)
end Go.Proofs.YtfgemjpoiconbaaGreatDoor.GEv

/- Rows of attributes compared, by symbolic runs. -/
namespace Go.Proofs.YtfgemjpoiconbaaGreatDoor.GEv
open Go
set_option linter.unusedSimpArgs false
set_option linter.unusedVariables false
set_option maxRecDepth 100000
theorem flat_attr (x y : Bs × Bs) : (flat1 (.agg (attrC x).toArray) && flat1 (.agg (attrC y).toArray)) = true := rfl
attribute [local cbv_opaque] isString isSlice isBoolT fOff iSize eqNil zero H.load H.store H.push H.dip H.put List.length Nat.add Nat.sub Nat.mul List.take List.drop top Addr.add List.append mixH attrC
attribute [local cbv_eval] List.length_cons List.length_nil addr_add mixH_top
theorem take_eq_succ {α : Type} {a b : List α} {i : Nat} {x y : α} (ha : a[i]? = some x) (hb : b[i]? = some y) (h : a.take i = b.take i) : a.take (i + 1) = b.take (i + 1) ↔ x = y := by
  obtain ⟨h1, e1⟩ := List.getElem?_eq_some_iff.1 ha
  obtain ⟨h2, e2⟩ := List.getElem?_eq_some_iff.1 hb
  rw [List.take_succ_eq_append_getElem h1, List.take_succ_eq_append_getElem h2, h, e1, e2]
  simp
theorem aS_of {E : Env} (hE : E = EMY) : E.P = Tryz.prog := by rw [hE]; rfl
section
variable {E : Env} (hE : E = EMY)
include hE
theorem rSameA (a b : List (Bs × Bs)) (ha : a.length ≤ 1000) (va vb : Value) (g : H) (S S' : Nat → Prop) (hia : IsAt g S a va) (hib : IsAt g S' b vb) (K : Value → H → Prop) (hk : ∀ h', Grows g h' → K (.bool (decide (a = b))) h') :
    CallP E 30 [va, vb] g K := by
  obtain ⟨aa, acap, rfl, har⟩ := hia
  obtain ⟨ba, bcap, rfl, hbr⟩ := hib
  have T : TyOk E.P := by rw [hE]; exact tyOk
  have hP := aS_of hE
  refine CallP.ofXE hE rfl Tryz.func30 rfl (Nat.le_of_ble_eq_true rfl) ?_
  clear hE
  cbv
  refine And.intro T.lT (And.intro T.lT ?_)
  refine And.intro (fun hl => ?_) (fun hl => ?_)
  · cbv
    have hl : a.length = b.length := hl
    refine LoopP.onX (fun x : H × Nat => [(5, .int .i64 (.ofNat x.2)), (0, .slice aa a.length acap), (1, .slice ba b.length bcap)]) (fun x => x.1) (fun x => Grows g x.1 ∧ x.2 ≤ a.length ∧ a.take x.2 = b.take x.2) (fun x => a.length - x.2) (g, 0) rfl (Less.cons rfl (Less.cons rfl (Less.cons rfl (Less.nil _)))) ⟨Grows.refl g, Nat.zero_le _, by simp⟩ ?_
    rintro ⟨m, i⟩ ⟨i0, i1, i2⟩
    have i0 : Grows g m := i0
    have i1 : i ≤ a.length := i1
    have i2 : a.take i = b.take i := i2
    have hbn1 : Nat.le (Nat.add i 1) 4611686018427387904 := by show i + 1 ≤ _; omega
    by_cases hil : i < a.length
    · have hib : i < b.length := by omega
      obtain ⟨x, hx⟩ : ∃ x, a[i]? = some x := ⟨_, List.getElem?_eq_getElem hil⟩
      obtain ⟨y, hy⟩ : ∃ x, b[i]? = some x := ⟨_, List.getElem?_eq_getElem hib⟩
      have har : ∃ b off, aa = some ⟨b, off, none⟩ ∧ S b ∧ b < g.next ∧ ∀ i x, a[i]? = some x → g.read b (off + i * 2) 2 = some (attrC x) := by
        rcases har with ⟨rfl, _⟩ | q
        · simp at hil
        · exact q
      have hbr : ∃ c off, ba = some ⟨c, off, none⟩ ∧ S' c ∧ c < g.next ∧ ∀ i x, b[i]? = some x → g.read c (off + i * 2) 2 = some (attrC x) := by
        rcases hbr with ⟨rfl, _⟩ | q
        · simp at hib
        · exact q
      obtain ⟨b1, off1, rfl, _, hb1, hrd1⟩ := har
      obtain ⟨b2, off2, rfl, _, hb2, hrd2⟩ := hbr
      have A1 := ld_agg (P := E.P) T.aA T.aS (i0.read (hrd1 i x hx) hb1)
      have A2 := ld_agg (P := E.P) T.aA T.aS (i0.read (hrd2 i y hy) hb2)
      have hst := take_eq_succ hx hy i2
      have Mq : m.m = m.m ∧ Grows g m := ⟨rfl, i0⟩
      cbv
      refine And.intro T.lT ?_
      refine And.intro (fun _ => ?_) (fun e => absurd hil (Nat.not_lt.2 e))
      cbv
      refine DrawP.free (by kernel_rfl) (fun bef => ?_)
      cbv
      refine ⟨2, T.lZ, hil, ?_⟩
      cbv
      refine ⟨_, ld_at A1 Mq.1, ?_⟩
      cbv
      refine FitP.stay (f := (.rd (some b1))) rfl rfl ?_
      generalize hM : mixH _ _ = M'
      have Mq' : M'.m = m.m ∧ Grows g M' := by
        subst hM
        refine ⟨Mq.1, ?_⟩
        apply Grows.mixTop
        repeat first | exact Mq.2 | apply Grows.dip
      clear hM Mq
      revert M'
      intro M Mq
      cbv
      refine ⟨2, T.lZ, hib, ?_⟩
      cbv
      refine ⟨_, ld_at A2 Mq.1, ?_⟩
      cbv
      refine FitP.stay (f := (.rd (some b2))) rfl rfl ?_
      generalize hM : mixH _ _ = M'
      have Mq' : M'.m = m.m ∧ Grows g M' := by
        subst hM
        refine ⟨Mq.1, ?_⟩
        apply Grows.mixTop
        repeat first | exact Mq.2 | apply Grows.dip
      clear hM Mq
      revert M'
      intro M Mq
      cbv
      refine raw_eq (v := .bool (!decide (x = y))) rfl rfl (flat_attr x y) (fun _ _ _ _ e => by cases e) (fun _ _ e => by cases e) (attr_guard hP _ _ x y) (attr_ne hP x y) rfl ?_
      by_cases hxy : x = y
      · have e1 : decide (x = y) = true := decide_eq_true hxy
        rw [e1]
        cbv
        refine And.intro hbn1 ?_
        exact ⟨(M.dip, i + 1), Less.cons rfl (Less.cons rfl (Less.cons rfl (Less.nil _))), rfl, ⟨Mq.2.dip, hil, hst.2 hxy⟩, (by show a.length - (i + 1) < a.length - i; omega)⟩
      · have e1 : decide (x = y) = false := decide_eq_false hxy
        have e2 : decide (a = b) = false := decide_eq_false (fun e => hxy (hst.1 (by rw [e])))
        rw [e2] at hk
        rw [e1]
        cbv
        exact ⟨_, rfl, hk _ Mq.2.dip⟩
    · have e2 : decide (a = b) = true := by
        rw [List.take_of_length_le (by omega), List.take_of_length_le (by omega)] at i2
        exact decide_eq_true i2
      rw [e2] at hk
      cbv
      refine And.intro T.lT ?_
      refine And.intro (fun e => absurd e hil) (fun _ => ?_)
      cbv
      exact ⟨_, rfl, hk _ i0⟩
  · cbv
    have e1 : decide (a = b) = false := decide_eq_false (fun e => hl (by rw [e]))
    rw [e1] at hk
    exact ⟨_, rfl, hk _ (Grows.refl g)⟩
end
end Go.Proofs.YtfgemjpoiconbaaGreatDoor.GEv

/- The reference's 'Same', by a symbolic run. -/
namespace Go.Proofs.YtfgemjpoiconbaaGreatDoor.GEv
open Go
set_option linter.unusedSimpArgs false
set_option linter.unusedVariables false
set_option maxRecDepth 100000
mutual
def sameS : El → El → Bool
  | .mk n a k _, .mk n' a' k' _ => decide (n = n') && decide (a = a') && sameK k k'
def sameK : List El → List El → Bool
  | [], [] => true
  | x :: l, y :: m => sameS x y && sameK l m
  | _, _ => false
end
theorem sameK_len : ∀ {k l : List El}, k.length ≠ l.length → sameK k l = false
  | [], [], h => absurd rfl h
  | [], _ :: _, _ => by simp [sameK]
  | _ :: _, [], _ => by simp [sameK]
  | x :: k, y :: l, h => by
    have := sameK_len (k := k) (l := l) (by simp only [List.length_cons] at h; omega)
    simp [sameK, this]
theorem sameK_drop {k l : List El} {i : Nat} {x y : El} (hi : k[i]? = some x) (hj : l[i]? = some y) : sameK (k.drop i) (l.drop i) = (sameS x y && sameK (k.drop (i + 1)) (l.drop (i + 1))) := by
  obtain ⟨h1, e1⟩ := List.getElem?_eq_some_iff.1 hi
  obtain ⟨h2, e2⟩ := List.getElem?_eq_some_iff.1 hj
  rw [List.drop_eq_getElem_cons h1, List.drop_eq_getElem_cons h2, e1, e2]
  simp only [sameK]
/-- A row of elements, in memory. -/
def IsKs (h : H) (S : Nat → Prop) (l : List El) (v : Value) : Prop :=
  ∃ a cap, v = .slice a l.length cap ∧ ((l = [] ∧ NoSpot a) ∨ ∃ b off, ∃ d : Nat → List Value, a = some ⟨b, off, none⟩ ∧ S b ∧ b < h.next ∧ (∀ i, i < l.length → h.read b (off + i * 4) 4 = some (d i)) ∧ ∀ i x, l[i]? = some x → IsEl h S x (d i))
theorem IsKs.at {h : H} {S : Nat → Prop} {l : List El} {a : Option Addr} {cap i : Nat} {x : El} (hi : IsKs h S l (.slice a l.length cap)) (hx : l[i]? = some x) : ∃ b off d, a = some ⟨b, off, none⟩ ∧ S b ∧ b < h.next ∧ h.read b (off + i * 4) 4 = some d ∧ IsEl h S x d := by
  obtain ⟨a', cap', e, q⟩ := hi
  cases e
  rcases q with ⟨rfl, _⟩ | ⟨b, off, d, q1, q2, q3, q4, q5⟩
  · simp at hx
  · exact ⟨b, off, d i, q1, q2, q3, q4 i (List.getElem?_eq_some_iff.1 hx).1, q5 i x hx⟩
theorem IsKs.spot {h : H} {S : Nat → Prop} {l : List El} {a : Option Addr} {n cap : Nat} (hi : IsKs h S l (.slice a n cap)) : NoSpot a := by
  obtain ⟨a', cap', e, q⟩ := hi
  cases e
  rcases q with q | ⟨b, off, d, q1, _⟩
  · exact q.2
  · subst q1; intro x hx; cases hx; rfl
theorem IsAt.spot {h : H} {S : Nat → Prop} {l : List (Bs × Bs)} {a : Option Addr} {n cap : Nat} (hi : IsAt h S l (.slice a n cap)) : NoSpot a := by
  obtain ⟨a', cap', e, q⟩ := hi
  cases e
  rcases q with q | ⟨b, off, q1, _⟩
  · exact q.2
  · subst q1; intro x hx; cases hx; rfl
theorem IsKs.grows {h h' : H} {S : Nat → Prop} {l : List El} {v : Value} (g : Grows h h') (hi : IsKs h S l v) : IsKs h' S l v := by
  obtain ⟨a, cap, e, q⟩ := hi
  refine ⟨a, cap, e, ?_⟩
  rcases q with q | ⟨b, off, d, q1, q2, q3, q4, q5⟩
  · exact .inl q
  · exact .inr ⟨b, off, d, q1, q2, Nat.lt_of_lt_of_le q3 g.next, fun i hi => g.read (q4 i hi) q3, fun i x hx => (q5 i x hx).grows g⟩
/-- An element's parts. -/
theorem IsEl.cut {h : H} {S : Nat → Prop} {n : Bs} {a : List (Bs × Bs)} {k : List El} {p : Int} {c : List Value} (hi : IsEl h S (.mk n a k p) c) : ∃ aa ac ka kc, c = [.string ⟨⟨n⟩⟩, .slice aa a.length ac, .slice ka k.length kc, .int .i64 p] ∧ IsAt h S a (.slice aa a.length ac) ∧ IsKs h S k (.slice ka k.length kc) := by
  obtain ⟨va, vk, rfl, hat, ka, kc, rfl, q⟩ := hi.parts
  obtain ⟨aa, ac, e, q2⟩ := hat
  exact ⟨aa, ac, ka, kc, by rw [e]; rfl, ⟨aa, ac, rfl, q2⟩, ⟨ka, kc, rfl, q⟩⟩
abbrev elC (n : Bs) (aa : Option Addr) (al ac : Nat) (ka : Option Addr) (kl kc : Nat) (p : Int) : List Value := [.string ⟨⟨n⟩⟩, .slice aa al ac, .slice ka kl kc, .int .i64 p]
abbrev boxO (c : List Value) : AObj := .cells c (some 25) true 0
theorem box_get (h : H) (o : AObj) : (h.push o).m.get h.next = some o := by rw [push_get, if_pos rfl]
attribute [local cbv_opaque] isString isSlice isBoolT fOff iSize eqNil zero H.load H.store H.push H.dip H.put List.length Nat.add Nat.sub Nat.mul List.take List.drop top Addr.add List.append mixH attrC sameS sameK
attribute [local cbv_eval] List.length_cons List.length_nil addr_add mixH_top
theorem rSame {E : Env} (hE : E = EMY) : ∀ (n : Nat) (e f : El), szE e ≤ n → Small e → Small f → ∀ (c d : List Value) (h : H) (S S' : Nat → Prop), IsEl h S e c → IsEl h S' f d → ∀ (K : Value → H → Prop), (∀ h', Grows h h' → K (.bool (sameS e f)) h') →
    CallP E 16 [.agg c.toArray, .agg d.toArray] h K := by
  intro n
  induction n with
  | zero => intro e f he; cases e; simp only [szE] at he; omega
  | succ n ih =>
  intro e f he hbe hbf c d h S S' hi hj K hk
  obtain ⟨n1, a1, k1, p1⟩ := e
  obtain ⟨n2, a2, k2, p2⟩ := f
  obtain ⟨aa1, ac1, ka1, kc1, rfl, hat1, hks1⟩ := hi.cut
  obtain ⟨aa2, ac2, ka2, kc2, rfl, hat2, hks2⟩ := hj.cut
  clear hi hj
  cases hbe with
  | mk hbn1 hba1 hbx1 hbk1 hbs1 =>
  cases hbf with
  | mk hbn2 hba2 hbx2 hbk2 hbs2 =>
  have T : TyOk E.P := by rw [hE]; exact tyOk
  have nA := fun a b ha va vb q S S' h1 h2 K hk => rSameA hE a b ha va vb q S S' h1 h2 K hk
  refine CallP.ofXE hE rfl Tryz.func16 rfl (Nat.le_of_ble_eq_true rfl) ?_
  have ih := fun e f h1 h2 h3 c d h S S' h4 h5 K h6 => ih e f h1 h2 h3 c d h S S' h4 h5 K h6
  clear hE
  cbv
  generalize e1 : h.push (boxO (elC n1 aa1 a1.length ac1 ka1 k1.length kc1 p1)) = g1
  have G1 : g1.m.get h.next = some (boxO (elC n1 aa1 a1.length ac1 ka1 k1.length kc1 p1)) := by rw [← e1]; exact box_get _ _
  have W1 : Grows h g1 := by rw [← e1]; exact (Grows.refl h).push _
  have N1 : h.next < g1.next := by rw [← e1]; exact Nat.lt_succ_self _
  generalize e2 : g1.push (boxO (elC n2 aa2 a2.length ac2 ka2 k2.length kc2 p2)) = g
  have G2 : g.m.get g1.next = some (boxO (elC n2 aa2 a2.length ac2 ka2 k2.length kc2 p2)) := by rw [← e2]; exact box_get _ _
  have W2 : Grows g1 g := by rw [← e2]; exact (Grows.refl g1).push _
  have N2 : g1.next < g.next := by rw [← e2]; exact Nat.lt_succ_self _
  have W : Grows h g := W1.trans W2
  have N12 : h.next < g.next := Nat.lt_trans N1 N2
  have B1 := W2.read (read_cells G1 rfl) N1
  have B2 := read_cells G2 rfl
  have X0 := ld_one (P := E.P) (i := 0) T.sA T.sS B1 rfl
  have X1 := ld_one (P := E.P) (i := 1) T.lA T.lS B1 rfl
  have Y0 := ld_one (P := E.P) (i := 0) T.sA T.sS B2 rfl
  have Y1 := ld_one (P := E.P) (i := 1) T.lA T.lS B2 rfl
  clear e1 e2 G1 G2
  refine ⟨0, T.e0, ?_⟩
  cbv
  refine ⟨_, X0, ?_⟩
  cbv
  refine ⟨0, T.e0, ?_⟩
  cbv
  refine ⟨_, Y0, ?_⟩
  cbv
  refine And.intro (fun q => ?_) (fun q => ?_)
  · have q : n1 = n2 := q
    cbv
    refine ⟨1, T.e1, ?_⟩
    cbv
    refine ⟨_, X1, ?_⟩
    cbv
    refine ⟨1, T.e1, ?_⟩
    cbv
    refine ⟨_, Y1, ?_⟩
    cbv
    refine .inl (nA a1 a2 hba1 _ _ g S S' (hat1.grows W) (hat2.grows W) _ (fun m3 g3 => ?_))
    cases hq : decide (a1 = a2)
    · have hF : sameS (.mk n1 a1 k1 p1) (.mk n2 a2 k2 p2) = false := by simp only [sameS, hq, Bool.and_false, Bool.false_and]
      rw [hF] at hk
      cbv
      exact ⟨_, rfl, hk _ (W.trans g3)⟩
    have hT : sameS (.mk n1 a1 k1 p1) (.mk n2 a2 k2 p2) = sameK k1 k2 := by simp only [sameS, hq, decide_eq_true q, Bool.and_true, Bool.true_and]
    rw [hT] at hk
    have X2 := ld_one (P := E.P) (i := 2) T.kA T.kS (g3.read B1 N12) rfl
    have Y2 := ld_one (P := E.P) (i := 2) T.kA T.kS (g3.read B2 N2) rfl
    cbv
    refine ⟨2, T.e2, ?_⟩
    cbv
    refine ⟨_, X2, ?_⟩
    cbv
    refine And.intro T.kT ?_
    refine ⟨2, T.e2, ?_⟩
    cbv
    refine ⟨_, Y2, ?_⟩
    cbv
    refine And.intro T.kT ?_
    refine And.intro (fun hl => ?_) (fun hl => ?_)
    · have hl : k1.length = k2.length := hl
      cbv
      refine LoopP.onX (fun x : H × Nat => [(5, .int .i64 (.ofNat x.2)), (3, .pointer (some ⟨g1.next, 0, none⟩)), (2, .pointer (some ⟨h.next, 0, none⟩))]) (fun x => x.1) (fun x => Grows g x.1 ∧ x.2 ≤ k1.length ∧ sameK (k1.drop x.2) (k2.drop x.2) = sameK k1 k2) (fun x => k1.length - x.2) (m3, 0) rfl (Less.cons rfl (Less.cons rfl (Less.cons rfl (Less.nil _)))) ⟨g3, Nat.zero_le _, by simp⟩ ?_
      clear X2 Y2 X0 Y0 X1 Y1 g3
      rintro ⟨m, i⟩ ⟨i0, i1, i2⟩
      have i0 : Grows g m := i0
      have i1 : i ≤ k1.length := i1
      have i2 : sameK (k1.drop i) (k2.drop i) = sameK k1 k2 := i2
      have hbn1 : Nat.le (Nat.add i 1) 4611686018427387904 := by show i + 1 ≤ _; omega
      have X2 := ld_one (P := E.P) (i := 2) T.kA T.kS (i0.read B1 N12) rfl
      have Y2 := ld_one (P := E.P) (i := 2) T.kA T.kS (i0.read B2 N2) rfl
      by_cases hil : i < k1.length
      · have hil2 : i < k2.length := by omega
        obtain ⟨x, hx⟩ : ∃ x, k1[i]? = some x := ⟨_, List.getElem?_eq_getElem hil⟩
        obtain ⟨y, hy⟩ : ∃ y, k2[i]? = some y := ⟨_, List.getElem?_eq_getElem hil2⟩
        obtain ⟨b1, o1, d1, rfl, _, hb1, hr1, he1⟩ := hks1.at hx
        obtain ⟨b2, o2, d2, rfl, _, hb2, hr2, he2⟩ := hks2.at hy
        have WW := W.trans i0
        have A1 := ld_agg (P := E.P) T.eA T.eS (WW.read hr1 hb1)
        have A2 := ld_agg (P := E.P) T.eA T.eS (WW.read hr2 hb2)
        have hmem := List.mem_of_getElem? hx
        have hszm := szK_mem hmem
        rw [sameK_drop hx hy] at i2
        have Mq : m.m = m.m ∧ Grows g m := ⟨rfl, i0⟩
        cbv
        refine ⟨2, T.e2, ?_⟩
        cbv
        refine ⟨_, X2, ?_⟩
        cbv
        refine And.intro T.kT ?_
        refine And.intro (fun _ => ?_) (fun e => absurd hil (Nat.not_lt.2 e))
        cbv
        refine DrawP.free (by kernel_rfl) (fun bef => ?_)
        cbv
        refine ⟨2, T.e2, ?_⟩
        cbv
        refine ⟨_, ld_at X2 Mq.1, ?_⟩
        cbv
        refine FitP.stay (f := (.rd (some h.next))) rfl rfl ?_
        generalize hM : mixH _ _ = M'
        have Mq' : M'.m = m.m ∧ Grows g M' := by
          subst hM
          refine ⟨Mq.1, ?_⟩
          apply Grows.mixTop
          repeat first | exact Mq.2 | apply Grows.dip
        clear hM Mq
        revert M'
        intro M Mq
        cbv
        refine ⟨4, T.kZ, hil, ?_⟩
        cbv
        refine ⟨_, ld_at A1 Mq.1, ?_⟩
        cbv
        refine FitP.stay (f := (.rd (some b1))) rfl rfl ?_
        generalize hM : mixH _ _ = M'
        have Mq' : M'.m = m.m ∧ Grows g M' := by
          subst hM
          refine ⟨Mq.1, ?_⟩
          apply Grows.mixTop
          repeat first | exact Mq.2 | apply Grows.dip
        clear hM Mq
        revert M'
        intro M Mq
        cbv
        refine ⟨2, T.e2, ?_⟩
        cbv
        refine ⟨_, ld_at Y2 Mq.1, ?_⟩
        cbv
        refine FitP.stay (f := (.rd (some g1.next))) rfl rfl ?_
        generalize hM : mixH _ _ = M'
        have Mq' : M'.m = m.m ∧ Grows g M' := by
          subst hM
          refine ⟨Mq.1, ?_⟩
          apply Grows.mixTop
          repeat first | exact Mq.2 | apply Grows.dip
        clear hM Mq
        revert M'
        intro M Mq
        cbv
        refine ⟨4, T.kZ, hil2, ?_⟩
        cbv
        refine ⟨_, ld_at A2 Mq.1, ?_⟩
        cbv
        refine FitP.stay (f := (.rd (some b2))) rfl rfl ?_
        generalize hM : mixH _ _ = M'
        have Mq' : M'.m = m.m ∧ Grows g M' := by
          subst hM
          refine ⟨Mq.1, ?_⟩
          apply Grows.mixTop
          repeat first | exact Mq.2 | apply Grows.dip
        clear hM Mq
        revert M'
        intro M Mq
        cbv
        refine .inl (ih x y (by simp only [szE] at he; omega) (hbs1 x hmem) (hbs2 y (List.mem_of_getElem? hy)) d1 d2 _ S S' (he1.grows (W.trans Mq.2.mark)) (he2.grows (W.trans Mq.2.mark)) _ (fun m4 g4 => ?_))
        refine FitP.grow (f := .rd none) g4 rfl rfl ?_
        have g5 : Grows g (mixH M m4) := Mq.2.mix (Mq.2.mark.trans g4)
        generalize mixH M m4 = M' at g5 ⊢
        cases hs : sameS x y
        · rw [hs, Bool.false_and] at i2
          rw [← i2] at hk
          cbv
          exact ⟨_, rfl, hk _ (W.trans g5.dip)⟩
        · rw [hs, Bool.true_and] at i2
          cbv
          refine And.intro hbn1 ?_
          exact ⟨(M'.dip, i + 1), Less.cons rfl (Less.cons rfl (Less.cons rfl (Less.nil _))), rfl, ⟨g5.dip, hil, i2⟩, (by show k1.length - (i + 1) < k1.length - i; omega)⟩
      · have e2 : sameK k1 k2 = true := by
          rw [← i2, List.drop_eq_nil_of_le (by omega), List.drop_eq_nil_of_le (by omega)]
          simp [sameK]
        rw [e2] at hk
        cbv
        refine ⟨2, T.e2, ?_⟩
        cbv
        refine ⟨_, X2, ?_⟩
        cbv
        refine And.intro T.kT ?_
        refine And.intro (fun e => absurd e hil) (fun _ => ?_)
        cbv
        exact ⟨_, rfl, hk _ (W.trans i0)⟩
    · have hF : sameK k1 k2 = false := sameK_len hl
      rw [hF] at hk
      cbv
      exact ⟨_, rfl, hk _ (W.trans g3)⟩
  · have q : ¬ n1 = n2 := q
    have hF : sameS (.mk n1 a1 k1 p1) (.mk n2 a2 k2 p2) = false := by simp [sameS, q]
    rw [hF] at hk
    cbv
    exact ⟨_, rfl, hk _ W⟩
end Go.Proofs.YtfgemjpoiconbaaGreatDoor.GEv

/- 'Same', with the library's 'EqualFunc', by symbolic runs. -/
namespace Go.Proofs.YtfgemjpoiconbaaGreatDoor.GEv
open Go
set_option linter.unusedSimpArgs false
set_option linter.unusedVariables false
set_option maxRecDepth 100000
theorem zElem : zero EMY.P 25 = some (.agg #[.string ⟨⟨[]⟩⟩, .slice none 0 0, .slice none 0 0, .int .i64 0]) := by kernel_rfl
theorem zAttr : zero EMY.P 41 = some (.agg #[.string ⟨⟨[]⟩⟩, .string ⟨⟨[]⟩⟩]) := by kernel_rfl
theorem st_agg {P : Program} {h : H} {t : TypeId} {b n : Nat} {c d : List Value} {e : Option TypeId} {f : Bool} (hs : sizeOf P t = some n) (hg : h.m.get b = some (.cells c e f 0)) (hc : c.length = n) (hd : d.length = n) (ho : d.all one = true) : h.store P t ⟨b, 0, none⟩ (.agg d.toArray) = some (h.put b (some (.cells d e f 0))) := by
  have e1 : (Value.agg d.toArray).cells.toList = d := rfl
  unfold H.store H.write
  simp only [hs, e1, hg]
  rw [if_pos hd, if_pos ⟨Nat.le_refl _, by omega⟩, if_pos ho]
  have e2 : over c 0 d = d := by
    unfold over
    rw [List.drop_eq_nil_of_le (by omega)]
    simp
  rw [e2]
theorem IsEl.one {h : H} {S : Nat → Prop} {e : El} {c : List Value} (hi : IsEl h S e c) : c.all one = true := by
  obtain ⟨n, a, k, p⟩ := e
  obtain ⟨_, _, _, _, rfl, _⟩ := hi.cut
  rfl
/-- A box of its own, laid and written. -/
theorem laid {g m : H} (hg : Grows g m) (o : AObj) (d : List Value) (t : Option TypeId) (f : Bool) : Grows g ((m.push o).put m.next (some (.cells d t f 0))) ∧ Grows m ((m.push o).put m.next (some (.cells d t f 0))) ∧ ((m.push o).put m.next (some (.cells d t f 0))).m.get m.next = some (.cells d t f 0) ∧ m.next < ((m.push o).put m.next (some (.cells d t f 0))).next :=
  ⟨(hg.push o).put hg.next _, ((Grows.refl m).push o).put (Nat.le_refl _) _, by rw [put_get, if_pos rfl], Nat.lt_succ_self _⟩
attribute [local cbv_opaque] isString isSlice isBoolT fOff iSize eqNil zero H.load H.store H.push H.dip H.put List.length Nat.add Nat.sub Nat.mul List.take List.drop top Addr.add mixH attrC sameS sameK
attribute [local cbv_eval] List.length_cons List.length_nil addr_add mixH_top
end Go.Proofs.YtfgemjpoiconbaaGreatDoor.GEv

/- 'Print', by a symbolic run. -/
namespace Go.Proofs.YtfgemjpoiconbaaGreatDoor.GEv
open Go
set_option linter.unusedSimpArgs false
set_option linter.unusedVariables false
set_option maxRecDepth 100000
/-! ### how long a text is -/
def wA : List (Bs × Bs) → Nat
  | [] => 0
  | x :: l => 4 + x.1.length + 6 * x.2.length + wA l
mutual
def wE : El → Nat
  | .mk n a k _ => 5 + 2 * n.length + wA a + wK k
def wK : List El → Nat
  | [] => 0
  | e :: l => wE e + wK l
end
/-! ### the Builder's memory -/
theorem IsB.grows {g h h' : H} {b : Nat} {l : List UInt8} (hb : IsB g h b l) (k : Grows h h') : IsB g h' b l := by
  obtain ⟨h1, h2, h3, p, s, e1, e2, e3⟩ := hb
  refine ⟨Nat.lt_of_lt_of_le h1 k.next, h2, h3.trans k, p, s, by rw [k.keep b h1]; exact e1, e2, ?_⟩
  rcases e3 with q | ⟨r, q1, q2, q3, q4, q5, q6⟩
  · exact .inl q
  · exact .inr ⟨r, Nat.lt_of_lt_of_le q1 k.next, q2, q3, q4, q5, by rw [k.keep r q1]; exact q6⟩
theorem IsB.re {g h h' : H} {b : Nat} {l : List UInt8} (hb : IsB g h b l) (hm : h'.m = h.m) (hn : h'.next = h.next) (k : Grows g h') : IsB g h' b l := by
  obtain ⟨h1, h2, h3, p, s, e1, e2, e3⟩ := hb
  refine ⟨by rw [hn]; exact h1, h2, k, p, s, by rw [hm]; exact e1, e2, ?_⟩
  rcases e3 with q | ⟨r, q1, q2, q3, q4, q5, q6⟩
  · exact .inl q
  · exact .inr ⟨r, by rw [hn]; exact q1, q2, q3, q4, q5, by rw [hm]; exact q6⟩
theorem FitP.writeG {l : L} {o : Oper} {h h1 : H} {bef i : Nat} {seen : List (Nat × Foot)} {K : List (Nat × Foot) → Prop} (hf : ∀ w, footL l o w h.m h1.m = some (if w = true then .gen h.m h1.m else .rd none)) (hfit : (seen.all fun p => Nat.testBit bef p.1) = true) (hk : ∀ f, (f = .rd none ∨ f = .gen h.m h1.m) → K ((i, f) :: seen)) : FitP l o h h1 bef seen i K := by
  refine ⟨_, _, rfl, hf _, ?_, hk _ ?_⟩
  · generalize (if Nat.blt h1.low h.next = true then Foot.gen h.m h1.m else .rd none) = f
    clear hk
    induction seen with
    | nil => rfl
    | cons p r ih =>
      obtain ⟨j, g⟩ := p
      simp only [List.all_cons, Bool.and_eq_true] at hfit
      simp only [fits, hfit.1, ih hfit.2]
      simp
  · split
    · exact .inr rfl
    · exact .inl rfl
attribute [local cbv_opaque] isString isSlice isBoolT fOff iSize eqNil zero H.load H.store H.push H.dip H.put List.length Nat.add Nat.sub Nat.mul List.take List.drop top Addr.add escape printE printL List.append attrT List.flatMap mixH
attribute [local cbv_eval] List.length_cons List.length_nil addr_add mixH_top
end Go.Proofs.YtfgemjpoiconbaaGreatDoor.GEv

/- XmlPrints, by a symbolic run. -/
namespace Go.Proofs.YtfgemjpoiconbaaGreatDoor.GEv
open Go
set_option linter.unusedSimpArgs false
set_option linter.unusedVariables false
set_option maxRecDepth 100000
mutual
theorem sameS_refl : ∀ e : El, sameS e e = true
  | .mk n a k p => by simp [sameS, sameK_refl k]
theorem sameK_refl : ∀ k : List El, sameK k k = true
  | [] => by simp [sameK]
  | x :: l => by simp [sameK, sameS_refl x, sameK_refl l]
end
theorem knownY {E : Env} (hE : E = EMY) (h : H) (K : Value → H → Prop) (hk : K (.bool true) h) : CallP E 15 [] h K := CallP.memo (by rw [hE]; rfl) (by rw [hE]; exact ⟨_, _, Tryz.func15, rfl⟩) hk
attribute [local cbv_opaque] isString isSlice isBoolT fOff iSize eqNil zero H.load H.store H.push H.dip H.put List.length Nat.add Nat.sub Nat.mul List.take List.drop top Addr.add mixH attrC sameS sameK printE cmpJ
attribute [local cbv_eval] List.length_cons List.length_nil addr_add mixH_top
end Go.Proofs.YtfgemjpoiconbaaGreatDoor.GEv

