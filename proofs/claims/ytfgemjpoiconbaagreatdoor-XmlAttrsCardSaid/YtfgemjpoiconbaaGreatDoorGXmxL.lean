import Derived.Test.YtfgemjpoiconbaaGreatDoorGXmxF
import Derived.Test.YtfgemjpoiconbaaGreatDoorGXmpE
/- XmlAttrs, by a symbolic run. -/
namespace Go.Proofs.YtfgemjpoiconbaaGreatDoor.GEv
open Go
set_option linter.unusedSimpArgs false
set_option linter.unusedVariables false
set_option maxRecDepth 100000
set_option maxHeartbeats 4000000
theorem raw_unbytesL {E : Env} {l : L} {h : H} {dst ty pos after guard} {K : Value → H → Prop} {src t e : TypeId} {x : Operand} {a : Addr} {n c : Nat} {vs : List Value} {bs : List UInt8} (hx : evL l x = some (.slice (some a) (n + 1) c)) (h1 : E.P.underlying src = some (.slice e)) (h2 : E.P.underlying t = some .string) (h3 : E.P.underlying e = some (.int .u8))
    (hr : h.read a.block a.off (n + 1) = some vs) (hb : bytesOf vs = some bs) (hk : K (.string ⟨bs.toArray⟩) h) : RawP E l h ⟨dst, .convert src t x, ty, pos, after, guard⟩ K := ⟨fun tm hv => by
  refine OpP.val ?_ hk
  have q1 := evL_ok hv hx
  simp only [evOp, hConv, q1, h1, h2, hOfBytes, h3, hr, hb]⟩
/-- What is known of bytes. -/
structure ByOk (P : Program) : Prop where
  u : P.underlying 42 = some (.slice 5)
  z : zero P 5 = some (.int .u8 0)
  s : sizeOf P 5 = some 1
  b : P.underlying 5 = some (.int .u8)
  i : P.underlying 3 = some (.int .i64)
  t : P.underlying 9 = some .string
theorem byOk : ByOk EM.P := ⟨by kernel_rfl, by kernel_rfl, by kernel_rfl, by kernel_rfl, by kernel_rfl, by kernel_rfl⟩
/-- An element is built of a name. -/
theorem elBuild1 : ∃ fs : Array Field, EM.P.underlying 25 = some (.struct fs) ∧ (∀ n : ByteArray, fillL (fun i => (fs[i]?).bind fun f => (sizeOf EM.P f.type).map fun s => (f.offset, s)) zC [(0, .string n)] = some [.string n, .slice none 0 0, .slice none 0 0, .int .i64 0]) ∧ fs.toList.all (fun f => (sizeOf EM.P f.type).isSome) = true := by
  obtain ⟨f1, f2, f3, f4, h, t1, t2, t3, t4, o1, o2, o3, o4⟩ := elemFs
  have T : TyOk EM.P := tyOk
  refine ⟨#[f1, f2, f3, f4], h, fun n => ?_, by simp [t1, t2, t3, t4, T.sS, T.lS, T.kS, T.iS]⟩
  have e0 : ((#[f1, f2, f3, f4] : Array Field)[0]?) = some f1 := rfl
  simp only [fillL, e0, Option.bind_some, t1, T.sS, Option.map_some, o1]
  rfl
theorem wrap8 : ∀ c : Fin 256, IntKind.u8.wrap (Int.ofNat c.val) = Int.ofNat c.val := by decide +kernel
theorem small_law (size n : Nat) (tw : Bool) (hn : n ≤ 12) (hs : size ≤ 70) : Small (lawE size n tw) ∧ wE (lawE size n tw) ≤ 1000000 ∧ szE (lawE size n tw) = 1 := by
  refine ⟨.mk (by simp) (by rw [lawA_len]; omega) (fun x hx => ?_) (by simp) (by simp), ?_, rfl⟩
  · obtain ⟨h1, i, _, h2⟩ := lawA_mem hx
    rw [h1, h2, List.length_replicate]
    exact ⟨by simp [keyL], by omega⟩
  · have : ∀ (a : List (Bs × Bs)), (∀ x ∈ a, x.1.length ≤ 2 ∧ x.2.length ≤ 70) → wA a ≤ 1000 * a.length := by
      intro a
      induction a with
      | nil => intro _; simp [wA]
      | cons x a ih =>
        intro h
        have h1 := h x (List.mem_cons_self ..)
        have h2 := ih (fun y hy => h y (List.mem_cons_of_mem _ hy))
        simp only [wA, List.length_cons]
        omega
    have h := this (lawA (List.replicate size 120) n tw) (fun x hx => by
      obtain ⟨h1, i, _, h2⟩ := lawA_mem hx
      rw [h1, h2, List.length_replicate]
      exact ⟨by simp [keyL], hs⟩)
    rw [lawA_len] at h
    simp only [wE, wK, List.length_cons, List.length_nil]
    omega
theorem flat_set : ∀ (l : List (Bs × Bs)) (k : Nat) (w v x : Bs), l[k]? = some (w, v) → (l.map attrC).flatten.take (k * 2) ++ [.string ⟨⟨x⟩⟩] ++ (l.map attrC).flatten.drop (k * 2 + 1) = ((l.set k (x, v)).map attrC).flatten
  | [], k, w, v, x, h => by simp at h
  | a :: l, 0, w, v, x, h => by
    injection h with h
    subst h
    rfl
  | a :: l, k + 1, w, v, x, h => by
    have ih := flat_set l k w v x (by simpa using h)
    rw [show (k + 1) * 2 = k * 2 + 2 by omega, show k * 2 + 2 + 1 = k * 2 + 1 + 2 by omega]
    show _ = attrC a ++ ((l.set k (x, v)).map attrC).flatten
    rw [← ih]
    simp [attrC]
attribute [local cbv_opaque] isString isSlice isBoolT fOff iSize eqNil zero H.load H.store H.push H.dip H.put List.length List.getD Nat.add Nat.sub Nat.mul List.take List.drop top Addr.add mixH attrC sameS sameK printE cmpJ ariJ List.append append UInt8.ofNat baseA lawA
attribute [local cbv_eval] List.length_cons List.length_nil addr_add mixH_top
theorem lAttrs {E : Env} (hE : E = EMY) (z zs : Int) (tw : Bool) (h : H) (K : Value → H → Prop) (hk : ∀ h', Grows h h' → K (.bool true) h') :
    CallP E 8 [.int .i64 z, .int .i64 zs, .bool tw] h K := by
  have T : TyOk E.P := by rw [hE]; exact tyOk
  have BO : ByOk E.P := by rw [hE]; exact byOk
  have RT : RowT E.P 22 41 2 := by rw [hE]; exact rowAttr
  obtain ⟨fa, AB⟩ : ∃ fs, AtBuild E.P fs := by rw [hE]; exact atBuild
  obtain ⟨fs, U1, U2, U3⟩ : ∃ fs : Array Field, E.P.underlying 25 = some (.struct fs) ∧ (∀ n : ByteArray, fillL (fun i => (fs[i]?).bind fun f => (sizeOf E.P f.type).map fun s => (f.offset, s)) zC [(0, .string n)] = some [.string n, .slice none 0 0, .slice none 0 0, .int .i64 0]) ∧ fs.toList.all (fun f => (sizeOf E.P f.type).isSome) = true := by rw [hE]; exact elBuild1
  have zE : zero E.P 25 = some (.agg #[.string ⟨⟨[]⟩⟩, .slice none 0 0, .slice none 0 0, .int .i64 0]) := by rw [hE]; exact zElem
  refine CallP.ofXE hE rfl Tryz.func8 rfl (Nat.le_of_ble_eq_true rfl) ?_
  have rP := fun e hz he c h S hi K hk => rPrint hE (szE e) e (Nat.le_refl _) hz he c h S hi K hk
  have rS := fun e f he hf c d h S S' hi hj K hk => rSame hE (szE e) e f (Nat.le_refl _) he hf c d h S S' hi hj K hk
  have pS := fun s hs h e n er hp K hk => xParse hE 1000 (by decide) s hs h e n er hp K hk
  have pR := fun s hs hq h e n er hp K hk => GEv.rParse hE 1000 s hs hq h e n er hp K hk
  have kn := fun h K hk => knownY hE h K hk
  clear hE
  cbv
  refine cmpJ_of (And.intro (fun q1 => ?_) (fun q1 => ?_))
  · cbv
    exact ⟨_, rfl, hk _ (Grows.refl h)⟩
  cbv
  refine cmpJ_of (And.intro (fun q2 => ?_) (fun q2 => ?_))
  · cbv
    exact ⟨_, rfl, hk _ (Grows.refl h)⟩
  cbv
  refine cmpJ_of (And.intro (fun q3 => ?_) (fun q3 => ?_))
  · cbv
    exact ⟨_, rfl, hk _ (Grows.refl h)⟩
  cbv
  refine cmpJ_of (And.intro (fun q4 => ?_) (fun q4 => ?_))
  · cbv
    exact ⟨_, rfl, hk _ (Grows.refl h)⟩
  obtain ⟨n, rfl⟩ : ∃ k : Nat, z = .ofNat k := ⟨z.toNat, (Int.toNat_of_nonneg q1).symm⟩
  obtain ⟨size, rfl⟩ : ∃ k : Nat, zs = .ofNat k := ⟨zs.toNat, (Int.toNat_of_nonneg q3).symm⟩
  have hn : n ≤ 12 := by have : ((n : Nat) : Int) ≤ 12 := q2; omega
  have hsz : size ≤ 70 := by have : ((size : Nat) : Int) ≤ 70 := q4; omega
  clear q1 q2 q3 q4
  cbv
  refine LoopP.onX (fun x : Nat => [(8, .int .i64 (.ofNat x)), (7, .string ⟨⟨List.replicate x 120⟩⟩), (0, .int .i64 (.ofNat n)), (1, .int .i64 (.ofNat size)), (2, .bool tw)]) (fun _ => h) (fun x => x ≤ size) (fun x => size - x) 0 rfl (Less.cons rfl (Less.cons rfl (Less.cons rfl (Less.cons rfl (Less.cons rfl (Less.nil _)))))) (Nat.zero_le _) ?_
  intro i i1
  have i1 : i ≤ size := i1
  have hlr : (List.replicate i 120 : Bs).length = i := List.length_replicate
  have hrs : (List.replicate i 120 : Bs) ++ [120] = List.replicate (i + 1) 120 := by rw [List.replicate_succ']
  by_cases hi : i < size
  · generalize (List.replicate i 120 : Bs) = t at hlr hrs
    cbv
    refine And.intro (fun _ => ?_) (fun e => absurd hi (Nat.not_lt.2 e))
    cbv
    refine And.intro (by show t.length + 1 ≤ _; omega) ?_
    refine And.intro (by show i + 1 ≤ _; omega) ?_
    exact ⟨i + 1, Less.cons rfl (Less.cons (by show some (Value.string ⟨⟨t ++ [120]⟩⟩) = _; rw [hrs]) (Less.cons rfl (Less.cons rfl (Less.cons rfl (Less.nil _))))), rfl, hi, (by show size - (i + 1) < size - i; omega)⟩
  · obtain rfl : i = size := by omega
    obtain ⟨v, hv⟩ : ∃ v, v = (List.replicate i 120 : Bs) := ⟨_, rfl⟩
    rw [← hv]
    have hvl : v.length = i := by rw [hv, List.length_replicate]
    cbv
    refine And.intro (fun e => absurd e hi) (fun _ => ?_)
    cbv
    refine raw_build rfl zE U1 (U2 _) U3 ?_
    cbv
    refine ⟨_, zE, ?_⟩
    cbv
    have S2 : (h.push (boxO zC)).store E.P 25 ⟨h.next, 0, none⟩ (.agg (elC [97] none 0 0 none 0 0 0).toArray) = some ((h.push (boxO zC)).put h.next (some (boxO (elC [97] none 0 0 none 0 0 0)))) := st_agg T.eS (box_get _ _) rfl rfl rfl
    refine ⟨_, S2, ?_⟩
    obtain ⟨_, g2, B2, N2⟩ := laid (Grows.refl h) (boxO zC) (elC [97] none 0 0 none 0 0 0) (some 25) true
    generalize (h.push (boxO zC)).put h.next (some (boxO (elC [97] none 0 0 none 0 0 0))) = m2 at g2 B2 N2 S2 ⊢
    clear S2
    cbv
    refine LoopP.onX (fun x : H × Nat × Value => [(10, .int .i64 (.ofNat x.2.1)), (9, .pointer (some ⟨h.next, 0, none⟩)), (7, .string ⟨⟨v⟩⟩), (0, .int .i64 (.ofNat n)), (1, .int .i64 (.ofNat i)), (2, .bool tw)]) (fun x => x.1) (fun x => x.2.1 ≤ n ∧ Grows h x.1 ∧ h.next + 1 ≤ x.1.next ∧ x.1.m.get h.next = some (boxO [.string ⟨⟨[97]⟩⟩, x.2.2, .slice none 0 0, .int .i64 0]) ∧ IsRow x.1 (h.next + 1) 41 2 ((baseA v x.2.1).map attrC) x.2.2) (fun x => n - x.2.1) (m2, 0, .slice none 0 0) rfl (Less.cons rfl (Less.cons rfl (Less.cons rfl (Less.cons rfl (Less.cons rfl (Less.cons rfl (Less.nil _))))))) ⟨Nat.zero_le _, g2, N2, B2, IsRow.nil _ _ _ _⟩ ?_
    rintro ⟨m, j, va⟩ ⟨i2, i3, i4, i5, i6⟩
    have i2 : j ≤ n := i2
    have i3 : Grows h m := i3
    have i4 : h.next + 1 ≤ m.next := i4
    have i5 : m.m.get h.next = some (boxO [.string ⟨⟨[97]⟩⟩, va, .slice none 0 0, .int .i64 0]) := i5
    have i6 : IsRow m (h.next + 1) 41 2 ((baseA v j).map attrC) va := i6
    obtain ⟨aa, ac, hva⟩ : ∃ a c, va = .slice a j c := by
      have hb := baseA_len v j
      rcases i6.ex with ⟨q1, q2⟩ | ⟨r, q1, _⟩
      · have : (baseA v j).length = 0 := by have := congrArg List.length q1; simpa using this
        exact ⟨_, _, by rw [q2]; congr 1; omega⟩
      · rw [List.length_map, hb] at q1
        exact ⟨_, _, q1⟩
    subst hva
    have LA := ld_one (P := E.P) (i := 1) T.lA T.lS (read_cells i5 rfl) rfl
    by_cases hj : j < n
    · cbv
      refine And.intro (fun _ => ?_) (fun e => absurd hj (Nat.not_lt.2 e))
      cbv
      refine ⟨1, T.e1, ?_⟩
      cbv
      refine ⟨_, LA, ?_⟩
      cbv
      refine And.intro (by show 97 + j ≤ _; omega) ?_
      cbv
      have hkey : List.append [107] [UInt8.ofNat (97 + j)] = keyL j := rfl
      have hcc : 97 + j < 256 := by omega
      have hw := wrap8 ⟨97 + j, hcc⟩
      have hbo : bytesOf [.int .u8 (.ofNat (97 + j))] = some [UInt8.ofNat (97 + j)] := by
        have : Nat.ble (97 + j) 255 = true := Nat.ble_eq_true_of_le (by omega)
        simp only [bytesOf, this]
      refine raw_conv rfl BO.i BO.b hw ?_
      cbv
      refine raw_buildSlice rfl BO.u BO.z BO.s (by decide) (c := [.int .u8 (.ofNat (97 + j))]) rfl ?_
      have g3 : Grows m (m.push (.cells [.int .u8 (.ofNat (97 + j))] (some 5) true 0)) := (Grows.refl m).push _
      have B3 := box_get m (.cells [.int .u8 (.ofNat (97 + j))] (some 5) true 0)
      have N3 : (m.push (.cells [.int .u8 (.ofNat (97 + j))] (some 5) true 0)).next = m.next + 1 := rfl
      generalize m.push (.cells [.int .u8 (.ofNat (97 + j))] (some 5) true 0) = m3 at g3 B3 N3 ⊢
      cbv
      refine raw_unbytesL rfl BO.u BO.t BO.b (read_cells B3 rfl) hbo ?_
      cbv
      refine raw_build rfl AB.z AB.u (AB.f (keyL j) v) AB.a ?_
      cbv
      refine raw_buildSlice rfl RT.u AB.z T.aS (by decide) (c := attrC (keyL j, v)) rfl ?_
      have g4 : Grows m3 (m3.push (.cells (attrC (keyL j, v)) (some 41) true 0)) := (Grows.refl m3).push _
      have B4 := box_get m3 (.cells (attrC (keyL j, v)) (some 41) true 0)
      have N4 : (m3.push (.cells (attrC (keyL j, v)) (some 41) true 0)).next = m3.next + 1 := rfl
      generalize m3.push (.cells (attrC (keyL j, v)) (some 41) true 0) = m4 at g4 B4 N4 ⊢
      have gg := g3.trans g4
      have row4 : IsRow m4 (h.next + 1) 41 2 ((baseA v j).map attrC) (.slice aa j ac) := i6.keep gg.next (fun r _ h2 _ => gg.keep r h2)
      obtain ⟨v', h', ha1, ha2, ha3, ha4, ha5, ha6⟩ := row_append (q := m3.next) RT row4 (by omega) (by rw [List.length_map, baseA_len]; omega) B4 rfl rfl (by omega) (NotAt.of_lt i6 (.inr (by omega)))
      have hna : ∀ r, r < h.next + 1 → NotAt (.slice aa j ac) r := fun r hr => NotAt.of_lt i6 (.inl hr)
      have B5 : h'.m.get h.next = some (boxO [.string ⟨⟨[97]⟩⟩, .slice aa j ac, .slice none 0 0, .int .i64 0]) := by
        rw [ha5 h.next (by omega) (hna _ (by omega)), gg.keep h.next (by omega)]
        exact i5
      have G5 : Grows h h' := grows_row (i3.trans gg) (by rw [ha3]; exact Nat.le_succ _) (fun r hr => ha5 r (by omega) (hna _ (by omega))) (by
        rcases ha6 with q | q
        · exact .inl q
        · exact .inr (by omega))
      have ha2 : IsRow h' (h.next + 1) 41 2 ((baseA v (j + 1)).map attrC) v' := by
        rw [baseA_succ, List.map_append]
        exact ha2
      obtain ⟨xa, xc, hv'⟩ : ∃ a c, v' = .slice a (j + 1) c := by
        have hb := baseA_len v (j + 1)
        rcases ha2.ex with ⟨q1, q2⟩ | ⟨r, q1, _⟩
        · have := congrArg List.length q1
          simp [hb] at this
        · rw [List.length_map, hb] at q1
          exact ⟨_, _, q1⟩
      subst hv'
      have S6 : h'.store E.P 22 ⟨h.next, 1, none⟩ (.slice xa (j + 1) xc) = some (h'.put h.next (some (boxO [.string ⟨⟨[97]⟩⟩, .slice xa (j + 1) xc, .slice none 0 0, .int .i64 0]))) := (st_one (P := E.P) (v := .slice xa (j + 1) xc) (i := 1) T.lS B5 (by simp) rfl rfl).trans rfl
      have G6 : ∀ r, r ≠ h.next → (h'.put h.next (some (boxO [.string ⟨⟨[97]⟩⟩, .slice xa (j + 1) xc, .slice none 0 0, .int .i64 0]))).m.get r = h'.m.get r := fun r hr => by rw [put_get, if_neg hr]
      have C6 : (h'.put h.next (some (boxO [.string ⟨⟨[97]⟩⟩, .slice xa (j + 1) xc, .slice none 0 0, .int .i64 0]))).m.get h.next = some (boxO [.string ⟨⟨[97]⟩⟩, .slice xa (j + 1) xc, .slice none 0 0, .int .i64 0]) := by rw [put_get, if_pos rfl]
      have row6 : IsRow (h'.put h.next (some (boxO [.string ⟨⟨[97]⟩⟩, .slice xa (j + 1) xc, .slice none 0 0, .int .i64 0]))) (h.next + 1) 41 2 ((baseA v (j + 1)).map attrC) (.slice xa (j + 1) xc) := ha2.keep (Nat.le_refl _) (fun r p1 _ _ => G6 r (by omega))
      have g6 := G5.put (Nat.le_refl _) (some (boxO [.string ⟨⟨[97]⟩⟩, .slice xa (j + 1) xc, .slice none 0 0, .int .i64 0]))
      have N6 : (h'.put h.next (some (boxO [.string ⟨⟨[97]⟩⟩, .slice xa (j + 1) xc, .slice none 0 0, .int .i64 0]))).next = h'.next := rfl
      cbv
      refine raw_appendS rfl rfl RT.u ha1 ?_
      cbv
      refine ⟨1, T.e1, ?_⟩
      cbv
      refine ⟨_, S6, ?_⟩
      generalize h'.put h.next (some (boxO [.string ⟨⟨[97]⟩⟩, .slice xa (j + 1) xc, .slice none 0 0, .int .i64 0])) = m6 at C6 row6 g6 N6
      cbv
      refine And.intro (by show j + 1 ≤ _; omega) ?_
      exact ⟨(m6, j + 1, .slice xa (j + 1) xc), Less.cons rfl (Less.cons rfl (Less.cons rfl (Less.cons rfl (Less.cons rfl (Less.cons rfl (Less.nil _)))))), rfl, ⟨hj, g6, (by show h.next + 1 ≤ m6.next; omega), C6, row6⟩, (by show n - (j + 1) < n - j; omega)⟩
    · obtain rfl : j = n := by omega
      -- the element as it is, and what both readers say
      have endL : ∀ (mz : H) (l : List (Bs × Bs)) (va : Value), Grows h mz → h.next + 1 ≤ mz.next → l = lawA (List.replicate i 120) j tw → mz.m.get h.next = some (boxO [.string ⟨⟨[97]⟩⟩, va, .slice none 0 0, .int .i64 0]) → IsRow mz (h.next + 1) 41 2 (l.map attrC) va → mz.load E.P 25 ⟨h.next, 0, none⟩ = some (.agg [.string ⟨⟨[97]⟩⟩, va, .slice none 0 0, .int .i64 0].toArray) ∧ IsEl mz (fun _ => True) (lawE i j tw) [.string ⟨⟨[97]⟩⟩, va, .slice none 0 0, .int .i64 0] := by
        intro mz l va q1 q2 q3 q4 q5
        subst q3
        exact ⟨ld_agg T.eA T.eS (read_cells q4 rfl), .leaf (q5.attrs.mono (fun _ _ _ => trivial) (fun _ _ _ => rfl) (Nat.le_refl _)) (fun _ q => by cases q)⟩
      obtain ⟨sm1, sm2, sm3⟩ := small_law i j tw hn hsz
      have hps := parse_same [97] (lawA (List.replicate i 120) j tw) (by decide +kernel) (law_ok hn) (by rw [lawA_len]; omega) _ (lawE_text i j tw) (law_len hn hsz)
      have heq := law_eqq (size := i) (tw := tw) hn
      have hll := law_len (tw := tw) hn hsz
      have hout := law_out i j tw hn (1 + ([97] : Bs).length)
      obtain ⟨x, mm, rr, x1, x2, x3, x4⟩ := hps
      rw [hout] at x3
      have xsm : Small x := by
        rcases x4 with rfl | rfl
        · exact sm1
        · exact .mk (by simp) (by simp) (by simp) (by simp) (by simp)
      have hsx := sameS_refl x
      clear x4
      obtain ⟨EE, hEE⟩ : ∃ EE, EE = lawE i j tw := ⟨_, rfl⟩
      rw [← hEE] at x1 x2 heq hll sm1 sm2 sm3 endL
      have hbase : tw = true ∧ 1 < j ∨ lawA (List.replicate i 120) j tw = baseA v j := by
        by_cases c : tw = true ∧ 1 < j
        · exact .inl c
        · right
          unfold lawA
          rw [if_neg c, hv]
      cases tw
      · have hbb : baseA v j = lawA (List.replicate i 120) j false := by
          rcases hbase with ⟨q, _⟩ | q
          · cases q
          · exact q.symm
        obtain ⟨LE, hel⟩ := endL m (baseA v j) (.slice aa j ac) i3 i4 hbb i5 i6
        have gz := i3
        generalize ([.string ⟨⟨[97]⟩⟩, .slice aa j ac, .slice none 0 0, .int .i64 0] : List Value) = C at LE hel
        have y : rr = 0 ↔ j = 0 ∨ i ≤ 60 ∧ j ≤ 8 := by rw [x3]; simp
        have cs : (j = 0 ∧ rr = 0) ∨ (j ≠ 0 ∧ i ≤ 60 ∧ j ≤ 8 ∧ rr = 0) ∨ (j ≠ 0 ∧ i ≤ 60 ∧ 8 < j ∧ rr ≠ 0) ∨ (j ≠ 0 ∧ 60 < i ∧ rr ≠ 0) := by
          by_cases w : j = 0
          · exact .inl ⟨w, y.2 (.inl w)⟩
          by_cases w1 : i ≤ 60
          · by_cases w2 : j ≤ 8
            · exact .inr (.inl ⟨w, w1, w2, y.2 (.inr ⟨w1, w2⟩)⟩)
            · exact .inr (.inr (.inl ⟨w, w1, Nat.lt_of_not_le w2, fun q => (y.1 q).elim w (fun q => w2 q.2)⟩))
          · exact .inr (.inr (.inr ⟨w, Nat.lt_of_not_le w1, fun q => (y.1 q).elim w (fun q => w1 q.1)⟩))
        clear x3 hout y
        cbv
        refine And.intro (fun e => absurd e hj) (fun _ => ?_)
        cbv
        refine ⟨_, LE, ?_⟩
        cbv
        refine .inl (rP EE (by omega) sm1 C _ _ hel _ (fun m3 g3 => ?_))
        have gz3 := gz.trans g3
        clear LE hel endL
        generalize printE EE = s at x1 x2 heq hll ⊢
        cbv
        refine .inl (pS s (by omega) m3 x mm rr x1 _ (fun c m4 g4 e4 => ?_))
        cbv
        refine ⟨_, zE, ?_⟩
        cbv
        refine ⟨_, st_agg T.eS (box_get _ _) rfl e4.len e4.one, ?_⟩
        obtain ⟨j0, j1, j2, j3⟩ := laid (gz3.trans g4) (boxO zC) c (some 25) true
        have e5 := e4.grows j1
        generalize (m4.push (boxO zC)).put m4.next (some (.cells c (some 25) true 0)) = m5 at j0 j1 j2 j3 e5 ⊢
        have L5 := fun m' (k : Grows m5 m') => ld_agg (P := E.P) T.eA T.eS (k.read (read_cells j2 e4.len) j3)
        cbv
        refine .inl (pR s (by omega) heq m5 x mm rr x2 _ (fun c' m6 g6 e6 => ?_))
        cbv
        refine ⟨_, zE, ?_⟩
        cbv
        refine ⟨_, st_agg T.eS (box_get _ _) rfl e6.len e6.one, ?_⟩
        obtain ⟨i0', i1', i2', i3'⟩ := laid (j0.trans g6) (boxO zC) c' (some 25) true
        have e7 := e6.grows i1'
        have e57 := e5.grows (g6.trans i1')
        have g57 := g6.trans i1'
        generalize (m6.push (boxO zC)).put m6.next (some (.cells c' (some 25) true 0)) = m7 at i0' i1' i2' i3' e7 e57 g57 ⊢
        have L7 := ld_agg (P := E.P) T.eA T.eS (read_cells i2' e6.len)
        have L57 := L5 m7 g57
        cbv
        rcases cs with ⟨c1, c2⟩ | ⟨c1, c2, c3, c4⟩ | ⟨c1, c2, c3, c4⟩ | ⟨c1, c2, c3⟩
        all_goals
          repeat' (first
            | (refine And.intro T.bool ?_; cbv)
            | (refine cmpJ_of (And.intro (fun h1 => ?_) (fun h1 => ?_)) <;> simp only [Int.ofNat_eq_natCast] at h1 <;> first | (exfalso; omega) | cbv)
            | (refine And.intro (fun h1 => ?_) (fun h1 => ?_) <;> simp only [Int.ofNat_eq_natCast] at h1 <;> first | (exfalso; omega) | cbv))
        all_goals
          refine ⟨_, L57, ?_⟩
          cbv
          refine ⟨_, L7, ?_⟩
          cbv
          refine .inl (rS x x xsm xsm c c' m7 _ _ e57 e7 _ (fun m8 g8 => ?_))
          rw [hsx]
          cbv
          refine .inl (kn _ _ ?_)
          cbv
          exact ⟨_, rfl, hk _ (i0'.trans g8)⟩
      · by_cases h1j : 1 < j
        · have hjl : j ≠ 0 := by omega
          have hla : lawA (List.replicate i 120) j true = (baseA v j).set (j - 1) (keyL 0, v) := by
            unfold lawA
            rw [if_pos ⟨rfl, h1j⟩, hv]
          have hbl := baseA_len v j
          obtain ⟨r0, q1, q2, q3, q4, q5⟩ : ∃ r, Value.slice aa j ac = .slice (some ⟨r, 0, none⟩) ((baseA v j).map attrC).length (UNK + 2) ∧ (baseA v j).map attrC ≠ [] ∧ r < m.next ∧ h.next + 1 ≤ r ∧ m.m.get r = some (.cells ((baseA v j).map attrC).flatten (some 41) false 0) := by
            rcases i6.ex with ⟨q, _⟩ | q
            · exfalso
              have := congrArg List.length q
              rw [List.length_map, hbl] at this
              exact hjl this
            · exact q
          rw [List.length_map, hbl] at q1
          injection q1 with q1 _ q6
          subst q1 q6
          have hfl : ((baseA v j).map attrC).flatten.length = j * 2 := by
            have := (flat_len i6.len).1
            rwa [List.length_map, hbl] at this
          have hg0 : (baseA v j)[0]? = some (keyL 0, v) := by
            simp [baseA, show 0 < j by omega]
          have hgj : ∃ w, (baseA v j)[j - 1]? = some (w, v) := by
            refine ⟨keyL (j - 1), ?_⟩
            simp [baseA, show j - 1 < j by omega]
          obtain ⟨hgw, hgj⟩ := hgj
          have hfs := flat_set (baseA v j) (j - 1) hgw v (keyL 0) hgj
          rw [← hla] at hfs
          have LN : m.load E.P 9 ⟨r0, 0, none⟩ = some (.string ⟨⟨keyL 0⟩⟩) := by
            refine (ld_one (P := E.P) (i := 0) (n := ((baseA v j).map attrC).flatten.length) T.sA T.sS (read_cells q5 rfl) ?_)
            cases hb : baseA v j with
            | nil => rw [hb] at hg0; cases hg0
            | cons x r =>
              rw [hb] at hg0
              injection hg0 with hg0
              subst hg0
              rfl
          have Mq : m.m = m.m ∧ m.next = m.next ∧ Grows h m := ⟨rfl, rfl, i3⟩
          have hM0 := q5
          cbv
          refine And.intro (fun e => absurd e hj) (fun _ => ?_)
          cbv
          refine cmpJ_of (And.intro (fun _ => ?_) (fun e => absurd (show ((j : Nat) : Int) ≤ (1 : Nat) from e) (by omega)))
          cbv
          refine DrawP.of [0, 1, 0, 4, 0, 16, 48, 112, 240, 511, 1023, 2047] (by kernel_rfl) (by kernel_rfl) ?_
          cbv
          refine ⟨1, T.e1, ?_⟩
          cbv
          refine ⟨_, ld_at LA Mq.1, ?_⟩
          cbv
          refine FitP.stay (f := (.rd (some h.next))) rfl rfl ?_
          generalize hM : mixH _ _ = M'
          have Mq' : M'.m = m.m ∧ M'.next = m.next ∧ Grows h M' := by
            subst hM
            refine ⟨Mq.1, Mq.2.1, ?_⟩
            apply Grows.mixTop
            repeat first | with_reducible exact Mq.2.2 | with_reducible apply Grows.dip
          clear hM Mq
          revert M'
          intro M Mq
          cbv
          obtain ⟨jp, hjp⟩ : ∃ jp, jp + 1 = j := ⟨j - 1, by omega⟩
          have hz : (Int.ofNat j) - 1 = Int.ofNat jp := by
            show ((j : Nat) : Int) - 1 = (jp : Nat)
            omega
          refine bin_subI hz rfl rfl (by show (-9223372036854775808 : Int) ≤ ((jp : Nat) : Int); omega) (by show ((jp : Nat) : Int) < 9223372036854775808; omega) (fun q => q) ?_
          cbv
          refine ⟨1, T.e1, ?_⟩
          cbv
          refine ⟨_, ld_at LA Mq.1, ?_⟩
          cbv
          refine FitP.stay (f := (.rd (some h.next))) rfl rfl ?_
          generalize hM : mixH _ _ = M'
          have Mq' : M'.m = m.m ∧ M'.next = m.next ∧ Grows h M' := by
            subst hM
            refine ⟨Mq.1, Mq.2.1, ?_⟩
            apply Grows.mixTop
            repeat first | with_reducible exact Mq.2.2 | with_reducible apply Grows.dip
          clear hM Mq
          revert M'
          intro M Mq
          cbv
          refine ⟨2, T.lZ, (show 0 < j by omega), ?_⟩
          cbv
          refine ⟨0, T.a0, ?_⟩
          cbv
          refine ⟨_, ld_at LN Mq.1, ?_⟩
          cbv
          refine FitP.stay (f := (.rd (some r0))) rfl rfl ?_
          generalize hM : mixH _ _ = M'
          have Mq' : M'.m = m.m ∧ M'.next = m.next ∧ Grows h M' := by
            subst hM
            refine ⟨Mq.1, Mq.2.1, ?_⟩
            apply Grows.mixTop
            repeat first | with_reducible exact Mq.2.2 | with_reducible apply Grows.dip
          clear hM Mq
          revert M'
          intro M Mq
          cbv
          refine ⟨2, T.lZ, (show jp < j by omega), ?_⟩
          cbv
          refine ⟨0, T.a0, ?_⟩
          cbv
          have hjq : j - 1 = jp := by omega
          rw [hjq] at hfs
          have hix : (Nat.add 0 (jp.mul 2)).add 0 = jp * 2 := by
            show 0 + jp * 2 + 0 = jp * 2
            omega
          have hM2 : M.dip.dip.m.get r0 = some (.cells ((baseA v j).map attrC).flatten (some 41) false 0) := by
            show M.m.get r0 = _
            rw [Mq.1]
            exact q5
          have S1 : (⟨M.dip.dip.m, M.dip.dip.next, top M.dip.dip.next⟩ : H).store E.P 9 ⟨r0, (Nat.add 0 (jp.mul 2)).add 0, none⟩ (.string ⟨⟨keyL 0⟩⟩) = some ((⟨M.dip.dip.m, M.dip.dip.next, top M.dip.dip.next⟩ : H).put r0 (some (.cells ((lawA (List.replicate i 120) j true).map attrC).flatten (some 41) false 0))) := by
            rw [hix, ← hfs]
            exact st_one (P := E.P) (v := .string ⟨⟨keyL 0⟩⟩) (i := jp * 2) T.sS hM2 (by rw [hfl]; omega) rfl rfl
          refine ⟨_, S1, ?_⟩
          refine FitP.put (b := r0) (fun w => rfl) (by simp [fits, clash, Nat.testBit]) ?_
          have g9 := Mq.2.2.dip.dip.mix (Mq.2.2.dip.dip.mark.put (show h.next ≤ r0 by omega) (some (.cells ((lawA (List.replicate i 120) j true).map attrC).flatten (some 41) false 0)))
          have B9 : (mixH M.dip.dip ((⟨M.dip.dip.m, M.dip.dip.next, top M.dip.dip.next⟩ : H).put r0 (some (.cells ((lawA (List.replicate i 120) j true).map attrC).flatten (some 41) false 0)))).m.get h.next = some (boxO [.string ⟨⟨[97]⟩⟩, .slice (some ⟨r0, 0, none⟩) j (UNK + 2), .slice none 0 0, .int .i64 0]) := by
            show ((⟨M.dip.dip.m, M.dip.dip.next, top M.dip.dip.next⟩ : H).put r0 _).m.get h.next = _
            rw [put_get, if_neg (by omega)]
            show M.m.get h.next = _
            rw [Mq.1]
            exact i5
          have R9 : (mixH M.dip.dip ((⟨M.dip.dip.m, M.dip.dip.next, top M.dip.dip.next⟩ : H).put r0 (some (.cells ((lawA (List.replicate i 120) j true).map attrC).flatten (some 41) false 0)))).m.get r0 = some (.cells ((lawA (List.replicate i 120) j true).map attrC).flatten (some 41) false 0) := by
            show ((⟨M.dip.dip.m, M.dip.dip.next, top M.dip.dip.next⟩ : H).put r0 _).m.get r0 = _
            rw [put_get, if_pos rfl]
          have N9 : (mixH M.dip.dip ((⟨M.dip.dip.m, M.dip.dip.next, top M.dip.dip.next⟩ : H).put r0 (some (.cells ((lawA (List.replicate i 120) j true).map attrC).flatten (some 41) false 0)))).next = m.next := Mq.2.1
          generalize mixH M.dip.dip ((⟨M.dip.dip.m, M.dip.dip.next, top M.dip.dip.next⟩ : H).put r0 (some (.cells ((lawA (List.replicate i 120) j true).map attrC).flatten (some 41) false 0))) = m9 at g9 B9 R9 N9 ⊢
          clear S1 hM2
          have hll2 := lawA_len (List.replicate i 120) j true
          have row9 : IsRow m9 (h.next + 1) 41 2 ((lawA (List.replicate i 120) j true).map attrC) (.slice (some ⟨r0, 0, none⟩) j (UNK + 2)) := by
            refine ⟨fun c hc => ?_, .inr ⟨r0, by rw [List.length_map, hll2], fun e => ?_, by rw [N9]; exact q3, q4, R9⟩⟩
            · obtain ⟨x, _, rfl⟩ := List.mem_map.1 hc
              exact ⟨rfl, rfl⟩
            · have := congrArg List.length e
              rw [List.length_map, hll2] at this
              exact hjl this
          obtain ⟨LE, hel⟩ := endL m9 _ _ g9 (by rw [N9]; exact i4) rfl B9 row9
          have gz := g9
          generalize ([.string ⟨⟨[97]⟩⟩, .slice (some ⟨r0, 0, none⟩) j (UNK + 2), .slice none 0 0, .int .i64 0] : List Value) = C at LE hel
          have y : rr ≠ 0 := fun q => by
            have := x3.1 q
            rcases this with q | ⟨_, _, q⟩
            · exact hjl q
            · exact q ⟨rfl, h1j⟩
          clear x3 hout
          cbv
          refine ⟨_, LE, ?_⟩
          cbv
          refine .inl (rP EE (by omega) sm1 C _ _ hel _ (fun m3 g3 => ?_))
          have gz3 := gz.trans g3
          clear LE hel endL
          generalize printE EE = s at x1 x2 heq hll ⊢
          cbv
          refine .inl (pS s (by omega) m3 x mm rr x1 _ (fun c m4 g4 e4 => ?_))
          cbv
          refine ⟨_, zE, ?_⟩
          cbv
          refine ⟨_, st_agg T.eS (box_get _ _) rfl e4.len e4.one, ?_⟩
          obtain ⟨j0, j1, j2, j3⟩ := laid (gz3.trans g4) (boxO zC) c (some 25) true
          have e5 := e4.grows j1
          generalize (m4.push (boxO zC)).put m4.next (some (.cells c (some 25) true 0)) = m5 at j0 j1 j2 j3 e5 ⊢
          have L5 := fun m' (k : Grows m5 m') => ld_agg (P := E.P) T.eA T.eS (k.read (read_cells j2 e4.len) j3)
          cbv
          refine .inl (pR s (by omega) heq m5 x mm rr x2 _ (fun c' m6 g6 e6 => ?_))
          cbv
          refine ⟨_, zE, ?_⟩
          cbv
          refine ⟨_, st_agg T.eS (box_get _ _) rfl e6.len e6.one, ?_⟩
          obtain ⟨i0', i1', i2', i3'⟩ := laid (j0.trans g6) (boxO zC) c' (some 25) true
          have e7 := e6.grows i1'
          have e57 := e5.grows (g6.trans i1')
          have g57 := g6.trans i1'
          generalize (m6.push (boxO zC)).put m6.next (some (.cells c' (some 25) true 0)) = m7 at i0' i1' i2' i3' e7 e57 g57 ⊢
          have L7 := ld_agg (P := E.P) T.eA T.eS (read_cells i2' e6.len)
          have L57 := L5 m7 g57
          cbv
          all_goals
            repeat' (first
              | (refine And.intro T.bool ?_; cbv)
              | (refine cmpJ_of (And.intro (fun h1 => ?_) (fun h1 => ?_)) <;> simp only [Int.ofNat_eq_natCast] at h1 <;> first | (exfalso; omega) | cbv)
              | (refine And.intro (fun h1 => ?_) (fun h1 => ?_) <;> simp only [Int.ofNat_eq_natCast] at h1 <;> first | (exfalso; omega) | cbv))
          all_goals
            refine ⟨_, L57, ?_⟩
            cbv
            refine ⟨_, L7, ?_⟩
            cbv
            refine .inl (rS x x xsm xsm c c' m7 _ _ e57 e7 _ (fun m8 g8 => ?_))
            rw [hsx]
            cbv
            refine .inl (kn _ _ ?_)
            cbv
            exact ⟨_, rfl, hk _ (i0'.trans g8)⟩
        · have hbb : baseA v j = lawA (List.replicate i 120) j true := by
            rcases hbase with ⟨_, q⟩ | q
            · exact absurd q h1j
            · exact q.symm
          obtain ⟨LE, hel⟩ := endL m (baseA v j) (.slice aa j ac) i3 i4 hbb i5 i6
          have gz := i3
          generalize ([.string ⟨⟨[97]⟩⟩, .slice aa j ac, .slice none 0 0, .int .i64 0] : List Value) = C at LE hel
          have y : rr = 0 ↔ j = 0 ∨ i ≤ 60 ∧ j ≤ 8 := by rw [x3]; simp [h1j]
          have cs : (j = 0 ∧ rr = 0) ∨ (j ≠ 0 ∧ i ≤ 60 ∧ rr = 0) ∨ (j ≠ 0 ∧ 60 < i ∧ rr ≠ 0) := by
            by_cases w : j = 0
            · exact .inl ⟨w, y.2 (.inl w)⟩
            by_cases w1 : i ≤ 60
            · exact .inr (.inl ⟨w, w1, y.2 (.inr ⟨w1, by omega⟩)⟩)
            · exact .inr (.inr ⟨w, Nat.lt_of_not_le w1, fun q => (y.1 q).elim w (fun q => w1 q.1)⟩)
          clear x3 hout y
          cbv
          refine And.intro (fun e => absurd e hj) (fun _ => ?_)
          cbv
          refine cmpJ_of (And.intro (fun e => absurd (show ((1 : Nat) : Int) < (j : Nat) from e) (by omega)) (fun _ => ?_))
          cbv
          refine ⟨_, LE, ?_⟩
          cbv
          refine .inl (rP EE (by omega) sm1 C _ _ hel _ (fun m3 g3 => ?_))
          have gz3 := gz.trans g3
          clear LE hel endL
          generalize printE EE = s at x1 x2 heq hll ⊢
          cbv
          refine .inl (pS s (by omega) m3 x mm rr x1 _ (fun c m4 g4 e4 => ?_))
          cbv
          refine ⟨_, zE, ?_⟩
          cbv
          refine ⟨_, st_agg T.eS (box_get _ _) rfl e4.len e4.one, ?_⟩
          obtain ⟨j0, j1, j2, j3⟩ := laid (gz3.trans g4) (boxO zC) c (some 25) true
          have e5 := e4.grows j1
          generalize (m4.push (boxO zC)).put m4.next (some (.cells c (some 25) true 0)) = m5 at j0 j1 j2 j3 e5 ⊢
          have L5 := fun m' (k : Grows m5 m') => ld_agg (P := E.P) T.eA T.eS (k.read (read_cells j2 e4.len) j3)
          cbv
          refine .inl (pR s (by omega) heq m5 x mm rr x2 _ (fun c' m6 g6 e6 => ?_))
          cbv
          refine ⟨_, zE, ?_⟩
          cbv
          refine ⟨_, st_agg T.eS (box_get _ _) rfl e6.len e6.one, ?_⟩
          obtain ⟨i0', i1', i2', i3'⟩ := laid (j0.trans g6) (boxO zC) c' (some 25) true
          have e7 := e6.grows i1'
          have e57 := e5.grows (g6.trans i1')
          have g57 := g6.trans i1'
          generalize (m6.push (boxO zC)).put m6.next (some (.cells c' (some 25) true 0)) = m7 at i0' i1' i2' i3' e7 e57 g57 ⊢
          have L7 := ld_agg (P := E.P) T.eA T.eS (read_cells i2' e6.len)
          have L57 := L5 m7 g57
          cbv
          rcases cs with ⟨c1, c2⟩ | ⟨c1, c2, c3⟩ | ⟨c1, c2, c3⟩
          all_goals
            repeat' (first
              | (refine And.intro T.bool ?_; cbv)
              | (refine cmpJ_of (And.intro (fun h1 => ?_) (fun h1 => ?_)) <;> simp only [Int.ofNat_eq_natCast] at h1 <;> first | (exfalso; omega) | cbv)
              | (refine And.intro (fun h1 => ?_) (fun h1 => ?_) <;> simp only [Int.ofNat_eq_natCast] at h1 <;> first | (exfalso; omega) | cbv))
          all_goals
            refine ⟨_, L57, ?_⟩
            cbv
            refine ⟨_, L7, ?_⟩
            cbv
            refine .inl (rS x x xsm xsm c c' m7 _ _ e57 e7 _ (fun m8 g8 => ?_))
            rw [hsx]
            cbv
            refine .inl (kn _ _ ?_)
            cbv
            exact ⟨_, rfl, hk _ (i0'.trans g8)⟩
end Go.Proofs.YtfgemjpoiconbaaGreatDoor.GEv

