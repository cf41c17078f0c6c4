import Derived.Test.YtfgemjpoiconbaaGreatDoorGXmxF
import Derived.Test.YtfgemjpoiconbaaGreatDoorGXmpA
/- XmlValues, by a symbolic run. -/
namespace Go.Proofs.YtfgemjpoiconbaaGreatDoor.GEv
open Go
set_option linter.unusedSimpArgs false
set_option linter.unusedVariables false
set_option maxRecDepth 100000
set_option maxHeartbeats 2000000
abbrev valE (v : Bs) : El := .mk [97] [([120], v)] [] 0
theorem val_fair {v : Bs} (hs : signs v = true) (hl : v.length ≤ 60) : fairS (valE v) 0 = true := by
  have h1 : isQual [97] = true := by decide +kernel
  have h2 : isQual [120] = true := by decide +kernel
  simp [fairS, fairA, fairX, fairK, dupA, h1, h2, hs, hl]
/-- An element is built of a name and attributes. -/
theorem elBuild2 : ∃ fs : Array Field, EM.P.underlying 25 = some (.struct fs) ∧ (∀ (n : ByteArray) (a : Option Addr) (l c : Nat), fillL (fun i => (fs[i]?).bind fun f => (sizeOf EM.P f.type).map fun s => (f.offset, s)) zC [(0, .string n), (1, .slice a l c)] = some [.string n, .slice a l c, .slice none 0 0, .int .i64 0]) ∧ fs.toList.all (fun f => (sizeOf EM.P f.type).isSome) = true := by
  obtain ⟨f1, f2, f3, f4, h, t1, t2, t3, t4, o1, o2, o3, o4⟩ := elemFs
  have T : TyOk EM.P := tyOk
  refine ⟨#[f1, f2, f3, f4], h, fun n a l c => ?_, by simp [t1, t2, t3, t4, T.sS, T.lS, T.kS, T.iS]⟩
  have e0 : ((#[f1, f2, f3, f4] : Array Field)[0]?) = some f1 := rfl
  have e1 : ((#[f1, f2, f3, f4] : Array Field)[1]?) = some f2 := rfl
  simp only [fillL, e0, e1, Option.bind_some, t1, t2, T.sS, T.lS, Option.map_some, o1, o2]
  rfl
attribute [local cbv_opaque] isString isSlice isBoolT fOff iSize eqNil zero H.load H.store H.push H.dip H.put List.length List.getD Nat.add Nat.sub Nat.mul List.take List.drop top Addr.add mixH cmpJ ariJ signs printE
attribute [local cbv_eval] List.length_cons List.length_nil addr_add mixH_top
theorem lValues {E : Env} (hE : E = EMY) (v : Bs) (hv : v.length ≤ 2000000) (h : H) (K : Value → H → Prop) (hk : ∀ h', Grows h h' → K (.bool true) h') :
    CallP E 7 [.string ⟨⟨v⟩⟩] h K := by
  have T : TyOk E.P := by rw [hE]; exact tyOk
  have RT : RowT E.P 22 41 2 := by rw [hE]; exact rowAttr
  obtain ⟨fa, AB⟩ : ∃ fs, AtBuild E.P fs := by rw [hE]; exact atBuild
  obtain ⟨fs, U1, U2, U3⟩ : ∃ fs : Array Field, E.P.underlying 25 = some (.struct fs) ∧ (∀ (n : ByteArray) (a : Option Addr) (l c : Nat), fillL (fun i => (fs[i]?).bind fun f => (sizeOf E.P f.type).map fun s => (f.offset, s)) zC [(0, .string n), (1, .slice a l c)] = some [.string n, .slice a l c, .slice none 0 0, .int .i64 0]) ∧ fs.toList.all (fun f => (sizeOf E.P f.type).isSome) = true := by rw [hE]; exact elBuild2
  have zE : zero E.P 25 = some (.agg #[.string ⟨⟨[]⟩⟩, .slice none 0 0, .slice none 0 0, .int .i64 0]) := by rw [hE]; exact zElem
  refine CallP.ofXE hE rfl Tryz.func7 rfl (Nat.le_of_ble_eq_true rfl) ?_
  have nS := fun l hl h K hk => yrSigns hE l hl h K hk
  have nP := fun e hw he c h S hi K hk => nPrint hE (szE e) e (Nat.le_refl _) hw he c h S hi K hk
  have pS := fun s hs h e n er hp K hk => xParse hE 1000 (by decide) s hs h e n er hp K hk
  have kn := fun h K hk => knownY hE h K hk
  clear hE
  cbv
  refine .inl (nS v hv _ _ ?_)
  cases hs : signs v
  · cbv
    exact ⟨_, rfl, hk _ (Grows.refl h)⟩
  cbv
  refine And.intro T.str ?_
  refine And.intro (fun q => ?_) (fun q => ?_)
  · cbv
    exact ⟨_, rfl, hk _ (Grows.refl h)⟩
  have hl : v.length ≤ 60 := q
  cbv
  refine raw_build rfl AB.z AB.u (AB.f [120] v) AB.a ?_
  cbv
  refine raw_buildSlice rfl RT.u AB.z T.aS (by decide) (c := attrC ([120], v)) rfl ?_
  have g1 : Grows h (h.push (.cells (attrC ([120], v)) (some 41) true 0)) := (Grows.refl h).push _
  have B1 := box_get h (.cells (attrC ([120], v)) (some 41) true 0)
  have N1 : (h.push (.cells (attrC ([120], v)) (some 41) true 0)).next = h.next + 1 := rfl
  generalize h.push (.cells (attrC ([120], v)) (some 41) true 0) = m1 at g1 B1 N1 ⊢
  cbv
  refine raw_build rfl zE U1 (U2 _ _ _ _) U3 ?_
  cbv
  refine ⟨_, zE, ?_⟩
  cbv
  have S2 : (m1.push (boxO zC)).store E.P 25 ⟨m1.next, 0, none⟩ (.agg (elC [97] (some ⟨h.next, 0, none⟩) 1 1 none 0 0 0).toArray) = some ((m1.push (boxO zC)).put m1.next (some (boxO (elC [97] (some ⟨h.next, 0, none⟩) 1 1 none 0 0 0)))) := st_agg T.eS (box_get _ _) rfl rfl rfl
  refine ⟨_, S2, ?_⟩
  obtain ⟨j0, j1, j2, j3⟩ := laid g1 (boxO zC) (elC [97] (some ⟨h.next, 0, none⟩) 1 1 none 0 0 0) (some 25) true
  generalize (m1.push (boxO zC)).put m1.next (some (boxO (elC [97] (some ⟨h.next, 0, none⟩) 1 1 none 0 0 0))) = m2 at j0 j1 j2 j3 S2 ⊢
  have hat : IsAt m2 (fun _ => True) [([120], v)] (.slice (some ⟨h.next, 0, none⟩) 1 1) := by
    refine ⟨_, _, rfl, .inr ⟨h.next, 0, rfl, trivial, by omega, fun i x hx => ?_⟩⟩
    cases i with
    | zero =>
      obtain rfl : ([120], v) = x := by simpa using hx
      exact read_cells ((j1.keep h.next (by omega)).trans B1) rfl
    | succ i => simp at hx
  have hel : IsEl m2 (fun _ => True) (valE v) (elC [97] (some ⟨h.next, 0, none⟩) 1 1 none 0 0 0) := .leaf hat (fun _ q => by cases q)
  have hF := val_fair hs hl
  have hsm : Small (valE v) := .mk (by simp) (by simp) (by intro x hx; obtain rfl := List.mem_singleton.1 hx; exact ⟨by simp, by show v.length ≤ 10000; omega⟩) (by simp) (by simp)
  have hw : wE (valE v) ≤ 1000000 := by
    simp only [wE, wA, wK]
    simp
    omega
  have pl := wE_len (valE v)
  have hx : (printE (valE v)).length ≤ 8000 := by
    have := escape_len true v
    have e : printE (valE v) = [60, 97] ++ attrT ([120], v) ++ [47, 62] := by simp only [printE]; simp
    rw [e]
    simp [attrT]
    omega
  obtain ⟨x, hp, hsame⟩ := read_printed (f := 1000) hF (by show 1 ≤ 400; decide) hx (by show 2 * 1 + 12 ≤ 1000; decide)
  have L2 := ld_agg (P := E.P) T.eA T.eS (read_cells j2 rfl)
  cbv
  refine ⟨_, L2, ?_⟩
  cbv
  refine .inl (nP (valE v) hw hsm _ m2 _ hel _ (fun m3 g3 => ?_))
  generalize printE (valE v) = s at hp pl hx ⊢
  cbv
  refine .inl (pS s (by omega) m3 x s.length 0 hp _ (fun c m4 g4 e4 => ?_))
  obtain ⟨xn, xa, xk, xp⟩ := x
  have hxa : xa = [([120], v)] := by
    simp only [sameS, Bool.and_eq_true, decide_eq_true_eq] at hsame
    exact hsame.1.2
  subst hxa
  obtain ⟨aa, ac, ka, kc, rfl, hat4, _⟩ := e4.cut
  have e4l := e4.len
  have e4o := e4.one
  clear e4
  cbv
  refine ⟨_, zE, ?_⟩
  cbv
  refine ⟨_, st_agg T.eS (box_get _ _) rfl e4l e4o, ?_⟩
  obtain ⟨i0, i1, i2, i3⟩ := laid ((j0.trans g3).trans g4) (boxO zC) (elC xn aa 1 ac ka xk.length kc xp) (some 25) true
  have hat5 := hat4.grows i1
  generalize (m4.push (boxO zC)).put m4.next (some (.cells (elC xn aa 1 ac ka xk.length kc xp) (some 25) true 0)) = m5 at i0 i1 i2 i3 hat5 ⊢
  obtain ⟨_, _, he, hr⟩ := hat5
  injection he with he1 he2 he3
  subst he1
  have hr : ∃ b off, aa = some ⟨b, off, none⟩ ∧ m4.next ≤ m4.next ∧ b < m5.next ∧ m5.read b (off + 0 * 2) 2 = some (attrC ([120], v)) := by
    rcases hr with ⟨q, _⟩ | ⟨b, off, q1, q2, q3, q4⟩
    · cases q
    · exact ⟨b, off, q1, Nat.le_refl _, q3, q4 0 _ rfl⟩
  obtain ⟨rb, ro, rfl, _, hrb, hrd⟩ := hr
  have LA := ld_one (P := E.P) (i := 1) T.lA T.lS (read_cells i2 rfl) rfl
  have LV := ld_one (P := E.P) (i := 1) T.sA T.sS hrd rfl
  cbv
  refine And.intro (fun _ => ?_) (fun q => absurd rfl q)
  cbv
  refine ⟨1, T.e1, ?_⟩
  cbv
  refine ⟨_, LA, ?_⟩
  cbv
  refine And.intro T.lT ?_
  refine And.intro (fun _ => ?_) (fun q => absurd rfl q)
  cbv
  refine ⟨1, T.e1, ?_⟩
  cbv
  refine ⟨_, LA, ?_⟩
  cbv
  refine ⟨2, T.lZ, (by decide), ?_⟩
  cbv
  refine ⟨1, T.a1, ?_⟩
  cbv
  refine ⟨_, LV, ?_⟩
  cbv
  refine And.intro (fun _ => ?_) (fun q => absurd rfl q)
  cbv
  refine .inl (kn _ _ ?_)
  cbv
  exact ⟨_, rfl, hk _ i0⟩
end Go.Proofs.YtfgemjpoiconbaaGreatDoor.GEv

