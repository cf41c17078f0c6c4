import Derived.Test.YtfgemjpoiconbaaGreatDoorGXmxG
import Derived.Test.YtfgemjpoiconbaaGreatDoorGXmpB
/- XmlCut, by a symbolic run. -/
namespace Go.Proofs.YtfgemjpoiconbaaGreatDoor.GEv
open Go
set_option linter.unusedSimpArgs false
set_option linter.unusedVariables false
set_option maxRecDepth 100000
set_option maxHeartbeats 2000000
section raws
variable {E : Env} {l : L} {h : H} {dst : Option Nat} {ty pos after guard} {K : Value → H → Prop}
theorem raw_and {t : TypeId} {yt} {x y : Operand} {k : IntKind} {a b r : Int} (hx : evL l x = some (.int k a)) (hy : evL l y = some (.int k b)) (hw : k.wrap ((BitVec.ofInt k.bits a &&& BitVec.ofInt k.bits b).toNat : Int) = r) (hk : K (.int k r) h) :
    RawP E l h ⟨dst, .binOp .and t x y yt, ty, pos, after, guard⟩ K :=
  raw_bin hx hy rfl (by cases k <;> rfl) rfl (v := .int k r) (by subst hw; simp [binOp, Op.intBits, pureRun, bind, pure, Sem.bind]) rfl hk
theorem raw_remX {t : TypeId} {yt} {x y : Operand} {k : IntKind} {a b r : Int} (hx : evL l x = some (.int k a)) (hy : evL l y = some (.int k b)) (hb : b ≠ 0) (hw : a.tmod b = r) (hk : K (.int k r) h) :
    RawP E l h ⟨dst, .binOp .rem t x y yt, ty, pos, after, guard⟩ K :=
  raw_bin hx hy rfl (by cases k <;> rfl) rfl (v := .int k r) (by subst hw; simp [binOp, Op.intDiv, if_neg hb, pureRun, bind, pure, Sem.bind]) rfl hk
end raws
theorem and_low (z : Int) : ∃ m : Nat, m ≤ 65535 ∧ IntKind.i64.wrap ((BitVec.ofInt IntKind.i64.bits z &&& BitVec.ofInt IntKind.i64.bits 65535).toNat : Int) = .ofNat m := by
  refine ⟨(BitVec.ofInt IntKind.i64.bits z &&& BitVec.ofInt IntKind.i64.bits 65535).toNat, ?_, ?_⟩
  · rw [BitVec.toNat_and]
    exact Nat.and_le_right
  · have h : (BitVec.ofInt IntKind.i64.bits z &&& BitVec.ofInt IntKind.i64.bits 65535).toNat ≤ 65535 := by
      rw [BitVec.toNat_and]
      exact Nat.and_le_right
    exact wrapI (by omega) (by omega)
theorem cmp_and {a b : Int} {Kb : Bool → Prop} {Kv : Value → Prop} {k : IntKind} {R : Prop} (h : R) : cmpJ .and a b Kb (ariJ .and k a b Kv R) := by
  refine cmpJ_of ?_
  show ariJ .and k a b Kv R
  unfold ariJ
  exact h
theorem cmp_rem {a b : Int} {Kb : Bool → Prop} {Kv : Value → Prop} {k : IntKind} {R : Prop} (h : R) : cmpJ .rem a b Kb (ariJ .rem k a b Kv R) := by
  refine cmpJ_of ?_
  show ariJ .rem k a b Kv R
  unfold ariJ
  exact h
attribute [local cbv_opaque] isString isSlice isBoolT fOff iSize eqNil zero H.load H.store H.push H.dip H.put List.length Nat.add Nat.sub Nat.mul List.take List.drop top Addr.add mixH attrC sameS sameK heavyS fairS printE cmpJ ariJ
attribute [local cbv_eval] List.length_cons List.length_nil addr_add mixH_top
theorem lCut {E : Env} (hE : E = EMY) (a : El) (ca : List Value) (z : Int) (h : H) (S : Nat → Prop) (hia : IsEl h S a ca) (ga : Big a) (K : Value → H → Prop) (hk : ∀ h', Grows h h' → K (.bool true) h') :
    CallP E 4 [.agg ca.toArray, .int .i64 z] h K := by
  have T : TyOk E.P := by rw [hE]; exact tyOk
  have zE : zero E.P 25 = some (.agg #[.string ⟨⟨[]⟩⟩, .slice none 0 0, .slice none 0 0, .int .i64 0]) := by rw [hE]; exact zElem
  refine CallP.ofXE hE rfl Tryz.func4 rfl (Nat.le_of_ble_eq_true rfl) ?_
  have nH := fun e he c h S hi r h1 h2 K hk => nHeavy hE (szE e) e (Nat.le_refl _) he c h S hi r h1 h2 K hk
  have nF := fun e he c h S hi d hd K hk => nFair hE (szE e) e (Nat.le_refl _) he c h S hi d hd K hk
  have rP := fun e hz he c h S hi K hk => rPrint hE (szE e) e (Nat.le_refl _) hz he c h S hi K hk
  have pS := fun s hs h e n er hp K hk => xParse hE 1000 (by decide) s hs h e n er hp K hk
  have kn := fun h K hk => knownY hE h K hk
  clear hE
  have la := hia.len
  cbv
  generalize e1 : h.push (boxO ca) = g
  have G1 : g.m.get h.next = some (boxO ca) := by rw [← e1]; exact box_get _ _
  have W : Grows h g := by rw [← e1]; exact (Grows.refl h).push _
  have N1 : h.next < g.next := by rw [← e1]; exact Nat.lt_succ_self _
  have B1 := read_cells G1 la
  have X := fun m (k : Grows g m) => ld_agg (P := E.P) T.eA T.eS (k.read B1 N1)
  clear e1 G1
  refine ⟨_, X g (Grows.refl g), ?_⟩
  cbv
  refine .inl (nH a ga ca g S (hia.grows W) 100 (by decide) (by decide) _ (fun m1 g1 => ?_))
  cbv
  refine cmpJ_of (And.intro (fun q1 => ?_) (fun q1 => ?_))
  · cbv
    exact ⟨_, rfl, hk _ (W.trans g1)⟩
  have p1 : 0 < heavyS a 100 := by omega
  have sa := heavyS_small a 100 (by decide) p1
  have wa := heavyS_w a 100 p1
  have wa1 : wE a ≤ 1000000 := by omega
  have za1 : szE a ≤ 200 := by omega
  cbv
  refine ⟨_, X m1 g1, ?_⟩
  cbv
  refine .inl (nF a sa.1 ca m1 S (hia.grows (W.trans g1)) 0 (by decide) _ (fun m2 g2 => ?_))
  have k2 := g1.trans g2
  cases hf : fairS a 0
  · cbv
    exact ⟨_, rfl, hk _ (W.trans k2)⟩
  have pl := wE_len a
  cbv
  refine ⟨_, X m2 k2, ?_⟩
  cbv
  refine .inl (rP a (by omega) sa.1 ca m2 S (hia.grows (W.trans k2)) _ (fun m3 g3 => ?_))
  have k3 := k2.trans g3
  have hpos : 0 < (printE a).length := by
    obtain ⟨c, r, hq, _⟩ := gapE_head [] hf
    rw [← gapE_nil, hq]
    simp
  have hcut := fun k hk hl => read_cut (f := 1000) (k := k) hf (by omega) hk hl (by omega)
  obtain ⟨m, hm, hw⟩ := and_low z
  generalize printE a = s at hpos hcut pl ⊢
  have hkl : m % s.length < s.length := Nat.mod_lt _ hpos
  have hrem : (Int.ofNat m).tmod (Int.ofNat s.length) = .ofNat (m % s.length) := rfl
  have hcut := hcut (m % s.length) hkl
  generalize m % s.length = k at hkl hrem hcut
  cbv
  refine cmp_and (raw_and rfl rfl hw ?_)
  cbv
  refine And.intro T.str ?_
  refine cmp_rem (raw_remX rfl rfl (by show ((s.length : Nat) : Int) ≠ 0; omega) hrem ?_)
  cbv
  refine And.intro T.str (And.intro (Nat.zero_le _) (And.intro (Nat.le_of_lt hkl) ?_))
  have ht : List.take (Nat.sub k 0) (List.drop 0 s) = s.take k := rfl
  rw [ht]
  have htl : (s.take k).length = k := by rw [List.length_take]; omega
  by_cases hl : 8000 < s.length
  · have hx : ∃ e n er, parseS 1000 (s.take k) = some (e, n, er) := by
      by_cases h8 : 8000 < k
      · exact ⟨_, _, _, parse_long (by omega) 1000⟩
      · obtain ⟨n, hp, _⟩ := hcut (by omega)
        exact ⟨_, _, _, hp⟩
    obtain ⟨x, n, er, hp⟩ := hx
    refine .inl (pS (s.take k) (by omega) m3 x n er hp _ (fun c m4 g4 e4 => ?_))
    cbv
    refine ⟨_, zE, ?_⟩
    cbv
    refine ⟨_, st_agg T.eS (box_get _ _) rfl e4.len e4.one, ?_⟩
    obtain ⟨j0, j1, j2, j3⟩ := laid (k3.trans g4) (boxO [.string ⟨⟨[]⟩⟩, .slice none 0 0, .slice none 0 0, .int .i64 0]) c (some 25) true
    generalize (m4.push (boxO [.string ⟨⟨[]⟩⟩, .slice none 0 0, .slice none 0 0, .int .i64 0])).put m4.next (some (.cells c (some 25) true 0)) = m5 at j0 j1 j2 j3 ⊢
    cbv
    refine And.intro T.str ?_
    refine And.intro (fun _ => ?_) (fun q => absurd hl (Nat.not_lt.2 q))
    cbv
    exact ⟨_, rfl, hk _ (W.trans j0)⟩
  · obtain ⟨n, hp, hn⟩ := hcut (by omega)
    refine .inl (pS (s.take k) (by omega) m3 nothing n 2 hp _ (fun c m4 g4 e4 => ?_))
    cbv
    refine ⟨_, zE, ?_⟩
    cbv
    refine ⟨_, st_agg T.eS (box_get _ _) rfl e4.len e4.one, ?_⟩
    obtain ⟨j0, j1, j2, j3⟩ := laid (k3.trans g4) (boxO [.string ⟨⟨[]⟩⟩, .slice none 0 0, .slice none 0 0, .int .i64 0]) c (some 25) true
    generalize (m4.push (boxO [.string ⟨⟨[]⟩⟩, .slice none 0 0, .slice none 0 0, .int .i64 0])).put m4.next (some (.cells c (some 25) true 0)) = m5 at j0 j1 j2 j3 ⊢
    cbv
    refine And.intro T.str ?_
    refine And.intro (fun q => absurd q hl) (fun _ => ?_)
    cbv
    refine And.intro (fun _ => ?_) (fun q => absurd rfl q)
    cbv
    refine And.intro (fun _ => ?_) (fun q => absurd q (Nat.not_lt_zero _))
    cbv
    refine And.intro (fun _ => ?_) (fun q => absurd hn (Nat.not_le.2 q))
    cbv
    refine .inl (kn _ _ ?_)
    cbv
    exact ⟨_, rfl, hk _ (W.trans j0)⟩
end Go.Proofs.YtfgemjpoiconbaaGreatDoor.GEv

