import Derived.Test.YtfgemjpoiconbaaGreatDoorGXmxG
import Derived.Test.YtfgemjpoiconbaaGreatDoorGXmpC
/- XmlBlanks, by a symbolic run. -/
namespace Go.Proofs.YtfgemjpoiconbaaGreatDoor.GEv
open Go
set_option linter.unusedSimpArgs false
set_option linter.unusedVariables false
set_option maxRecDepth 100000
set_option maxHeartbeats 2000000
/-- Rows of texts. -/
structure StOk (P : Program) : Prop where
  u : P.underlying 38 = some (.slice 9)
  z : zero P 9 = some (.string ⟨⟨[]⟩⟩)
  t : isSlice P (some 38) = true
  i : iSize P 38 = some 1
theorem stOk : StOk EM.P := ⟨by kernel_rfl, by kernel_rfl, by kernel_rfl, by kernel_rfl⟩
attribute [local cbv_opaque] isString isSlice isBoolT fOff iSize eqNil zero H.load H.store H.push H.dip H.put List.length List.getD Nat.add Nat.sub Nat.mul List.take List.drop top Addr.add mixH attrC sameS sameK heavyS fairS printE cmpJ ariJ List.append
attribute [local cbv_eval] List.length_cons List.length_nil addr_add mixH_top
theorem lBlanks {E : Env} (hE : E = EMY) (a : El) (ca : List Value) (z : Int) (h : H) (S : Nat → Prop) (hia : IsEl h S a ca) (ga : Big a) (K : Value → H → Prop) (hk : ∀ h', Grows h h' → K (.bool true) h') :
    CallP E 6 [.agg ca.toArray, .int .i64 z] h K := by
  have T : TyOk E.P := by rw [hE]; exact tyOk
  have ST : StOk E.P := by rw [hE]; exact stOk
  have zE : zero E.P 25 = some (.agg #[.string ⟨⟨[]⟩⟩, .slice none 0 0, .slice none 0 0, .int .i64 0]) := by rw [hE]; exact zElem
  refine CallP.ofXE hE rfl Tryz.func6 rfl (Nat.le_of_ble_eq_true rfl) ?_
  have nH := fun e he c h S hi r h1 h2 K hk => nHeavy hE (szE e) e (Nat.le_refl _) he c h S hi r h1 h2 K hk
  have nF := fun e he c h S hi d hd K hk => nFair hE (szE e) e (Nat.le_refl _) he c h S hi d hd K hk
  have rP := fun e hz he c h S hi K hk => rPrint hE (szE e) e (Nat.le_refl _) hz he c h S hi K hk
  have rS := fun e f he hf c d h S S' hi hj K hk => rSame hE (szE e) e f (Nat.le_refl _) he hf c d h S S' hi hj K hk
  have pS := fun s hs h e n er hp K hk => xParse hE 1000 (by decide) s hs h e n er hp K hk
  have kn := fun h K hk => knownY hE h K hk
  clear hE
  have la := hia.len
  cbv
  generalize e1 : h.push (boxO ca) = g
  have G1 : g.m.get h.next = some (boxO ca) := by rw [← e1]; exact box_get _ _
  have W : Grows h g := by rw [← e1]; exact (Grows.refl h).push _
  have N1 : h.next < g.next := by rw [← e1]; exact Nat.lt_succ_self _
  have B1 := read_cells G1 la
  have X := fun m (k : Grows g m) => ld_agg (P := E.P) T.eA T.eS (k.read B1 N1)
  clear e1 G1
  refine ⟨_, X g (Grows.refl g), ?_⟩
  cbv
  refine .inl (nH a ga ca g S (hia.grows W) 60 (by decide) (by decide) _ (fun m1 g1 => ?_))
  cbv
  refine cmpJ_of (And.intro (fun q1 => ?_) (fun q1 => ?_))
  · cbv
    exact ⟨_, rfl, hk _ (W.trans g1)⟩
  have p1 : 0 < heavyS a 60 := by omega
  have sa := heavyS_small a 60 (by decide) p1
  have wa := heavyS_w a 60 p1
  have wa1 : wE a ≤ 1000000 := by omega
  have za1 : szE a ≤ 200 := by omega
  cbv
  refine ⟨_, X m1 g1, ?_⟩
  cbv
  refine .inl (nF a sa.1 ca m1 S (hia.grows (W.trans g1)) 0 (by decide) _ (fun m2 g2 => ?_))
  have k2 := g1.trans g2
  cases hf : fairS a 0
  · cbv
    exact ⟨_, rfl, hk _ (W.trans k2)⟩
  cbv
  refine cmpJ_of (And.intro (fun q2 => ?_) (fun q2 => ?_))
  · cbv
    exact ⟨_, rfl, hk _ (W.trans k2)⟩
  cbv
  refine cmpJ_of (And.intro (fun q3 => ?_) (fun q3 => ?_))
  · cbv
    exact ⟨_, rfl, hk _ (W.trans k2)⟩
  obtain ⟨k, rfl⟩ : ∃ k : Nat, z = .ofNat k := ⟨z.toNat, (Int.toNat_of_nonneg q2).symm⟩
  have hk3 : k ≤ 3 := by have : ((k : Nat) : Int) ≤ 3 := q3; omega
  obtain ⟨gp, hgp, hfill, hgl⟩ := gaps_fill k hk3
  have pl := wE_len a
  cbv
  refine ⟨_, X m2 k2, ?_⟩
  cbv
  refine .inl (rP a (by omega) sa.1 ca m2 S (hia.grows (W.trans k2)) _ (fun m3 g3 => ?_))
  have k3 := k2.trans g3
  have hgt := GapTo.el (g := gp) a 0 hf
  have hall := fun s hs hl => read_all (f := 1000) (s := s) hfill hf (by omega) hs hl (by omega)
  generalize gapE gp a ++ gp = res at hgt hall
  generalize printE a = s at pl hgt ⊢
  cbv
  refine raw_buildSlice rfl ST.u ST.z T.sS (by decide) (c := gapsL.map fun g => .string ⟨⟨g⟩⟩) rfl ?_
  have g4 : Grows m3 (m3.push (.cells (gapsL.map fun g => .string ⟨⟨g⟩⟩) (some 9) true 0)) := (Grows.refl m3).push _
  have B4 := box_get m3 (.cells (gapsL.map fun g => .string ⟨⟨g⟩⟩) (some 9) true 0)
  generalize m3.push (.cells (gapsL.map fun g => .string ⟨⟨g⟩⟩) (some 9) true 0) = m4 at g4 B4 ⊢
  have k4 := k3.trans g4
  have L4 := ld_one (P := E.P) (i := k) T.sA T.sS (read_cells B4 rfl) (v := .string ⟨⟨gp⟩⟩) (by rw [List.getElem?_map, hgp]; rfl)
  cbv
  refine ⟨1, ST.i, (by omega), ?_⟩
  cbv
  refine ⟨.string ⟨⟨gp⟩⟩, ?_, ?_⟩
  · show m4.load E.P 9 ⟨m3.next, 0 + k * 1, none⟩ = _
    rw [Nat.mul_one]
    exact L4
  clear B4 L4 hgp
  cbv
  refine LoopP.onX (fun x : Nat × Bs × Bool => [(9, .int .i64 (.ofNat x.1)), (7, .string ⟨⟨x.2.1⟩⟩), (8, .bool x.2.2), (6, .string ⟨⟨gp⟩⟩), (5, .string ⟨⟨s⟩⟩), (2, .pointer (some ⟨h.next, 0, none⟩))]) (fun _ => m4) (fun x => x.1 ≤ s.length ∧ x.2.1 = gp ++ gapT gp false (s.take x.1) ∧ x.2.2 = gapQ false (s.take x.1)) (fun x => s.length - x.1) (0, gp, false) rfl (Less.cons rfl (Less.cons rfl (Less.cons rfl (Less.cons rfl (Less.cons rfl (Less.cons rfl (Less.nil _))))))) ⟨Nat.zero_le _, by simp [gapT], rfl⟩ ?_
  rintro ⟨i, t, q⟩ ⟨i1, i2, i3⟩
  have i1 : i ≤ s.length := i1
  have i2 : t = gp ++ gapT gp false (s.take i) := i2
  have i3 : q = gapQ false (s.take i) := i3
  have htl : t.length ≤ 30 + 31 * s.length := by
    have := gapT_len gp (s.take i) false
    have h2 : (s.take i).length ≤ s.length := by rw [List.length_take]; omega
    have h3 := Nat.mul_le_mul (show 1 + gp.length ≤ 31 by omega) h2
    rw [i2, List.length_append]
    omega
  by_cases hil : i < s.length
  · obtain ⟨ht, hq⟩ := gap_take (g := gp) hil false
    rw [← i3] at ht hq
    have hone : List.take (Nat.sub (Nat.add i 1) i) (List.drop i s) = [s.getD i 0] := by
      show List.take (i + 1 - i) (List.drop i s) = _
      exact take_one hil
    generalize hc : s.getD i 0 = c at ht hq hone
    cbv
    refine And.intro T.str ?_
    refine And.intro (fun _ => ?_) (fun e => absurd hil (Nat.not_lt.2 e))
    cbv
    refine And.intro T.str (And.intro hil ?_)
    rw [hc]
    have hbn1 : Nat.le (Nat.add i 1) 4611686018427387904 := by show i + 1 ≤ _; omega
    have hle : i ≤ i + 1 := Nat.le_succ _
    refine And.intro (fun e34 => ?_) (fun e34 => ?_)
    · have e34 : c = 34 := UInt8.toNat_inj.1 e34
      have e62 : ¬ c = 62 := by rw [e34]; decide
      rw [if_neg (fun x => e62 x.1), List.append_nil] at ht
      have hb : (c == 34) = true := by rw [e34]; rfl
      rw [hb] at hq
      have n62 : ¬ c.toNat = 62 := fun x => e62 (UInt8.toNat_inj.1 x)
      cases q
      · cbv
        refine And.intro T.bool (And.intro hbn1 ?_)
        cbv
        refine And.intro T.str (And.intro hle (And.intro hil ?_))
        rw [hone]
        cbv
        refine And.intro (by show t.length + 1 ≤ _; omega) (And.intro T.str (And.intro hil ?_))
        rw [hc]
        refine And.intro (fun e => absurd e n62) (fun _ => ?_)
        cbv
        refine And.intro hbn1 ?_
        exact ⟨(i + 1, t ++ [c], true), Less.cons rfl (Less.cons rfl (Less.cons rfl (Less.cons rfl (Less.cons rfl (Less.cons rfl (Less.nil _)))))), rfl, ⟨hil, (by rw [ht, ← List.append_assoc, ← i2]), (by rw [hq]; rfl)⟩, (by show s.length - (i + 1) < s.length - i; omega)⟩
      · cbv
        refine And.intro T.bool (And.intro hbn1 ?_)
        cbv
        refine And.intro T.str (And.intro hle (And.intro hil ?_))
        rw [hone]
        cbv
        refine And.intro (by show t.length + 1 ≤ _; omega) (And.intro T.str (And.intro hil ?_))
        rw [hc]
        refine And.intro (fun e => absurd e n62) (fun _ => ?_)
        cbv
        refine And.intro hbn1 ?_
        exact ⟨(i + 1, t ++ [c], false), Less.cons rfl (Less.cons rfl (Less.cons rfl (Less.cons rfl (Less.cons rfl (Less.cons rfl (Less.nil _)))))), rfl, ⟨hil, (by rw [ht, ← List.append_assoc, ← i2]), (by rw [hq]; rfl)⟩, (by show s.length - (i + 1) < s.length - i; omega)⟩
    · have hb : (c == 34) = false := by
        rw [beq_eq_false_iff_ne]
        intro x
        exact e34 (by rw [x]; rfl)
      rw [hb] at hq ht
      by_cases e62 : c = 62
      · have y62 : c.toNat = 62 := by rw [e62]; rfl
        cases q
        · rw [if_pos ⟨e62, rfl⟩] at ht
          cbv
          refine And.intro T.bool (And.intro hbn1 ?_)
          cbv
          refine And.intro T.str (And.intro hle (And.intro hil ?_))
          rw [hone]
          cbv
          refine And.intro (by show t.length + 1 ≤ _; omega) (And.intro T.str (And.intro hil ?_))
          rw [hc]
          refine And.intro (fun _ => ?_) (fun e => absurd y62 e)
          cbv
          refine And.intro (by show (t.append [c]).length + gp.length ≤ _; rw [show t.append [c] = t ++ [c] from rfl, List.length_append]; simp; omega) ?_
          refine And.intro hbn1 ?_
          exact ⟨(i + 1, (t ++ [c]) ++ gp, false), Less.cons rfl (Less.cons rfl (Less.cons rfl (Less.cons rfl (Less.cons rfl (Less.cons rfl (Less.nil _)))))), rfl, ⟨hil, (by rw [ht, ← List.append_assoc, ← i2]; exact List.append_assoc _ _ _), (by rw [hq]; rfl)⟩, (by show s.length - (i + 1) < s.length - i; omega)⟩
        · rw [if_neg (fun x => by cases x.2), List.append_nil] at ht
          cbv
          refine And.intro T.bool (And.intro hbn1 ?_)
          cbv
          refine And.intro T.str (And.intro hle (And.intro hil ?_))
          rw [hone]
          cbv
          refine And.intro (by show t.length + 1 ≤ _; omega) (And.intro T.str (And.intro hil ?_))
          rw [hc]
          refine And.intro (fun _ => ?_) (fun e => absurd y62 e)
          cbv
          refine And.intro hbn1 ?_
          exact ⟨(i + 1, t ++ [c], true), Less.cons rfl (Less.cons rfl (Less.cons rfl (Less.cons rfl (Less.cons rfl (Less.cons rfl (Less.nil _)))))), rfl, ⟨hil, (by rw [ht, ← List.append_assoc, ← i2]), (by rw [hq]; rfl)⟩, (by show s.length - (i + 1) < s.length - i; omega)⟩
      · have n62 : ¬ c.toNat = 62 := fun x => e62 (UInt8.toNat_inj.1 x)
        rw [if_neg (fun x => e62 x.1), List.append_nil] at ht
        cases q
        · cbv
          refine And.intro T.bool (And.intro hbn1 ?_)
          cbv
          refine And.intro T.str (And.intro hle (And.intro hil ?_))
          rw [hone]
          cbv
          refine And.intro (by show t.length + 1 ≤ _; omega) (And.intro T.str (And.intro hil ?_))
          rw [hc]
          refine And.intro (fun e => absurd e n62) (fun _ => ?_)
          cbv
          refine And.intro hbn1 ?_
          exact ⟨(i + 1, t ++ [c], false), Less.cons rfl (Less.cons rfl (Less.cons rfl (Less.cons rfl (Less.cons rfl (Less.cons rfl (Less.nil _)))))), rfl, ⟨hil, (by rw [ht, ← List.append_assoc, ← i2]), (by rw [hq]; rfl)⟩, (by show s.length - (i + 1) < s.length - i; omega)⟩
        · cbv
          refine And.intro T.bool (And.intro hbn1 ?_)
          cbv
          refine And.intro T.str (And.intro hle (And.intro hil ?_))
          rw [hone]
          cbv
          refine And.intro (by show t.length + 1 ≤ _; omega) (And.intro T.str (And.intro hil ?_))
          rw [hc]
          refine And.intro (fun e => absurd e n62) (fun _ => ?_)
          cbv
          refine And.intro hbn1 ?_
          exact ⟨(i + 1, t ++ [c], true), Less.cons rfl (Less.cons rfl (Less.cons rfl (Less.cons rfl (Less.cons rfl (Less.cons rfl (Less.nil _)))))), rfl, ⟨hil, (by rw [ht, ← List.append_assoc, ← i2]), (by rw [hq]; rfl)⟩, (by show s.length - (i + 1) < s.length - i; omega)⟩
  · have e1 : s.take i = s := List.take_of_length_le (by omega)
    rw [e1, hgt.t] at i2
    have j4 := k4
    cbv
    refine And.intro T.str ?_
    refine And.intro (fun e => absurd e hil) (fun _ => ?_)
    cbv
    refine And.intro T.str ?_
    refine And.intro (fun _ => ?_) (fun hl => ?_)
    · cbv
      exact ⟨_, rfl, hk _ (W.trans k4)⟩
    have hl : t.length ≤ 8000 := hl
    obtain ⟨x, hp, hs⟩ := hall t i2 hl
    have hsm := small_same x a hs sa.1
    cbv
    refine .inl (pS t (by omega) m4 x t.length 0 hp _ (fun c m5 g5 e5 => ?_))
    cbv
    refine ⟨_, zE, ?_⟩
    cbv
    refine ⟨_, st_agg T.eS (box_get _ _) rfl e5.len e5.one, ?_⟩
    obtain ⟨j0, j1, j2, j3⟩ := laid (k4.trans g5) (boxO [.string ⟨⟨[]⟩⟩, .slice none 0 0, .slice none 0 0, .int .i64 0]) c (some 25) true
    generalize (m5.push (boxO [.string ⟨⟨[]⟩⟩, .slice none 0 0, .slice none 0 0, .int .i64 0])).put m5.next (some (.cells c (some 25) true 0)) = m6 at j0 j1 j2 j3 ⊢
    have L4 := ld_agg (P := E.P) T.eA T.eS (read_cells j2 e5.len)
    cbv
    refine And.intro (fun _ => ?_) (fun q => absurd rfl q)
    cbv
    refine And.intro T.str ?_
    refine And.intro (fun _ => ?_) (fun q => absurd rfl q)
    cbv
    refine ⟨_, L4, ?_⟩
    cbv
    refine ⟨_, X m6 j0, ?_⟩
    cbv
    refine .inl (rS x a hsm sa.1 c ca m6 _ S (e5.grows j1) (hia.grows (W.trans j0)) _ (fun m7 g7 => ?_))
    rw [hs]
    cbv
    refine .inl (kn _ _ ?_)
    cbv
    exact ⟨_, rfl, hk _ (W.trans (j0.trans g7))⟩
end Go.Proofs.YtfgemjpoiconbaaGreatDoor.GEv

