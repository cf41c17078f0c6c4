import Derived.Test.YtfgemjpoiconbaaGreatDoorGXmxF
import Derived.Test.YtfgemjpoiconbaaGreatDoorGXmpA
/- XmlBack, by a symbolic run. -/
namespace Go.Proofs.YtfgemjpoiconbaaGreatDoor.GEv
open Go
set_option linter.unusedSimpArgs false
set_option linter.unusedVariables false
set_option maxRecDepth 100000
set_option maxHeartbeats 2000000
mutual
theorem small_same : ∀ (x e : El), sameS x e = true → Small e → Small x
  | .mk n a k p, .mk n' a' k' p', h, hs => by
    simp only [sameS, Bool.and_eq_true, decide_eq_true_eq] at h
    obtain ⟨⟨rfl, rfl⟩, h⟩ := h
    cases hs with
    | mk hn ha hx hk hs =>
    have hl : k.length = k'.length := by
      by_cases q : k.length = k'.length
      · exact q
      · rw [sameK_len q] at h; cases h
    exact .mk hn ha hx (by omega) (small_sameK k k' h hs)
theorem small_sameK : ∀ (k l : List El), sameK k l = true → (∀ e ∈ l, Small e) → ∀ e ∈ k, Small e
  | [], _, _, _ => by simp
  | x :: k, [], h, _ => by simp [sameK] at h
  | x :: k, y :: l, h, hs => by
    simp only [sameK, Bool.and_eq_true] at h
    intro e he
    cases he with
    | head => exact small_same x y h.1 (hs y (List.mem_cons_self ..))
    | tail _ he => exact small_sameK k l h.2 (fun z hz => hs z (List.mem_cons_of_mem _ hz)) e he
end
theorem parse_long {s : Bs} (h : 8000 < s.length) (f : Nat) : parseS f s = some (nothing, 0, 3) := by
  unfold parseS
  rw [if_pos h]
attribute [local cbv_opaque] isString isSlice isBoolT fOff iSize eqNil zero H.load H.store H.push H.dip H.put List.length Nat.add Nat.sub Nat.mul List.take List.drop top Addr.add mixH attrC sameS sameK heavyS fairS printE cmpJ ariJ
attribute [local cbv_eval] List.length_cons List.length_nil addr_add mixH_top
theorem lBack {E : Env} (hE : E = EMY) (a : El) (ca : List Value) (h : H) (S : Nat → Prop) (hia : IsEl h S a ca) (ga : Big a) (K : Value → H → Prop) (hk : ∀ h', Grows h h' → K (.bool true) h') :
    CallP E 3 [.agg ca.toArray] h K := by
  have T : TyOk E.P := by rw [hE]; exact tyOk
  have zE : zero E.P 25 = some (.agg #[.string ⟨⟨[]⟩⟩, .slice none 0 0, .slice none 0 0, .int .i64 0]) := by rw [hE]; exact zElem
  refine CallP.ofXE hE rfl Tryz.func3 rfl (Nat.le_of_ble_eq_true rfl) ?_
  have nH := fun e he c h S hi r h1 h2 K hk => nHeavy hE (szE e) e (Nat.le_refl _) he c h S hi r h1 h2 K hk
  have nF := fun e he c h S hi d hd K hk => nFair hE (szE e) e (Nat.le_refl _) he c h S hi d hd K hk
  have nP := fun e hw he c h S hi K hk => nPrint hE (szE e) e (Nat.le_refl _) hw he c h S hi K hk
  have rS := fun e f he hf c d h S S' hi hj K hk => rSame hE (szE e) e f (Nat.le_refl _) he hf c d h S S' hi hj K hk
  have pS := fun s hs h e n er hp K hk => xParse hE 1000 (by decide) s hs h e n er hp K hk
  have kn := fun h K hk => knownY hE h K hk
  clear hE
  have la := hia.len
  cbv
  generalize e1 : h.push (boxO ca) = g
  have G1 : g.m.get h.next = some (boxO ca) := by rw [← e1]; exact box_get _ _
  have W : Grows h g := by rw [← e1]; exact (Grows.refl h).push _
  have N1 : h.next < g.next := by rw [← e1]; exact Nat.lt_succ_self _
  have B1 := read_cells G1 la
  have X := fun m (k : Grows g m) => ld_agg (P := E.P) T.eA T.eS (k.read B1 N1)
  clear e1 G1
  refine ⟨_, X g (Grows.refl g), ?_⟩
  cbv
  refine .inl (nH a ga ca g S (hia.grows W) 200 (by decide) (by decide) _ (fun m1 g1 => ?_))
  cbv
  refine cmpJ_of (And.intro (fun q1 => ?_) (fun q1 => ?_))
  · cbv
    exact ⟨_, rfl, hk _ (W.trans g1)⟩
  have p1 : 0 < heavyS a 200 := by omega
  have sa := heavyS_small a 200 (by decide) p1
  have wa := heavyS_w a 200 p1
  have wa1 : wE a ≤ 1000000 := by omega
  have za1 : szE a ≤ 200 := by omega
  cbv
  refine ⟨_, X m1 g1, ?_⟩
  cbv
  refine .inl (nF a sa.1 ca m1 S (hia.grows (W.trans g1)) 0 (by decide) _ (fun m2 g2 => ?_))
  have k2 := g1.trans g2
  cases hf : fairS a 0
  · cbv
    exact ⟨_, rfl, hk _ (W.trans k2)⟩
  have pl := wE_len a
  cbv
  refine ⟨_, X m2 k2, ?_⟩
  cbv
  refine .inl (nP a wa1 sa.1 ca m2 S (hia.grows (W.trans k2)) _ (fun m3 g3 => ?_))
  have k3 := k2.trans g3
  by_cases hl : 8000 < (printE a).length
  · have hp := parse_long hl 1000
    generalize printE a = s at hl hp pl ⊢
    cbv
    refine .inl (pS s (by omega) m3 nothing 0 3 hp _ (fun c m4 g4 e4 => ?_))
    cbv
    refine ⟨_, zE, ?_⟩
    cbv
    refine ⟨_, st_agg T.eS (box_get _ _) rfl e4.len e4.one, ?_⟩
    obtain ⟨j0, j1, j2, j3⟩ := laid (k3.trans g4) (boxO [.string ⟨⟨[]⟩⟩, .slice none 0 0, .slice none 0 0, .int .i64 0]) c (some 25) true
    generalize (m4.push (boxO [.string ⟨⟨[]⟩⟩, .slice none 0 0, .slice none 0 0, .int .i64 0])).put m4.next (some (.cells c (some 25) true 0)) = m5 at j0 j1 j2 j3 ⊢
    cbv
    refine And.intro T.str ?_
    refine And.intro (fun _ => ?_) (fun q => absurd hl (Nat.not_lt.2 q))
    cbv
    refine And.intro (fun _ => ?_) (fun q => absurd rfl q)
    cbv
    refine And.intro (fun _ => ?_) (fun q => absurd rfl q)
    cbv
    refine .inl (kn _ _ ?_)
    cbv
    exact ⟨_, rfl, hk _ (W.trans j0)⟩
  · obtain ⟨x, hp, hs⟩ := read_printed (f := 1000) hf (by omega) (Nat.le_of_not_lt hl) (by omega)
    have hsm := small_same x a hs sa.1
    generalize printE a = s at hl hp pl ⊢
    cbv
    refine .inl (pS s (by omega) m3 x s.length 0 hp _ (fun c m4 g4 e4 => ?_))
    cbv
    refine ⟨_, zE, ?_⟩
    cbv
    refine ⟨_, st_agg T.eS (box_get _ _) rfl e4.len e4.one, ?_⟩
    obtain ⟨j0, j1, j2, j3⟩ := laid (k3.trans g4) (boxO [.string ⟨⟨[]⟩⟩, .slice none 0 0, .slice none 0 0, .int .i64 0]) c (some 25) true
    generalize (m4.push (boxO [.string ⟨⟨[]⟩⟩, .slice none 0 0, .slice none 0 0, .int .i64 0])).put m4.next (some (.cells c (some 25) true 0)) = m5 at j0 j1 j2 j3 ⊢
    have L4 := ld_agg (P := E.P) T.eA T.eS (read_cells j2 e4.len)
    cbv
    refine And.intro T.str ?_
    refine And.intro (fun q => absurd q hl) (fun _ => ?_)
    cbv
    refine And.intro (fun _ => ?_) (fun q => absurd rfl q)
    cbv
    refine And.intro T.str ?_
    refine And.intro (fun _ => ?_) (fun q => absurd rfl q)
    cbv
    refine ⟨_, L4, ?_⟩
    cbv
    refine ⟨_, X m5 j0, ?_⟩
    cbv
    refine .inl (rS x a hsm sa.1 c ca m5 _ S (e4.grows j1) (hia.grows (W.trans j0)) _ (fun m6 g6 => ?_))
    rw [hs]
    cbv
    refine .inl (kn _ _ ?_)
    cbv
    exact ⟨_, rfl, hk _ (W.trans (j0.trans g6))⟩
end Go.Proofs.YtfgemjpoiconbaaGreatDoor.GEv

