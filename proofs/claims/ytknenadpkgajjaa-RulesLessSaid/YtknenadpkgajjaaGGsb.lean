import Derived.Test.YtknenadpkgajjaaGGsa
/- Whether rules, counters, users, numbers of the file may be: package rules, by symbolic runs. -/
namespace Go.Proofs.Ytknenadpkgajjaa.GEv
open Go
set_option linter.unusedSimpArgs false
set_option linter.unusedVariables false
set_option maxRecDepth 100000
theorem RowAt.ofBlock {m : H} {b size cap : Nat} {l : List (List Value)} {e : Option TypeId} {f : Bool} {z : Nat} (hb : b < m.next) (B : m.m.get b = some (.cells l.flatten e f z)) (hl : ∀ x ∈ l, x.length = size ∧ x.all one = true) (hc : CapOk size l.length cap (some ⟨b, 0, none⟩)) : RowAt m (fun _ => True) size l (.slice (some ⟨b, 0, none⟩) l.length cap) :=
  ⟨_, _, _, rfl, rfl, ⟨hl, .inr ⟨b, 0, rfl, trivial, hb, rbw B (flatten_len hl).1⟩⟩, hc⟩
theorem encT_len (l : List Bs) : ∀ x ∈ l.map encT, x.length = 1 ∧ x.all one = true := by
  intro x hx
  obtain ⟨s, _, rfl⟩ := List.mem_map.1 hx
  exact ⟨rfl, rfl⟩
def litOdd (n : Int) (x : LitS) : Bool := !decide (Wth x.1 0 n)
def condOdd (p : PrS) (c : CondS) : Bool := !(decide (c.1 ∈ p.files) && decide (c.2.1 ∈ ops6))
def ruleB (p : PrS) (r : RuleS) : Bool := decide (Wth r.st 1 21) && !decide (r.thens = []) && !r.ifs.any (litOdd p.flags) && !r.thens.any (litOdd p.flags) && !r.conds.any (condOdd p)
section
variable {E : Env} (hE : E = EG)
include hE
theorem cCounters (p : PrS) (w : PrV) (g : H) (S : Nat → Prop) (hp : IsPr g S p w) (K : Value → H → Prop) (hk : ∀ h' r, (!p.ctrs.any (ctrOdd p)) = r → Grows g h' → K (.bool r) h') :
    CallP E 24 [.agg (prC p w).toArray] g K := by
  have cc := fun b m B0 S v hr hl K hk => nConCtr hE encK p.ctrs (ctrOdd p) 56 [.pointer (some ⟨b, 0, none⟩)] v m S hr hl (fun x _ m' g' K hk => cCtr1 hE p w x b m' (BoxP.grows B0 g') K (fun h' r hr g2 => hr ▸ hk _ g2)) K hk
  refine CallP.ofG hE Try.func24 rfl rfl rfl rfl ?_
  clear hE
  cbv
  intro m P
  have B : BoxP m g.next (prC p w) 36 := P.box
  have B' := B.get
  cbv
  rintro _ rfl
  cbv
  refine ⟨_, rb (B') rfl, ?_⟩
  cbv
  refine cc g.next m B S _ (hp.ctrs.grows P.grows) hp.lens.2.2.2.2.1 _ (fun m2 r hr g2 => ?_)
  cases r with
  | false => cbv; exact hk _ _ (by simp [hr]) (P.grows.trans g2)
  | true => cbv; exact hk _ _ (by simp [hr]) (P.grows.trans g2)
theorem cUser1 (p : PrS) (w : PrV) (x : LitS) (b : Nat) (g : H) (B0 : BoxP g b (prC p w) 36) (K : Value → H → Prop) (hk : ∀ h' r, litOdd p.lasting x = r → Grows g h' → K (.bool r) h') :
    CallP E 58 [.agg (encL x).toArray, .pointer (some ⟨b, 0, none⟩)] g K := by
  have cw := fun n a b h K hk => cWithin hE n a b h K hk
  refine CallP.ofG hE Try.func58 rfl rfl rfl rfl ?_
  clear hE
  obtain ⟨x1, x2⟩ := x
  cbv
  intro m P
  have B := P.get
  have A' := (B0.grows P.grows).get
  cbv
  rintro _ rfl
  cbv
  refine ⟨_, rb (B) rfl, ?_⟩
  cbv
  rintro _ rfl
  cbv
  refine ⟨_, rb (A') rfl, ?_⟩
  cbv
  refine cw _ _ _ _ _ (fun r hr => ?_)
  cases r with
  | false => cbv; exact hk _ _ (by simp [litOdd, show decide (Wth x1 0 p.lasting) = false from hr]) P.grows
  | true => cbv; exact hk _ _ (by simp [litOdd, show decide (Wth x1 0 p.lasting) = true from hr]) P.grows
theorem cRule1 (p : PrS) (w : PrV) (n : Int) (b : Nat) (g : H) (B0 : BoxP g b (prC p w) 36) (K : Value → H → Prop) (hk : ∀ r, (!decide (Wth n 0 p.flags)) = r → K (.bool r) g) :
    CallP E 73 [.int .i64 n, .pointer (some ⟨b, 0, none⟩)] g K := by
  have cw := fun n a b h K hk => cWithin hE n a b h K hk
  refine CallP.ofG hE Try.func73 rfl rfl rfl rfl ?_
  clear hE
  have A' := B0.get
  cbv
  rintro _ rfl
  cbv
  refine ⟨_, rb (A') rfl, ?_⟩
  cbv
  refine cw _ _ _ _ _ (fun r hr => ?_)
  cases r with
  | false => cbv; exact hk _ (by simp [show decide (Wth n 0 p.flags) = false from hr])
  | true => cbv; exact hk _ (by simp [show decide (Wth n 0 p.flags) = true from hr])
theorem cRule2 (p : PrS) (w : PrV) (x : LitS) (b b5 : Nat) (g : H) (B0 : BoxP g b (prC p w) 36) (B5 : BoxP g b5 [.func (.func 73) #[] #[.pointer (some ⟨b, 0, none⟩)]] 49) (K : Value → H → Prop) (hk : ∀ h' r, litOdd p.flags x = r → Grows g h' → K (.bool r) h') :
    CallP E 74 [.agg (encL x).toArray, .pointer (some ⟨b5, 0, none⟩)] g K := by
  have c1 := fun n g B0 K hk => cRule1 hE p w n b g B0 K hk
  refine CallP.ofG hE Try.func74 rfl rfl rfl rfl ?_
  clear hE
  obtain ⟨x1, x2⟩ := x
  cbv
  intro m P
  have B := P.get
  have A' := (B5.grows P.grows).get
  cbv
  refine ⟨_, rb A' rfl, ?_⟩
  cbv
  rintro _ rfl
  cbv
  refine ⟨_, rb (B) rfl, ?_⟩
  cbv
  refine c1 _ _ (B0.grows P.grows) _ (fun r hr => ?_)
  cbv
  exact hk _ _ hr P.grows
theorem cRule3 (p : PrS) (w : PrV) (x : LitS) (b b5 : Nat) (g : H) (B0 : BoxP g b (prC p w) 36) (B5 : BoxP g b5 [.func (.func 73) #[] #[.pointer (some ⟨b, 0, none⟩)]] 49) (K : Value → H → Prop) (hk : ∀ h' r, litOdd p.flags x = r → Grows g h' → K (.bool r) h') :
    CallP E 75 [.agg (encL x).toArray, .pointer (some ⟨b5, 0, none⟩)] g K := by
  have c1 := fun n g B0 K hk => cRule1 hE p w n b g B0 K hk
  refine CallP.ofG hE Try.func75 rfl rfl rfl rfl ?_
  clear hE
  obtain ⟨x1, x2⟩ := x
  cbv
  intro m P
  have B := P.get
  have A' := (B5.grows P.grows).get
  cbv
  refine ⟨_, rb A' rfl, ?_⟩
  cbv
  rintro _ rfl
  cbv
  refine ⟨_, rb (B) rfl, ?_⟩
  cbv
  refine c1 _ _ (B0.grows P.grows) _ (fun r hr => ?_)
  cbv
  exact hk _ _ hr P.grows
theorem cCondG (p : PrS) (w : PrV) (x : CondS) (g : H) (S : Nat → Prop) (hp : IsPr g S p w) (K : Value → H → Prop) (hk : ∀ h' r, (!condOdd p x) = r → Grows g h' → K (.bool r) h') :
    CallP E 78 [.agg (prC p w).toArray, .agg (encC x).toArray] g K := by
  have cs := fun l s v g S hr hl K hk => nConStr hE l s v g S hr hl K hk
  refine CallP.ofG hE Try.func78 rfl rfl rfl rfl ?_
  clear hE
  obtain ⟨x1, x2, x3⟩ := x
  cbv
  intro m P
  have B1 : BoxP m g.next (prC p w) 36 := P.box
  have G1 := P.grows
  clear P
  generalize g.next = b1 at B1
  intro m2 P2
  have B2 : BoxP m2 m.next (encC (x1, x2, x3)) 41 := P2.box
  have B1' := (B1.grows P2.grows).get
  have G := G1.trans P2.grows
  have B2' := B2.get
  clear P2
  generalize m.next = b2 at B2 B2'
  cbv
  rintro _ rfl
  cbv
  refine ⟨_, rb (B1') rfl, ?_⟩
  cbv
  rintro _ rfl
  cbv
  refine ⟨_, rb (B2') rfl, ?_⟩
  cbv
  refine cs p.files _ _ _ S (hp.files.grows G) hp.lens.2.2.1 _ (fun r hr => ?_)
  cases r with
  | false =>
    cbv
    exact hk _ _ (by simp [condOdd, show decide (x1 ∈ p.files) = false from hr]) G
  | true =>
    cbv
    intro m3 P3
    have R : RowAt m3 (fun _ => True) 1 (ops6.map encT) (.slice (some ⟨m2.next, 0, none⟩) 6 6) := .ofBlock (by rw [P3.next]; exact Nat.lt_succ_self _) P3.get (encT_len _) ⟨by decide, .inl (by decide)⟩
    have B3 := ((B2.grows P3.grows)).get
    have G3 := G.trans P3.grows
    generalize m2.next = b3 at R
    cbv
    rintro _ rfl
    cbv
    refine ⟨_, rb (B3) rfl, ?_⟩
    cbv
    refine cs ops6 _ _ _ _ R (by decide) _ (fun r hr2 => ?_)
    cases r with
    | false => cbv; exact hk _ _ (by simp [condOdd, show decide (x2 ∈ ops6) = false from hr2]) G3
    | true => cbv; exact hk _ _ (by simp [condOdd, show decide (x1 ∈ p.files) = true from hr, show decide (x2 ∈ ops6) = true from hr2]) G3
theorem cRule4 (p : PrS) (w : PrV) (x : CondS) (b : Nat) (g : H) (S : Nat → Prop) (hp : IsPr g S p w) (B0 : BoxP g b (prC p w) 36) (K : Value → H → Prop) (hk : ∀ h' r, condOdd p x = r → Grows g h' → K (.bool r) h') :
    CallP E 77 [.agg (encC x).toArray, .pointer (some ⟨b, 0, none⟩)] g K := by
  have cc := fun g hp K hk => cCondG hE p w x g S hp K hk
  refine CallP.ofG hE Try.func77 rfl rfl rfl rfl ?_
  clear hE
  obtain ⟨x1, x2, x3⟩ := x
  cbv
  intro m P
  have B := P.get
  have A' := (B0.grows P.grows).get
  cbv
  refine ⟨_, rbw A' rfl, ?_⟩
  cbv
  refine ⟨_, rbw B rfl, ?_⟩
  cbv
  refine cc _ (hp.grows P.grows) _ (fun m2 r hr g2 => ?_)
  cases r with
  | false => cbv; exact hk _ _ (by simpa using hr) (P.grows.trans g2)
  | true => cbv; exact hk _ _ (by simpa using hr) (P.grows.trans g2)
end
end Go.Proofs.Ytknenadpkgajjaa.GEv

/- Whether a rule may be, the rules, the users, the numbers of the file: package rules, by symbolic runs. -/
namespace Go.Proofs.Ytknenadpkgajjaa.GEv
open Go
set_option linter.unusedSimpArgs false
set_option linter.unusedVariables false
set_option maxRecDepth 100000
section
variable {E : Env} (hE : E = EG)
include hE
theorem cRule (p : PrS) (w : PrV) (x : RuleS) (c : List Value) (g : H) (S : Nat → Prop) (hp : IsPr g S p w) (hr : IsRule g S x c) (K : Value → H → Prop) (hk : ∀ h' r, ruleB p x = r → Grows g h' → K (.bool r) h') :
    CallP E 54 [.agg (prC p w).toArray, .agg c.toArray] g K := by
  have cw := fun n a b h K hk => cWithin hE n a b h K hk
  have c2 := fun b b5 m B0 B5 S v hr hl K hk => nConLit hE encL x.ifs (litOdd p.flags) 74 [.pointer (some ⟨b5, 0, none⟩)] v m S hr hl (fun x _ m' g' K hk => cRule2 hE p w x b b5 m' (BoxP.grows B0 g') (BoxP.grows B5 g') K (fun h' r hr g2 => hr ▸ hk _ g2)) K hk
  have c3 := fun b b5 m B0 B5 S v hr hl K hk => nConSet hE encL x.thens (litOdd p.flags) 75 [.pointer (some ⟨b5, 0, none⟩)] v m S hr hl (fun x _ m' g' K hk => cRule3 hE p w x b b5 m' (BoxP.grows B0 g') (BoxP.grows B5 g') K (fun h' r hr g2 => hr ▸ hk _ g2)) K hk
  have c4 := fun b m (hp : IsPr m S p w) B0 v hr hl K hk => nConCond hE encC x.conds (condOdd p) 77 [.pointer (some ⟨b, 0, none⟩)] v m S hr hl (fun x _ m' g' K hk => cRule4 hE p w x b m' S (hp.grows g') (BoxP.grows B0 g') K (fun h' r hr g2 => hr ▸ hk _ g2)) K hk
  refine CallP.ofG hE Try.func54 rfl rfl rfl rfl ?_
  clear hE
  obtain ⟨v1, v2, v3, rfl, r1, r2, r3, l1, l2, l3⟩ := hr.ex
  cbv
  intro m P
  have B1 : BoxP m g.next (prC p w) 36 := P.box
  have G1 := P.grows
  clear P
  generalize g.next = b1 at B1
  intro m2 P2
  have B2 : BoxP m2 m.next [.int .i64 x.st, v1, v2, v3] 28 := P2.box
  have B1 := B1.grows P2.grows
  have G2 := G1.trans P2.grows
  clear P2
  generalize m.next = b2 at B2
  cbv
  intro m3 P3
  have hb3 : m2.next < m3.next := by rw [P3.next]; exact Nat.lt_succ_self _
  have B3 := P3.get
  have B1 := B1.grows P3.grows
  have B2 := B2.grows P3.grows
  have G3 := G2.trans P3.grows
  have hgb : g.next ≤ m2.next := G2.next
  clear P3
  generalize m2.next = b5 at B3 hb3 hgb
  cbv
  refine StoP.of B3 (Nat.zero_le _) (Nat.le_of_ble_eq_true rfl) rfl (fun m4 P4 => ?_)
  have ne1 : b1 ≠ b5 := fun e => by have := B1.get; rw [e, B3] at this; simp [prC] at this
  have ne2 : b2 ≠ b5 := fun e => by have := B2.get; rw [e, B3] at this; simp at this
  have B1 : BoxP m4 b1 (prC p w) 36 := ⟨by rw [P4.next]; exact B1.lt, (P4.ne ne1).trans B1.get⟩
  have B2 : BoxP m4 b2 [.int .i64 x.st, v1, v2, v3] 28 := ⟨by rw [P4.next]; exact B2.lt, (P4.ne ne2).trans B2.get⟩
  have B5 : BoxP m4 b5 [.func (.func 73) #[] #[.pointer (some ⟨b1, 0, none⟩)]] 49 := ⟨by rw [P4.next]; exact hb3, P4.get⟩
  have G4 := P4.grows G3 hgb
  have hp4 := hp.grows G4
  clear P4 B3
  have B2' := B2.get
  cbv
  rintro _ rfl
  cbv
  refine ⟨_, rb (B2') rfl, ?_⟩
  cbv
  refine cw _ _ _ _ _ (fun r hr1 => ?_)
  cases r with
  | false => cbv; exact hk _ _ (by simp [ruleB, show decide (Wth x.st 1 21) = false from hr1]) G4
  | true =>
    have hr1 : decide (Wth x.st 1 21) = true := hr1
    obtain ⟨a3, n3, cap3, rfl, hn3, hx3, hc3⟩ := r3.ex
    have r3 : RowAt g S 2 (x.thens.map encL) (.slice a3 n3 cap3) := ⟨_, _, _, rfl, hn3, hx3, hc3⟩
    rw [List.length_map] at hn3
    cbv
    rintro _ rfl
    cbv
    refine ⟨_, rb (B2') rfl, ?_⟩
    cbv
    refine BinP.eq0 (fun q => ?_) (fun q => ?_)
    · cbv
      have e : x.thens = [] := List.eq_nil_of_length_eq_zero (by omega)
      exact hk _ _ (by simp [ruleB, e]) G4
    · have e : ¬ x.thens = [] := fun e => by rw [e] at hn3; simp at hn3; omega
      cbv
      rintro _ rfl
      cbv
      refine ⟨_, rb (B2') rfl, ?_⟩
      cbv
      refine c2 b1 b5 m4 B1 B5 S _ (r1.grows G4) l1 _ (fun m5 r hr2 g5 => ?_)
      cases r with
      | true => cbv; exact hk _ _ (by simp only [ruleB, hr2]; simp) (G4.trans g5)
      | false =>
        have B2'' := (B2.grows g5).get
        cbv
        rintro _ rfl
        cbv
        refine ⟨_, rb (B2'') rfl, ?_⟩
        cbv
        refine c3 b1 b5 m5 (B1.grows g5) (B5.grows g5) S _ (r3.grows (G4.trans g5)) l3 _ (fun m6 r hr3 g6 => ?_)
        cases r with
        | true => cbv; exact hk _ _ (by simp only [ruleB, hr3]; simp) ((G4.trans g5).trans g6)
        | false =>
          have B3'' := ((B2.grows g5).grows g6).get
          cbv
          rintro _ rfl
          cbv
          refine ⟨_, rb (B3'') rfl, ?_⟩
          cbv
          refine c4 b1 m6 (hp4.grows (g5.trans g6)) (B1.grows (g5.trans g6)) _ (r2.grows (G4.trans (g5.trans g6))) l2 _ (fun m7 r hr4 g7 => ?_)
          cases r with
          | true => cbv; exact hk _ _ (by simp only [ruleB, hr4]; simp) ((G4.trans (g5.trans g6)).trans g7)
          | false => cbv; exact hk _ _ (by simp only [ruleB, hr1, hr2, hr3, hr4, e]; simp) ((G4.trans (g5.trans g6)).trans g7)
theorem cUsers (p : PrS) (w : PrV) (g : H) (S : Nat → Prop) (hp : IsPr g S p w) (K : Value → H → Prop) (hk : ∀ h' r, (r = true ↔ ∀ u ∈ p.users, UserOk p u) → Grows g h' → K (.bool r) h') :
    CallP E 25 [.agg (prC p w).toArray] g K := by
  have cp := fun n g K hk => cPasses hE p w n g K hk
  have cl := fun (l : List LitS) b m B0 S v hr hl K hk => nConLit hE encL l (litOdd p.lasting) 58 [.pointer (some ⟨b, 0, none⟩)] v m S hr hl (fun x _ m' g' K hk => cUser1 hE p w x b m' (BoxP.grows B0 g') K (fun h' r hr g2 => hr ▸ hk _ g2)) K hk
  obtain ⟨zs, hz1, hz2, hz3⟩ := hp.users.ex
  have hlen := hp.lens.2.2.2.2.2
  obtain ⟨a, n, cap, hv, hn, hx, _⟩ := hz2.ex
  rw [List.length_map] at hn
  have hzl : p.users.length = zs.length := by rw [← hz1, List.length_map]
  refine CallP.ofG hE Try.func25 rfl rfl rfl rfl ?_
  have T := tbOk hE
  clear hE
  cbv
  intro m0 P
  have B0 : BoxP m0 g.next (prC p w) 36 := P.box
  have G0 := P.grows
  clear P
  generalize g.next = b1 at B0
  have B0' := B0.get
  cbv
  rintro _ rfl
  cbv
  refine ⟨_, rb B0' (show (prC p w)[8]? = some (.slice a n cap) by rw [← hv]; rfl), ?_⟩
  cbv
  refine LoopP.onZ T (fun x : H × Nat => [(9, .int .i64 (.ofNat x.2)), (8, .int .i64 (.ofNat n)), (7, .slice a n cap), (1, .pointer (some ⟨b1, 0, none⟩))]) (fun x => x.1) (fun x => Grows m0 x.1 ∧ x.2 ≤ n ∧ ∀ u ∈ p.users.take x.2, UserOk p u) (fun x => n - x.2) (m0, 0) rfl (Less.cons rfl (Less.cons rfl (Less.cons rfl (Less.cons rfl (Less.nil _))))) ⟨Grows.refl _, Nat.zero_le _, fun y hy => by simp at hy⟩ ?_
  rintro ⟨m, i⟩ ⟨i0, i1, i2⟩
  have i0 : Grows m0 m := i0
  have i1 : i ≤ n := i1
  have i2 : ∀ u ∈ p.users.take i, UserOk p u := i2
  have G := G0.trans i0
  cbv
  refine BinP.lt (fun q => ?_) (fun q => ?_)
  · obtain ⟨z, hzi⟩ : ∃ z, zs[i]? = some z := ⟨_, List.getElem?_eq_getElem (by omega)⟩
    obtain ⟨u, c⟩ := z
    have hzm := List.mem_of_getElem? hzi
    have hui : p.users[i]? = some u := by rw [← hz1, List.getElem?_map, hzi]; rfl
    have hum := List.mem_of_getElem? hui
    obtain ⟨vw, hc, hw, hwl⟩ := ((hz3 _ hzm).grows G).ex
    have hc : c = [.string ⟨⟨u.item⟩⟩, .int .i64 u.event, vw, .int .i64 u.thn] := hc
    subst hc
    obtain ⟨aw, nw, cpw, rfl, k1, k2, k3⟩ := hw.ex
    have hw : RowAt m S 2 (u.whil.map encL) (.slice aw nw cpw) := ⟨_, _, _, rfl, k1, k2, k3⟩
    obtain ⟨b, off, rfl, _, _, _, hrd⟩ := (hx.grows G).el (i := i) (x := [.string ⟨⟨u.item⟩⟩, .int .i64 u.event, .slice aw nw cpw, .int .i64 u.thn]) (by rw [List.getElem?_map, hzi]; rfl)
    have hnx : ∀ P : Prop, (UserOk p u ↔ P) → ((∀ u ∈ p.users.take (i + 1), UserOk p u) ↔ P) := by
      intro P hP
      rw [← hP, List.take_succ_eq_append_getElem (List.getElem?_eq_some_iff.1 hui).1]
      constructor
      · intro h; exact h u (by rw [List.mem_append]; right; rw [(List.getElem?_eq_some_iff.1 hui).2]; simp)
      · intro h y hy
        rcases List.mem_append.1 hy with hy | hy
        · exact i2 y hy
        · rw [(List.getElem?_eq_some_iff.1 hui).2, List.mem_singleton] at hy
          rw [hy]; exact h
    cbv
    refine ⟨⟨q⟩, fun p1 hp1 => ?_⟩
    cbv
    refine ⟨_, hrd p1 hp1, ?_⟩
    cbv
    intro m2 P2
    have hlt : m.next < m2.next := by rw [P2.next]; exact Nat.lt_succ_self _
    have B2 := P2.get
    have g2 := P2.grows
    clear P2
    have hb1 : b1 < m.next := (B0.grows i0).lt
    have hgm : m0.next ≤ m.next := i0.next
    generalize hb2 : m.next = b2 at hlt B2 hb1 hgm
    cbv
    refine StoP.of B2 (Nat.zero_le _) (Nat.le_of_ble_eq_true rfl) rfl (fun m3 P3 => ?_)
    have B3 : m3.m.get b2 = some (.cells [.string ⟨⟨u.item⟩⟩, .int .i64 u.event, .slice aw nw cpw, .int .i64 u.thn] (some 46) true 0) := P3.get
    have i3 : Grows m0 m3 := P3.grows (i0.trans g2) hgm
    have B1 := B0.grows i3
    have B1' := B1.get
    have hlt3 : b2 < m3.next := by rw [P3.next]; exact hlt
    have hw3 : RowAt m3 S 2 (u.whil.map encL) (.slice aw nw cpw) := hw.mono (fun _ q _ => q) (fun r _ hr => by rw [P3.ne (by omega)]; exact g2.keep r (by omega)) (by rw [P3.next]; exact g2.next)
    cbv
    refine ⟨_, rbw B1' rfl, ?_⟩
    cbv
    rintro _ rfl
    cbv
    refine ⟨_, rb (B3) rfl, ?_⟩
    cbv
    refine cp _ _ _ (fun m4 r hr g4 => ?_)
    cases r with
    | false =>
      cbv
      refine hk _ _ ⟨fun e => (by cases e), fun e => ?_⟩ ((G0.trans i3).trans g4)
      have := (e u hum).thn
      rw [decide_eq_false_iff_not] at hr
      exact absurd this hr
    | true =>
      have B4 := (BoxP.grows ⟨hlt3, B3⟩ g4).get
      cbv
      rintro _ rfl
      cbv
      refine ⟨_, rb (B4) rfl, ?_⟩
      cbv
      refine cl u.whil b1 m4 (B1.grows g4) S _ (hw3.grows g4) hwl _ (fun m5 r hr2 g5 => ?_)
      cases r with
      | true =>
        cbv
        refine hk _ _ ⟨fun e => (by cases e), fun e => ?_⟩ (((G0.trans i3).trans g4).trans g5)
        have := (e u hum).whil
        obtain ⟨y, hy, hy2⟩ := List.any_eq_true.1 hr2
        simp [litOdd] at hy2
        exact absurd (this y hy) hy2
      | false =>
        cbv
        refine BinP.inc (by omega) (fun z2 hz2 => ?_)
        cbv
        refine ⟨(m5, i + 1), Less.cons (by rw [hz2]; rfl) (Less.cons rfl (Less.cons rfl (Less.cons rfl (Less.nil _)))), rfl, ⟨(i3.trans g4).trans g5, q, (hnx _ Iff.rfl).2 ⟨of_decide_eq_true hr, fun y hy => ?_⟩⟩, (by show n - (i + 1) < n - i; omega)⟩
        have := List.any_eq_false.1 hr2 y hy
        simpa [litOdd] using this
  · cbv
    rw [List.take_of_length_le (by omega)] at i2
    exact hk _ _ ⟨fun _ => i2, fun _ => rfl⟩ G
end
end Go.Proofs.Ytknenadpkgajjaa.GEv

/- Whether the rules may be, and the numbers of the file: package rules, by symbolic runs. -/
namespace Go.Proofs.Ytknenadpkgajjaa.GEv
open Go
set_option linter.unusedSimpArgs false
set_option linter.unusedVariables false
set_option maxRecDepth 100000
theorem ruleB_iff (p : PrS) (r : RuleS) : ruleB p r = true ↔ RuleOk p r := by
  have hl : ∀ (l : List LitS), l.any (litOdd p.flags) = false ↔ LitsOk p.flags l := by
    intro l
    rw [List.any_eq_false]
    constructor
    · intro h x hx; have := h x hx; simpa [litOdd] using this
    · intro h x hx; have := h x hx; simpa [litOdd] using this
  have hc : r.conds.any (condOdd p) = false ↔ ∀ c ∈ r.conds, CondOk p.files c := by
    rw [List.any_eq_false]
    constructor
    · intro h x hx; have := h x hx; simpa [condOdd, CondOk] using this
    · intro h x hx; have := h x hx; simpa [condOdd, CondOk] using this
  unfold ruleB
  simp only [Bool.and_eq_true, Bool.not_eq_true', decide_eq_true_eq, decide_eq_false_iff_not, hl, hc]
  constructor
  · rintro ⟨⟨⟨⟨h1, h2⟩, h3⟩, h4⟩, h5⟩; exact ⟨h1, h2, h3, h4, h5⟩
  · rintro ⟨h1, h2, h3, h4, h5⟩; exact ⟨⟨⟨⟨h1, h2⟩, h3⟩, h4⟩, h5⟩
/-- The rules so far. -/
def RulesTo (p : PrS) (i : Nat) : Prop := ∀ j r, j < i → p.rules[j]? = some r → RuleOk p r ∧ ∀ r', j ≠ 0 → p.rules[j - 1]? = some r' → r'.st ≤ r.st
theorem RulesTo.succ {p : PrS} {i : Nat} {r : RuleS} (h : RulesTo p i) (hr : p.rules[i]? = some r) (h1 : RuleOk p r) (h2 : ∀ r', i ≠ 0 → p.rules[i - 1]? = some r' → r'.st ≤ r.st) : RulesTo p (i + 1) := by
  intro j x hj hx
  by_cases e : j = i
  · subst e
    rw [hr] at hx
    cases hx
    exact ⟨h1, h2⟩
  · exact h j x (by omega) hx
theorem rulesTo_iff {p : PrS} : RulesTo p p.rules.length ∧ p.rules.length ≤ 1500 ↔ RulesOk p := by
  constructor
  · rintro ⟨h, hl⟩
    refine ⟨fun r hr => ?_, fun i r r' h1 h2 => ?_, hl⟩
    · obtain ⟨i, hi, rfl⟩ := List.mem_iff_getElem.1 hr
      exact (h i _ hi (List.getElem?_eq_getElem hi)).1
    · exact (h (i + 1) r' (List.getElem?_eq_some_iff.1 h2).1 h2).2 r (by omega) (by simpa using h1)
  · intro h
    refine ⟨fun j r hj hr => ⟨h.ok r (List.mem_of_getElem? hr), fun r' h0 h1 => ?_⟩, h.len⟩
    obtain ⟨k, rfl⟩ : ∃ k, j = k + 1 := ⟨j - 1, by omega⟩
    exact h.up k r' r (by simpa using h1) hr
section
variable {E : Env} (hE : E = EG)
include hE
theorem cRules (p : PrS) (w : PrV) (g : H) (S : Nat → Prop) (hp : IsPr g S p w) (K : Value → H → Prop) (hk : ∀ h' r, (r = true ↔ RulesOk p) → Grows g h' → K (.bool r) h') :
    CallP E 23 [.agg (prC p w).toArray] g K := by
  have cr := fun x c g hp hr K hk => cRule hE p w x c g S hp hr K hk
  obtain ⟨zs, hz1, hz2, hz3⟩ := hp.rules.ex
  have hlen := hp.lens.2.2.2.1
  obtain ⟨a, n, cap, hv, hn, hx, hcap⟩ := hz2.ex
  rw [List.length_map] at hn
  have hzl : p.rules.length = zs.length := by rw [← hz1, List.length_map]
  refine CallP.ofG hE Try.func23 rfl rfl rfl rfl ?_
  have T := tbOk hE
  clear hE
  cbv
  intro m0 P
  have B0 : BoxP m0 g.next (prC p w) 36 := P.box
  have G0 := P.grows
  clear P
  generalize g.next = b1 at B0
  have B0' := B0.get
  have hp6 : (prC p w)[6]? = some (.slice a n cap) := by rw [← hv]; rfl
  cbv
  rintro _ rfl
  cbv
  refine ⟨_, rb B0' hp6, ?_⟩
  cbv
  refine LoopP.onZ T (fun x : H × Nat => [(8, .int .i64 (.ofNat x.2)), (7, .int .i64 (.ofNat n)), (6, .slice a n cap), (1, .pointer (some ⟨b1, 0, none⟩))]) (fun x => x.1) (fun x => Grows m0 x.1 ∧ x.2 ≤ n ∧ RulesTo p x.2) (fun x => n - x.2) (m0, 0) rfl (Less.cons rfl (Less.cons rfl (Less.cons rfl (Less.cons rfl (Less.nil _))))) ⟨Grows.refl _, Nat.zero_le _, fun j r hj => by omega⟩ ?_
  rintro ⟨m, i⟩ ⟨i0, i1, i2⟩
  have i0 : Grows m0 m := i0
  have i1 : i ≤ n := i1
  have i2 : RulesTo p i := i2
  have G := G0.trans i0
  cbv
  refine BinP.lt (fun q => ?_) (fun q => ?_)
  · obtain ⟨z, hzi⟩ : ∃ z, zs[i]? = some z := ⟨_, List.getElem?_eq_getElem (by omega)⟩
    obtain ⟨r, c⟩ := z
    have hzm := List.mem_of_getElem? hzi
    have hri : p.rules[i]? = some r := by rw [← hz1, List.getElem?_map, hzi]; rfl
    have hR : IsRule m S r c := (hz3 _ hzm).grows G
    obtain ⟨v1, v2, v3, hc, _⟩ := hR.ex
    have hc : c = [.int .i64 r.st, v1, v2, v3] := hc
    subst hc
    obtain ⟨b, off, rfl, _, hbl, _, hrd⟩ := (hx.grows G).el (i := i) (x := [.int .i64 r.st, v1, v2, v3]) (by rw [List.getElem?_map, hzi]; rfl)
    have hco := (hx.len [.int .i64 r.st, v1, v2, v3] (by rw [List.mem_map]; exact ⟨_, hzm, rfl⟩)).2
    cbv
    refine ⟨⟨q⟩, fun p1 hp1 => ?_⟩
    cbv
    refine ⟨_, hrd p1 hp1, ?_⟩
    cbv
    intro m2 P2
    have B2 := P2.get
    have g2 := P2.grows
    have hlt : m.next < m2.next := by rw [P2.next]; exact Nat.lt_succ_self _
    clear P2
    have hgm : m0.next ≤ m.next := i0.next
    generalize hb2 : m.next = b2 at hlt B2 hgm
    cbv
    refine StoP.of B2 (Nat.zero_le _) (Nat.le_of_ble_eq_true rfl) hco (fun m3 P3 => ?_)
    have B3 : BoxP m3 b2 [.int .i64 r.st, v1, v2, v3] 28 := ⟨by rw [P3.next]; exact hlt, P3.get⟩
    have i3 : Grows m0 m3 := P3.grows (i0.trans g2) hgm
    have G3 := G0.trans i3
    have B1 := B0.grows i3
    have hR3 : IsRule m3 S r [.int .i64 r.st, v1, v2, v3] := (hz3 _ hzm).grows G3
    clear P3
    cbv
    refine DrawP.ofZ T [] (by kernel_rfl) ?_
    have B1' := B1.get
    have B3' := B3.get
    cbv
    refine ⟨_, rbw B1' rfl, ?_⟩
    cbv
    refine ⟨_, rbw B3' rfl, ?_⟩
    cbv
    intro h0 U
    have gu := U.like.grows (Grows.refl m3)
    refine cr r _ h0 (hp.grows (G3.trans gu)) (hR3.grows gu) _ (fun h1 rr hrr g1 => DoneP.quiet g1 (fun M hM => ?_))
    have gM : Grows m3 M := MixP.grows U (Grows.refl m3) g1 hM
    have iM := i3.trans gM
    have GM := G0.trans iM
    have B1M := (B1.grows gM).get
    have B3M := (B3.grows gM).get
    have hxM := hx.grows GM
    cases rr with
    | false =>
      cbv
      intro M2 L2
      cbv
      refine hk _ _ ⟨fun e => (by cases e), fun e => ?_⟩ (L2.grows GM)
      have := (ruleB_iff p r).2 (e.ok r (List.mem_of_getElem? hri))
      rw [hrr] at this
      cases this
    | true =>
      have hro := (ruleB_iff p r).1 hrr
      cbv
      refine BinP.gt0 (fun q2 => ?_) (fun q2 => ?_)
      · obtain ⟨k, rfl⟩ : ∃ k, i = k + 1 := ⟨i - 1, by omega⟩
        obtain ⟨z', hzk⟩ : ∃ z, zs[k]? = some z := ⟨_, List.getElem?_eq_getElem (by omega)⟩
        obtain ⟨r', c'⟩ := z'
        have hzm' := List.mem_of_getElem? hzk
        have hrk : p.rules[k]? = some r' := by rw [← hz1, List.getElem?_map, hzk]; rfl
        obtain ⟨u1, u2, u3, hc', _⟩ := (hz3 _ hzm').ex
        have hc' : c' = [.int .i64 r'.st, u1, u2, u3] := hc'
        subst hc'
        obtain ⟨b', off', e', _, _, _, hrd'⟩ := hxM.el (i := k) (x := [.int .i64 r'.st, u1, u2, u3]) (by rw [List.getElem?_map, hzk]; rfl)
        cases e'
        cbv
        rintro _ rfl
        cbv
        refine ⟨_, rb B1M hp6, ?_⟩
        cbv
        refine BinP.dec (by omega) (by omega) (fun z3 hz3' => ?_)
        obtain rfl : z3 = k := by omega
        cbv
        refine ⟨⟨by omega⟩, fun p2 hp2 => ?_⟩
        cbv
        intro p3 hp3
        cbv
        refine ⟨_, (hrd' p2 hp2).cell (i := 0) rfl hp3, ?_⟩
        cbv
        rintro _ rfl
        cbv
        refine ⟨_, rb (B3M) rfl, ?_⟩
        cbv
        refine BinP.ofI (And.intro (fun q3 => ?_) (fun q3 => ?_))
        · cbv
          intro M2 L2
          cbv
          refine hk _ _ ⟨fun e => (by cases e), fun e => ?_⟩ (L2.grows GM)
          have q3 : r.st < r'.st := q3
          have := e.up z3 r' r hrk hri
          omega
        · have q3 : r'.st ≤ r.st := q3
          cbv
          intro M2 L2
          cbv
          refine BinP.inc (by omega) (fun z2 hz2 => ?_)
          cbv
          refine ⟨(M2, z3 + 1 + 1), Less.cons (by rw [hz2]; rfl) (Less.cons rfl (Less.cons rfl (Less.cons rfl (Less.nil _)))), rfl, ⟨L2.grows iM, q, i2.succ hri hro (fun x _ hx' => ?_)⟩, (by show n - (z3 + 1 + 1) < n - (z3 + 1); omega)⟩
          have hx' : p.rules[z3]? = some x := by simpa using hx'
          rw [hrk] at hx'
          cases hx'
          exact q3
      · subst q2
        cbv
        intro M2 L2
        cbv
        refine BinP.inc (by omega) (fun z2 hz2 => ?_)
        cbv
        exact ⟨(M2, 0 + 1), Less.cons (by rw [hz2]; rfl) (Less.cons rfl (Less.cons rfl (Less.cons rfl (Less.nil _)))), rfl, ⟨L2.grows iM, q, i2.succ hri hro (fun x h0 _ => absurd rfl h0)⟩, (by show n - (0 + 1) < n - 0; omega)⟩
  · have B1' := (B0.grows i0).get
    cbv
    rintro _ rfl
    cbv
    refine ⟨_, rb B1' hp6, ?_⟩
    cbv
    have e : i = p.rules.length := by omega
    refine BinP.ofN (And.intro (fun q2 => ?_) (fun q2 => ?_))
    · have q2 : n ≤ 1500 := q2
      cbv
      exact hk _ _ ⟨fun _ => rulesTo_iff.1 ⟨e ▸ i2, by omega⟩, fun _ => rfl⟩ G
    · have q2 : 1500 < n := q2
      cbv
      exact hk _ _ ⟨fun e => (by cases e), fun e => by have := e.len; omega⟩ G
end
end Go.Proofs.Ytknenadpkgajjaa.GEv

/- Rows of one's own that grow. -/
namespace Go.Proofs.Ytknenadpkgajjaa.GEv
open Go
set_option linter.unusedSimpArgs false
set_option linter.unusedVariables false
/-- A row of one's own: nothing yet, or a block (above a number). -/
structure IsRow (h : H) (g : Nat) (e : TypeId) (size : Nat) (l : List (List Value)) (v : Value) : Prop where
  len : ∀ c ∈ l, c.length = size ∧ c.all one = true
  lb : l.length ≤ 1000000
  ex : (l = [] ∧ v = .slice none 0 0) ∨ ∃ r, v = .slice (some ⟨r, 0, none⟩) l.length (UNK + size) ∧ l ≠ [] ∧ r < h.next ∧ g ≤ r ∧ h.m.get r = some (.cells l.flatten (some e) false 0)
theorem IsRow.nil (h : H) (g : Nat) (e : TypeId) (size : Nat) : IsRow h g e size [] (.slice none 0 0) := ⟨(fun c hc => by cases hc), Nat.zero_le _, .inl ⟨rfl, rfl⟩⟩
def AtB (v : Value) (r : Nat) : Prop := ∃ n c, v = .slice (some ⟨r, 0, none⟩) n c
theorem IsRow.keep {h h' : H} {g : Nat} {e : TypeId} {size : Nat} {l : List (List Value)} {v : Value} (i : IsRow h g e size l v) (hk : ∀ r, g ≤ r → r < h.next → AtB v r → h'.m.get r = h.m.get r) (hn : h.next ≤ h'.next) : IsRow h' g e size l v := by
  refine ⟨i.len, i.lb, ?_⟩
  rcases i.ex with q | ⟨r, q1, q2, q3, q4, q5⟩
  · exact .inl q
  · exact .inr ⟨r, q1, q2, Nat.lt_of_lt_of_le q3 hn, q4, by rw [hk r q4 q3 ⟨_, _, q1⟩]; exact q5⟩
theorem IsRow.grows {h h' : H} {g : Nat} {e : TypeId} {size : Nat} {l : List (List Value)} {v : Value} (i : IsRow h g e size l v) (G : Grows h h') : IsRow h' g e size l v := i.keep (fun r _ hr _ => G.keep r hr) G.next
theorem IsRow.row {h : H} {g : Nat} {e : TypeId} {size : Nat} {l : List (List Value)} {v : Value} (i : IsRow h g e size l v) : RowAt h (fun b => g ≤ b) size l v := by
  rcases i.ex with ⟨rfl, rfl⟩ | ⟨r, q1, q2, q3, q4, q5⟩
  · exact ⟨_, _, _, rfl, rfl, ⟨i.len, .inl ⟨rfl, (fun x h => by cases h)⟩⟩, ⟨Nat.le_refl _, .inl (by decide)⟩⟩
  · refine ⟨_, _, _, q1, rfl, ⟨i.len, .inr ⟨r, 0, rfl, q4, q3, rbw q5 (flatten_len i.len).1⟩⟩, ⟨?_, .inr ⟨rfl, by simp⟩⟩⟩
    have := i.lb
    unfold UNK
    omega
/-- What has become of a memory in which a row has grown. -/
structure GrewP (g : Nat) (v : Value) (h h' : H) : Prop where
  next : h.next ≤ h'.next
  keep : ∀ r, r < h.next → ¬ AtB v r → h'.m.get r = h.m.get r
  low : ∀ k, k ≤ g → k ≤ h.low → k ≤ h'.low
theorem IsRow.atB {h : H} {g : Nat} {e : TypeId} {size : Nat} {l : List (List Value)} {v : Value} (i : IsRow h g e size l v) {r : Nat} (hr : AtB v r) : g ≤ r := by
  obtain ⟨n, c, hv⟩ := hr
  rcases i.ex with ⟨_, q⟩ | ⟨r', q, _, _, q4, _⟩
  · rw [q] at hv; cases hv
  · rw [q] at hv; injection hv with hv; injection hv with hv; injection hv with hv; omega
theorem GrewP.grows {g0 h h' : H} {g : Nat} {e : TypeId} {size : Nat} {l : List (List Value)} {v : Value} (w : GrewP g v h h') (i : IsRow h g e size l v) (G : Grows g0 h) (hg : g0.next ≤ g) : Grows g0 h' :=
  ⟨Nat.le_trans G.next w.next, fun b hb => (w.keep b (Nat.lt_of_lt_of_le hb G.next) (fun q => by have := i.atB q; omega)).trans (G.keep b hb), fun k h1 h2 => w.low k (by omega) (G.low k h1 h2)⟩
theorem row_app {tb : Tb} {E : Env} (T : TbOk tb E.P) {sT e size byt : Nat} {ag : Bool} {z : Value} {kd : KiT} (hs : slT tb sT = some e) (he : tb e = some ⟨size, byt, ag, z, kd⟩) (hzl : z.cells.toList.length = size) (h0 : 0 < size) (hb0 : 0 < byt) (hb1 : byt ≤ 1000) {h : H} {g : Nat} {l : List (List Value)} {v : Value}
    (hi : IsRow h g e size l v) (hg : g ≤ h.next) {x : Value} {n : Nat} (hx : lenV x = some n) {ls : List (List Value)} (hls : ls.length = n) (hbe : h.bears size x = some ls.flatten) (hlen : ∀ c ∈ ls, c.length = size ∧ c.all one = true) (hll : l.length + n ≤ 1000000) :
    ∃ v' h', append E.P h sT false v x = some (v', h') ∧ IsRow h' g e size (l ++ ls) v' ∧ GrewP g v h h' := by
  have hu := slT_ok T hs
  obtain ⟨i, hi1, hi2, hi3⟩ := T.info he
  have hz := T.zero he
  simp only at hi2 hi3 hz
  obtain ⟨f1, f2⟩ := flatten_len hi.len
  obtain ⟨f3, f4⟩ := flatten_len hlen
  have hlen' : ∀ c ∈ l ++ ls, c.length = size ∧ c.all one = true := by
    intro c hc
    rcases List.mem_append.1 hc with hc | hc
    · exact hi.len c hc
    · exact hlen c hc
  have hmul : ((l.length + n) * 4 + 2048) * i.bytes ≤ 2 ^ 48 := Nat.le_trans (Nat.mul_le_mul (show (l.length + n) * 4 + 2048 ≤ 4002048 by omega) (by rw [hi3]; exact hb1)) (by decide)
  have c0 : True ∧ 0 < i.size ∧ 0 < i.bytes ∧ z.cells.toList.length = i.size ∧ ((l.length + n) * 4 + 2048) * i.bytes ≤ 2 ^ 48 := ⟨trivial, by omega, by omega, by omega, hmul⟩
  have c1 : ls.flatten.length = n * i.size ∧ ls.flatten.all one = true := ⟨by rw [f3, hls, hi2], f4⟩
  have hbe' : h.bears i.size x = some ls.flatten := by rw [hi2]; exact hbe
  have hlb : (l ++ ls).length ≤ 1000000 := by rw [List.length_append]; omega
  rcases hi.ex with ⟨rfl, rfl⟩ | ⟨r, rfl, hne, hr, hgr, hm⟩
  · have c0 : True ∧ 0 < i.size ∧ 0 < i.bytes ∧ z.cells.toList.length = i.size ∧ ((0 + n) * 4 + 2048) * i.bytes ≤ 2 ^ 48 := c0
    by_cases hn : n = 0
    · subst hn
      obtain rfl : ls = [] := List.eq_nil_of_length_eq_zero hls
      refine ⟨.slice none 0 0, h, ?_, hi, ⟨Nat.le_refl _, fun _ _ _ => rfl, fun _ _ q => q⟩⟩
      simp only [append, hu, hi1, hz, hx]
      rw [if_pos c0]
      simp only [hbe']
      rw [if_pos c1, if_pos (by decide), appendKnown, if_pos (by decide)]
    · refine ⟨.slice (some ⟨h.next, 0, none⟩) n (UNK + size), h.push (.cells ls.flatten (some e) false 0), ?_, ⟨by simpa using hlen', hlb, .inr ⟨h.next, by simp [hls], fun e => hn (by rw [List.nil_append] at e; rw [e] at hls; exact hls.symm), Nat.lt_succ_self _, hg, by rw [push_get, if_pos rfl]; rfl⟩⟩, ⟨Nat.le_succ _, fun r hr _ => by rw [push_get, if_neg (by omega)], fun _ _ q => q⟩⟩
      simp only [append, hu, hi1, hz, hx]
      rw [if_pos c0]
      simp only [hbe']
      rw [if_pos c1, if_pos (by decide), appendKnown, if_neg (by omega)]
      simp only [H.bears, if_true, List.nil_append, Nat.zero_add, hi2]
  · by_cases hn : n = 0
    · subst hn
      obtain rfl : ls = [] := List.eq_nil_of_length_eq_zero hls
      refine ⟨.slice (some ⟨r, 0, none⟩) l.length (UNK + size), h, ?_, by rw [List.append_nil]; exact hi, ⟨Nat.le_refl _, fun _ _ _ => rfl, fun _ _ q => q⟩⟩
      simp only [append, hu, hi1, hz, hx]
      rw [if_pos c0]
      simp only [hbe']
      rw [if_pos c1, if_neg (by simp)]
      simp only [Option.isNone_none, if_true, appendUnk]
    · refine ⟨.slice (some ⟨h.next, 0, none⟩) (l.length + n) (UNK + size), (h.put r none).push (.cells (l.flatten ++ ls.flatten) (some e) false 0), ?_, ⟨hlen', hlb, .inr ⟨h.next, by rw [List.length_append, hls], by simp [hne], Nat.lt_succ_self _, hg, by rw [push_get, put_next, if_pos rfl, List.flatten_append]⟩⟩, ⟨Nat.le_succ _, fun x hx hxv => ?_, fun k h1 h2 => ?_⟩⟩
      · simp only [append, hu, hi1, hz, hx]
        rw [if_pos c0]
        simp only [hbe']
        rw [if_pos c1, if_neg (by simp)]
        have e4 : cut l.flatten 0 (l.length * i.size) = some l.flatten := by
          unfold cut
          rw [if_pos (by rw [f1, hi2]; omega), List.drop_zero, List.take_of_length_le (by rw [f1, hi2]; omega)]
        simp only [Option.isNone_none, if_true, appendUnk, hm]
        rw [if_neg hn, if_pos (by rw [hi2]), if_pos (Nat.zero_le _), e4]
        simp only [if_true, Nat.sub_zero, hi2]
      · rw [push_get, if_neg (by show ¬ x = h.next; omega), put_get, if_neg (fun ex => hxv ⟨_, _, by rw [ex]⟩)]
      · show k ≤ (h.put r none).low
        rw [put_low]
        split
        · omega
        · exact h2
/-- A row that is appended to another one. -/
theorem RowAt.bears {h : H} {S : Nat → Prop} {size : Nat} {l : List (List Value)} {v : Value} (r : RowAt h S size l v) : lenV v = some l.length ∧ h.bears size v = some l.flatten := by
  obtain ⟨a, n, cap, rfl, rfl, hx, _⟩ := r.ex
  refine ⟨rfl, ?_⟩
  rcases hx.ex with ⟨rfl, hs⟩ | ⟨b, off, rfl, _, _, q⟩
  · cases a with
    | none => rfl
    | some a => simp [H.bears]
  · by_cases h0 : l.length = 0
    · have : l = [] := List.eq_nil_of_length_eq_zero h0
      subst this
      simp [H.bears]
    · simp only [H.bears, if_neg h0, Option.isNone_none, if_true]
      exact q.eq
end Go.Proofs.Ytknenadpkgajjaa.GEv

/- The strata in which a flag is read, or written: package rules, by symbolic runs. -/
namespace Go.Proofs.Ytknenadpkgajjaa.GEv
open Go
set_option linter.unusedSimpArgs false
set_option linter.unusedVariables false
set_option maxRecDepth 100000
theorem intsV_enc : ∀ l : List Int, intsV (encIs l) = some l
  | [] => rfl
  | a :: l => by simp only [encIs, List.map_cons, intsV]; rw [show l.map (Value.int .i64) = encIs l from rfl, intsV_enc l]
theorem encIs_flat (l : List Int) : (l.map encI).flatten = encIs l := by
  induction l with
  | nil => rfl
  | cons a l ih => rw [List.map_cons, List.flatten_cons, ih]; rfl
theorem encIs_len (l : List Int) : (encIs l).length = l.length := List.length_map _
theorem encI_len (l : List Int) : ∀ x ∈ l.map encI, x.length = 1 ∧ x.all one = true := by
  intro x hx
  obtain ⟨s, _, rfl⟩ := List.mem_map.1 hx
  exact ⟨rfl, rfl⟩
theorem cut_all (l : List Value) {n : Nat} (h : l.length = n) : cut l 0 n = some l := by
  unfold cut
  rw [if_pos (by omega), List.drop_zero, List.take_of_length_le (by omega)]
theorem over_all {l n : List Value} (h : l.length = n.length) : over l 0 n = n := by
  unfold over
  rw [List.take_zero, List.nil_append, List.drop_of_length_le (by omega), List.append_nil]
theorem compact_le (zs : List Int) : (Lib.compact zs).length ≤ zs.length := by
  unfold Lib.compact Lib.compactUpTo
  rw [List.length_map]
  exact Nat.le_trans (List.length_filter_le _ _) (by rw [List.length_range]; exact Nat.le_refl _)
def strataL (P : RuleS → Bool) (l : List RuleS) : List Int := Lib.compact (sortL ((l.filter P).map (·.st)))
section
variable {E : Env} (hE : E = EG)
include hE
theorem cSort (zs : List Int) (v : Value) (m : H) (g : Nat) (hi : IsRow m g 3 1 (zs.map encI) v) (K : Value → H → Prop) (hk : ∀ m', IsRow m' g 3 1 ((sortL zs).map encI) v → GrewP g v m m' → K (.tuple #[]) m') :
    CallP E 62 [v] m K := by
  have hb : ∃ fn c, E.P.funcs[62]? = some fn ∧ fn.body = some c := by rw [hE]; exact ⟨_, _, Try.func62, rfl⟩
  have hq : mprimOf E.mem 62 = some sortP := by rw [hE]; rfl
  have hm : memoOf E.memo 62 [v] = none := by rw [hE]; rfl
  have hlen : (sortL zs).length = zs.length := List.length_mergeSort _
  rcases hi.ex with ⟨e, rfl⟩ | ⟨r, rfl, hne, hr, hgr, hg⟩
  · have e : zs = [] := List.map_eq_nil_iff.1 e
    subst e
    refine CallP.mem hm hq (r := { v := .tuple #[] }) rfl rfl hb (hk m ?_ ⟨Nat.le_refl _, fun _ _ _ => rfl, fun _ _ q => q⟩)
    have : sortL [] = [] := List.eq_nil_of_length_eq_zero hlen
    rw [this]
    exact IsRow.nil _ _ _ _
  · have hlb := hi.lb
    rw [List.length_map] at hlb
    rw [encIs_flat] at hg
    rw [List.length_map] at *
    have hc : (Nat.ble 0 0 && Nat.ble zs.length 1000000 && Nat.ble zs.length (UNK + 1)) = true := by
      rw [Nat.ble_eq_true_of_le (Nat.le_refl 0), Nat.ble_eq_true_of_le hlb, Nat.ble_eq_true_of_le (show zs.length ≤ UNK + 1 by unfold UNK; omega)]
      rfl
    have ho : over (encIs zs) 0 (encIs (sortL zs)) = encIs (sortL zs) := over_all (by rw [encIs_len, encIs_len, hlen])
    have hp : sortP [.slice (some ⟨r, 0, none⟩) zs.length (UNK + 1)] m = some { v := .tuple #[], puts := [(r, .cells (encIs (sortL zs)) (some 3) false 0)] } := by
      simp only [sortP, hg, hc, cut_all _ (encIs_len zs), intsV_enc, ho]
    refine CallP.mem hm hq hp (h' := m.put r (some (.cells (encIs (sortL zs)) (some 3) false 0))) (v := .tuple #[]) ?_ hb (hk _ ?_ ?_)
    · simp only [mOn, H.puts, hg, H.news]
    · refine ⟨encI_len _, by rw [List.length_map, hlen]; exact hlb, .inr ⟨r, by rw [List.length_map, hlen], ?_, hr, hgr, by rw [put_get, if_pos rfl, encIs_flat]⟩⟩
      intro e
      have e := List.map_eq_nil_iff.1 e
      rw [e] at hlen
      have : zs = [] := List.eq_nil_of_length_eq_zero hlen.symm
      exact hne (by rw [this]; rfl)
    · refine ⟨Nat.le_refl _, fun x _ hx => ?_, fun k h1 h2 => ?_⟩
      · rw [put_get, if_neg (fun e => hx ⟨_, _, by rw [e]⟩)]
      · rw [put_low]
        split
        · omega
        · exact h2
theorem cCompact (zs : List Int) (v : Value) (m : H) (g : Nat) (hi : IsRow m g 3 1 (zs.map encI) v) (K : Value → H → Prop) (hk : ∀ m' v', RowAt m' (fun b => g ≤ b) 1 ((Lib.compact zs).map encI) v' → GrewP g v m m' → K v' m') :
    CallP E 63 [v] m K := by
  have hb : ∃ fn c, E.P.funcs[63]? = some fn ∧ fn.body = some c := by rw [hE]; exact ⟨_, _, Try.func63, rfl⟩
  have hq : mprimOf E.mem 63 = some compP := by rw [hE]; rfl
  have hm : memoOf E.memo 63 [v] = none := by rw [hE]; rfl
  have hcl : (Lib.compact zs).length ≤ zs.length := compact_le _
  rcases hi.ex with ⟨e, rfl⟩ | ⟨r, rfl, hne, hr, hgr, hg⟩
  · have e : zs = [] := List.map_eq_nil_iff.1 e
    subst e
    refine CallP.mem hm hq (r := { v := .slice none 0 0 }) rfl rfl hb (hk m _ ?_ ⟨Nat.le_refl _, fun _ _ _ => rfl, fun _ _ q => q⟩)
    have : Lib.compact ([] : List Int) = [] := List.eq_nil_of_length_eq_zero (Nat.le_zero.1 hcl)
    rw [this]
    exact (IsRow.nil m g 3 1).row
  · have hlb := hi.lb
    rw [List.length_map] at hlb
    rw [encIs_flat] at hg
    rw [List.length_map] at *
    have hc : (Nat.ble 0 0 && Nat.ble zs.length 1000000 && Nat.ble zs.length (UNK + 1)) = true := by
      rw [Nat.ble_eq_true_of_le (Nat.le_refl 0), Nat.ble_eq_true_of_le hlb, Nat.ble_eq_true_of_le (show zs.length ≤ UNK + 1 by unfold UNK; omega)]
      rfl
    have ho : over (encIs zs) 0 (encIs (Lib.compact zs ++ List.replicate (zs.length - (Lib.compact zs).length) 0)) = encIs (Lib.compact zs ++ List.replicate (zs.length - (Lib.compact zs).length) 0) := over_all (by rw [encIs_len, encIs_len, List.length_append, List.length_replicate]; omega)
    have hp : compP [.slice (some ⟨r, 0, none⟩) zs.length (UNK + 1)] m = some { v := .slice (some ⟨r, 0, none⟩) (Lib.compact zs).length (UNK + 1), puts := [(r, .cells (encIs (Lib.compact zs ++ List.replicate (zs.length - (Lib.compact zs).length) 0)) (some 3) false 0)] } := by
      simp only [compP, hg, hc, cut_all _ (encIs_len zs), intsV_enc, ho]
    refine CallP.mem hm hq hp (h' := m.put r (some (.cells (encIs (Lib.compact zs ++ List.replicate (zs.length - (Lib.compact zs).length) 0)) (some 3) false 0))) (v := .slice (some ⟨r, 0, none⟩) (Lib.compact zs).length (UNK + 1)) ?_ hb (hk _ _ ?_ ?_)
    · simp only [mOn, H.puts, hg, H.news]
    · refine ⟨_, _, _, rfl, List.length_map _, ⟨encI_len _, .inr ⟨r, 0, rfl, hgr, hr, ⟨?_⟩⟩⟩, ⟨by unfold UNK; omega, .inr ⟨rfl, by simp⟩⟩⟩
      unfold H.read
      rw [put_get, if_pos rfl]
      simp only [cut]
      rw [if_pos (by rw [encIs_len, List.length_append, List.length_map]; omega), List.drop_zero, encIs_flat, List.length_map, Nat.mul_one]
      unfold encIs
      rw [List.map_append, List.take_append_of_le_length (by rw [List.length_map]; exact Nat.le_refl _), List.take_of_length_le (by rw [List.length_map]; exact Nat.le_refl _)]
    · refine ⟨Nat.le_refl _, fun x _ hx => ?_, fun k h1 h2 => ?_⟩
      · rw [put_get, if_neg (fun e => hx ⟨_, _, by rw [e]⟩)]
      · rw [put_low]
        split
        · omega
        · exact h2
end
end Go.Proofs.Ytknenadpkgajjaa.GEv

/- strata, Reads, Writes of package rules, by symbolic runs. -/
namespace Go.Proofs.Ytknenadpkgajjaa.GEv
open Go
set_option linter.unusedSimpArgs false
set_option linter.unusedVariables false
set_option maxRecDepth 100000
theorem filter_take_succ {α : Type} {P : α → Bool} {l : List α} {i : Nat} {x : α} (h : l[i]? = some x) : (l.take (i + 1)).filter P = (l.take i).filter P ++ (if P x then [x] else []) := by
  have hi := (List.getElem?_eq_some_iff.1 h).1
  rw [List.take_succ_eq_append_getElem hi, List.filter_append, (List.getElem?_eq_some_iff.1 h).2]
  congr 1
  cases hp : P x <;> simp [hp]
section
variable {E : Env} (hE : E = EG)
include hE
theorem cStrata (p : PrS) (w : PrV) (P : RuleS → Bool) (f : FuncId) (cs : List Value) (g : H) (S : Nat → Prop) (hp : IsPr g S p w)
    (hf : ∀ r c, ∀ m, Grows g m → IsRule m S r c → ∀ K : Value → H → Prop, (∀ m' b, P r = b → Grows m m' → K (.bool b) m') → CallP E f (.agg c.toArray :: cs) m K) (K : Value → H → Prop) (hk : ∀ m v, RowAt m (fun b => g.next ≤ b) 1 ((strataL P p.rules).map encI) v → Grows g m → K v m) :
    CallP E 32 [.agg (prC p w).toArray, .func (.func f) #[] ⟨cs⟩] g K := by
  have cso := fun zs v m g hi K hk => cSort hE zs v m g hi K hk
  have cco := fun zs v m g hi K hk => cCompact hE zs v m g hi K hk
  obtain ⟨zs, hz1, hz2, hz3⟩ := hp.rules.ex
  have hlen := hp.lens.2.2.2.1
  obtain ⟨a, n, cap, hv, hn, hx, hcap⟩ := hz2.ex
  rw [List.length_map] at hn
  have hzl : p.rules.length = zs.length := by rw [← hz1, List.length_map]
  refine CallP.ofG hE Try.func32 rfl rfl rfl rfl ?_
  have T := tbOk hE
  clear hE
  cbv
  intro m0 P0
  have B0 : BoxP m0 g.next (prC p w) 36 := P0.box
  have G0 := P0.grows
  have N0 : m0.next = g.next + 1 := P0.next
  clear P0
  have hb1 : g.next ≤ m0.next := by omega
  generalize g.next = b1 at B0
  have B0' := B0.get
  have hp6 : (prC p w)[6]? = some (.slice a n cap) := by rw [← hv]; rfl
  cbv
  rintro _ rfl
  cbv
  refine ⟨_, rb B0' hp6, ?_⟩
  cbv
  refine LoopP.onZ T (fun x : H × Nat × Value => [(11, .int .i64 (.ofNat x.2.1)), (10, .int .i64 (.ofNat n)), (9, .slice a n cap), (5, x.2.2), (2, .pointer (some ⟨b1, 0, none⟩)), (1, .func (.func f) #[] ⟨cs⟩)]) (fun x => x.1) (fun x => Grows m0 x.1 ∧ x.2.1 ≤ n ∧ IsRow x.1 m0.next 3 1 ((((p.rules.take x.2.1).filter P).map (·.st)).map encI) x.2.2) (fun x => n - x.2.1) (m0, 0, .slice none 0 0) rfl (Less.cons rfl (Less.cons rfl (Less.cons rfl (Less.cons rfl (Less.cons rfl (Less.cons rfl (Less.nil _))))))) ⟨Grows.refl _, Nat.zero_le _, IsRow.nil _ _ _ _⟩ ?_
  rintro ⟨m, i, v⟩ ⟨i0, i1, i2⟩
  have i0 : Grows m0 m := i0
  have i1 : i ≤ n := i1
  have i2 : IsRow m m0.next 3 1 ((((p.rules.take i).filter P).map (·.st)).map encI) v := i2
  have G := G0.trans i0
  have hvx : ∃ x y z, v = .slice x y z := by
    rcases i2.ex with ⟨_, q⟩ | ⟨r, q, _⟩
    · exact ⟨_, _, _, q⟩
    · exact ⟨_, _, _, q⟩
  cbv
  refine BinP.lt (fun q => ?_) (fun q => ?_)
  · obtain ⟨z, hzi⟩ : ∃ z, zs[i]? = some z := ⟨_, List.getElem?_eq_getElem (by omega)⟩
    obtain ⟨r, c⟩ := z
    have hzm := List.mem_of_getElem? hzi
    have hri : p.rules[i]? = some r := by rw [← hz1, List.getElem?_map, hzi]; rfl
    obtain ⟨v1, v2, v3, hc, _⟩ := (hz3 _ hzm).ex
    have hc : c = [.int .i64 r.st, v1, v2, v3] := hc
    subst hc
    obtain ⟨b, off, rfl, _, hbl, _, hrd⟩ := (hx.grows G).el (i := i) (x := [.int .i64 r.st, v1, v2, v3]) (by rw [List.getElem?_map, hzi]; rfl)
    have hco := (hx.len [.int .i64 r.st, v1, v2, v3] (by rw [List.mem_map]; exact ⟨_, hzm, rfl⟩)).2
    cbv
    refine ⟨⟨q⟩, fun p1 hp1 => ?_⟩
    cbv
    refine ⟨_, hrd p1 hp1, ?_⟩
    cbv
    intro m2 P2
    have B2 := P2.get
    have g2 := P2.grows
    have hlt : m.next < m2.next := by rw [P2.next]; exact Nat.lt_succ_self _
    clear P2
    have hgm : m0.next ≤ m.next := i0.next
    generalize hb2 : m.next = b2 at hlt B2 hgm
    cbv
    refine StoP.of B2 (Nat.zero_le _) (Nat.le_of_ble_eq_true rfl) hco (fun m3 P3 => ?_)
    have B3 : BoxP m3 b2 [.int .i64 r.st, v1, v2, v3] 28 := ⟨by rw [P3.next]; exact hlt, P3.get⟩
    have i3 : Grows m0 m3 := P3.grows (i0.trans g2) hgm
    have G3 := G0.trans i3
    have hR3 : IsRule m3 S r [.int .i64 r.st, v1, v2, v3] := (hz3 _ hzm).grows G3
    have i23 : IsRow m3 m0.next 3 1 ((((p.rules.take i).filter P).map (·.st)).map encI) v := i2.keep (fun r _ hr _ => by rw [P3.ne (by omega)]; exact g2.keep r (by omega)) (by rw [P3.next]; exact g2.next)
    clear P3
    have B3' := B3.get
    cbv
    refine ⟨_, rbw B3' rfl, ?_⟩
    cbv
    refine hf r _ m3 G3 hR3 _ (fun m4 bb hbb g4 => ?_)
    have i4 := i3.trans g4
    have i24 := i23.grows g4
    have B4 := (B3.grows g4).get
    cases bb with
    | false =>
      cbv
      refine BinP.inc (by omega) (fun z2 hz2 => ?_)
      cbv
      refine ⟨(m4, i + 1, v), Less.cons (by rw [hz2]; rfl) (Less.cons rfl (Less.cons rfl (Less.cons rfl (Less.cons rfl (Less.cons rfl (Less.nil _)))))), rfl, ⟨i4, q, ?_⟩, (by show n - (i + 1) < n - i; omega)⟩
      show IsRow m4 m0.next _ 1 ((((p.rules.take (i + 1)).filter P).map (·.st)).map encI) v
      rw [filter_take_succ hri, hbb]
      simpa using i24
    | true =>
      obtain ⟨vx, vy, vz, rfl⟩ := hvx
      cbv
      rintro _ rfl
      cbv
      refine ⟨_, rb (B4) rfl, ?_⟩
      cbv
      intro m5 P5
      have B5 := P5.get
      have g5 := P5.grows
      have hn5 : m5.next = m4.next + 1 := P5.next
      clear P5
      generalize hq4 : m4.next = b4 at B5 hn5
      cbv
      have i25 := i24.grows g5
      have hfl : ((p.rules.take i).filter P).length ≤ i := Nat.le_trans (List.length_filter_le _ _) (by rw [List.length_take]; omega)
      have hbe : m5.bears 1 (.slice (some ⟨b4, 0, none⟩) 1 1) = some ([encI r.st].flatten) := by
        simp only [H.bears, Option.isNone_none, if_true]
        exact (rbw B5 rfl).eq
      obtain ⟨v', m6, ha, hr6, hw6⟩ := row_app T (sT := 29) rfl rfl rfl (by decide) (by decide) (by decide) i25 (Nat.le_trans i4.next g5.next) (x := .slice (some ⟨b4, 0, none⟩) 1 1) rfl (ls := [encI r.st]) rfl hbe (by intro c hc; rw [List.mem_singleton] at hc; rw [hc]; exact ⟨rfl, rfl⟩) (by simp only [List.length_map]; omega)
      refine ⟨v', m6, ha, ?_⟩
      cbv
      refine BinP.inc (by omega) (fun z2 hz2 => ?_)
      cbv
      refine ⟨(m6, i + 1, v'), Less.cons (by rw [hz2]; rfl) (Less.cons rfl (Less.cons rfl (Less.cons rfl (Less.cons rfl (Less.cons rfl (Less.nil _)))))), rfl, ⟨hw6.grows i25 (i4.trans g5) (Nat.le_refl _), q, ?_⟩, (by show n - (i + 1) < n - i; omega)⟩
      show IsRow m6 m0.next _ 1 ((((p.rules.take (i + 1)).filter P).map (·.st)).map encI) v'
      rw [filter_take_succ hri, hbb]
      simpa using hr6
  · rw [List.take_of_length_le (by omega)] at i2
    obtain ⟨vx, vy, vz, rfl⟩ := hvx
    cbv
    refine cso _ _ m _ i2 _ (fun m2 r2 w2 => ?_)
    cbv
    refine cco _ _ m2 _ r2 _ (fun m3 v3 r3 w3 => ?_)
    cbv
    exact hk _ _ (r3.mono (fun b hb _ => Nat.le_trans hb1 hb) (fun _ _ _ => rfl) (Nat.le_refl _)) (G0.trans (w3.grows r2 (w2.grows i2 i0 (Nat.le_refl _)) (Nat.le_refl _)))
end
end Go.Proofs.Ytknenadpkgajjaa.GEv

