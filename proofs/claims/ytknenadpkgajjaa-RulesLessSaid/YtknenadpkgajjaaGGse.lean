import Derived.Test.YtknenadpkgajjaaGGsd
import Derived.Test.YtknenadpkgajjaaGSyE
import Derived.RowKit
import Derived.WalkKit
import Derived.ProofKit
import Derived.SizedLaws
/- The reference's ends, by a symbolic run. -/
namespace Go.Proofs.Ytknenadpkgajjaa.GEv
open Go
set_option linter.unusedSimpArgs false
set_option linter.unusedVariables false
set_option maxRecDepth 100000
section
variable {E : Env} (hE : E = EG)
include hE
theorem rEnds (p : PrS) (w : PrV) (hL0 : 0 ≤ p.lasting) (g : H) (S : Nat → Prop) (hp : IsPr g S p w) (K : Value → H → Prop) (hk : ∀ h' r, (r = true ↔ (∀ c ∈ p.ctrs, CtrOk p c) ∧ ∀ u ∈ p.users, UserOk p u) → Grows g h' → K (.bool r) h') :
    CallP E 31 [.agg (prC p w).toArray] g K := by
  have ci := fun n b h K hk => rIn hE n b h K hk
  have cl := fun n l v m hr hl K hk => rLits hE n l v m S hr hl K hk
  obtain ⟨zs, hz1, hz2, hz3⟩ := hp.users.ex
  have hlen := hp.lens.2.2.2.2
  obtain ⟨a, n, cap, hv, hn, hx, hcap⟩ := hz2.ex
  obtain ⟨ac, nc, capc, hvc, hnc, hxc, hcapc⟩ := hp.ctrs.ex
  rw [List.length_map] at hn hnc
  have hzl : p.users.length = zs.length := by rw [← hz1, List.length_map]
  refine CallP.ofG hE Try.func31 rfl rfl rfl rfl ?_
  have T := tbOk hE
  clear hE
  cbv
  intro m0 P
  have B0 : BoxP m0 g.next (prC p w) 36 := P.box
  have G0 := P.grows
  clear P
  generalize g.next = b1 at B0
  have hp7 : (prC p w)[7]? = some (.slice ac nc capc) := by rw [← hvc]; rfl
  have hp8 : (prC p w)[8]? = some (.slice a n cap) := by rw [← hv]; rfl
  cbv
  refine LoopP.onZ T (fun y : H × Nat => [(3, .int .i64 (.ofNat y.2)), (2, .bool false), (1, .pointer (some ⟨b1, 0, none⟩))]) (fun y => y.1) (fun y => Grows m0 y.1 ∧ y.2 ≤ nc ∧ ∀ u ∈ p.ctrs.take y.2, CtrOk p u) (fun y => nc - y.2) (m0, 0) rfl (Less.cons rfl (Less.cons rfl (Less.cons rfl (Less.nil _)))) ⟨Grows.refl _, Nat.zero_le _, fun u hu => by simp at hu⟩ ?_
  rintro ⟨m1, i⟩ ⟨i0, i1, i2⟩
  have i0 : Grows m0 m1 := i0
  have i1 : i ≤ nc := i1
  have i2 : ∀ u ∈ p.ctrs.take i, CtrOk p u := i2
  have B1 := (B0.grows i0).get
  cbv
  rintro _ rfl
  cbv
  refine ⟨_, rb B1 hp7, ?_⟩
  cbv
  refine BinP.lt (fun q => ?_) (fun q => ?_)
  · obtain ⟨⟨c1, c2, c3⟩, hci⟩ : ∃ u, p.ctrs[i]? = some u := ⟨_, List.getElem?_eq_getElem (by omega)⟩
    have hcm := List.mem_of_getElem? hci
    obtain ⟨b, off, rfl, _, _, _, hrd⟩ := (hxc.grows (G0.trans i0)).el (i := i) (x := encK (c1, c2, c3)) (by rw [List.getElem?_map, hci]; rfl)
    cbv
    rintro _ rfl
    cbv
    refine ⟨_, rb B1 hp7, ?_⟩
    cbv
    refine ⟨⟨q⟩, fun p1 hp1 => ?_⟩
    cbv
    refine ⟨_, hrd p1 hp1, ?_⟩
    cbv
    intro m2 P2
    have C2 := P2.get
    have g2 := P2.grows
    have hlt : m1.next < m2.next := by rw [P2.next]; exact Nat.lt_succ_self _
    clear P2
    have hgm : m0.next ≤ m1.next := i0.next
    generalize hb2 : m1.next = b2 at hlt C2 hgm
    cbv
    refine StoP.of C2 (Nat.zero_le _) (Nat.le_of_ble_eq_true rfl) rfl (fun m3 P3 => ?_)
    have C3 : m3.m.get b2 = some (.cells [.int .i64 c1, .int .i64 c2, .int .i64 c3] (some 44) true 0) := P3.get
    have i3 : Grows m0 m3 := P3.grows (i0.trans g2) hgm
    have B3 := (B0.grows i3).get
    have G3 := G0.trans i3
    clear P3 B1
    cbv
    rintro _ rfl
    cbv
    refine ⟨_, rb (C3) rfl, ?_⟩
    cbv
    rintro _ rfl
    cbv
    refine ⟨_, rb (B3) rfl, ?_⟩
    cbv
    refine ci _ _ m3 _ (fun r hr1 => ?_)
    cases r with
    | false => cbv; exact hk _ _ ⟨fun e => (by cases e), fun e => absurd (e.1 _ hcm).1 (of_decide_eq_false hr1)⟩ G3
    | true =>
      have h1 : Wth c1 0 p.lasting := of_decide_eq_true hr1
      cbv
      rintro _ rfl
      cbv
      refine ⟨_, rb (C3) rfl, ?_⟩
      cbv
      refine BinP.ofI (And.intro (fun q1 => ?_) (fun q1 => ?_))
      · have q1 : c2 < 1 := q1
        cbv
        exact hk _ _ ⟨fun e => (by cases e), fun e => by have : 1 ≤ c2 := (e.1 _ hcm).2.1.1; omega⟩ G3
      have q1 : 1 ≤ c2 := q1
      cbv
      rintro _ rfl
      cbv
      refine ⟨_, rb (C3) rfl, ?_⟩
      cbv
      refine BinP.ofI (And.intro (fun q2 => ?_) (fun q2 => ?_))
      · have q2 : 100 < c2 := q2
        cbv
        exact hk _ _ ⟨fun e => (by cases e), fun e => by have : c2 < 101 := (e.1 _ hcm).2.1.2; omega⟩ G3
      have q2 : c2 ≤ 100 := q2
      cbv
      rintro _ rfl
      cbv
      refine ⟨_, rb (C3) rfl, ?_⟩
      cbv
      rintro _ rfl
      cbv
      refine ⟨_, rb (B3) rfl, ?_⟩
      cbv
      refine ci _ _ m3 _ (fun r hr2 => ?_)
      cases r with
      | false => cbv; exact hk _ _ ⟨fun e => (by cases e), fun e => absurd (show Wth c3 0 p.flags from by
          have h : p.lasting ≤ c3 ∧ c3 < p.flags := (e.1 _ hcm).2.2
          have h1 : 0 ≤ c1 ∧ c1 < p.lasting := h1
          exact ⟨by omega, h.2⟩) (of_decide_eq_false hr2)⟩ G3
      | true =>
        have h2 : Wth c3 0 p.flags := of_decide_eq_true hr2
        cbv
        rintro _ rfl
        cbv
        refine ⟨_, rb (C3) rfl, ?_⟩
        cbv
        rintro _ rfl
        cbv
        refine ⟨_, rb (B3) rfl, ?_⟩
        cbv
        refine BinP.ofI (And.intro (fun q3 => ?_) (fun q3 => ?_))
        · have q3 : c3 < p.lasting := q3
          cbv
          exact hk _ _ ⟨fun e => (by cases e), fun e => by have : p.lasting ≤ c3 := (e.1 _ hcm).2.2.1; omega⟩ G3
        have q3 : p.lasting ≤ c3 := q3
        cbv
        refine BinP.inc (by omega) (fun z2 hz2 => ?_)
        cbv
        exact ⟨(m3, i + 1), Less.cons (by rw [hz2]; rfl) (Less.cons rfl (Less.cons rfl (Less.nil _))), rfl, ⟨i3, q, all_succ i2 hci ⟨h1, ⟨q1, (by show c2 < 101; omega)⟩, q3, h2.2⟩⟩, (by show nc - (i + 1) < nc - i; omega)⟩
  have i2 : ∀ u ∈ p.ctrs, CtrOk p u := by
    rw [List.take_of_length_le (by omega)] at i2
    exact i2
  clear B1
  cbv
  refine LoopP.onZ T (fun y : H × Nat => [(5, .int .i64 (.ofNat y.2)), (2, .bool false), (1, .pointer (some ⟨b1, 0, none⟩))]) (fun y => y.1) (fun y => Grows m0 y.1 ∧ y.2 ≤ n ∧ ∀ u ∈ p.users.take y.2, UserOk p u) (fun y => n - y.2) (m1, 0) rfl (Less.cons rfl (Less.cons rfl (Less.cons rfl (Less.nil _)))) ⟨i0, Nat.zero_le _, fun u hu => by simp at hu⟩ ?_
  rintro ⟨m2, j⟩ ⟨j0, j1, j2⟩
  have j0 : Grows m0 m2 := j0
  have j1 : j ≤ n := j1
  have j2 : ∀ u ∈ p.users.take j, UserOk p u := j2
  have B1 := (B0.grows j0).get
  cbv
  rintro _ rfl
  cbv
  refine ⟨_, rb B1 hp8, ?_⟩
  cbv
  refine BinP.lt (fun q => ?_) (fun q => ?_)
  · obtain ⟨⟨u, c⟩, hzx⟩ : ∃ y, zs[j]? = some y := ⟨_, List.getElem?_eq_getElem (by omega)⟩
    have hpx : p.users[j]? = some u := by rw [← hz1, List.getElem?_map, hzx]; rfl
    have hcm := List.mem_of_getElem? hpx
    have hxc : IsUser g S u c := hz3 _ (List.mem_of_getElem? hzx)
    obtain ⟨b, off, rfl, _, _, _, hrd⟩ := (hx.grows (G0.trans j0)).el (i := j) (x := c) (by rw [List.getElem?_map, hzx]; rfl)
    obtain ⟨v1, rfl, r1, l1⟩ := hxc.ex
    obtain ⟨a1, n1, c1, rfl, hn1, x1, kc1⟩ := r1.ex
    have r1 : RowAt g S 2 (u.whil.map encL) (.slice a1 n1 c1) := ⟨_, _, _, rfl, hn1, x1, kc1⟩
    cbv
    rintro _ rfl
    cbv
    refine ⟨_, rb B1 hp8, ?_⟩
    cbv
    refine ⟨⟨q⟩, fun p1 hp1 => ?_⟩
    cbv
    refine ⟨_, hrd p1 hp1, ?_⟩
    cbv
    intro m3 P2
    have C2 := P2.get
    have g2 := P2.grows
    have hlt : m2.next < m3.next := by rw [P2.next]; exact Nat.lt_succ_self _
    clear P2
    have hgm : m0.next ≤ m2.next := j0.next
    generalize hb2 : m2.next = b2 at hlt C2 hgm
    cbv
    refine StoP.of C2 (Nat.zero_le _) (Nat.le_of_ble_eq_true rfl) rfl (fun m4 P3 => ?_)
    have C3 : m4.m.get b2 = some (.cells [.string ⟨⟨u.item⟩⟩, .int .i64 u.event, .slice a1 n1 c1, .int .i64 u.thn] (some 46) true 0) := P3.get
    have i3 : Grows m0 m4 := P3.grows (j0.trans g2) hgm
    have B3 := (B0.grows i3).get
    have G3 := G0.trans i3
    clear P3 B1
    cbv
    rintro _ rfl
    cbv
    refine ⟨_, rb (C3) rfl, ?_⟩
    cbv
    rintro _ rfl
    cbv
    refine ⟨_, rb (B3) rfl, ?_⟩
    cbv
    refine cl _ _ _ m4 (r1.grows G3) l1 _ (fun r hr1 => ?_)
    cases r with
    | false => cbv; exact hk _ _ ⟨fun e => (by cases e), fun e => absurd (hr1.2 (e.2 _ hcm).whil) (by simp)⟩ G3
    | true =>
      cbv
      rintro _ rfl
      cbv
      refine ⟨_, rb (C3) rfl, ?_⟩
      cbv
      rintro _ rfl
      cbv
      refine ⟨_, rb (B3) rfl, ?_⟩
      cbv
      refine ci _ _ m4 _ (fun r hr2 => ?_)
      cases r with
      | false => cbv; exact hk _ _ ⟨fun e => (by cases e), fun e => absurd (show Wth u.thn 0 p.flags from by
          have h : p.lasting ≤ u.thn ∧ u.thn < p.flags := (e.2 _ hcm).thn
          exact ⟨by omega, h.2⟩) (of_decide_eq_false hr2)⟩ G3
      | true =>
        have h2 : Wth u.thn 0 p.flags := of_decide_eq_true hr2
        cbv
        rintro _ rfl
        cbv
        refine ⟨_, rb (C3) rfl, ?_⟩
        cbv
        rintro _ rfl
        cbv
        refine ⟨_, rb (B3) rfl, ?_⟩
        cbv
        refine BinP.ofI (And.intro (fun q3 => ?_) (fun q3 => ?_))
        · have q3 : u.thn < p.lasting := q3
          cbv
          exact hk _ _ ⟨fun e => (by cases e), fun e => by have : p.lasting ≤ u.thn := (e.2 _ hcm).thn.1; omega⟩ G3
        have q3 : p.lasting ≤ u.thn := q3
        cbv
        refine BinP.inc (by omega) (fun z2 hz2 => ?_)
        cbv
        exact ⟨(m4, j + 1), Less.cons (by rw [hz2]; rfl) (Less.cons rfl (Less.cons rfl (Less.nil _))), rfl, ⟨i3, q, all_succ j2 hpx ⟨⟨q3, h2.2⟩, hr1.1 rfl⟩⟩, (by show n - (j + 1) < n - j; omega)⟩
  · cbv
    rw [List.take_of_length_le (by omega)] at j2
    exact hk _ _ ⟨fun _ => ⟨i2, j2⟩, fun _ => rfl⟩ (G0.trans j0)
end
end Go.Proofs.Ytknenadpkgajjaa.GEv

/- The reference's Is, by a symbolic run. -/
namespace Go.Proofs.Ytknenadpkgajjaa.GEv
open Go
set_option linter.unusedSimpArgs false
set_option linter.unusedVariables false
set_option maxRecDepth 100000
section
variable {E : Env} (hE : E = EG)
include hE
theorem rIs (p : PrS) (w : PrV) (g : H) (S : Nat → Prop) (hp : IsPr g S p w) (K : Value → H → Prop) (hk : ∀ h' r, (r = true ↔ IsOk p) → Grows g h' → K (.bool r) h') :
    CallP E 12 [.agg (prC p w).toArray] g K := by
  have cg := fun l v m hr hl K hk => rRising hE p.lasting l v m S hr hl K hk
  have cf := fun l s v m hr hl K hk => rFile hE l s v m S hr hl K hk
  have cr := fun x c g hp hr K hk => rRule hE p w x c g S hp hr K hk
  have cs := fun F La hF hL hF2 hR m hp K hk => rStrata hE p w F La hF hL hF2 hR m S hp K hk
  have ce := fun h0 m hp K hk => rEnds hE p w h0 m S hp K hk
  have hlen := hp.lens
  obtain ⟨zs, hz1, hz2, hz3⟩ := hp.rules.ex
  obtain ⟨a, n, cap, hv, hn, hx, hcap⟩ := hz2.ex
  rw [List.length_map] at hn
  have hzl : p.rules.length = zs.length := by rw [← hz1, List.length_map]
  obtain ⟨a1, n1, c1, e1, k1⟩ := hp.first.ex
  obtain ⟨a2, n2, c2, e2, k2⟩ := hp.over.ex
  obtain ⟨af, nf, cf', ef, hnf, hxf, hcf⟩ := hp.files.ex
  rw [List.length_map] at hnf
  have r1 : RowAt g S 1 (p.first.map encI) (.slice a1 n1 c1) := e1 ▸ hp.first
  have r2 : RowAt g S 1 (p.over.map encI) (.slice a2 n2 c2) := e2 ▸ hp.over
  have rf : RowAt g S 1 (p.files.map encT) (.slice af nf cf') := ef ▸ hp.files
  have hp2 : (prC p w)[2]? = some (.slice a1 n1 c1) := by rw [← e1]; rfl
  have hp3 : (prC p w)[3]? = some (.slice a2 n2 c2) := by rw [← e2]; rfl
  have hp5 : (prC p w)[5]? = some (.slice af nf cf') := by rw [← ef]; rfl
  have hp6 : (prC p w)[6]? = some (.slice a n cap) := by rw [← hv]; rfl
  refine CallP.ofG hE Try.func12 rfl rfl rfl rfl ?_
  have T := tbOk hE
  clear hE
  cbv
  intro m P
  have B : BoxP m g.next (prC p w) 36 := P.box
  have G := P.grows
  clear P
  generalize g.next = b1 at B
  have B' := B.get
  cbv
  rintro _ rfl
  cbv
  refine ⟨_, rb (B') rfl, ?_⟩
  cbv
  refine BinP.ofI (And.intro (fun q => ?_) (fun q => ?_))
  · have q : p.flags < 0 := q
    cbv
    exact hk _ _ ⟨fun e => (by cases e), fun e => by have := e.flags.1; omega⟩ G
  have q : 0 ≤ p.flags := q
  cbv
  rintro _ rfl
  cbv
  refine ⟨_, rb (B') rfl, ?_⟩
  cbv
  refine BinP.ofI (And.intro (fun q1 => ?_) (fun q1 => ?_))
  · have q1 : 800 < p.flags := q1
    cbv
    exact hk _ _ ⟨fun e => (by cases e), fun e => by have := e.flags.2; omega⟩ G
  have q1 : p.flags ≤ 800 := q1
  cbv
  rintro _ rfl
  cbv
  refine ⟨_, rb (B') rfl, ?_⟩
  cbv
  refine BinP.ofI (And.intro (fun q2 => ?_) (fun q2 => ?_))
  · have q2 : p.lasting < 0 := q2
    cbv
    exact hk _ _ ⟨fun e => (by cases e), fun e => by have := e.lasting.1; omega⟩ G
  have q2 : 0 ≤ p.lasting := q2
  cbv
  rintro _ rfl
  cbv
  refine ⟨_, rb (B') rfl, ?_⟩
  cbv
  rintro _ rfl
  cbv
  refine ⟨_, rb (B') rfl, ?_⟩
  cbv
  refine BinP.ofI (And.intro (fun q3 => ?_) (fun q3 => ?_))
  · have q3 : p.flags < p.lasting := q3
    cbv
    exact hk _ _ ⟨fun e => (by cases e), fun e => by have := e.lasting.2; omega⟩ G
  have q3 : p.lasting ≤ p.flags := q3
  cbv
  rintro _ rfl
  cbv
  refine ⟨_, rb B' hp2, ?_⟩
  cbv
  rintro _ rfl
  cbv
  refine ⟨_, rb (B') rfl, ?_⟩
  cbv
  refine cg p.first _ m (r1.grows G) hlen.1 _ (fun b m1 h4 g1 => ?_)
  have G1 := G.trans g1
  have B := B.grows g1
  have B' := B.get
  cases b with
  | false => cbv; exact hk _ _ ⟨fun e => (by cases e), fun e => absurd (h4.2 e.first) (by simp)⟩ G1
  | true =>
  cbv
  rintro _ rfl
  cbv
  refine ⟨_, rb B' hp3, ?_⟩
  cbv
  rintro _ rfl
  cbv
  refine ⟨_, rb (B') rfl, ?_⟩
  cbv
  refine cg p.over _ m1 (r2.grows G1) hlen.2.1 _ (fun b m2 h5 g2 => ?_)
  have G2 := G1.trans g2
  have B := B.grows g2
  have B' := B.get
  cases b with
  | false => cbv; exact hk _ _ ⟨fun e => (by cases e), fun e => absurd (h5.2 e.over) (by simp)⟩ G2
  | true =>
  cbv
  rintro _ rfl
  cbv
  refine ⟨_, rb (B') rfl, ?_⟩
  cbv
  refine BinP.ofI (And.intro (fun q4 => ?_) (fun q4 => ?_))
  · have q4 : p.frm < 1 := q4
    cbv
    exact hk _ _ ⟨fun e => (by cases e), fun e => by have := e.frm.1; omega⟩ G2
  have q4 : 1 ≤ p.frm := q4
  cbv
  rintro _ rfl
  cbv
  refine ⟨_, rb (B') rfl, ?_⟩
  cbv
  refine BinP.ofI (And.intro (fun q5 => ?_) (fun q5 => ?_))
  · have q5 : 20 < p.frm := q5
    cbv
    exact hk _ _ ⟨fun e => (by cases e), fun e => by have := e.frm.2; omega⟩ G2
  have q5 : p.frm ≤ 20 := q5
  cbv
  rintro _ rfl
  cbv
  refine ⟨_, rb B' hp6, ?_⟩
  cbv
  refine BinP.ofN (And.intro (fun q6 => ?_) (fun q6 => ?_))
  · have q6 : 1500 < n := q6
    cbv
    exact hk _ _ ⟨fun e => (by cases e), fun e => by have := e.rules.len; omega⟩ G2
  have q6 : n ≤ 1500 := q6
  cbv
  rintro _ rfl
  cbv
  refine ⟨_, rb B' hp5, ?_⟩
  cbv
  refine BinP.ofN (And.intro (fun q7 => ?_) (fun q7 => ?_))
  · have q7 : 6 < nf := q7
    cbv
    exact hk _ _ ⟨fun e => (by cases e), fun e => by have := e.files.2; omega⟩ G2
  have q7 : nf ≤ 6 := q7
  have hfirst := h4.1 rfl
  have hover := h5.1 rfl
  clear h4 h5 B'
  cbv
  refine LoopP.onZ T (fun y : H × Nat => [(3, .int .i64 (.ofNat y.2)), (2, .bool false), (1, .pointer (some ⟨b1, 0, none⟩))]) (fun y => y.1) (fun y => Grows m2 y.1 ∧ y.2 ≤ nf ∧ FilesTo p.files y.2) (fun y => nf - y.2) (m2, 0) rfl (Less.cons rfl (Less.cons rfl (Less.cons rfl (Less.nil _)))) ⟨Grows.refl _, Nat.zero_le _, fun j r hj => by omega⟩ ?_
  rintro ⟨m3, i⟩ ⟨i0, i1, i2⟩
  have i0 : Grows m2 m3 := i0
  have i1 : i ≤ nf := i1
  have i2 : FilesTo p.files i := i2
  have G3 := G2.trans i0
  have B' := (B.grows i0).get
  cbv
  rintro _ rfl
  cbv
  refine ⟨_, rb B' hp5, ?_⟩
  cbv
  refine BinP.lt (fun q8 => ?_) (fun q8 => ?_)
  · obtain ⟨s, hsi⟩ : ∃ s, p.files[i]? = some s := ⟨_, List.getElem?_eq_getElem (by omega)⟩
    have hnext : FilesTo p.files (i + 1) ↔ s ∉ p.files.take i := by
      constructor
      · intro h; exact h i s (by omega) hsi
      · intro h j x hj hx
        by_cases e : j = i
        · subst e; rw [hsi] at hx; cases hx; exact h
        · exact i2 j x (by omega) hx
    have hR : RowAt m3 S 1 (p.files.map encT) (.slice af nf cf') := rf.grows G3
    obtain ⟨b, off, e, _, _, _, hrd⟩ := (hxf.grows G3).el (i := i) (x := encT s) (by rw [List.getElem?_map, hsi]; rfl)
    cbv
    refine DrawP.ofZ T [] (by kernel_rfl) ?_
    cbv
    rintro _ rfl
    cbv
    refine ⟨_, rb B' hp5, ?_⟩
    cbv
    refine RowAt.take T rfl rfl rfl (by decide) hR i1 _ (fun v hv2 => ?_)
    rw [← List.map_take] at hv2
    obtain ⟨x, y, z, rfl, e3⟩ := hv2.ex
    have hv2 : RowAt m3 S 1 ((p.files.take i).map encT) (.slice x y z) := ⟨_, _, _, rfl, e3⟩
    subst e
    cbv
    rintro _ rfl
    cbv
    refine ⟨_, rb B' hp5, ?_⟩
    cbv
    refine ⟨⟨q8⟩, fun p1 hp1 => ?_⟩
    cbv
    refine ⟨_, hrd p1 hp1, ?_⟩
    cbv
    intro h0 U
    have gu := U.like.grows (Grows.refl m3)
    refine cf (p.files.take i) s _ h0 (hv2.grows gu) (by rw [List.length_take]; omega) _ (fun r hr => DoneP.quiet (Grows.refl _) (fun M hM => ?_))
    have gM : Grows m3 M := MixP.grows U (Grows.refl m3) (Grows.refl h0) hM
    cases r with
    | true =>
      cbv
      intro M2 L2
      cbv
      refine hk _ _ ⟨fun e => (by cases e), fun e => ?_⟩ (L2.grows (G3.trans gM))
      exact absurd (of_decide_eq_true hr) ((filesTo_iff.2 e.files.1) i s (by omega) hsi)
    | false =>
      cbv
      intro M2 L2
      cbv
      refine BinP.inc (by omega) (fun z2 hz2 => ?_)
      cbv
      exact ⟨(M2, i + 1), Less.cons (by rw [hz2]; rfl) (Less.cons rfl (Less.cons rfl (Less.nil _))), rfl, ⟨L2.grows (i0.trans gM), q8, hnext.2 (of_decide_eq_false hr)⟩, (by show nf - (i + 1) < nf - i; omega)⟩
  have hfil : FilesOk p.files := ⟨filesTo_iff.1 (by rw [show p.files.length = i by omega]; exact i2), by omega⟩
  have B := B.grows i0
  clear i2 B' i0
  cbv
  refine LoopP.onZ T (fun y : H × Nat => [(4, .int .i64 (.ofNat y.2)), (2, .bool false), (1, .pointer (some ⟨b1, 0, none⟩))]) (fun y => y.1) (fun y => Grows m3 y.1 ∧ y.2 ≤ n ∧ RulesTo p y.2) (fun y => n - y.2) (m3, 0) rfl (Less.cons rfl (Less.cons rfl (Less.cons rfl (Less.nil _)))) ⟨Grows.refl _, Nat.zero_le _, fun j r hj => by omega⟩ ?_
  rintro ⟨m4, j⟩ ⟨i0, i1, i2⟩
  have i0 : Grows m3 m4 := i0
  have i1 : j ≤ n := i1
  have i2 : RulesTo p j := i2
  have G4 := G3.trans i0
  have B' := (B.grows i0).get
  cbv
  rintro _ rfl
  cbv
  refine ⟨_, rb B' hp6, ?_⟩
  cbv
  refine BinP.lt (fun q9 => ?_) (fun q9 => ?_)
  · obtain ⟨⟨x, c⟩, hzx⟩ : ∃ y, zs[j]? = some y := ⟨_, List.getElem?_eq_getElem (by omega)⟩
    have hri : p.rules[j]? = some x := by rw [← hz1, List.getElem?_map, hzx]; rfl
    have hxc : IsRule g S x c := hz3 _ (List.mem_of_getElem? hzx)
    obtain ⟨v1, v2, v3, hc, _⟩ := hxc.ex
    obtain ⟨b, off, e, _, _, _, hrd⟩ := (hx.grows G4).el (i := j) (x := c) (by rw [List.getElem?_map, hzx]; rfl)
    subst e hc
    cbv
    refine DrawP.ofZ T [] (by kernel_rfl) ?_
    cbv
    refine ⟨_, rbw B' rfl, ?_⟩
    cbv
    rintro _ rfl
    cbv
    refine ⟨_, rb B' hp6, ?_⟩
    cbv
    refine ⟨⟨q9⟩, fun p1 hp1 => ?_⟩
    cbv
    refine ⟨_, hrd p1 hp1, ?_⟩
    cbv
    intro h0 U
    have gu := U.like.grows (Grows.refl m4)
    refine cr x _ h0 (hp.grows (G4.trans gu)) (hxc.grows (G4.trans gu)) _ (fun h1 r hr g1 => DoneP.quiet g1 (fun M hM => ?_))
    have gM : Grows m4 M := MixP.grows U (Grows.refl m4) g1 hM
    have GM := G4.trans gM
    have BM := ((B.grows i0).grows gM).get
    have hxM := hx.grows GM
    cases r with
    | false =>
      cbv
      intro M2 L2
      cbv
      exact hk _ _ ⟨fun e => (by cases e), fun e => absurd (hr.2 (e.rules.ok x (List.mem_of_getElem? hri))) (by simp)⟩ (L2.grows GM)
    | true =>
      have hro := hr.1 rfl
      cbv
      refine BinP.gt0 (fun q2 => ?_) (fun q2 => ?_)
      · obtain ⟨k, rfl⟩ : ∃ k, j = k + 1 := ⟨j - 1, by omega⟩
        obtain ⟨⟨r', c'⟩, hzk⟩ : ∃ z, zs[k]? = some z := ⟨_, List.getElem?_eq_getElem (by omega)⟩
        have hzm' := List.mem_of_getElem? hzk
        have hrk : p.rules[k]? = some r' := by rw [← hz1, List.getElem?_map, hzk]; rfl
        obtain ⟨u1, u2, u3, hc', _⟩ := (hz3 _ hzm').ex
        have hc' : c' = [.int .i64 r'.st, u1, u2, u3] := hc'
        subst hc'
        obtain ⟨b', off', e', _, _, _, hrd'⟩ := hxM.el (i := k) (x := [.int .i64 r'.st, u1, u2, u3]) (by rw [List.getElem?_map, hzk]; rfl)
        obtain ⟨b'', off'', e'', _, _, _, hrd''⟩ := hxM.el (i := k + 1) (x := [.int .i64 x.st, v1, v2, v3]) (by rw [List.getElem?_map, hzx]; rfl)
        cases e'
        cases e''
        cbv
        rintro _ rfl
        cbv
        refine ⟨_, rb BM hp6, ?_⟩
        cbv
        refine BinP.dec (by omega) (by omega) (fun z3 hz3' => ?_)
        obtain rfl : z3 = k := by omega
        cbv
        refine ⟨⟨by omega⟩, fun p2 hp2 => ?_⟩
        cbv
        intro p3 hp3
        cbv
        refine ⟨_, (hrd' p2 hp2).cell (i := 0) rfl hp3, ?_⟩
        cbv
        rintro _ rfl
        cbv
        refine ⟨_, rb BM hp6, ?_⟩
        cbv
        refine ⟨⟨q9⟩, fun p4 hp4 => ?_⟩
        cbv
        intro p5 hp5
        cbv
        refine ⟨_, (hrd'' p4 hp4).cell (i := 0) rfl hp5, ?_⟩
        cbv
        refine BinP.ofI (And.intro (fun q3 => ?_) (fun q3 => ?_))
        · cbv
          intro M2 L2
          cbv
          refine hk _ _ ⟨fun e => (by cases e), fun e => ?_⟩ (L2.grows GM)
          have q3 : x.st < r'.st := q3
          have := e.rules.up z3 r' x hrk hri
          omega
        · have q3 : r'.st ≤ x.st := q3
          cbv
          intro M2 L2
          cbv
          refine BinP.inc (by omega) (fun z2 hz2 => ?_)
          cbv
          refine ⟨(M2, z3 + 1 + 1), Less.cons (by rw [hz2]; rfl) (Less.cons rfl (Less.cons rfl (Less.nil _))), rfl, ⟨L2.grows (i0.trans gM), q9, i2.succ hri hro (fun y _ hy => ?_)⟩, (by show n - (z3 + 1 + 1) < n - (z3 + 1); omega)⟩
          have hy : p.rules[z3]? = some y := by simpa using hy
          rw [hrk] at hy
          cases hy
          exact q3
      · subst q2
        cbv
        intro M2 L2
        cbv
        refine BinP.inc (by omega) (fun z2 hz2 => ?_)
        cbv
        exact ⟨(M2, 0 + 1), Less.cons (by rw [hz2]; rfl) (Less.cons rfl (Less.cons rfl (Less.nil _))), rfl, ⟨L2.grows (i0.trans gM), q9, i2.succ hri hro (fun y h _ => absurd rfl h)⟩, (by show n - (0 + 1) < n - 0; omega)⟩
  have hrul : RulesOk p := rulesTo_iff.1 ⟨by rw [show p.rules.length = j by omega]; exact i2, by omega⟩
  obtain ⟨F, hF⟩ : ∃ F : Nat, p.flags = .ofNat F := ⟨p.flags.toNat, (Int.toNat_of_nonneg q).symm⟩
  obtain ⟨La, hL⟩ : ∃ F : Nat, p.lasting = .ofNat F := ⟨p.lasting.toNat, (Int.toNat_of_nonneg q2).symm⟩
  have hF2 : F ≤ 100000 := by have h1 : (F : Int) ≤ 800 := by rw [hF] at q1; exact q1
                              omega
  cbv
  refine ⟨_, rbw B' rfl, ?_⟩
  cbv
  refine cs F La hF hL hF2 hrul m4 (hp.grows G4) _ (fun m5 r hr g5 => ?_)
  have G5 := G4.trans g5
  cases r with
  | false => cbv; exact hk _ _ ⟨fun e => (by cases e), fun e => absurd (hr.2 e.strata) (by simp)⟩ G5
  | true =>
  have B5 := ((B.grows i0).grows g5).get
  cbv
  refine ⟨_, rbw B5 rfl, ?_⟩
  cbv
  refine ce q2 m5 (hp.grows G5) _ (fun m6 r hr6 g6 => ?_)
  cbv
  refine hk _ _ ⟨fun e => ?_, fun e => hr6.2 ⟨e.ctrs, e.users⟩⟩ (G5.trans g6)
  obtain ⟨h8, h9⟩ := hr6.1 e
  exact ⟨⟨q, by omega⟩, ⟨q2, by omega⟩, ⟨q4, by omega⟩, hfirst, hover, hfil, hrul, h8, h9, hr.1 rfl⟩
end
end Go.Proofs.Ytknenadpkgajjaa.GEv

/- Rows and structs that came in as data, as rows of the run's memory (no package variable is known: GN = 0). -/
namespace Go.Proofs.Ytknenadpkgajjaa.GEv
open Go
open Go.RowKit
set_option linter.unusedSimpArgs false
set_option linter.unusedVariables false
theorem rows_of {α : Type} (Q : Nat → α → Prop) : ∀ n, (∀ i, i < n → ∃ x, Q i x) → ∃ l : List α, l.length = n ∧ ∀ i x, l[i]? = some x → Q i x := by
  intro n
  induction n with
  | zero => exact fun _ => ⟨[], rfl, fun i x h => by simp at h⟩
  | succ n ih =>
    intro h
    obtain ⟨l, hl, hq⟩ := ih (fun i hi => h i (by omega))
    obtain ⟨x, hx⟩ := h n (by omega)
    refine ⟨l ++ [x], by simp [hl], fun i y hy => ?_⟩
    by_cases hi : i < n
    · rw [List.getElem?_append_left (by omega)] at hy
      exact hq i y hy
    · by_cases e : i = n
      · subst e
        rw [List.getElem?_append_right (by omega), hl] at hy
        simp at hy
        subst hy
        exact hx
      · rw [List.getElem?_eq_none (by simp [hl]; omega)] at hy
        cases hy
theorem cells_at {W : World} {a : Addr} {n : Nat} {cs : List Value} (h : W.cells? 0 a (n + 1) = some cs) : a.spot = none ∧ cs.length = n + 1 ∧ ∃ c t f, W.heap[a.block]? = some (.cells c t f) ∧ ∀ i, i < n + 1 → c[a.off + i]? = cs[i]? := by
  unfold World.cells? at h
  rw [if_pos (Nat.zero_le _)] at h
  have hl := mapM_some_length h
  rw [List.length_range] at hl
  have hg : ∀ i, i < n + 1 → W.cell? (a.add i) = cs[i]? := fun i hi => mapM_some_get h i i (by simp [hi])
  have h0 := hg 0 (by omega)
  rw [show a.add 0 = a from rfl, List.getElem?_eq_getElem (by omega)] at h0
  unfold World.cell? at h0
  split at h0
  · rename_i c t f hh
    split at h0
    · cases h0
    · rename_i hs
      have hs : a.spot = none := by simpa using hs
      refine ⟨hs, hl, c, t, f, hh, fun i hi => ?_⟩
      have := hg i hi
      unfold World.cell? at this
      rw [Addr.add_block, hh] at this
      simp only [Addr.add_spot _ _ hs, Addr.add_off, Option.isSome_none, Bool.false_eq_true, if_false] at this
      exact this
  · cases h0
theorem gn_le (n : Nat) : GN ≤ n := Nat.zero_le n
theorem emb_read {W : World} {a : Addr} {n : Nat} {cs : List Value} (h : W.cells? 0 a (n + 1) = some cs) : (emb W).read a.block a.off (n + 1) = some (cs.map (absV W)) := by
  obtain ⟨hs, hl, c, t, f, hh, hc⟩ := cells_at h
  unfold H.read
  rw [emb_get, if_pos (gn_le _), hh]
  show cut (c.toList.map (absV W)) a.off (n + 1) = _
  have hb : a.off + n < c.size := by
    have := hc n (by omega)
    rw [List.getElem?_eq_getElem (by omega)] at this
    exact (Array.getElem?_eq_some_iff.1 this).1
  unfold cut
  rw [if_pos (by simp; omega)]
  congr 1
  apply List.ext_getElem?
  intro i
  by_cases hi : i < n + 1
  · rw [List.getElem?_take_of_lt hi, List.getElem?_drop, List.getElem?_map, List.getElem?_map, ← hc i hi, Array.getElem?_toList]
  · rw [List.getElem?_eq_none (by simp; omega), List.getElem?_eq_none (by simp; omega)]
theorem cut_join {c l l' : List Value} {o n k : Nat} (h1 : cut c o n = some l) (h2 : cut c (o + n) k = some l') : cut c o (n + k) = some (l ++ l') := by
  unfold cut at h1 h2 ⊢
  split at h1
  · split at h2
    · cases h1
      cases h2
      rw [if_pos (by omega), List.take_add, List.drop_drop]
    · cases h2
  · cases h1
theorem RdP.rows {h : H} {b off s : Nat} : ∀ {l : List (List Value)}, 0 < l.length → (∀ i x, l[i]? = some x → h.read b (off + i * s) s = some x) → h.read b off (l.length * s) = some l.flatten
  | [], h0, _ => by simp at h0
  | [x], _, hl => by
    have := hl 0 x rfl
    rw [Nat.zero_mul, Nat.add_zero] at this
    simpa using this
  | x :: y :: l, _, hl => by
    have h0 := hl 0 x rfl
    rw [Nat.zero_mul, Nat.add_zero] at h0
    have ih := RdP.rows (h := h) (b := b) (off := off + s) (s := s) (l := y :: l) (by simp) (fun i z hz => by
      have := hl (i + 1) z (by simpa using hz)
      rw [Nat.succ_mul] at this
      rw [show off + s + i * s = off + (i * s + s) by omega]
      exact this)
    unfold H.read at h0 ih ⊢
    split at h0
    · rename_i heq
      simp only [heq] at ih ⊢
      have := cut_join h0 ih
      rw [List.length_cons, Nat.succ_mul, Nat.add_comm ((y :: l).length * s) s, List.flatten_cons]
      exact this
    · cases h0
theorem wts_mem_all {H : Type} {P : Program} {e : TypeId} {ds : List (DataW H)} : ∀ {i : Nat} {d : DataW H}, ds[i]? = some d → ∀ n ∈ d.weights P e, n ∈ DataW.weightsAll P e ds := by
  induction ds with
  | nil => intro i d h; simp at h
  | cons x r ih =>
    intro i d h n hn
    cases i with
    | zero => simp at h; subst h; simp [DataW.weightsAll, hn]
    | succ i => simp at h; simp [DataW.weightsAll, ih h n hn]
theorem wts_mem_each {H : Type} {P : Program} : ∀ {ts : List TypeId} {ds : List (DataW H)} {i : Nat} {t : TypeId} {d : DataW H}, ts[i]? = some t → ds[i]? = some d → ∀ n ∈ d.weights P t, n ∈ DataW.weightsEach P ts ds
  | [], ds, i, t, d, h1, _, n, hn => by simp at h1
  | t0 :: ts, [], i, t, d, _, h2, n, hn => by simp at h2
  | t0 :: ts, d0 :: ds, 0, t, d, h1, h2, n, hn => by
    simp at h1 h2
    subst h1 h2
    simp [DataW.weightsEach, hn]
  | t0 :: ts, d0 :: ds, i + 1, t, d, h1, h2, n, hn => by
    simp at h1 h2
    simp only [DataW.weightsEach, List.mem_append]
    exact .inr (wts_mem_each h1 h2 n hn)
section
variable {P : Program} {H : Type} {enc : TypeId × Value → H} {W : World} {sp : Nat → Bool}
def NAll (d : DataW H) (P : Program) (t : TypeId) : Prop := ∀ q ∈ d.weights P t, q ≤ reachBytes
/-- **A row that came in as data.** -/
theorem open_row {α : Type} {e sT : TypeId} {m bts fuel : Nat} (Q : α → List Value → Prop) (hQ : ∀ x c, Q x c → c.length = m + 1 ∧ c.all one = true) (hu : P.underlying sT = some (.slice e)) (hc : P.cellsOf e = m + 1) (hb : P.bytesOf e = bts + 1) (hsp : ∀ b, sp b = true)
    (hel : ∀ n, n < fuel → ∀ c d p, DataW.trod enc P W 0 sp true n e c = some (d, p) → NAll d P e → ∃ x, Q x (c.map (absV W)))
    {cs : List Value} {d : DataW H} {p : List MemPlace} (ht : DataW.trod enc P W 0 sp true fuel sT cs = some (d, p)) (hw : NAll d P sT) :
    ∃ (zs : List (α × List Value)) (v : Value), cs = [v] ∧ zs.length ≤ 140737488351232 ∧ RowAt (emb W) (fun _ => True) (m + 1) (zs.map (·.2)) (absV W v) ∧ ∀ z ∈ zs, Q z.1 z.2 := by
  rcases DataW.trod_slice hu ht with ⟨rfl, hd⟩ | ⟨a, len, cap, elems, rest, n, rfl, rfl, hd, _, hl, hcap, hlen, he, hr, _⟩
  · exact ⟨[], _, rfl, Nat.zero_le _, ⟨none, 0, 0, rfl, rfl, ⟨fun x h => by simp at h, .inl ⟨rfl, fun x h => by cases h⟩⟩, Nat.le_refl _, .inl (by decide)⟩, fun z hz => by cases hz⟩
  · injection hd with hd _
    subst hd
    by_cases h0 : cap = 0
    · subst h0
      obtain rfl : len = 0 := by omega
      exact ⟨[], _, rfl, Nat.zero_le _, ⟨some ⟨0, 0, none⟩, 0, 0, rfl, rfl, ⟨fun x h => by simp at h, .inl ⟨rfl, fun x h => by cases h; rfl⟩⟩, Nat.le_refl _, .inl (by decide)⟩, fun z hz => by cases hz⟩
    · obtain ⟨hr1, hr2⟩ := hr (hsp _)
      rw [hc] at he hr2
      have hz : ∃ c, W.cells? 0 a (m + 1) = some c := by
        by_cases hl0 : 0 < len
        · have := he 0 hl0
          rw [List.getElem?_eq_getElem (by omega)] at this
          obtain ⟨c, q1, q2⟩ := Option.bind_eq_some_iff.mp this
          rw [Nat.zero_mul] at q1
          exact ⟨c, q1⟩
        · obtain rfl : len = 0 := by omega
          have := hr2 0 (by omega)
          rw [List.getElem?_eq_getElem (by omega)] at this
          obtain ⟨c, q1, q2⟩ := Option.bind_eq_some_iff.mp this
          rw [Nat.add_zero, Nat.zero_mul] at q1
          exact ⟨c, q1⟩
      obtain ⟨c0, z1⟩ := hz
      obtain ⟨hs, _, c, t, f, hh, _⟩ := cells_at z1
      have hbs : a.block < W.heap.size := (Array.getElem?_eq_some_iff.1 hh).1
      have hcu : cap < UNK := by unfold maxLen at hcap; unfold UNK; omega
      have hab : absV W (.slice (some a) len cap) = .slice (some a) len cap := by
        have hq : a.spot = none ∧ len ≤ cap ∧ cap < UNK ∧ GN ≤ a.block ∧ a.block < W.heap.size := ⟨hs, hl, hcu, gn_le _, hbs⟩
        cases cap with
        | zero => exact absurd rfl h0
        | succ cap =>
          have e1 : absV W (.slice (some a) len (cap + 1)) = if a.spot = none ∧ len ≤ cap + 1 ∧ cap + 1 < UNK ∧ GN ≤ a.block ∧ a.block < W.heap.size then .slice (some a) len (cap + 1) else junk := by
            cases len <;> rfl
          rw [e1, if_pos hq]
      have hel2 : ∀ i, i < len → ∃ x : α × List Value, (emb W).read a.block (a.off + i * (m + 1)) (m + 1) = some x.2 ∧ Q x.1 x.2 := by
        intro i hi
        have h1 := he i hi
        rw [List.getElem?_eq_getElem (by omega)] at h1
        obtain ⟨c, q1, q2⟩ := Option.bind_eq_some_iff.mp h1
        obtain ⟨x, hx⟩ := hel n (Nat.lt_succ_self n) c _ _ q2 (fun q hq => hw q (by
          simp only [DataW.weights, hu, List.mem_cons, List.mem_append]
          exact .inr (.inl (wts_mem_all (i := i) (by rw [List.getElem?_map, List.getElem?_eq_getElem (by omega)]; rfl) q hq))))
        have h2 := emb_read q1
        rw [Addr.add_block, Addr.add_off] at h2
        exact ⟨(x, c.map (absV W)), h2, hx⟩
      obtain ⟨l, hll, hq⟩ := rows_of _ len hel2
      have hwl := hw ((elems.length + rest.length) * (bts + 1)) (by simp [DataW.weights, hu, hb])
      have hwl2 : (elems.length + rest.length) * (bts + 1) = (elems.length + rest.length) * bts + (elems.length + rest.length) := Nat.mul_succ _ _
      have hmem : ∀ z ∈ l, Q z.1 z.2 := fun z hz => by
        obtain ⟨i, hi, rfl⟩ := List.getElem_of_mem hz
        exact (hq i _ (List.getElem?_eq_getElem hi)).2
      refine ⟨l, _, rfl, by unfold reachBytes at hwl; omega, ⟨some a, len, cap, hab, by rw [List.length_map, hll], ⟨fun x hx => ?_, ?_⟩, hl, .inl hcu⟩, hmem⟩
      · obtain ⟨z, hz, rfl⟩ := List.mem_map.1 hx
        exact hQ _ _ (hmem z hz)
      · by_cases hl0 : l = []
        · subst hl0
          exact .inl ⟨rfl, fun x h => by cases h; exact hs⟩
        · refine .inr ⟨a.block, a.off, by cases a; cases hs; rfl, trivial, hbs, ⟨?_⟩⟩
          refine RdP.rows (by rw [List.length_map]; exact List.length_pos_iff.2 hl0) (fun i x hx => ?_)
          rw [List.getElem?_map] at hx
          obtain ⟨y, hy, rfl⟩ := Option.map_eq_some_iff.1 hx
          exact (hq i y hy).1
/-- The fields of a struct. -/
def StructIs (P : Program) (t : TypeId) (l : List (TypeId × Nat)) : Prop := ∃ fs, P.underlying t = some (.struct fs) ∧ fs.toList.map (fun f => (f.type, f.offset)) = l
theorem open_struct {t : TypeId} {l : List (TypeId × Nat)} (hs : StructIs P t l) {fuel : Nat} {c : List Value} {d : DataW H} {p : List MemPlace} (h : DataW.trod enc P W 0 sp true fuel t c = some (d, p)) :
    c.length = P.cellsOf t ∧ ∃ m, fuel = m + 1 ∧ ∀ (i : Nat) (ft : TypeId) (off : Nat), l[i]? = some (ft, off) → ∃ d' p', DataW.trod enc P W 0 sp true m ft ((c.drop off).take (P.cellsOf ft)) = some (d', p') ∧ ∀ q ∈ d'.weights P ft, q ∈ d.weights P t := by
  obtain ⟨fs, hu, hl⟩ := hs
  obtain ⟨xs, m, rfl, hd, hlen, hx, hr⟩ := DataW.trod_struct hu h
  injection hd with hd _
  subst hd
  refine ⟨hlen, m, rfl, fun (i : Nat) (ft : TypeId) (off : Nat) hi => ?_⟩
  rw [← hl, List.getElem?_map] at hi
  obtain ⟨f, hf, e⟩ := Option.map_eq_some_iff.1 hi
  injection e with e1 e2
  subst e1 e2
  rw [Array.getElem?_toList] at hf
  have hr := hr i f hf
  have hix : i < xs.length := by rw [hx]; exact (Array.getElem?_eq_some_iff.1 hf).1
  rw [List.getElem?_eq_getElem hix] at hr
  refine ⟨xs[i].1, xs[i].2, hr, fun q hq => ?_⟩
  simp only [DataW.weights, hu]
  refine wts_mem_each (i := i) ?_ ?_ q hq
  · rw [List.getElem?_map, Array.getElem?_toList, hf]; rfl
  · rw [List.getElem?_map, List.getElem?_eq_getElem hix]; rfl
end
end Go.Proofs.Ytknenadpkgajjaa.GEv

/- Programs that came in as data. -/
namespace Go.Proofs.Ytknenadpkgajjaa.GEv
open Go
open Go.RowKit
set_option linter.unusedSimpArgs false
set_option linter.unusedVariables false
def fieldsS (o : Option TypeDesc) : Array Field := match o with
  | some (.struct fs) => fs
  | _ => #[]
structure DatOk (P : Program) : Prop where
  i : P.underlying 3 = some (.int .i64)
  b : P.underlying 4 = some .bool
  s : P.underlying 9 = some .string
  li : P.underlying 29 = some (.slice 3)
  ls : P.underlying 30 = some (.slice 9)
  lr : P.underlying 31 = some (.slice 28)
  lk : P.underlying 32 = some (.slice 44)
  lu : P.underlying 33 = some (.slice 46)
  ll : P.underlying 25 = some (.slice 39)
  lc : P.underlying 26 = some (.slice 41)
  le : P.underlying 24 = some (.slice 23)
  ln : P.underlying 34 = some (.slice 57)
  ci : P.cellsOf 3 = 0 + 1 ∧ P.cellsOf 4 = 0 + 1 ∧ P.cellsOf 9 = 0 + 1
  cl : P.cellsOf 29 = 1 ∧ P.cellsOf 30 = 1 ∧ P.cellsOf 31 = 1 ∧ P.cellsOf 32 = 1 ∧ P.cellsOf 33 = 1 ∧ P.cellsOf 25 = 1 ∧ P.cellsOf 26 = 1 ∧ P.cellsOf 24 = 1 ∧ P.cellsOf 34 = 1
  cs : P.cellsOf 28 = 3 + 1 ∧ P.cellsOf 44 = 2 + 1 ∧ P.cellsOf 46 = 3 + 1 ∧ P.cellsOf 39 = 1 + 1 ∧ P.cellsOf 41 = 2 + 1 ∧ P.cellsOf 23 = 1 + 1 ∧ P.cellsOf 36 = 10
  cn : ∃ m, P.cellsOf 57 = m + 1
  bi : (∃ m, P.bytesOf 3 = m + 1) ∧ (∃ m, P.bytesOf 9 = m + 1) ∧ (∃ m, P.bytesOf 57 = m + 1)
  bs : (∃ m, P.bytesOf 28 = m + 1) ∧ (∃ m, P.bytesOf 44 = m + 1) ∧ (∃ m, P.bytesOf 46 = m + 1) ∧ (∃ m, P.bytesOf 39 = m + 1) ∧ (∃ m, P.bytesOf 41 = m + 1) ∧ (∃ m, P.bytesOf 23 = m + 1)
  sr : StructIs P 28 [(3, 0), (25, 1), (26, 2), (24, 3)]
  sk : StructIs P 44 [(3, 0), (3, 1), (3, 2)]
  su : StructIs P 46 [(9, 0), (3, 1), (25, 2), (3, 3)]
  sl : StructIs P 39 [(3, 0), (4, 1)]
  sc : StructIs P 41 [(9, 0), (9, 1), (3, 2)]
  se : StructIs P 23 [(3, 0), (4, 1)]
  sp : StructIs P 36 [(3, 0), (3, 1), (29, 2), (29, 3), (3, 4), (30, 5), (31, 6), (32, 7), (33, 8), (34, 9)]
theorem datOk : DatOk Try.prog where
  i := by kernel_rfl
  b := by kernel_rfl
  s := by kernel_rfl
  li := by kernel_rfl
  ls := by kernel_rfl
  lr := by kernel_rfl
  lk := by kernel_rfl
  lu := by kernel_rfl
  ll := by kernel_rfl
  lc := by kernel_rfl
  le := by kernel_rfl
  ln := by kernel_rfl
  ci := ⟨by kernel_rfl, by kernel_rfl, by kernel_rfl⟩
  cl := ⟨by kernel_rfl, by kernel_rfl, by kernel_rfl, by kernel_rfl, by kernel_rfl, by kernel_rfl, by kernel_rfl, by kernel_rfl, by kernel_rfl⟩
  cs := ⟨by kernel_rfl, by kernel_rfl, by kernel_rfl, by kernel_rfl, by kernel_rfl, by kernel_rfl, by kernel_rfl⟩
  cn := ⟨Try.prog.cellsOf 57 - 1, by kernel_rfl⟩
  bi := ⟨⟨Try.prog.bytesOf 3 - 1, by kernel_rfl⟩, ⟨Try.prog.bytesOf 9 - 1, by kernel_rfl⟩, ⟨Try.prog.bytesOf 57 - 1, by kernel_rfl⟩⟩
  bs := ⟨⟨Try.prog.bytesOf 28 - 1, by kernel_rfl⟩, ⟨Try.prog.bytesOf 44 - 1, by kernel_rfl⟩, ⟨Try.prog.bytesOf 46 - 1, by kernel_rfl⟩, ⟨Try.prog.bytesOf 39 - 1, by kernel_rfl⟩, ⟨Try.prog.bytesOf 41 - 1, by kernel_rfl⟩, ⟨Try.prog.bytesOf 23 - 1, by kernel_rfl⟩⟩
  sr := ⟨fieldsS (Try.prog.underlying 28), by kernel_rfl, by kernel_rfl⟩
  sk := ⟨fieldsS (Try.prog.underlying 44), by kernel_rfl, by kernel_rfl⟩
  su := ⟨fieldsS (Try.prog.underlying 46), by kernel_rfl, by kernel_rfl⟩
  sl := ⟨fieldsS (Try.prog.underlying 39), by kernel_rfl, by kernel_rfl⟩
  sc := ⟨fieldsS (Try.prog.underlying 41), by kernel_rfl, by kernel_rfl⟩
  se := ⟨fieldsS (Try.prog.underlying 23), by kernel_rfl, by kernel_rfl⟩
  sp := ⟨fieldsS (Try.prog.underlying 36), by kernel_rfl, by kernel_rfl⟩
/-- As the rows of data are: of any length that fits. -/
structure IsRuleB (h : GEv.H) (S : Nat → Prop) (r : RuleS) (c : List Value) : Prop where
  ex : ∃ v1 v2 v3, c = [.int .i64 r.st, v1, v2, v3] ∧ RowAt h S 2 (r.ifs.map encL) v1 ∧ RowAt h S 3 (r.conds.map encC) v2 ∧ RowAt h S 2 (r.thens.map encL) v3 ∧ r.ifs.length ≤ 140737488351232 ∧ r.conds.length ≤ 140737488351232 ∧ r.thens.length ≤ 140737488351232
structure IsUserB (h : GEv.H) (S : Nat → Prop) (u : UserS) (c : List Value) : Prop where
  ex : ∃ v, c = [.string ⟨⟨u.item⟩⟩, .int .i64 u.event, v, .int .i64 u.thn] ∧ RowAt h S 2 (u.whil.map encL) v ∧ u.whil.length ≤ 140737488351232
structure IsPrB (h : GEv.H) (S : Nat → Prop) (p : PrS) (w : PrV) : Prop where
  first : RowAt h S 1 (p.first.map encI) w.first
  over : RowAt h S 1 (p.over.map encI) w.over
  files : RowAt h S 1 (p.files.map encT) w.files
  rules : ∃ zs : List (RuleS × List Value), zs.map (·.1) = p.rules ∧ RowAt h S 4 (zs.map (·.2)) w.rules ∧ ∀ z ∈ zs, IsRuleB h S z.1 z.2
  ctrs : RowAt h S 3 (p.ctrs.map encK) w.ctrs
  users : ∃ zs : List (UserS × List Value), zs.map (·.1) = p.users ∧ RowAt h S 4 (zs.map (·.2)) w.users ∧ ∀ z ∈ zs, IsUserB h S z.1 z.2
  notes : ∃ a n cap, w.notes = .slice a n cap ∧ n ≤ 140737488351232
  lens : p.first.length ≤ 140737488351232 ∧ p.over.length ≤ 140737488351232 ∧ p.files.length ≤ 140737488351232 ∧ p.rules.length ≤ 140737488351232 ∧ p.ctrs.length ≤ 140737488351232 ∧ p.users.length ≤ 140737488351232
theorem RowAt.one {h : GEv.H} {S : Nat → Prop} {size : Nat} {l : List (List Value)} {v : Value} (r : RowAt h S size l v) : GEv.one v = true := by
  obtain ⟨a, n, cap, rfl, _⟩ := r.ex
  rfl
theorem map_enc {α : Type} {enc : α → List Value} : ∀ {zs : List (α × List Value)}, (∀ z ∈ zs, z.2 = enc z.1) → zs.map (·.2) = (zs.map (·.1)).map enc
  | [], _ => rfl
  | z :: zs, h => by rw [List.map_cons, List.map_cons, List.map_cons, h z (List.mem_cons_self ..), map_enc (fun y hy => h y (List.mem_cons_of_mem _ hy))]
section
variable {P : Program} (O : DatOk P) {H : Type} {enc : TypeId × Value → H} {W : World} {sp : Nat → Bool}
/-- A row of what is told cell by cell. -/
theorem open_flat {α : Type} {e sT : TypeId} {m bts fuel : Nat} (encE : α → List Value) (hQ : ∀ x, (encE x).length = m + 1 ∧ (encE x).all one = true) (hu : P.underlying sT = some (.slice e)) (hc : P.cellsOf e = m + 1) (hb : P.bytesOf e = bts + 1) (hsp : ∀ b, sp b = true)
    (hel : ∀ n, n < fuel → ∀ c d p, DataW.trod enc P W 0 sp true n e c = some (d, p) → ∃ x, c.map (absV W) = encE x)
    {cs : List Value} {d : DataW H} {p : List MemPlace} (ht : DataW.trod enc P W 0 sp true fuel sT cs = some (d, p)) (hw : NAll d P sT) :
    ∃ (l : List α) (v : Value), cs = [v] ∧ l.length ≤ 140737488351232 ∧ RowAt (emb W) (fun _ => True) (m + 1) (l.map encE) (absV W v) := by
  obtain ⟨zs, v, h1, h2, h3, h4⟩ := open_row (fun (x : α) c => c = encE x) (fun x c h => by rw [h]; exact hQ x) hu hc hb hsp (fun n hn c d p h _ => hel n hn c d p h) ht hw
  refine ⟨zs.map (·.1), v, h1, by rw [List.length_map]; exact h2, ?_⟩
  rw [← map_enc h4]
  exact h3
include O
theorem open_lit {t : TypeId} (hs : StructIs P t [(3, 0), (4, 1)]) (hc : P.cellsOf t = 1 + 1) {n : Nat} {c : List Value} {d : DataW H} {p : List MemPlace} (h : DataW.trod enc P W 0 sp true n t c = some (d, p)) : ∃ x : LitS, c.map (absV W) = encL x := by
  obtain ⟨hl, m, _, hf⟩ := open_struct hs h
  rw [hc] at hl
  obtain ⟨u1, u2, rfl⟩ : ∃ u1 u2, c = [u1, u2] := by
    match c, hl with
    | [u, v], _ => exact ⟨u, v, rfl⟩
  obtain ⟨d1, p1, h1, _⟩ := hf 0 _ _ rfl
  obtain ⟨d2, p2, h2, _⟩ := hf 1 _ _ rfl
  rw [O.ci.1] at h1
  rw [O.ci.2.1] at h2
  obtain ⟨k, e1, _⟩ := DataW.trod_int O.i h1
  obtain ⟨b, e2, _⟩ := DataW.trod_bool O.b h2
  have f1 : u1 = .int .i64 k := by simpa using e1
  have f2 : u2 = .bool b := by simpa using e2
  subst f1 f2
  exact ⟨(k, b), rfl⟩
theorem open_cond {n : Nat} {c : List Value} {d : DataW H} {p : List MemPlace} (h : DataW.trod enc P W 0 sp true n 41 c = some (d, p)) : ∃ x : CondS, c.map (absV W) = encC x := by
  obtain ⟨hl, m, _, hf⟩ := open_struct O.sc h
  rw [O.cs.2.2.2.2.1] at hl
  obtain ⟨u1, u2, u3, rfl⟩ : ∃ u1 u2 u3, c = [u1, u2, u3] := by
    match c, hl with
    | [u, v, w], _ => exact ⟨u, v, w, rfl⟩
  obtain ⟨d1, p1, h1, _⟩ := hf 0 _ _ rfl
  obtain ⟨d2, p2, h2, _⟩ := hf 1 _ _ rfl
  obtain ⟨d3, p3, h3, _⟩ := hf 2 _ _ rfl
  rw [O.ci.2.2] at h1 h2
  rw [O.ci.1] at h3
  obtain ⟨⟨⟨s⟩⟩, e1, _⟩ := DataW.trod_string O.s h1
  obtain ⟨⟨⟨t⟩⟩, e2, _⟩ := DataW.trod_string O.s h2
  obtain ⟨k, e3, _⟩ := DataW.trod_int O.i h3
  have f1 : u1 = .string ⟨⟨s⟩⟩ := by simpa using e1
  have f2 : u2 = .string ⟨⟨t⟩⟩ := by simpa using e2
  have f3 : u3 = .int .i64 k := by simpa using e3
  subst f1 f2 f3
  exact ⟨(s, t, k), rfl⟩
theorem open_ctr {n : Nat} {c : List Value} {d : DataW H} {p : List MemPlace} (h : DataW.trod enc P W 0 sp true n 44 c = some (d, p)) : ∃ x : CtrS, c.map (absV W) = encK x := by
  obtain ⟨hl, m, _, hf⟩ := open_struct O.sk h
  rw [O.cs.2.1] at hl
  obtain ⟨u1, u2, u3, rfl⟩ : ∃ u1 u2 u3, c = [u1, u2, u3] := by
    match c, hl with
    | [u, v, w], _ => exact ⟨u, v, w, rfl⟩
  obtain ⟨d1, p1, h1, _⟩ := hf 0 _ _ rfl
  obtain ⟨d2, p2, h2, _⟩ := hf 1 _ _ rfl
  obtain ⟨d3, p3, h3, _⟩ := hf 2 _ _ rfl
  rw [O.ci.1] at h1 h2 h3
  obtain ⟨k1, e1, _⟩ := DataW.trod_int O.i h1
  obtain ⟨k2, e2, _⟩ := DataW.trod_int O.i h2
  obtain ⟨k3, e3, _⟩ := DataW.trod_int O.i h3
  have f1 : u1 = .int .i64 k1 := by simpa using e1
  have f2 : u2 = .int .i64 k2 := by simpa using e2
  have f3 : u3 = .int .i64 k3 := by simpa using e3
  subst f1 f2 f3
  exact ⟨(k1, k2, k3), rfl⟩
theorem open_lits (hsp : ∀ b, sp b = true) {n : Nat} {cs : List Value} {d : DataW H} {p : List MemPlace} (ht : DataW.trod enc P W 0 sp true n 25 cs = some (d, p)) (hw : NAll d P 25) :
    ∃ (l : List LitS) (v : Value), cs = [v] ∧ l.length ≤ 140737488351232 ∧ RowAt (emb W) (fun _ => True) 2 (l.map encL) (absV W v) := by
  obtain ⟨bt, hb⟩ := O.bs.2.2.2.1
  exact open_flat encL (fun x => ⟨rfl, rfl⟩) O.ll O.cs.2.2.2.1 hb hsp (fun n _ c d p h => open_lit O O.sl O.cs.2.2.2.1 h) ht hw
theorem open_sets (hsp : ∀ b, sp b = true) {n : Nat} {cs : List Value} {d : DataW H} {p : List MemPlace} (ht : DataW.trod enc P W 0 sp true n 24 cs = some (d, p)) (hw : NAll d P 24) :
    ∃ (l : List LitS) (v : Value), cs = [v] ∧ l.length ≤ 140737488351232 ∧ RowAt (emb W) (fun _ => True) 2 (l.map encL) (absV W v) := by
  obtain ⟨bt, hb⟩ := O.bs.2.2.2.2.2
  exact open_flat encL (fun x => ⟨rfl, rfl⟩) O.le O.cs.2.2.2.2.2.1 hb hsp (fun n _ c d p h => open_lit O O.se O.cs.2.2.2.2.2.1 h) ht hw
theorem open_conds (hsp : ∀ b, sp b = true) {n : Nat} {cs : List Value} {d : DataW H} {p : List MemPlace} (ht : DataW.trod enc P W 0 sp true n 26 cs = some (d, p)) (hw : NAll d P 26) :
    ∃ (l : List CondS) (v : Value), cs = [v] ∧ l.length ≤ 140737488351232 ∧ RowAt (emb W) (fun _ => True) 3 (l.map encC) (absV W v) := by
  obtain ⟨bt, hb⟩ := O.bs.2.2.2.2.1
  exact open_flat encC (fun x => ⟨rfl, rfl⟩) O.lc O.cs.2.2.2.2.1 hb hsp (fun n _ c d p h => open_cond O h) ht hw
theorem open_ctrs (hsp : ∀ b, sp b = true) {n : Nat} {cs : List Value} {d : DataW H} {p : List MemPlace} (ht : DataW.trod enc P W 0 sp true n 32 cs = some (d, p)) (hw : NAll d P 32) :
    ∃ (l : List CtrS) (v : Value), cs = [v] ∧ l.length ≤ 140737488351232 ∧ RowAt (emb W) (fun _ => True) 3 (l.map encK) (absV W v) := by
  obtain ⟨bt, hb⟩ := O.bs.2.1
  exact open_flat encK (fun x => ⟨rfl, rfl⟩) O.lk O.cs.2.1 hb hsp (fun n _ c d p h => open_ctr O h) ht hw
theorem open_ints (hsp : ∀ b, sp b = true) {n : Nat} {cs : List Value} {d : DataW H} {p : List MemPlace} (ht : DataW.trod enc P W 0 sp true n 29 cs = some (d, p)) (hw : NAll d P 29) :
    ∃ (l : List Int) (v : Value), cs = [v] ∧ l.length ≤ 140737488351232 ∧ RowAt (emb W) (fun _ => True) 1 (l.map encI) (absV W v) := by
  obtain ⟨bt, hb⟩ := O.bi.1
  exact open_flat encI (fun x => ⟨rfl, rfl⟩) O.li O.ci.1 hb hsp (fun n _ c d p h => by
    obtain ⟨k, rfl, _⟩ := DataW.trod_int O.i h
    exact ⟨k, rfl⟩) ht hw
theorem open_texts (hsp : ∀ b, sp b = true) {n : Nat} {cs : List Value} {d : DataW H} {p : List MemPlace} (ht : DataW.trod enc P W 0 sp true n 30 cs = some (d, p)) (hw : NAll d P 30) :
    ∃ (l : List Bs) (v : Value), cs = [v] ∧ l.length ≤ 140737488351232 ∧ RowAt (emb W) (fun _ => True) 1 (l.map encT) (absV W v) := by
  obtain ⟨bt, hb⟩ := O.bi.2.1
  exact open_flat encT (fun x => ⟨rfl, rfl⟩) O.ls O.ci.2.2 hb hsp (fun n _ c d p h => by
    obtain ⟨⟨⟨k⟩⟩, rfl, _⟩ := DataW.trod_string O.s h
    exact ⟨k, rfl⟩) ht hw
theorem open_rule (hsp : ∀ b, sp b = true) {n : Nat} {c : List Value} {d : DataW H} {p : List MemPlace} (h : DataW.trod enc P W 0 sp true n 28 c = some (d, p)) (hw : NAll d P 28) : ∃ r : RuleS, IsRuleB (emb W) (fun _ => True) r (c.map (absV W)) := by
  obtain ⟨hl, m, _, hf⟩ := open_struct O.sr h
  rw [O.cs.1] at hl
  obtain ⟨u1, u2, u3, u4, rfl⟩ : ∃ u1 u2 u3 u4, c = [u1, u2, u3, u4] := by
    match c, hl with
    | [u, v, w, x], _ => exact ⟨u, v, w, x, rfl⟩
  obtain ⟨d1, p1, h1, _⟩ := hf 0 _ _ rfl
  obtain ⟨d2, p2, h2, w2⟩ := hf 1 _ _ rfl
  obtain ⟨d3, p3, h3, w3⟩ := hf 2 _ _ rfl
  obtain ⟨d4, p4, h4, w4⟩ := hf 3 _ _ rfl
  rw [O.ci.1] at h1
  rw [O.cl.2.2.2.2.2.1] at h2
  rw [O.cl.2.2.2.2.2.2.1] at h3
  rw [O.cl.2.2.2.2.2.2.2.1] at h4
  obtain ⟨k, e1, _⟩ := DataW.trod_int O.i h1
  obtain ⟨l2, v2, e2, b2, r2⟩ := open_lits O hsp h2 (fun q hq => hw q (w2 q hq))
  obtain ⟨l3, v3, e3, b3, r3⟩ := open_conds O hsp h3 (fun q hq => hw q (w3 q hq))
  obtain ⟨l4, v4, e4, b4, r4⟩ := open_sets O hsp h4 (fun q hq => hw q (w4 q hq))
  have f1 : u1 = .int .i64 k := by simpa using e1
  have f2 : u2 = v2 := by simpa using e2
  have f3 : u3 = v3 := by simpa using e3
  have f4 : u4 = v4 := by simpa using e4
  subst f1 f2 f3 f4
  exact ⟨⟨k, l2, l3, l4⟩, ⟨_, _, _, rfl, r2, r3, r4, b2, b3, b4⟩⟩
theorem open_user (hsp : ∀ b, sp b = true) {n : Nat} {c : List Value} {d : DataW H} {p : List MemPlace} (h : DataW.trod enc P W 0 sp true n 46 c = some (d, p)) (hw : NAll d P 46) : ∃ r : UserS, IsUserB (emb W) (fun _ => True) r (c.map (absV W)) := by
  obtain ⟨hl, m, _, hf⟩ := open_struct O.su h
  rw [O.cs.2.2.1] at hl
  obtain ⟨u1, u2, u3, u4, rfl⟩ : ∃ u1 u2 u3 u4, c = [u1, u2, u3, u4] := by
    match c, hl with
    | [u, v, w, x], _ => exact ⟨u, v, w, x, rfl⟩
  obtain ⟨d1, p1, h1, _⟩ := hf 0 _ _ rfl
  obtain ⟨d2, p2, h2, _⟩ := hf 1 _ _ rfl
  obtain ⟨d3, p3, h3, w3⟩ := hf 2 _ _ rfl
  obtain ⟨d4, p4, h4, _⟩ := hf 3 _ _ rfl
  rw [O.ci.2.2] at h1
  rw [O.ci.1] at h2 h4
  rw [O.cl.2.2.2.2.2.1] at h3
  obtain ⟨⟨⟨s⟩⟩, e1, _⟩ := DataW.trod_string O.s h1
  obtain ⟨k2, e2, _⟩ := DataW.trod_int O.i h2
  obtain ⟨l3, v3, e3, b3, r3⟩ := open_lits O hsp h3 (fun q hq => hw q (w3 q hq))
  obtain ⟨k4, e4, _⟩ := DataW.trod_int O.i h4
  have f1 : u1 = .string ⟨⟨s⟩⟩ := by simpa using e1
  have f2 : u2 = .int .i64 k2 := by simpa using e2
  have f3 : u3 = v3 := by simpa using e3
  have f4 : u4 = .int .i64 k4 := by simpa using e4
  subst f1 f2 f3 f4
  exact ⟨⟨s, k2, l3, k4⟩, ⟨_, rfl, r3, b3⟩⟩
end
end Go.Proofs.Ytknenadpkgajjaa.GEv

/- A program that came in as data. -/
namespace Go.Proofs.Ytknenadpkgajjaa.GEv
open Go
open Go.RowKit
set_option linter.unusedSimpArgs false
set_option linter.unusedVariables false
section
variable {P : Program} {H : Type} {enc : TypeId × Value → H} {W : World} {sp : Nat → Bool}
/-- A slice that came in as data, of whatever. -/
theorem open_sl {e sT : TypeId} {m bts fuel : Nat} (hu : P.underlying sT = some (.slice e)) (hc : P.cellsOf e = m + 1) (hb : P.bytesOf e = bts + 1) (hsp : ∀ b, sp b = true)
    {cs : List Value} {d : DataW H} {p : List MemPlace} (ht : DataW.trod enc P W 0 sp true fuel sT cs = some (d, p)) (hw : NAll d P sT) :
    ∃ v, cs = [v] ∧ ∃ a n cap, absV W v = .slice a n cap ∧ n ≤ 140737488351232 := by
  rcases DataW.trod_slice hu ht with ⟨rfl, hd⟩ | ⟨a, len, cap, elems, rest, n, rfl, rfl, hd, _, hl, hcap, hlen, he, hr, _⟩
  · exact ⟨_, rfl, none, 0, 0, rfl, Nat.zero_le _⟩
  · injection hd with hd _
    subst hd
    refine ⟨_, rfl, ?_⟩
    have hwl := hw ((elems.length + rest.length) * (bts + 1)) (by simp [DataW.weights, hu, hb])
    have hwl2 : (elems.length + rest.length) * (bts + 1) = (elems.length + rest.length) * bts + (elems.length + rest.length) := Nat.mul_succ _ _
    have hll : len ≤ 140737488351232 := by unfold reachBytes at hwl; omega
    by_cases h0 : cap = 0
    · subst h0
      obtain rfl : len = 0 := by omega
      exact ⟨some ⟨0, 0, none⟩, 0, 0, rfl, Nat.zero_le _⟩
    · obtain ⟨hr1, hr2⟩ := hr (hsp _)
      rw [hc] at he hr2
      have hz : ∃ c, W.cells? 0 a (m + 1) = some c := by
        by_cases hl0 : 0 < len
        · have := he 0 hl0
          rw [List.getElem?_eq_getElem (by omega)] at this
          obtain ⟨c, q1, q2⟩ := Option.bind_eq_some_iff.mp this
          rw [Nat.zero_mul] at q1
          exact ⟨c, q1⟩
        · obtain rfl : len = 0 := by omega
          have := hr2 0 (by omega)
          rw [List.getElem?_eq_getElem (by omega)] at this
          obtain ⟨c, q1, q2⟩ := Option.bind_eq_some_iff.mp this
          rw [Nat.add_zero, Nat.zero_mul] at q1
          exact ⟨c, q1⟩
      obtain ⟨c0, z1⟩ := hz
      obtain ⟨hs, _, c, t, f, hh, _⟩ := cells_at z1
      have hbs : a.block < W.heap.size := (Array.getElem?_eq_some_iff.1 hh).1
      have hcu : cap < UNK := by unfold maxLen at hcap; unfold UNK; omega
      have hq : a.spot = none ∧ len ≤ cap ∧ cap < UNK ∧ GN ≤ a.block ∧ a.block < W.heap.size := ⟨hs, hl, hcu, gn_le _, hbs⟩
      refine ⟨some a, len, cap, ?_, hll⟩
      cases cap with
      | zero => exact absurd rfl h0
      | succ cap =>
        have e1 : absV W (.slice (some a) len (cap + 1)) = if a.spot = none ∧ len ≤ cap + 1 ∧ cap + 1 < UNK ∧ GN ≤ a.block ∧ a.block < W.heap.size then .slice (some a) len (cap + 1) else junk := by
          cases len <;> rfl
        rw [e1, if_pos hq]
variable (O : DatOk P)
include O
theorem open_rules (hsp : ∀ b, sp b = true) {n : Nat} {cs : List Value} {d : DataW H} {p : List MemPlace} (ht : DataW.trod enc P W 0 sp true n 31 cs = some (d, p)) (hw : NAll d P 31) :
    ∃ (l : List (RuleS × List Value)) (v : Value), cs = [v] ∧ l.length ≤ 140737488351232 ∧ RowAt (emb W) (fun _ => True) 4 (l.map (·.2)) (absV W v) ∧ ∀ z ∈ l, IsRuleB (emb W) (fun _ => True) z.1 z.2 := by
  obtain ⟨bt, hb⟩ := O.bs.1
  refine open_row (fun r c => IsRuleB (emb W) (fun _ => True) r c) (fun x c h => ?_) O.lr O.cs.1 hb hsp (fun n _ c d p h hw => open_rule O hsp h hw) ht hw
  obtain ⟨v1, v2, v3, rfl, r1, r2, r3, _⟩ := h.ex
  exact ⟨rfl, by simp only [List.all_cons, List.all_nil, r1.one, r2.one, r3.one]; rfl⟩
theorem open_users (hsp : ∀ b, sp b = true) {n : Nat} {cs : List Value} {d : DataW H} {p : List MemPlace} (ht : DataW.trod enc P W 0 sp true n 33 cs = some (d, p)) (hw : NAll d P 33) :
    ∃ (l : List (UserS × List Value)) (v : Value), cs = [v] ∧ l.length ≤ 140737488351232 ∧ RowAt (emb W) (fun _ => True) 4 (l.map (·.2)) (absV W v) ∧ ∀ z ∈ l, IsUserB (emb W) (fun _ => True) z.1 z.2 := by
  obtain ⟨bt, hb⟩ := O.bs.2.2.1
  refine open_row (fun r c => IsUserB (emb W) (fun _ => True) r c) (fun x c h => ?_) O.lu O.cs.2.2.1 hb hsp (fun n _ c d p h hw => open_user O hsp h hw) ht hw
  obtain ⟨v1, rfl, r1, _⟩ := h.ex
  exact ⟨rfl, by simp only [List.all_cons, List.all_nil, r1.one]; rfl⟩
/-- **A program that came in as data.** -/
theorem open_prog (hsp : ∀ b, sp b = true) {n : Nat} {c : List Value} {d : DataW H} {p : List MemPlace} (h : DataW.trod enc P W 0 sp true n 36 c = some (d, p)) (hw : NAll d P 36) :
    ∃ (pr : PrS) (w : PrV), IsPrB (emb W) (fun _ => True) pr w ∧ c.map (absV W) = prC pr w := by
  obtain ⟨hl, m, _, hf⟩ := open_struct O.sp h
  rw [O.cs.2.2.2.2.2.2] at hl
  obtain ⟨u1, u2, u3, u4, u5, u6, u7, u8, u9, u10, rfl⟩ : ∃ u1 u2 u3 u4 u5 u6 u7 u8 u9 u10, c = [u1, u2, u3, u4, u5, u6, u7, u8, u9, u10] := by
    match c, hl with
    | [u1, u2, u3, u4, u5, u6, u7, u8, u9, u10], _ => exact ⟨u1, u2, u3, u4, u5, u6, u7, u8, u9, u10, rfl⟩
  obtain ⟨d1, p1, h1, _⟩ := hf 0 _ _ rfl
  obtain ⟨d2, p2, h2, _⟩ := hf 1 _ _ rfl
  obtain ⟨d3, p3, h3, w3⟩ := hf 2 _ _ rfl
  obtain ⟨d4, p4, h4, w4⟩ := hf 3 _ _ rfl
  obtain ⟨d5, p5, h5, _⟩ := hf 4 _ _ rfl
  obtain ⟨d6, p6, h6, w6⟩ := hf 5 _ _ rfl
  obtain ⟨d7, p7, h7, w7⟩ := hf 6 _ _ rfl
  obtain ⟨d8, p8, h8, w8⟩ := hf 7 _ _ rfl
  obtain ⟨d9, p9, h9, w9⟩ := hf 8 _ _ rfl
  obtain ⟨d10, p10, h10, w10⟩ := hf 9 _ _ rfl
  obtain ⟨cl1, cl2, cl3, cl4, cl5, _, _, _, cl9⟩ := O.cl
  rw [O.ci.1] at h1 h2 h5
  rw [cl1] at h3 h4
  rw [cl2] at h6
  rw [cl3] at h7
  rw [cl4] at h8
  rw [cl5] at h9
  rw [cl9] at h10
  obtain ⟨k1, e1, _⟩ := DataW.trod_int O.i h1
  obtain ⟨k2, e2, _⟩ := DataW.trod_int O.i h2
  obtain ⟨k5, e5, _⟩ := DataW.trod_int O.i h5
  obtain ⟨l3, v3, e3, b3, r3⟩ := open_ints O hsp h3 (fun q hq => hw q (w3 q hq))
  obtain ⟨l4, v4, e4, b4, r4⟩ := open_ints O hsp h4 (fun q hq => hw q (w4 q hq))
  obtain ⟨l6, v6, e6, b6, r6⟩ := open_texts O hsp h6 (fun q hq => hw q (w6 q hq))
  obtain ⟨l7, v7, e7, b7, r7, z7⟩ := open_rules O hsp h7 (fun q hq => hw q (w7 q hq))
  obtain ⟨l8, v8, e8, b8, r8⟩ := open_ctrs O hsp h8 (fun q hq => hw q (w8 q hq))
  obtain ⟨l9, v9, e9, b9, r9, z9⟩ := open_users O hsp h9 (fun q hq => hw q (w9 q hq))
  obtain ⟨mi, hmi⟩ := O.cn
  obtain ⟨bi, hbi⟩ := O.bi.2.2
  obtain ⟨v10, e10, r10⟩ := open_sl O.ln hmi hbi hsp h10 (fun q hq => hw q (w10 q hq))
  have f1 : u1 = .int .i64 k1 := by simpa using e1
  have f2 : u2 = .int .i64 k2 := by simpa using e2
  have f3 : u3 = v3 := by simpa using e3
  have f4 : u4 = v4 := by simpa using e4
  have f5 : u5 = .int .i64 k5 := by simpa using e5
  have f6 : u6 = v6 := by simpa using e6
  have f7 : u7 = v7 := by simpa using e7
  have f8 : u8 = v8 := by simpa using e8
  have f9 : u9 = v9 := by simpa using e9
  have f10 : u10 = v10 := by simpa using e10
  subst f1 f2 f3 f4 f5 f6 f7 f8 f9 f10
  exact ⟨⟨k1, k2, l3, l4, k5, l6, l7.map (·.1), l8, l9.map (·.1)⟩, ⟨absV W u3, absV W u4, absV W u6, absV W u7, absV W u8, absV W u9, absV W u10⟩, ⟨r3, r4, r6, ⟨l7, rfl, r7, z7⟩, r8, ⟨l9, rfl, r9, z9⟩, r10, ⟨b3, b4, b6, by rw [List.length_map]; exact b7, b8, by rw [List.length_map]; exact b9⟩⟩, rfl⟩
end
end Go.Proofs.Ytknenadpkgajjaa.GEv

/- What is no more than is looked at: big, by a symbolic run. -/
namespace Go.Proofs.Ytknenadpkgajjaa.GEv
open Go
set_option linter.unusedSimpArgs false
set_option linter.unusedVariables false
set_option maxRecDepth 100000
def rLen (r : RuleS) : Nat := r.ifs.length + r.conds.length + r.thens.length
theorem IsPrB.small {g : H} {S : Nat → Prop} {p : PrS} {w : PrV} (hp : IsPrB g S p w) {N : Nat} (hN : N < 2500) (h0 : p.first.length + p.over.length + p.files.length + p.rules.length + p.ctrs.length + p.users.length ≤ N) (h1 : ∀ r ∈ p.rules, rLen r ≤ N) (h2 : ∀ u ∈ p.users, u.whil.length ≤ N) : IsPr g S p w := by
  refine ⟨hp.first, hp.over, hp.files, ?_, hp.ctrs, ?_, by omega, by omega, by omega, by omega, by omega, by omega⟩
  · obtain ⟨zs, e, r, q⟩ := hp.rules
    refine ⟨zs, e, r, fun z hz => ?_⟩
    obtain ⟨v1, v2, v3, e1, r1, r2, r3, _⟩ := (q z hz).ex
    have := h1 z.1 (by rw [← e]; exact List.mem_map.2 ⟨z, hz, rfl⟩)
    unfold rLen at this
    exact ⟨v1, v2, v3, e1, r1, r2, r3, by omega, by omega, by omega⟩
  · obtain ⟨zs, e, r, q⟩ := hp.users
    refine ⟨zs, e, r, fun z hz => ?_⟩
    obtain ⟨v1, e1, r1, _⟩ := (q z hz).ex
    have := h2 z.1 (by rw [← e]; exact List.mem_map.2 ⟨z, hz, rfl⟩)
    exact ⟨v1, e1, r1, by omega⟩
theorem LoopP.less {E : Env} {nt : Nat} {a : Code} {l l0 : L} {h : H} {kn kr : L → H → Prop} {ke : Nat → L → H → Prop} (hl : Less l0 l) (hd : LoopP E nt a l0 h kn kr ke) : LoopP E nt a l h kn kr ke := ⟨fun tm hv => hd.ok tm (hl.up hv)⟩
theorem key_of2 {A B C : Prop} (f : (A → B) → C) (a : A → B) : C := f a
section
variable {E : Env} (hE : E = EG)
include hE
theorem cBig (p : PrS) (w : PrV) (g : H) (S : Nat → Prop) (hp : IsPrB g S p w) (K : Value → H → Prop) (hk : ∀ h' r, (r = false → IsPr g S p w ∧ p.flags ≤ 2000) → Grows g h' → K (.bool r) h') :
    CallP E 11 [.agg (prC p w).toArray] g K := by
  have hsm := fun N hN h0 h1 h2 => hp.small (N := N) hN h0 h1 h2
  obtain ⟨zs, hz1, hz2, hz3⟩ := hp.rules
  obtain ⟨us, hu1, hu2, hu3⟩ := hp.users
  obtain ⟨a, n, cap, hv, hn, hx, hcap⟩ := hz2.ex
  obtain ⟨au, nu, capu, hvu, hnu, hxu, hcapu⟩ := hu2.ex
  obtain ⟨a1, n1, c1, e1, m1, _⟩ := hp.first.ex
  obtain ⟨a2, n2, c2, e2, m2, _⟩ := hp.over.ex
  obtain ⟨af, nf, cf, ef, mf, _⟩ := hp.files.ex
  obtain ⟨ac, nc, cc, ec, mc, _⟩ := hp.ctrs.ex
  obtain ⟨an, nn, cn, en, mn⟩ := hp.notes
  rw [List.length_map] at hn hnu m1 m2 mf mc
  have hzl : p.rules.length = zs.length := by rw [← hz1, List.length_map]
  have hul : p.users.length = us.length := by rw [← hu1, List.length_map]
  obtain ⟨L1, L2, L3, L4, L5, L6⟩ := hp.lens
  have hp2 : (prC p w)[2]? = some (.slice a1 n1 c1) := by rw [← e1]; rfl
  have hp3 : (prC p w)[3]? = some (.slice a2 n2 c2) := by rw [← e2]; rfl
  have hp5 : (prC p w)[5]? = some (.slice af nf cf) := by rw [← ef]; rfl
  have hp6 : (prC p w)[6]? = some (.slice a n cap) := by rw [← hv]; rfl
  have hp7 : (prC p w)[7]? = some (.slice ac nc cc) := by rw [← ec]; rfl
  have hp8 : (prC p w)[8]? = some (.slice au nu capu) := by rw [← hvu]; rfl
  have hp9 : (prC p w)[9]? = some (.slice an nn cn) := by rw [← en]; rfl
  refine CallP.ofG hE Try.func11 rfl rfl rfl rfl ?_
  have T := tbOk hE
  clear hE
  cbv
  intro m0 P
  have B0 : BoxP m0 g.next (prC p w) 36 := P.box
  have G0 := P.grows
  clear P
  generalize g.next = b1 at B0
  have B0' := B0.get
  cbv
  rintro _ rfl
  cbv
  refine ⟨_, rb B0' hp2, ?_⟩
  cbv
  rintro _ rfl
  cbv
  refine ⟨_, rb B0' hp3, ?_⟩
  cbv
  refine BinP.add (by omega) (fun s1 hs1 => ?_)
  cbv
  rintro _ rfl
  cbv
  refine ⟨_, rb B0' hp5, ?_⟩
  cbv
  refine BinP.add (by omega) (fun s2 hs2 => ?_)
  cbv
  rintro _ rfl
  cbv
  refine ⟨_, rb B0' hp6, ?_⟩
  cbv
  refine BinP.add (by omega) (fun s3 hs3 => ?_)
  cbv
  rintro _ rfl
  cbv
  refine ⟨_, rb B0' hp7, ?_⟩
  cbv
  refine BinP.add (by omega) (fun s4 hs4 => ?_)
  cbv
  rintro _ rfl
  cbv
  refine ⟨_, rb B0' hp8, ?_⟩
  cbv
  refine BinP.add (by omega) (fun s5 hs5 => ?_)
  cbv
  rintro _ rfl
  cbv
  refine ⟨_, rb B0' hp9, ?_⟩
  cbv
  refine BinP.add (by omega) (fun s6 hs6 => ?_)
  cbv
  have hB : p.first.length + p.over.length + p.files.length + p.rules.length + p.ctrs.length + p.users.length ≤ s6 := by omega
  have hS : s6 ≤ 1407374883512320 := by omega
  clear hs1 hs2 hs3 hs4 hs5 hs6
  refine LoopP.onZ T (fun y : H × Nat × Nat => [(4, .int .i64 (.ofNat y.2.1)), (3, .int .i64 (.ofNat y.2.2)), (2, .bool false), (1, .pointer (some ⟨b1, 0, none⟩))]) (fun y => y.1) (fun y => Grows m0 y.1 ∧ y.2.1 ≤ n ∧ s6 ≤ y.2.2 ∧ y.2.2 ≤ 1407374883512320 ∧ ∀ j r, j < y.2.1 → p.rules[j]? = some r → rLen r ≤ y.2.2) (fun y => n - y.2.1) (m0, 0, s6) rfl (Less.cons rfl (Less.cons rfl (Less.cons rfl (Less.cons rfl (Less.nil _))))) ⟨Grows.refl _, Nat.zero_le _, Nat.le_refl _, hS, fun j r hj => absurd hj (Nat.not_lt_zero _)⟩ ?_
  rintro ⟨m, i, N⟩ ⟨i0, i1, i2, i3, i4⟩
  have i0 : Grows m0 m := i0
  have i1 : i ≤ n := i1
  have i2 : s6 ≤ N := i2
  have i3 : N ≤ 1407374883512320 := i3
  have i4 : ∀ j r, j < i → p.rules[j]? = some r → rLen r ≤ N := i4
  have B' := (B0.grows i0).get
  have key : N < 2500 → ¬ i < n → ∀ r ∈ p.rules, rLen r ≤ N := fun _ h r hr => by
    obtain ⟨j, hj, rfl⟩ := List.getElem_of_mem hr
    exact i4 j _ (by omega) (List.getElem?_eq_getElem hj)
  cbv
  rintro _ rfl
  cbv
  refine ⟨_, rb B' hp6, ?_⟩
  cbv
  apply key_of2 (A := N < 2500 → ∀ r ∈ p.rules, rLen r ≤ N)
  · intro go
    refine BinP.ofN (And.intro (fun q => ?_) (fun q => ?_))
    · have q : i < n := q
      cbv
      refine BinP.ofN (And.intro (fun q2 => ?_) (fun q2 => ?_))
      · have q2 : N < 2500 := q2
        obtain ⟨⟨x, c⟩, hzx⟩ : ∃ y, zs[i]? = some y := ⟨_, List.getElem?_eq_getElem (by clear go; omega)⟩
        have hpx : p.rules[i]? = some x := by rw [← hz1, List.getElem?_map, hzx]; rfl
        have hxc : IsRuleB g S x c := hz3 _ (List.mem_of_getElem? hzx)
        obtain ⟨b, off, rfl, _, _, _, hrd⟩ := (hx.grows (G0.trans i0)).el (i := i) (x := c) (by rw [List.getElem?_map, hzx]; rfl)
        obtain ⟨v1, v2, v3, rfl, r1, r2, r3, l1, l2, l3⟩ := hxc.ex
        obtain ⟨x1, y1, w1, rfl, t1, _⟩ := r1.ex
        obtain ⟨x2, y2, w2, rfl, t2, _⟩ := r2.ex
        obtain ⟨x3, y3, w3, rfl, t3, _⟩ := r3.ex
        rw [List.length_map] at t1 t2 t3
        cbv
        refine DrawP.ofZ T [] (by kernel_rfl) ?_
        cbv
        rintro _ rfl
        cbv
        refine ⟨_, rb B' hp6, ?_⟩
        cbv
        refine ⟨⟨q⟩, fun p1 hp1 => ?_⟩
        cbv
        intro p2 hp2
        cbv
        refine ⟨_, (hrd p1 hp1).cell (i := 1) rfl hp2, ?_⟩
        cbv
        refine BinP.add (by clear go; omega) (fun s1 hs1 => ?_)
        cbv
        rintro _ rfl
        cbv
        refine ⟨_, rb B' hp6, ?_⟩
        cbv
        refine ⟨⟨q⟩, fun p1 hp1 => ?_⟩
        cbv
        intro p2 hp2
        cbv
        refine ⟨_, (hrd p1 hp1).cell (i := 2) rfl hp2, ?_⟩
        cbv
        refine BinP.add (by clear go; omega) (fun s2 hs2 => ?_)
        cbv
        rintro _ rfl
        cbv
        refine ⟨_, rb B' hp6, ?_⟩
        cbv
        refine ⟨⟨q⟩, fun p1 hp1 => ?_⟩
        cbv
        intro p2 hp2
        cbv
        refine ⟨_, (hrd p1 hp1).cell (i := 3) rfl hp2, ?_⟩
        cbv
        refine BinP.add (by clear go; omega) (fun s3 hs3 => ?_)
        cbv
        intro M L
        cbv
        refine BinP.inc (by clear go; omega) (fun z2 hz2 => ?_)
        cbv
        refine ⟨(M, i + 1, s3), Less.cons (by rw [hz2]; rfl) (Less.cons rfl (Less.cons rfl (Less.cons rfl (Less.nil _)))), rfl, ⟨L.grows i0, q, ?_, ?_, fun j r hj hr => ?_⟩, (by show n - (i + 1) < n - i; clear go; omega)⟩
        · show s6 ≤ s3
          clear go; omega
        · show s3 ≤ 1407374883512320
          clear go; omega
        · show rLen r ≤ s3
          by_cases e : j = i
          · subst e
            rw [hpx] at hr
            cases hr
            unfold rLen
            clear go; omega
          · have hj : j < i + 1 := hj
            have := i4 j r (by clear go; omega) hr
            clear go; omega
      · have q2 : 2500 ≤ N := q2
        cbv
        exact LoopP.less (l0 := [(5, .int .i64 0), (3, .int .i64 (.ofNat N)), (2, .bool false), (1, .pointer (some ⟨b1, 0, none⟩))]) (Less.cons rfl (Less.cons rfl (Less.cons rfl (Less.cons rfl (Less.nil _))))) (go fun h => absurd h (by clear go; omega))
    · have q : n ≤ i := q
      cbv
      exact LoopP.less (l0 := [(5, .int .i64 0), (3, .int .i64 (.ofNat N)), (2, .bool false), (1, .pointer (some ⟨b1, 0, none⟩))]) (Less.cons rfl (Less.cons rfl (Less.cons rfl (Less.cons rfl (Less.nil _))))) (go fun h => key h (by clear go; omega))
  · intro hR
    have hR : N < 2500 → ∀ r ∈ p.rules, rLen r ≤ N := hR
    have Gm := G0.trans i0
    refine LoopP.onZ T (fun y : Nat × Nat => [(5, .int .i64 (.ofNat y.1)), (3, .int .i64 (.ofNat y.2)), (2, .bool false), (1, .pointer (some ⟨b1, 0, none⟩))]) (fun _ => m) (fun y => y.1 ≤ nu ∧ N ≤ y.2 ∧ y.2 ≤ 1407374883512320 ∧ ∀ j u, j < y.1 → p.users[j]? = some u → u.whil.length ≤ y.2) (fun y => nu - y.1) (0, N) rfl (Less.cons rfl (Less.cons rfl (Less.cons rfl (Less.cons rfl (Less.nil _))))) ⟨Nat.zero_le _, Nat.le_refl _, i3, fun j r hj => absurd hj (Nat.not_lt_zero _)⟩ ?_
    rintro ⟨k, M⟩ ⟨j1, j2, j3, j4⟩
    have j1 : k ≤ nu := j1
    have j2 : N ≤ M := j2
    have j3 : M ≤ 1407374883512320 := j3
    have j4 : ∀ j u, j < k → p.users[j]? = some u → u.whil.length ≤ M := j4
    cbv
    rintro _ rfl
    cbv
    refine ⟨_, rb B' hp8, ?_⟩
    cbv
    refine BinP.ofN (And.intro (fun q => ?_) (fun q => ?_))
    · have q : k < nu := q
      cbv
      refine BinP.ofN (And.intro (fun q2 => ?_) (fun q2 => ?_))
      · have q2 : M < 2500 := q2
        obtain ⟨⟨x, c⟩, hzx⟩ : ∃ y, us[k]? = some y := ⟨_, List.getElem?_eq_getElem (by omega)⟩
        have hpx : p.users[k]? = some x := by rw [← hu1, List.getElem?_map, hzx]; rfl
        have hxc : IsUserB g S x c := hu3 _ (List.mem_of_getElem? hzx)
        obtain ⟨b, off, rfl, _, _, _, hrd⟩ := (hxu.grows Gm).el (i := k) (x := c) (by rw [List.getElem?_map, hzx]; rfl)
        obtain ⟨v1, rfl, r1, l1⟩ := hxc.ex
        obtain ⟨x1, y1, w1, rfl, t1, _⟩ := r1.ex
        rw [List.length_map] at t1
        cbv
        rintro _ rfl
        cbv
        refine ⟨_, rb B' hp8, ?_⟩
        cbv
        refine ⟨⟨q⟩, fun p1 hp1 => ?_⟩
        cbv
        intro p2 hp2
        cbv
        refine ⟨_, (hrd p1 hp1).cell (i := 2) rfl hp2, ?_⟩
        cbv
        refine BinP.add (by omega) (fun s1 hs1 => ?_)
        cbv
        refine BinP.inc (by omega) (fun z2 hz2 => ?_)
        cbv
        refine ⟨(k + 1, s1), Less.cons (by rw [hz2]; rfl) (Less.cons rfl (Less.cons rfl (Less.cons rfl (Less.nil _)))), rfl, ⟨q, ?_, ?_, fun j u hj hr => ?_⟩, (by show nu - (k + 1) < nu - k; omega)⟩
        · show N ≤ s1
          omega
        · show s1 ≤ 1407374883512320
          omega
        · show u.whil.length ≤ s1
          by_cases e : j = k
          · subst e
            rw [hpx] at hr
            cases hr
            omega
          · have hj : j < k + 1 := hj
            have := j4 j u (by omega) hr
            omega
      · have q2 : 2500 ≤ M := q2
        cbv
        refine BinP.ofN (And.intro (fun q3 => ?_) (fun q3 => ?_))
        · cbv
          exact hk _ _ (fun e => by cases e) Gm
        · have q3 : M < 2500 := q3
          exact absurd q2 (by omega)
    · have q : nu ≤ k := q
      cbv
      refine BinP.ofN (And.intro (fun q3 => ?_) (fun q3 => ?_))
      · cbv
        exact hk _ _ (fun e => by cases e) Gm
      · have q3 : M < 2500 := q3
        have hIs : IsPr g S p w := hsm M q3 (by omega) (fun r hr => Nat.le_trans (hR (by omega) r hr) j2) (fun u hu => by
          obtain ⟨j, hj, rfl⟩ := List.getElem_of_mem hu
          exact j4 j _ (by omega) (List.getElem?_eq_getElem hj))
        cbv
        rintro _ rfl
        cbv
        refine ⟨_, rb (B') rfl, ?_⟩
        cbv
        refine BinP.ofI (And.intro (fun q4 => ?_) (fun q4 => ?_))
        · cbv
          exact hk _ _ (fun e => by cases e) Gm
        · have q4 : p.flags ≤ 2000 := q4
          cbv
          exact hk _ _ (fun _ => ⟨hIs, q4⟩) Gm
end
end Go.Proofs.Ytknenadpkgajjaa.GEv

