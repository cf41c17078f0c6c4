import Derived.Test.YtknenadpkgajjaaGGsf
import Derived.Test.YtknenadpkgajjaaGGse
/- RulesLess, in plain words. -/
namespace Go.Proofs.Ytknenadpkgajjaa.GEv
open Go
set_option linter.unusedSimpArgs false
set_option linter.unusedVariables false
def noEnds (p : PrS) : PrS := { p with ctrs := [], users := [] }
def noLast (p : PrS) (k : Nat) : PrS := { noEnds p with rules := p.rules.take k }
theorem ruleOk_to {p q : PrS} {r : RuleS} (h : RuleOk p r) (h1 : q.flags = p.flags) (h2 : q.files = p.files) : RuleOk q r :=
  ⟨h.st, h.ne, by rw [h1]; exact h.ifs, by rw [h1]; exact h.thens, by rw [h2]; exact h.conds⟩
theorem noEnds_ok {p : PrS} (h : IsOk p) : IsOk (noEnds p) where
  flags := h.flags
  lasting := h.lasting
  frm := h.frm
  first := h.first
  over := h.over
  files := h.files
  rules := ⟨fun r hr => ruleOk_to (h.rules.ok r hr) rfl rfl, h.rules.up, h.rules.len⟩
  ctrs := fun c hc => by cases hc
  users := fun c hc => by cases hc
  strata := ⟨h.strata.lst, h.strata.lap⟩
theorem noLast_ok {p : PrS} (h : IsOk p) {k : Nat} {x y : RuleS} (hn : p.rules.length = k + 1) (hx : p.rules[k]? = some x) (hk : 0 < k) (hy : p.rules[k - 1]? = some y) (e : x.st = y.st) : IsOk (noLast p k) := by
  have hlast : lastSt (p.rules.take k) = lastSt p.rules := by
    unfold lastSt
    have h1 : p.rules.getLast? = some x := by rw [List.getLast?_eq_getElem?, hn]; exact hx
    have h2 : (p.rules.take k).getLast? = some y := by
      rw [List.getLast?_eq_getElem?, List.length_take, Nat.min_eq_left (by omega), List.getElem?_take, if_pos (by omega)]
      exact hy
    rw [h1, h2]
    exact e.symm
  have hin : ∀ r ∈ p.rules.take k, r ∈ p.rules := fun r hr => List.mem_of_mem_take hr
  exact {
    flags := h.flags
    lasting := h.lasting
    frm := h.frm
    first := h.first
    over := h.over
    files := h.files
    rules := ⟨fun r hr => ruleOk_to (h.rules.ok r (hin r hr)) rfl rfl, (fun i r r' h1 h2 => by
      have h1 : (p.rules.take k)[i]? = some r := h1
      have h2 : (p.rules.take k)[i + 1]? = some r' := h2
      rw [List.getElem?_take] at h1 h2
      split at h1
      · split at h2
        · exact h.rules.up i r r' h1 h2
        · cases h2
      · cases h1), (by
      show (p.rules.take k).length ≤ 1500
      have := h.rules.len
      rw [List.length_take]
      omega)⟩
    ctrs := fun c hc => by cases hc
    users := fun c hc => by cases hc
    strata := ⟨(fun r hr x hx hl => by
      show r.st = lastSt (p.rules.take k)
      rw [hlast]
      exact h.strata.lst r (hin r hr) x hx hl), fun r hr r' hr' => h.strata.lap r (hin r hr) r' (hin r' hr')⟩ }
theorem RowAt.nil (h : H) (S : Nat → Prop) (size : Nat) : RowAt h S size [] (.slice none 0 0) := ⟨none, 0, 0, rfl, rfl, ⟨fun x h => by simp at h, .inl ⟨rfl, fun x h => by cases h⟩⟩, Nat.le_refl _, .inl (by decide)⟩
theorem IsPr.noEnds {h : H} {S : Nat → Prop} {p : PrS} {w : PrV} (hp : IsPr h S p w) : IsPr h S (noEnds p) { w with ctrs := .slice none 0 0, users := .slice none 0 0 } :=
  ⟨hp.first, hp.over, hp.files, hp.rules, RowAt.nil _ _ _, ⟨[], rfl, RowAt.nil _ _ _, fun z hz => by cases hz⟩, hp.lens.1, hp.lens.2.1, hp.lens.2.2.1, hp.lens.2.2.2.1, Nat.zero_le _, Nat.zero_le _⟩
theorem IsPr.noLast {h : H} {S : Nat → Prop} {p : PrS} {w : PrV} (hp : IsPr h S p w) {zs : List (RuleS × List Value)} (e : zs.map (·.1) = p.rules) (hz : ∀ z ∈ zs, IsRule h S z.1 z.2) {k : Nat} {v : Value} (hv : RowAt h S 4 ((zs.map (·.2)).take k) v) : IsPr h S (noLast p k) { w with ctrs := .slice none 0 0, users := .slice none 0 0, rules := v } :=
  ⟨hp.first, hp.over, hp.files, ⟨zs.take k, by show (zs.take k).map (·.1) = p.rules.take k; rw [List.map_take, e], by rw [List.map_take]; exact hv, fun z hz' => hz z (List.mem_of_mem_take hz')⟩, RowAt.nil _ _ _, ⟨[], rfl, RowAt.nil _ _ _, fun z hz => by cases hz⟩, hp.lens.1, hp.lens.2.1, hp.lens.2.2.1, by
    have := hp.lens.2.2.2.1
    show (p.rules.take k).length ≤ 1000000
    rw [List.length_take]
    omega, Nat.zero_le _, Nat.zero_le _⟩
end Go.Proofs.Ytknenadpkgajjaa.GEv

/- RulesLess, by a symbolic run. -/
namespace Go.Proofs.Ytknenadpkgajjaa.GEv
open Go
set_option linter.unusedSimpArgs false
set_option linter.unusedVariables false
set_option maxRecDepth 100000
theorem IsRuleB.grows {h h' : H} {S : Nat → Prop} {r : RuleS} {c : List Value} (i : IsRuleB h S r c) (G : Grows h h') : IsRuleB h' S r c := by
  obtain ⟨v1, v2, v3, e, h1, h2, h3, h4⟩ := i.ex
  exact ⟨v1, v2, v3, e, h1.grows G, h2.grows G, h3.grows G, h4⟩
theorem IsUserB.grows {h h' : H} {S : Nat → Prop} {r : UserS} {c : List Value} (i : IsUserB h S r c) (G : Grows h h') : IsUserB h' S r c := by
  obtain ⟨v1, e, h1, h2⟩ := i.ex
  exact ⟨v1, e, h1.grows G, h2⟩
theorem IsPrB.grows {h h' : H} {S : Nat → Prop} {p : PrS} {w : PrV} (i : IsPrB h S p w) (G : Grows h h') : IsPrB h' S p w := by
  obtain ⟨zs, e1, r1, q1⟩ := i.rules
  obtain ⟨us, e2, r2, q2⟩ := i.users
  exact ⟨i.first.grows G, i.over.grows G, i.files.grows G, ⟨zs, e1, r1.grows G, fun z hz => (q1 z hz).grows G⟩, i.ctrs.grows G, ⟨us, e2, r2.grows G, fun z hz => (q2 z hz).grows G⟩, i.notes, i.lens⟩
theorem prC_one {h : H} {S : Nat → Prop} {p : PrS} {w : PrV} (i : IsPr h S p w) (hn : one w.notes = true) : (prC p w).all one = true := by
  obtain ⟨zs, e1, r1, q1⟩ := i.rules.ex
  obtain ⟨us, e2, r2, q2⟩ := i.users.ex
  unfold prC
  simp only [List.all_cons, List.all_nil, i.first.one, i.over.one, i.files.one, r1.one, i.ctrs.one, r2.one, hn]
  rfl
section
variable {E : Env} (hE : E = EG)
include hE
theorem gKnown (h : H) (K : Value → H → Prop) (hk : K (.bool true) h) : CallP E 10 [] h K := CallP.memo (by rw [hE]; rfl) (by rw [hE]; exact ⟨_, _, Try.func10, rfl⟩) hk
theorem lLess (p : PrS) (w : PrV) (g : H) (S : Nat → Prop) (hp : IsPrB g S p w) (K : Value → H → Prop) (hk : ∀ h', Grows g h' → K (.bool true) h') :
    CallP E 4 [.agg (prC p w).toArray] g K := by
  have ck := fun h K hk => gKnown hE h K hk
  have cb := fun m hp K hk => cBig hE p w m S hp K hk
  have ri := fun m hp K hk => rIs hE p w m S hp K hk
  have ci := fun q u m hp K hk => cIs hE q u m S hp K hk
  have hnotes : one w.notes = true := by
    obtain ⟨a, n, cap, e, _⟩ := hp.notes
    rw [e]; rfl
  refine CallP.ofG hE Try.func4 rfl rfl rfl rfl ?_
  have T := tbOk hE
  clear hE
  cbv
  intro m0 P
  have B0 : BoxP m0 g.next (prC p w) 36 := P.box
  have G0 := P.grows
  clear P
  generalize g.next = b1 at B0
  have B0' := B0.get
  cbv
  refine ⟨_, rbw B0' rfl, ?_⟩
  cbv
  refine cb m0 (hp.grows G0) _ (fun m1 r hr g1 => ?_)
  have G1 := G0.trans g1
  have B0 := B0.grows g1
  have B0' := B0.get
  cases r with
  | true => cbv; exact hk _ G1
  | false =>
  have hs := (hr rfl).1
  have hs : IsPr m1 S p w := hs.grows g1
  clear hr
  cbv
  refine ⟨_, rbw B0' rfl, ?_⟩
  cbv
  refine ri m1 hs _ (fun m2 r hr g2 => ?_)
  have G2 := G1.trans g2
  have B0 := B0.grows g2
  have B0' := B0.get
  cases r with
  | false => cbv; exact hk _ G2
  | true =>
  have hIs := hr.1 rfl
  have hs := hs.grows g2
  clear hr
  obtain ⟨zs, hz1, hz2, hz3⟩ := hs.rules.ex
  obtain ⟨a, n, cap, hv, hn, hx, hcap⟩ := hz2.ex
  rw [List.length_map] at hn
  have hzl : p.rules.length = zs.length := by rw [← hz1, List.length_map]
  have hlen := hs.lens.2.2.2.1
  have hp6 : (prC p w)[6]? = some (.slice a n cap) := by rw [← hv]; rfl
  cbv
  refine ⟨_, rbw B0' rfl, ?_⟩
  cbv
  intro m3 P2
  have C2 := P2.get
  have g3 := P2.grows
  have hlt : m2.next < m3.next := by rw [P2.next]; exact Nat.lt_succ_self _
  clear P2
  have hgm : m2.next ≤ m2.next := Nat.le_refl _
  obtain ⟨b2, hb2⟩ : ∃ b, b = m2.next := ⟨_, rfl⟩
  rw [← hb2] at hlt C2 ⊢
  have hone := prC_one hs hnotes
  cbv
  refine StoP.of C2 (Nat.zero_le _) (Nat.le_of_ble_eq_true rfl) hone (fun m4 P3 => ?_)
  have C3 : m4.m.get b2 = some (.cells (prC p w) (some 36) true 0) := P3.get
  have i3 : Grows m2 m4 := P3.grows g3 (by omega)
  have hlt : b2 < m4.next := by rw [P3.next]; exact hlt
  clear P3
  cbv
  rintro _ rfl
  cbv
  refine StoP.of C3 (Nat.zero_le _) (Nat.le_of_ble_eq_true rfl) rfl (fun m5 P4 => ?_)
  have C4 : m5.m.get b2 = some (.cells (prC p { w with ctrs := .slice none 0 0 }) (some 36) true 0) := P4.get
  have i4 : Grows m2 m5 := P4.grows i3 (by omega)
  have hlt : b2 < m5.next := by rw [P4.next]; exact hlt
  clear P4 i3 C3
  cbv
  rintro _ rfl
  cbv
  refine StoP.of C4 (Nat.zero_le _) (Nat.le_of_ble_eq_true rfl) rfl (fun m6 P5 => ?_)
  have C5 : m6.m.get b2 = some (.cells (prC (noEnds p) { w with ctrs := .slice none 0 0, users := .slice none 0 0 }) (some 36) true 0) := P5.get
  have i5 : Grows m2 m6 := P5.grows i4 (by omega)
  have hlt : b2 < m6.next := by rw [P5.next]; exact hlt
  clear P5 i4 C4
  cbv
  refine ⟨_, rbw C5 rfl, ?_⟩
  cbv
  refine ci (noEnds p) { w with ctrs := .slice none 0 0, users := .slice none 0 0 } m6 (hs.grows i5).noEnds _ (fun m7 r hr g7 => ?_)
  have i7 := i5.trans g7
  have C7 := (g7.keep b2 hlt).trans C5
  have hlt7 : b2 < m7.next := Nat.lt_of_lt_of_le hlt g7.next
  have B7 := (B0.grows i7).get
  have hr := hr.2 (noEnds_ok hIs)
  subst hr
  cbv
  rintro _ rfl
  cbv
  refine ⟨_, rb B7 hp6, ?_⟩
  cbv
  refine DrawP.ofZ T [] (by kernel_rfl) ?_
  cbv
  refine BinP.ofN (And.intro (fun q => ?_) (fun q => ?_))
  · cbv
    intro M L
    cbv
    refine ck M _ ?_
    cbv
    exact hk _ (L.grows (G2.trans i7))
  have q : 2 ≤ n := q
  obtain ⟨k, hkn⟩ : ∃ k, n = k + 2 := ⟨n - 2, by omega⟩
  obtain ⟨⟨x, c⟩, hzx⟩ : ∃ y, zs[k + 1]? = some y := ⟨_, List.getElem?_eq_getElem (by omega)⟩
  obtain ⟨⟨y, d⟩, hzy⟩ : ∃ y, zs[k]? = some y := ⟨_, List.getElem?_eq_getElem (by omega)⟩
  have hpx : p.rules[k + 1]? = some x := by rw [← hz1, List.getElem?_map, hzx]; rfl
  have hpy : p.rules[k]? = some y := by rw [← hz1, List.getElem?_map, hzy]; rfl
  have hxc : IsRule m2 S x c := hz3 _ (List.mem_of_getElem? hzx)
  have hyd : IsRule m2 S y d := hz3 _ (List.mem_of_getElem? hzy)
  obtain ⟨v1, v2, v3, rfl, _⟩ := hxc.ex
  obtain ⟨u1, u2, u3, rfl, _⟩ := hyd.ex
  have hR7 : RowAt m7 S 4 (zs.map (·.2)) (.slice a n cap) := ⟨_, _, _, rfl, by rw [List.length_map]; exact hn, hx.grows i7, hcap⟩
  obtain ⟨b, off, e1, _, _, _, hrd⟩ := (hx.grows i7).el (i := k + 1) (x := [.int .i64 x.st, v1, v2, v3]) (by rw [List.getElem?_map, hzx]; rfl)
  obtain ⟨b', off', e2, _, _, _, hrd'⟩ := (hx.grows i7).el (i := k) (x := [.int .i64 y.st, u1, u2, u3]) (by rw [List.getElem?_map, hzy]; rfl)
  subst e1
  cases e2
  cbv
  rintro _ rfl
  cbv
  refine ⟨_, rb B7 hp6, ?_⟩
  cbv
  refine BinP.dec (by omega) (by omega) (fun z hz => ?_)
  obtain rfl : z = k + 1 := by omega
  cbv
  refine ⟨⟨by omega⟩, fun p1 hp1 => ?_⟩
  cbv
  intro p2 hp2
  cbv
  refine ⟨_, (hrd p1 hp1).cell (i := 0) rfl hp2, ?_⟩
  cbv
  rintro _ rfl
  cbv
  refine ⟨_, rb B7 hp6, ?_⟩
  cbv
  refine BinP.sub (b := 2) (by omega) (by omega) (fun z' hz' => ?_)
  obtain rfl : z' = k := by omega
  cbv
  refine ⟨⟨by omega⟩, fun p3 hp3 => ?_⟩
  cbv
  intro p4 hp4
  cbv
  refine ⟨_, (hrd' p3 hp3).cell (i := 0) rfl hp4, ?_⟩
  cbv
  refine BinP.ofI (And.intro (fun q2 => ?_) (fun q2 => ?_))
  · have q2 : x.st = y.st := q2
    cbv
    intro M L
    have iM := L.grows i7
    have CM : M.m.get b2 = some (.cells (prC (noEnds p) { w with ctrs := .slice none 0 0, users := .slice none 0 0 }) (some 36) true 0) := by rw [L.m]; exact C7
    have hltM : b2 < M.next := by rw [L.next]; exact hlt7
    have BM := (B0.grows iM).get
    have hRM : RowAt M (fun b => S b ∧ b < m2.next) 4 (zs.map (·.2)) (.slice (some ⟨b, off, none⟩) n cap) := ⟨_, _, _, rfl, by rw [List.length_map]; exact hn, hx.mono (fun b h1 h2 => ⟨h1, h2⟩) (fun b _ h2 => iM.keep b h2) iM.next, hcap⟩
    clear C7 B7 hlt7 hR7
    cbv
    rintro _ rfl
    cbv
    refine ⟨_, rb BM hp6, ?_⟩
    cbv
    refine BinP.dec (by omega) (by omega) (fun z2 hz2 => ?_)
    obtain rfl : z2 = z' + 1 := by omega
    cbv
    refine RowAt.take T rfl rfl rfl (by decide) hRM (by omega) _ (fun v hv2 => ?_)
    obtain ⟨sa, sn, sc, hve, he⟩ := hv2.ex
    subst hve
    have hv2 : RowAt M (fun b => S b ∧ b < m2.next) 4 ((zs.map (·.2)).take (z' + 1)) (.slice sa sn sc) := ⟨_, _, _, rfl, he⟩
    cbv
    rintro _ rfl
    cbv
    refine StoP.of CM (Nat.zero_le _) (Nat.le_of_ble_eq_true rfl) rfl (fun m8 P8 => ?_)
    have C8 : m8.m.get b2 = some (.cells (prC (noLast p (z' + 1)) { w with ctrs := .slice none 0 0, users := .slice none 0 0, rules := .slice sa sn sc }) (some 36) true 0) := P8.get
    have i8 : Grows m2 m8 := P8.grows iM (by omega)
    have hv8 : RowAt m8 S 4 ((zs.map (·.2)).take (z' + 1)) (.slice sa sn sc) := hv2.mono (fun b h _ => h.1) (fun b h _ => P8.ne (by have := h.2; omega)) (by rw [P8.next]; exact Nat.le_refl _)
    have hs8 := hs.grows i8
    clear P8 CM BM
    cbv
    refine ⟨_, rbw C8 rfl, ?_⟩
    cbv
    refine ci (noLast p (z' + 1)) { w with ctrs := .slice none 0 0, users := .slice none 0 0, rules := .slice sa sn sc } m8 (hs8.noLast hz1 (fun z hz => (hz3 z hz).grows i8) hv8) _ (fun m9 r hr g9 => ?_)
    have hr := hr.2 (noLast_ok hIs (k := z' + 1) (x := x) (y := y) (by omega) hpx (by omega) hpy q2)
    subst hr
    cbv
    refine ck m9 _ ?_
    cbv
    exact hk _ (G2.trans (i8.trans g9))
  · cbv
    intro M L
    cbv
    refine ck M _ ?_
    cbv
    exact hk _ (L.grows (G2.trans i7))
end
end Go.Proofs.Ytknenadpkgajjaa.GEv

