import Derived.Test.YtknenadpkgajjaaGGsb
/- Reads, Writes, areFiles, areStrata, Is of package rules, by symbolic runs. (Printed by genM.py.) -/
namespace Go.Proofs.Ytknenadpkgajjaa.GEv
open Go
set_option linter.unusedSimpArgs false
set_option linter.unusedVariables false
set_option maxRecDepth 100000
def readsB (f : Int) (r : RuleS) : Bool := r.ifs.any fun x => decide (x.1 = f)
def writesB (f : Int) (r : RuleS) : Bool := r.thens.any fun x => decide (x.1 = f)
section
variable {E : Env} (hE : E = EG)
include hE
theorem cReads11 (f : Int) (x : LitS) (b : Nat) (g : H) (B0 : BoxP g b [.int .i64 f] 3) (K : Value → H → Prop) (hk : ∀ h' r, decide (x.1 = f) = r → Grows g h' → K (.bool r) h') :
    CallP E 35 [.agg (encL x).toArray, .pointer (some ⟨b, 0, none⟩)] g K := by
  refine CallP.ofG hE Try.func35 rfl rfl rfl rfl ?_
  clear hE
  obtain ⟨x1, x2⟩ := x
  cbv
  intro m P
  have B := P.get
  have A' := (B0.grows P.grows).get
  cbv
  rintro _ rfl
  cbv
  refine ⟨_, rb (B) rfl, ?_⟩
  cbv
  refine ⟨_, rb A' rfl, ?_⟩
  cbv
  refine BinP.ofI (And.intro (fun q => ?_) (fun q => ?_))
  · cbv; exact hk _ _ (decide_eq_true q) P.grows
  · cbv; exact hk _ _ (decide_eq_false q) P.grows
theorem cReads1 (f : Int) (r : RuleS) (c : List Value) (b : Nat) (g : H) (S : Nat → Prop) (hr : IsRule g S r c) (B0 : BoxP g b [.int .i64 f] 3) (K : Value → H → Prop) (hk : ∀ h' b, readsB f r = b → Grows g h' → K (.bool b) h') :
    CallP E 33 [.agg c.toArray, .pointer (some ⟨b, 0, none⟩)] g K := by
  have cl := fun m B0 S v hr hl K hk => nConLit hE encL r.ifs (fun x => decide (x.1 = f)) 35 [.pointer (some ⟨b, 0, none⟩)] v m S hr hl (fun x _ m' g' K hk => cReads11 hE f x b m' (BoxP.grows B0 g') K (fun h' r hr g2 => hr ▸ hk _ g2)) K hk
  obtain ⟨v1, v2, v3, rfl, r1, r2, r3, l1, l2, l3⟩ := hr.ex
  refine CallP.ofG hE Try.func33 rfl rfl rfl rfl ?_
  clear hE
  cbv
  intro m P
  have B := P.get
  have G := P.grows
  clear P
  cbv
  rintro _ rfl
  cbv
  refine ⟨_, rb (B) rfl, ?_⟩
  cbv
  refine cl m (B0.grows G) S _ (r1.grows G) l1 _ (fun m2 r hr g2 => ?_)
  cbv
  exact hk _ _ hr (G.trans g2)
theorem cReads (p : PrS) (w : PrV) (f : Int) (g : H) (S : Nat → Prop) (hp : IsPr g S p w) (K : Value → H → Prop) (hk : ∀ m v, RowAt m (fun b => g.next ≤ b) 1 ((strataL (readsB f) p.rules).map encI) v → Grows g m → K v m) :
    CallP E 14 [.agg (prC p w).toArray, .int .i64 f] g K := by
  have cs := fun b m hp B0 K hk => cStrata hE p w (readsB f) 33 [.pointer (some ⟨b, 0, none⟩)] m S hp (fun r c m' g' hr K hk => cReads1 hE f r c b m' S hr (BoxP.grows B0 g') K hk) K hk
  refine CallP.ofG hE Try.func14 rfl rfl rfl rfl ?_
  clear hE
  cbv
  intro m P
  have B1 : BoxP m g.next (prC p w) 36 := P.box
  have G1 := P.grows
  clear P
  generalize g.next = b1 at B1
  intro m2 P2
  have B2 : BoxP m2 m.next [.int .i64 f] 3 := P2.box
  have B1' := (B1.grows P2.grows).get
  have G := G1.trans P2.grows
  clear P2
  generalize m.next = b2 at B2
  cbv
  refine ⟨_, rbw B1' rfl, ?_⟩
  cbv
  refine cs b2 m2 (hp.grows G) B2 _ (fun m3 v hr g3 => ?_)
  obtain ⟨x, y, z, rfl, e⟩ := hr.ex
  have hr : RowAt m3 (fun b => m2.next ≤ b) 1 _ (.slice x y z) := ⟨_, _, _, rfl, e⟩
  cbv
  exact hk _ _ (hr.mono (fun b hb _ => Nat.le_trans G.next hb) (fun _ _ _ => rfl) (Nat.le_refl _)) (G.trans g3)
theorem cWrites11 (f : Int) (x : LitS) (b : Nat) (g : H) (B0 : BoxP g b [.int .i64 f] 3) (K : Value → H → Prop) (hk : ∀ h' r, decide (x.1 = f) = r → Grows g h' → K (.bool r) h') :
    CallP E 39 [.agg (encL x).toArray, .pointer (some ⟨b, 0, none⟩)] g K := by
  refine CallP.ofG hE Try.func39 rfl rfl rfl rfl ?_
  clear hE
  obtain ⟨x1, x2⟩ := x
  cbv
  intro m P
  have B := P.get
  have A' := (B0.grows P.grows).get
  cbv
  rintro _ rfl
  cbv
  refine ⟨_, rb (B) rfl, ?_⟩
  cbv
  refine ⟨_, rb A' rfl, ?_⟩
  cbv
  refine BinP.ofI (And.intro (fun q => ?_) (fun q => ?_))
  · cbv; exact hk _ _ (decide_eq_true q) P.grows
  · cbv; exact hk _ _ (decide_eq_false q) P.grows
theorem cWrites1 (f : Int) (r : RuleS) (c : List Value) (b : Nat) (g : H) (S : Nat → Prop) (hr : IsRule g S r c) (B0 : BoxP g b [.int .i64 f] 3) (K : Value → H → Prop) (hk : ∀ h' b, writesB f r = b → Grows g h' → K (.bool b) h') :
    CallP E 37 [.agg c.toArray, .pointer (some ⟨b, 0, none⟩)] g K := by
  have cl := fun m B0 S v hr hl K hk => nConSet hE encL r.thens (fun x => decide (x.1 = f)) 39 [.pointer (some ⟨b, 0, none⟩)] v m S hr hl (fun x _ m' g' K hk => cWrites11 hE f x b m' (BoxP.grows B0 g') K (fun h' r hr g2 => hr ▸ hk _ g2)) K hk
  obtain ⟨v1, v2, v3, rfl, r1, r2, r3, l1, l2, l3⟩ := hr.ex
  refine CallP.ofG hE Try.func37 rfl rfl rfl rfl ?_
  clear hE
  cbv
  intro m P
  have B := P.get
  have G := P.grows
  clear P
  cbv
  rintro _ rfl
  cbv
  refine ⟨_, rb (B) rfl, ?_⟩
  cbv
  refine cl m (B0.grows G) S _ (r3.grows G) l3 _ (fun m2 r hr g2 => ?_)
  cbv
  exact hk _ _ hr (G.trans g2)
theorem cWrites (p : PrS) (w : PrV) (f : Int) (g : H) (S : Nat → Prop) (hp : IsPr g S p w) (K : Value → H → Prop) (hk : ∀ m v, RowAt m (fun b => g.next ≤ b) 1 ((strataL (writesB f) p.rules).map encI) v → Grows g m → K v m) :
    CallP E 16 [.agg (prC p w).toArray, .int .i64 f] g K := by
  have cs := fun b m hp B0 K hk => cStrata hE p w (writesB f) 37 [.pointer (some ⟨b, 0, none⟩)] m S hp (fun r c m' g' hr K hk => cWrites1 hE f r c b m' S hr (BoxP.grows B0 g') K hk) K hk
  refine CallP.ofG hE Try.func16 rfl rfl rfl rfl ?_
  clear hE
  cbv
  intro m P
  have B1 : BoxP m g.next (prC p w) 36 := P.box
  have G1 := P.grows
  clear P
  generalize g.next = b1 at B1
  intro m2 P2
  have B2 : BoxP m2 m.next [.int .i64 f] 3 := P2.box
  have B1' := (B1.grows P2.grows).get
  have G := G1.trans P2.grows
  clear P2
  generalize m.next = b2 at B2
  cbv
  refine ⟨_, rbw B1' rfl, ?_⟩
  cbv
  refine cs b2 m2 (hp.grows G) B2 _ (fun m3 v hr g3 => ?_)
  obtain ⟨x, y, z, rfl, e⟩ := hr.ex
  have hr : RowAt m3 (fun b => m2.next ≤ b) 1 _ (.slice x y z) := ⟨_, _, _, rfl, e⟩
  cbv
  exact hk _ _ (hr.mono (fun b hb _ => Nat.le_trans G.next hb) (fun _ _ _ => rfl) (Nat.le_refl _)) (G.trans g3)
def FilesTo (l : List Bs) (i : Nat) : Prop := ∀ j s, j < i → l[j]? = some s → s ∉ l.take j
omit hE in
theorem filesTo_iff {l : List Bs} : FilesTo l l.length ↔ l.Nodup := by
  rw [List.nodup_iff_pairwise_ne, List.pairwise_iff_getElem]
  constructor
  · intro h i j hi hj hij e
    refine h j _ hj (List.getElem?_eq_getElem hj) ?_
    rw [← e]
    exact List.mem_take_iff_getElem.2 ⟨i, by omega, rfl⟩
  · intro h j s hj hs hm
    obtain ⟨i, hi, e⟩ := List.mem_take_iff_getElem.1 hm
    have hj' := (List.getElem?_eq_some_iff.1 hs).1
    refine h i j (by omega) hj' (by omega) ?_
    rw [e, (List.getElem?_eq_some_iff.1 hs).2]
omit hE in
/-- The beginning of a row. -/
theorem RowAt.take {m : H} {S : Nat → Prop} {size : Nat} {l : List (List Value)} {a : Option Addr} {n cap k : Nat} {tb : Tb} {E : Env} (T : TbOk tb E.P) {t e : Nat} (ht : slT tb t = some e) {i : TyI} (he : tb e = some i) (hsz : i.size = size) (h0 : 0 < size) (r : RowAt m S size l (.slice a n cap)) (hk : k ≤ n) (K : Value → Prop) (hK : ∀ v, RowAt m S size (l.take k) v → K v) : SliP E t (.slice a n cap) none (some (.int .i64 (.ofNat k))) none K := by
  obtain ⟨a', n', cap', e1, hn, hx, hc⟩ := r.ex
  injection e1 with e1 e2 e3
  subst e1 e2 e3
  have hsize := T.size he
  rw [hsz] at hsize
  obtain ⟨hc1, hc2⟩ := hc
  have hlen : ∀ x ∈ l.take k, x.length = size ∧ x.all one = true := fun x hx' => hx.len x (List.mem_of_mem_take hx')
  have hX : ∀ a', a' = a ∨ k = 0 ∧ NoSpot a' → RowX m S size (l.take k) a' := by
    intro a' ha
    rcases ha with rfl | ⟨rfl, ha⟩
    · refine ⟨hlen, ?_⟩
      rcases hx.ex with ⟨rfl, q⟩ | ⟨b, off, rfl, q2, q3, q4⟩
      · exact .inl ⟨by simp, q⟩
      · refine .inr ⟨b, off, rfl, q2, q3, ?_⟩
        have hcut : cut l.flatten 0 ((l.take k).length * size) = some (l.take k).flatten := by
          obtain ⟨f1, _⟩ := flatten_len hx.len
          obtain ⟨f2, _⟩ := flatten_len hlen
          unfold cut
          rw [if_pos (by rw [f1, Nat.zero_add]; exact Nat.mul_le_mul_right _ (by rw [List.length_take]; omega)), List.drop_zero]
          congr 1
          have : l.flatten = (l.take k).flatten ++ (l.drop k).flatten := by rw [← List.flatten_append, List.take_append_drop]
          rw [this, List.take_append_of_le_length (by omega), List.take_of_length_le (by omega)]
        have := q4.sub hcut
        rw [Nat.add_zero] at this
        exact this
    · exact ⟨hlen, .inl ⟨by simp, ha⟩⟩
  rcases hc2 with hc2 | ⟨hc2, hne⟩
  · by_cases h00 : cap = 0
    · subst h00
      obtain rfl : n = 0 := by omega
      obtain rfl : k = 0 := by omega
      refine ⟨_, ?_, hK (.slice a 0 0) ⟨_, _, _, rfl, by simp, hX a (.inl rfl), ⟨Nat.le_refl _, .inl hc2⟩⟩⟩
      simp only [slice, slT_ok T ht, hsize]
      rw [if_pos hc2]
      simp [bnd]
    · refine ⟨_, ?_, hK (.slice a k cap) ⟨_, _, _, rfl, by rw [List.length_take]; omega, hX a (.inl rfl), ⟨by omega, .inl hc2⟩⟩⟩
      simp only [slice, slT_ok T ht, hsize]
      rw [if_pos hc2]
      simp only [bnd]
      rw [if_pos (show k ≤ cap by omega)]
      simp only [Nat.sub_zero]
      rw [if_pos (by omega), if_neg h00, Nat.zero_mul]
      congr 2
      cases a with
      | none => rfl
      | some a => rfl
  · obtain ⟨ad, rfl⟩ : ∃ ad, a = some ad := by cases a with | none => exact absurd rfl hne | some ad => exact ⟨ad, rfl⟩
    refine ⟨_, ?_, hK (.slice (some ad) k cap) ⟨_, _, _, rfl, by rw [List.length_take]; omega, hX _ (.inl rfl), ⟨by omega, .inr ⟨hc2, hne⟩⟩⟩⟩
    simp only [slice, slT_ok T ht, hsize]
    rw [if_neg (by rw [hc2]; omega)]
    simp only [bnd]
    rw [if_pos hk]
    simp only [Nat.sub_zero]
    rw [if_pos hc2, Nat.zero_mul]
    rfl
theorem cFiles (p : PrS) (w : PrV) (g : H) (S : Nat → Prop) (hp : IsPr g S p w) (K : Value → H → Prop) (hk : ∀ h' r, (r = true ↔ FilesOk p.files) → Grows g h' → K (.bool r) h') :
    CallP E 22 [.agg (prC p w).toArray] g K := by
  have cn := fun l s v g S hr hl K hk => nConStr hE l s v g S hr hl K hk
  have hlen := hp.lens.2.2.1
  obtain ⟨a, n, cap, hv, hn, hx, hcap⟩ := hp.files.ex
  rw [List.length_map] at hn
  refine CallP.ofG hE Try.func22 rfl rfl rfl rfl ?_
  have T := tbOk hE
  clear hE
  cbv
  intro m0 P
  have B0 : BoxP m0 g.next (prC p w) 36 := P.box
  have G0 := P.grows
  clear P
  generalize g.next = b1 at B0
  have B0' := B0.get
  have hp5 : (prC p w)[5]? = some (.slice a n cap) := by rw [← hv]; rfl
  cbv
  rintro _ rfl
  cbv
  refine ⟨_, rb B0' hp5, ?_⟩
  cbv
  refine LoopP.onZ T (fun x : Nat => [(8, .int .i64 (.ofNat x)), (7, .int .i64 (.ofNat n)), (6, .slice a n cap), (1, .pointer (some ⟨b1, 0, none⟩))]) (fun _ => m0) (fun x => x ≤ n ∧ FilesTo p.files x) (fun x => n - x) 0 rfl (Less.cons rfl (Less.cons rfl (Less.cons rfl (Less.cons rfl (Less.nil _))))) ⟨Nat.zero_le _, fun j r hj => by omega⟩ ?_
  rintro i ⟨i1, i2⟩
  cbv
  refine BinP.lt (fun q => ?_) (fun q => ?_)
  · obtain ⟨s, hsi⟩ : ∃ s, p.files[i]? = some s := ⟨_, List.getElem?_eq_getElem (by omega)⟩
    have hnext : FilesTo p.files (i + 1) ↔ s ∉ p.files.take i := by
      constructor
      · intro h; exact h i s (by omega) hsi
      · intro h j x hj hx
        by_cases e : j = i
        · subst e; rw [hsi] at hx; cases hx; exact h
        · exact i2 j x (by omega) hx
    have hR : RowAt m0 S 1 (p.files.map encT) (.slice a n cap) := ⟨_, _, _, rfl, by rw [List.length_map]; exact hn, hx.grows G0, hcap⟩
    obtain ⟨b, off, rfl, _, _, _, hrd⟩ := (hx.grows G0).el (i := i) (x := encT s) (by rw [List.getElem?_map, hsi]; rfl)
    cbv
    refine ⟨⟨q⟩, fun p1 hp1 => ?_⟩
    cbv
    refine ⟨_, hrd p1 hp1, ?_⟩
    cbv
    rintro _ rfl
    cbv
    refine ⟨_, rb B0' hp5, ?_⟩
    cbv
    refine RowAt.take T rfl rfl rfl (by decide) hR i1 _ (fun v hv2 => ?_)
    rw [← List.map_take] at hv2
    obtain ⟨x, y, z, rfl, e⟩ := hv2.ex
    have hv2 : RowAt m0 S 1 ((p.files.take i).map encT) (.slice x y z) := ⟨_, _, _, rfl, e⟩
    cbv
    refine cn (p.files.take i) s _ m0 S hv2 (by rw [List.length_take]; omega) _ (fun r hr => ?_)
    cases r with
    | true =>
      cbv
      refine hk _ _ ⟨fun e => (by cases e), fun e => ?_⟩ G0
      exact absurd (of_decide_eq_true hr) ((filesTo_iff.2 e.1) i s (by omega) hsi)
    | false =>
      cbv
      refine BinP.inc (by omega) (fun z2 hz2 => ?_)
      cbv
      exact ⟨i + 1, Less.cons (by rw [hz2]; rfl) (Less.cons rfl (Less.cons rfl (Less.cons rfl (Less.nil _)))), rfl, ⟨q, hnext.2 (of_decide_eq_false hr)⟩, (by show n - (i + 1) < n - i; omega)⟩
  · obtain rfl : i = n := by omega
    have hnd : p.files.Nodup := filesTo_iff.1 (by rw [hn]; exact i2)
    cbv
    rintro _ rfl
    cbv
    refine ⟨_, rb B0' hp5, ?_⟩
    cbv
    refine BinP.ofN (And.intro (fun q2 => ?_) (fun q2 => ?_))
    · have q2 : i ≤ 6 := q2
      cbv
      exact hk _ _ ⟨fun _ => ⟨hnd, by omega⟩, fun _ => rfl⟩ G0
    · have q2 : 6 < i := q2
      cbv
      exact hk _ _ ⟨fun e => (by cases e), fun e => by have := e.2; omega⟩ G0
end
end Go.Proofs.Ytknenadpkgajjaa.GEv

/- areStrata, Is of package rules, by symbolic runs. -/
namespace Go.Proofs.Ytknenadpkgajjaa.GEv
open Go
set_option linter.unusedSimpArgs false
set_option linter.unusedVariables false
set_option maxRecDepth 100000
def FlagOkS (p : PrS) (i : Nat) : Prop := strataL (writesB i) p.rules = [] ∨ ((i : Int) < p.lasting ∧ (strataL (writesB i) p.rules).head? = some (lastSt p.rules)) ∨ (p.lasting ≤ i ∧ ∀ x y, (strataL (writesB i) p.rules).getLast? = some x → (strataL (readsB i) p.rules).head? = some y → x < y)
theorem strata_le (P : RuleS → Bool) (l : List RuleS) : (strataL P l).length ≤ l.length := by
  unfold strataL
  refine Nat.le_trans (compact_le _) ?_
  unfold sortL
  rw [List.length_mergeSort, List.length_map]
  exact List.length_filter_le _ _
section
variable {E : Env} (hE : E = EG)
include hE
theorem cAreStrata (p : PrS) (w : PrV) (F : Nat) (hF : p.flags = .ofNat F) (hF2 : F ≤ 800) (g : H) (S : Nat → Prop) (hp : IsPr g S p w) (K : Value → H → Prop) (hk : ∀ h' r, (r = true ↔ ∀ i, i < F → FlagOkS p i) → Grows g h' → K (.bool r) h') :
    CallP E 26 [.agg (prC p w).toArray] g K := by
  have cR := fun f m hp K hk => cReads hE p w f m S hp K hk
  have cW := fun f m hp K hk => cWrites hE p w f m S hp K hk
  obtain ⟨zs, hz1, hz2, hz3⟩ := hp.rules.ex
  have hlen := hp.lens.2.2.2.1
  obtain ⟨a, n, cap, hv, hn, hx, hcap⟩ := hz2.ex
  rw [List.length_map] at hn
  have hzl : p.rules.length = zs.length := by rw [← hz1, List.length_map]
  refine CallP.ofG hE Try.func26 rfl rfl rfl rfl ?_
  have T := tbOk hE
  clear hE
  cbv
  intro m0 P
  have B0 : BoxP m0 g.next (prC p w) 36 := P.box
  have G0 := P.grows
  clear P
  generalize g.next = b1 at B0
  have B0' := B0.get
  have hp6 : (prC p w)[6]? = some (.slice a n cap) := by rw [← hv]; rfl
  have hp0 : (prC p w)[0]? = some (.int .i64 (.ofNat F)) := by rw [← hF]; rfl
  cbv
  rintro _ rfl
  cbv
  refine ⟨_, rb B0' hp0, ?_⟩
  cbv
  refine LoopP.onZ T (fun x : H × Nat => [(8, .int .i64 (.ofNat x.2)), (7, .int .i64 (.ofNat F)), (1, .pointer (some ⟨b1, 0, none⟩))]) (fun x => x.1) (fun x => Grows m0 x.1 ∧ x.2 ≤ F ∧ ∀ i, i < x.2 → FlagOkS p i) (fun x => F - x.2) (m0, 0) rfl (Less.cons rfl (Less.cons rfl (Less.cons rfl (Less.nil _)))) ⟨Grows.refl _, Nat.zero_le _, fun j hj => by omega⟩ ?_
  rintro ⟨m, i⟩ ⟨i0, i1, i2⟩
  have i0 : Grows m0 m := i0
  have i1 : i ≤ F := i1
  have i2 : ∀ j, j < i → FlagOkS p j := i2
  have G := G0.trans i0
  cbv
  refine BinP.lt (fun q => ?_) (fun q => ?_)
  · have hnext : FlagOkS p i → ∀ j, j < i + 1 → FlagOkS p j := fun h j hj => by
      by_cases e : j = i
      · rw [e]; exact h
      · exact i2 j (by omega)
    have B1 := (B0.grows i0).get
    cbv
    refine DrawP.ofZ T [] (by kernel_rfl) ?_
    cbv
    refine ⟨_, rbw B1 rfl, ?_⟩
    cbv
    intro h0 U
    have gu := U.like.grows (Grows.refl m)
    refine cR _ h0 (hp.grows (G.trans gu)) _ (fun h1 v1 r1 g1 => DoneP.quiet g1 (fun M hM => ?_))
    have gM : Grows m M := MixP.grows U (Grows.refl m) g1 hM
    have r1 : RowAt M (fun _ => True) 1 _ v1 := r1.mono (fun _ _ _ => trivial) (fun b _ _ => by rw [hM.m]) (Nat.le_of_eq hM.next.symm)
    have B2 := ((B0.grows i0).grows gM).get
    clear hM g1 U gu
    cbv
    refine ⟨_, rbw B2 rfl, ?_⟩
    cbv
    intro h2 U2
    have gu2 := U2.like.grows (Grows.refl M)
    refine cW _ h2 (hp.grows ((G.trans gM).trans gu2)) _ (fun h3 v2 r2 g2 => DoneP.quiet g2 (fun M2 hM2 => ?_))
    have gM2 : Grows M M2 := MixP.grows U2 (Grows.refl M) g2 hM2
    have r2 : RowAt M2 (fun _ => True) 1 _ v2 := r2.mono (fun _ _ _ => trivial) (fun b _ _ => by rw [hM2.m]) (Nat.le_of_eq hM2.next.symm)
    clear hM2 g2 U2 gu2
    have r1 := r1.grows gM2
    obtain ⟨a1, n1, c1, rfl, hn1, x1, _⟩ := r1.ex
    obtain ⟨a2, n2, c2, rfl, hn2, x2, _⟩ := r2.ex
    rw [List.length_map] at hn1 hn2
    have i3 := i0.trans (gM.trans gM2)
    cbv
    intro M3 L3
    have i4 := L3.grows i3
    have G4 := G0.trans i4
    have gL := L3.grows (Grows.refl M2)
    have x1 := x1.grows gL
    have x2 := x2.grows gL
    have B4 := (B0.grows i4).get
    have hx4 := hx.grows G4
    clear L3 gL
    have hsl := strata_le (writesB i) p.rules
    have hsl1 := strata_le (readsB i) p.rules
    cbv
    refine BinP.eq0 (fun q2 => ?_) (fun q2 => ?_)
    · cbv
      refine BinP.inc (by omega) (fun z2 hz2 => ?_)
      cbv
      refine ⟨(M3, i + 1), Less.cons (by rw [hz2]; rfl) (Less.cons rfl (Less.cons rfl (Less.nil _))), rfl, ⟨i4, q, hnext (.inl ?_)⟩, (by show F - (i + 1) < F - i; omega)⟩
      exact List.eq_nil_of_length_eq_zero (show (strataL (writesB (i : Int)) p.rules).length = 0 from hn2.trans q2)
    · obtain ⟨y0, hy0⟩ : ∃ y, (strataL (writesB i) p.rules)[0]? = some y := ⟨_, List.getElem?_eq_getElem (show 0 < (strataL (writesB (i : Int)) p.rules).length by have : (strataL (writesB (i : Int)) p.rules).length = n2 := hn2; omega)⟩
      have hn2 : (strataL (writesB (i : Int)) p.rules).length = n2 := hn2
      have hn1 : (strataL (readsB (i : Int)) p.rules).length = n1 := hn1
      have hhd : (strataL (writesB i) p.rules).head? = some y0 := by rw [List.head?_eq_getElem?]; exact hy0
      have hne : strataL (writesB i) p.rules ≠ [] := fun e => by rw [e] at hn2; simp at hn2; omega
      obtain ⟨b2, o2, rfl, _, _, _, hrd2⟩ := x2.el (i := 0) (x := encI y0) (by rw [List.getElem?_map]; show Option.map encI (strataL (writesB (i : Int)) p.rules)[0]? = _; rw [hy0]; rfl)
      cbv
      rintro _ rfl
      cbv
      refine ⟨_, rb B4 rfl, ?_⟩
      cbv
      refine BinP.ofI (And.intro (fun q3 => ?_) (fun q3 => ?_))
      · have q3 : ((i : Nat) : Int) < p.lasting := q3
        have hrl : 0 < p.rules.length := by omega
        obtain ⟨k, hk2⟩ : ∃ k, k + 1 = n := ⟨n - 1, by omega⟩
        obtain ⟨z, hzk⟩ : ∃ z, zs[k]? = some z := ⟨_, List.getElem?_eq_getElem (by omega)⟩
        obtain ⟨r, c⟩ := z
        have hzm := List.mem_of_getElem? hzk
        have hrk : p.rules[k]? = some r := by rw [← hz1, List.getElem?_map, hzk]; rfl
        have hls : lastSt p.rules = r.st := by
          unfold lastSt
          rw [List.getLast?_eq_getElem?, show p.rules.length - 1 = k by omega, hrk]
        obtain ⟨v1, v2, v3, hc, _⟩ := (hz3 _ hzm).ex
        have hc : c = [.int .i64 r.st, v1, v2, v3] := hc
        subst hc
        obtain ⟨b, off, rfl, _, hbl, _, hrd⟩ := hx4.el (i := k) (x := [.int .i64 r.st, v1, v2, v3]) (by rw [List.getElem?_map, hzk]; rfl)
        cbv
        refine DrawP.ofZ T [] (by kernel_rfl) ?_
        cbv
        refine ⟨⟨q2⟩, fun p1 hp1 => ?_⟩
        cbv
        refine ⟨_, hrd2 p1 (by rw [hp1]), ?_⟩
        cbv
        rintro _ rfl
        cbv
        refine ⟨_, rb B4 hp6, ?_⟩
        cbv
        rintro _ rfl
        cbv
        refine ⟨_, rb B4 hp6, ?_⟩
        cbv
        refine BinP.dec (by omega) (by omega) (fun z3 hz3' => ?_)
        obtain rfl : z3 = k := by omega
        cbv
        refine ⟨⟨by omega⟩, fun p2 hp2 => ?_⟩
        cbv
        intro p3 hp3
        cbv
        refine ⟨_, (hrd p2 hp2).cell (i := 0) rfl hp3, ?_⟩
        cbv
        refine BinP.ofI (And.intro (fun q4 => ?_) (fun q4 => ?_))
        · have q4 : y0 = r.st := q4
          cbv
          intro M5 L5
          cbv
          refine BinP.inc (by omega) (fun z2 hz2 => ?_)
          cbv
          exact ⟨(M5, i + 1), Less.cons (by rw [hz2]; rfl) (Less.cons rfl (Less.cons rfl (Less.nil _))), rfl, ⟨L5.grows i4, q, hnext (.inr (.inl ⟨q3, by rw [hhd, hls, q4]⟩))⟩, (by show F - (i + 1) < F - i; omega)⟩
        · have q4 : y0 ≠ r.st := q4
          cbv
          intro M5 L5
          cbv
          refine hk _ _ ⟨fun e => (by cases e), fun e => ?_⟩ (L5.grows G4)
          exfalso
          rcases e i q with h | ⟨_, h⟩ | ⟨h, _⟩
          · exact hne h
          · rw [hhd, hls] at h; injection h with h; exact q4 h
          · exact absurd h (Int.not_le.2 q3)
      · have q3 : p.lasting ≤ ((i : Nat) : Int) := q3
        obtain ⟨k, hk2⟩ : ∃ k, k + 1 = n2 := ⟨n2 - 1, by omega⟩
        obtain ⟨yl, hyl⟩ : ∃ y, (strataL (writesB i) p.rules)[k]? = some y := ⟨_, List.getElem?_eq_getElem (by rw [hn2]; omega)⟩
        have hlast : (strataL (writesB i) p.rules).getLast? = some yl := by rw [List.getLast?_eq_getElem?, show (strataL (writesB (i : Int)) p.rules).length - 1 = k by rw [hn2]; omega]; exact hyl
        obtain ⟨b2', o2', e2, _, _, _, hrd3⟩ := x2.el (i := k) (x := encI yl) (by rw [List.getElem?_map]; show Option.map encI (strataL (writesB (i : Int)) p.rules)[k]? = _; rw [hyl]; rfl)
        cases e2
        cbv
        refine DrawP.ofZ T [] (by kernel_rfl) ?_
        cbv
        refine BinP.gt0 (fun q5 => ?_) (fun q5 => ?_)
        · obtain ⟨x0, hx0⟩ : ∃ y, (strataL (readsB i) p.rules)[0]? = some y := ⟨_, List.getElem?_eq_getElem (by rw [hn1]; exact q5)⟩
          have hhx : (strataL (readsB i) p.rules).head? = some x0 := by rw [List.head?_eq_getElem?]; exact hx0
          obtain ⟨b3, o3, rfl, _, _, _, hrd4⟩ := x1.el (i := 0) (x := encI x0) (by rw [List.getElem?_map]; show Option.map encI (strataL (readsB (i : Int)) p.rules)[0]? = _; rw [hx0]; rfl)
          cbv
          refine BinP.dec (by omega) (by omega) (fun z3 hz3' => ?_)
          obtain rfl : z3 = k := by omega
          cbv
          refine ⟨⟨by omega⟩, fun p2 hp2 => ?_⟩
          cbv
          refine ⟨_, hrd3 p2 hp2, ?_⟩
          cbv
          refine ⟨⟨q5⟩, fun p3 hp3 => ?_⟩
          cbv
          refine ⟨_, hrd4 p3 (by rw [hp3]), ?_⟩
          cbv
          refine BinP.ofI (And.intro (fun q4 => ?_) (fun q4 => ?_))
          · have q4 : x0 ≤ yl := q4
            cbv
            intro M5 L5
            cbv
            refine hk _ _ ⟨fun e => (by cases e), fun e => ?_⟩ (L5.grows G4)
            exfalso
            rcases e i q with h | ⟨h, _⟩ | ⟨_, h⟩
            · exact hne h
            · exact absurd h (Int.not_lt.2 q3)
            · have := h yl x0 hlast hhx; omega
          · have q4 : yl < x0 := q4
            cbv
            intro M5 L5
            cbv
            refine BinP.inc (by omega) (fun z2 hz2 => ?_)
            cbv
            refine ⟨(M5, i + 1), Less.cons (by rw [hz2]; rfl) (Less.cons rfl (Less.cons rfl (Less.nil _))), rfl, ⟨L5.grows i4, q, hnext (.inr (.inr ⟨q3, fun x y h1 h2 => ?_⟩))⟩, (by show F - (i + 1) < F - i; omega)⟩
            rw [hlast] at h1
            rw [hhx] at h2
            cases h1
            cases h2
            exact q4
        · cbv
          intro M5 L5
          cbv
          refine BinP.inc (by omega) (fun z2 hz2 => ?_)
          cbv
          refine ⟨(M5, i + 1), Less.cons (by rw [hz2]; rfl) (Less.cons rfl (Less.cons rfl (Less.nil _))), rfl, ⟨L5.grows i4, q, hnext (.inr (.inr ⟨q3, fun x y h1 h2 => ?_⟩))⟩, (by show F - (i + 1) < F - i; omega)⟩
          have : strataL (readsB (i : Int)) p.rules = [] := List.eq_nil_of_length_eq_zero (hn1.trans q5)
          rw [this] at h2
          cases h2
  · obtain rfl : i = F := by omega
    cbv
    exact hk _ _ ⟨fun _ => i2, fun _ => rfl⟩ G
end
end Go.Proofs.Ytknenadpkgajjaa.GEv

/- The strata in which flags are read and written: plain laws. -/
namespace Go.Proofs.Ytknenadpkgajjaa.GEv
set_option linter.unusedSimpArgs false
set_option linter.unusedVariables false
theorem compact_mem {a : Int} {zs : List Int} (h : a ∈ Lib.compact zs) : a ∈ zs := by
  unfold Lib.compact Lib.compactUpTo at h
  obtain ⟨j, hj, rfl⟩ := List.mem_map.mp h
  have hj2 : j < zs.length := List.mem_range.mp (List.mem_filter.mp hj).1
  rw [getElem!_pos zs.toArray j (by simpa using hj2)]
  simp
theorem upTo_succ (d : Array Int) (m : Nat) : Lib.compactUpTo d (m + 1) = Lib.compactUpTo d m ++ (if Lib.keeps d m then [d[m]!] else []) := by
  unfold Lib.compactUpTo
  rw [List.range_succ, List.filter_append, List.map_append]
  congr 1
  by_cases h : Lib.keeps d m = true
  · rw [if_pos h]; simp [h]
  · rw [if_neg h]; simp [h]
theorem upTo_last (d : Array Int) : ∀ m, 0 < m → (Lib.compactUpTo d m).getLast? = some d[m - 1]!
  | 0, h => by omega
  | m + 1, _ => by
    rw [upTo_succ]
    by_cases hk : Lib.keeps d m = true
    · rw [if_pos hk]; simp
    · rw [if_neg hk, List.append_nil]
      have hm : 0 < m := by
        rcases Nat.eq_zero_or_pos m with e | e
        · subst e; exact absurd (Lib.keeps_lt_one d 0 (by omega)) hk
        · exact e
      rw [upTo_last d m hm]
      have : d[m]! = d[m - 1]! := by
        by_cases e : d[m]! = d[m - 1]!
        · exact e
        · exact absurd (Lib.keeps_pos e) hk
      rw [Nat.add_sub_cancel, this]
theorem upTo_head (d : Array Int) : ∀ m, 0 < m → (Lib.compactUpTo d m).head? = some d[0]!
  | 0, h => by omega
  | 1, _ => by
    rw [upTo_succ, if_pos (Lib.keeps_lt_one d 0 (by omega))]
    rfl
  | m + 2, _ => by
    have ih := upTo_head d (m + 1) (by omega)
    rw [upTo_succ]
    cases hc : Lib.compactUpTo d (m + 1) with
    | nil => rw [hc] at ih; cases ih
    | cons a l => rw [hc] at ih; simpa using ih
theorem compact_head (zs : List Int) : (Lib.compact zs).head? = zs.head? := by
  cases zs with
  | nil => rfl
  | cons a l =>
    unfold Lib.compact
    rw [upTo_head _ _ (by simp)]
    simp
theorem compact_last (zs : List Int) : (Lib.compact zs).getLast? = zs.getLast? := by
  cases zs with
  | nil => rfl
  | cons a l =>
    unfold Lib.compact
    rw [upTo_last _ _ (by simp), List.getLast?_eq_getElem?]
    rw [List.getElem?_eq_getElem (by simp)]
    rw [getElem!_pos _ _ (by simp)]
    simp
theorem sortL_pair (zs : List Int) : (sortL zs).Pairwise (fun a b => a ≤ b) := by
  have h := List.pairwise_mergeSort (le := fun x y : Int => decide (x ≤ y)) (fun a b c h1 h2 => by simp at *; omega) (fun a b => by simp; omega) zs
  unfold sortL
  exact h.imp (fun h => by simpa using h)
theorem pair_head {l : List Int} (h : l.Pairwise (fun a b => a ≤ b)) {x y : Int} (hx : l.head? = some x) (hy : y ∈ l) : x ≤ y := by
  cases l with
  | nil => cases hx
  | cons a l =>
    injection hx with hx
    subst hx
    rcases List.mem_cons.1 hy with rfl | hy
    · omega
    · exact (List.pairwise_cons.1 h).1 y hy
theorem pair_last {l : List Int} (h : l.Pairwise (fun a b => a ≤ b)) {x y : Int} (hx : l.getLast? = some x) (hy : y ∈ l) : y ≤ x := by
  obtain ⟨m, rfl⟩ := List.getLast?_eq_some_iff.1 hx
  rcases List.mem_append.1 hy with hy | hy
  · exact (List.pairwise_append.1 h).2.2 y hy x (by simp)
  · rw [List.mem_singleton.1 hy]; omega
theorem strata_mem {P : RuleS → Bool} {l : List RuleS} {x : Int} (h : x ∈ strataL P l) : ∃ r ∈ l, P r = true ∧ r.st = x := by
  have h1 := compact_mem h
  unfold sortL at h1
  rw [List.mem_mergeSort] at h1
  obtain ⟨r, hr, rfl⟩ := List.mem_map.mp h1
  have h2 := List.mem_filter.mp hr
  exact ⟨r, h2.1, h2.2, rfl⟩
theorem strata_of {P : RuleS → Bool} {l : List RuleS} {r : RuleS} (hr : r ∈ l) (hp : P r = true) : ∃ x y, (strataL P l).head? = some x ∧ (strataL P l).getLast? = some y ∧ x ≤ r.st ∧ r.st ≤ y := by
  have hm : r.st ∈ sortL ((l.filter P).map (·.st)) := by
    unfold sortL
    rw [List.mem_mergeSort]
    exact List.mem_map.2 ⟨r, List.mem_filter.2 ⟨hr, hp⟩, rfl⟩
  have hs := sortL_pair ((l.filter P).map (·.st))
  unfold strataL
  rw [compact_head, compact_last]
  generalize sortL ((l.filter P).map (·.st)) = zs at hm hs
  cases zs with
  | nil => cases hm
  | cons a t =>
    obtain ⟨y, hy⟩ : ∃ y, (a :: t).getLast? = some y := ⟨_, List.getLast?_eq_some_getLast (by simp)⟩
    exact ⟨a, y, rfl, hy, pair_head hs rfl hm, pair_last hs hy hm⟩
theorem rules_le_last {p : PrS} (hR : RulesOk p) {r : RuleS} (hr : r ∈ p.rules) : r.st ≤ lastSt p.rules := by
  obtain ⟨i, hi, rfl⟩ := List.mem_iff_getElem.1 hr
  have main : ∀ d i, i + d + 1 = p.rules.length → ∀ (h : i < p.rules.length), p.rules[i].st ≤ lastSt p.rules := by
    intro d
    induction d with
    | zero =>
      intro i hi h
      have : lastSt p.rules = p.rules[i].st := by
        unfold lastSt
        rw [List.getLast?_eq_getElem?, show p.rules.length - 1 = i by omega, List.getElem?_eq_getElem h]
      omega
    | succ d ih =>
      intro i hi h
      have h1 := ih (i + 1) (by omega) (by omega)
      have h2 := hR.up i _ _ (List.getElem?_eq_getElem h) (List.getElem?_eq_getElem (by omega))
      omega
  exact main (p.rules.length - i - 1) i (by omega) hi
theorem strataOk_iff {p : PrS} (hR : RulesOk p) {F : Nat} (hF : p.flags = .ofNat F) : (∀ i, i < F → FlagOkS p i) ↔ StrataOk p := by
  have hF : p.flags = (F : Int) := hF
  constructor
  · intro h
    have flg : ∀ r ∈ p.rules, ∀ x ∈ r.thens, ∃ i : Nat, x.1 = (i : Int) ∧ i < F ∧ writesB i r = true := by
      intro r hr x hx
      have h1 := (hR.ok r hr).thens x hx
      have h1 : 0 ≤ x.1 ∧ x.1 < p.flags := h1
      obtain ⟨i, hi⟩ : ∃ i : Nat, x.1 = (i : Int) := ⟨x.1.toNat, by omega⟩
      exact ⟨i, hi, by omega, List.any_eq_true.2 ⟨x, hx, decide_eq_true hi⟩⟩
    refine ⟨fun r hr x hx hl => ?_, fun r hr r' hr' x hx y hy e hl => ?_⟩
    · obtain ⟨i, hi, hiF, hw⟩ := flg r hr x hx
      obtain ⟨a, b, h1, h2, h3, h4⟩ := strata_of hr hw
      have h5 := rules_le_last hR hr
      rcases h i hiF with q | ⟨_, q⟩ | ⟨q, _⟩
      · rw [q] at h1; cases h1
      · rw [q] at h1; injection h1 with h1; omega
      · omega
    · obtain ⟨i, hi, hiF, hw⟩ := flg r hr x hx
      obtain ⟨a, b, h1, h2, h3, h4⟩ := strata_of hr hw
      obtain ⟨a', b', h1', h2', h3', h4'⟩ := strata_of (P := readsB i) hr' (List.any_eq_true.2 ⟨y, hy, decide_eq_true (by rw [← e, hi])⟩)
      rcases h i hiF with q | ⟨q, _⟩ | ⟨_, q⟩
      · rw [q] at h1; cases h1
      · omega
      · have := q b a' h2 h1'
        omega
  · intro h i hi
    by_cases he : strataL (writesB i) p.rules = []
    · exact .inl he
    right
    by_cases hl : (i : Int) < p.lasting
    · left
      refine ⟨hl, ?_⟩
      obtain ⟨x, hx⟩ : ∃ x, (strataL (writesB i) p.rules).head? = some x := by
        cases hq : strataL (writesB i) p.rules with
        | nil => exact absurd hq he
        | cons a l => exact ⟨a, rfl⟩
      rw [hx]
      obtain ⟨r, hr, hp, hs⟩ := strata_mem (List.mem_of_mem_head? hx)
      obtain ⟨y, hy, hy2⟩ := List.any_eq_true.1 hp
      have hy2 := of_decide_eq_true hy2
      rw [← hs, h.lst r hr y hy (by omega)]
    · right
      refine ⟨by omega, fun x y hx hy => ?_⟩
      obtain ⟨r, hr, hp, hs⟩ := strata_mem (List.mem_of_getLast? hx)
      obtain ⟨r', hr', hp', hs'⟩ := strata_mem (List.mem_of_mem_head? hy)
      obtain ⟨u, hu, hu2⟩ := List.any_eq_true.1 hp
      obtain ⟨v, hv, hv2⟩ := List.any_eq_true.1 hp'
      have hu2 := of_decide_eq_true hu2
      have hv2 := of_decide_eq_true hv2
      rw [← hs, ← hs']
      exact h.lap r hr r' hr' u hu v hv (by rw [hu2, hv2]) (by omega)
end Go.Proofs.Ytknenadpkgajjaa.GEv

/- rules.Is, by a symbolic run. -/
namespace Go.Proofs.Ytknenadpkgajjaa.GEv
open Go
set_option linter.unusedSimpArgs false
set_option linter.unusedVariables false
set_option maxRecDepth 100000
theorem ctrOdd_iff (p : PrS) (c : CtrS) : ctrOdd p c = false ↔ CtrOk p c := by
  unfold ctrOdd CtrOk
  simp only [Bool.or_eq_false_iff, Bool.not_eq_false', decide_eq_true_eq]
  constructor
  · rintro ⟨⟨h1, h2⟩, h3⟩; exact ⟨h1, h2, h3⟩
  · rintro ⟨h1, h2, h3⟩; exact ⟨⟨h1, h2⟩, h3⟩
theorem ctrs_iff (p : PrS) {b : Bool} (h : (!p.ctrs.any (ctrOdd p)) = b) : b = true ↔ ∀ c ∈ p.ctrs, CtrOk p c := by
  rw [← h, Bool.not_eq_true', List.any_eq_false]
  constructor
  · intro h c hc; exact (ctrOdd_iff p c).1 (by simpa using h c hc)
  · intro h c hc; rw [(ctrOdd_iff p c).2 (h c hc)]; simp
section
variable {E : Env} (hE : E = EG)
include hE
theorem cIs (p : PrS) (w : PrV) (g : H) (S : Nat → Prop) (hp : IsPr g S p w) (K : Value → H → Prop) (hk : ∀ h' r, (r = true ↔ IsOk p) → Grows g h' → K (.bool r) h') :
    CallP E 9 [.agg (prC p w).toArray] g K := by
  have cw := fun n a b h K hk => cWithin hE n a b h K hk
  have cl := fun l v m hr hl K hk => cLast hE p w l v m S hr hl K hk
  have cf := fun m hp K hk => cFiles hE p w m S hp K hk
  have cr := fun m hp K hk => cRules hE p w m S hp K hk
  have cc := fun m hp K hk => cCounters hE p w m S hp K hk
  have cu := fun m hp K hk => cUsers hE p w m S hp K hk
  have cs := fun F hF hF2 m hp K hk => cAreStrata hE p w F hF hF2 m S hp K hk
  refine CallP.ofG hE Try.func9 rfl rfl rfl rfl ?_
  clear hE
  have hlen := hp.lens
  obtain ⟨a1, n1, c1, e1, k1⟩ := hp.first.ex
  obtain ⟨a2, n2, c2, e2, k2⟩ := hp.over.ex
  have hp2 : (prC p w)[2]? = some (.slice a1 n1 c1) := by rw [← e1]; rfl
  have hp3 : (prC p w)[3]? = some (.slice a2 n2 c2) := by rw [← e2]; rfl
  cbv
  intro m P
  have B : BoxP m g.next (prC p w) 36 := P.box
  have G := P.grows
  clear P
  generalize g.next = b1 at B
  have B' := B.get
  cbv
  rintro _ rfl
  cbv
  refine ⟨_, rb (B') rfl, ?_⟩
  cbv
  refine cw _ _ _ _ _ (fun r h1 => ?_)
  cases r with
  | false => cbv; exact hk _ _ ⟨fun e => (by cases e), fun e => absurd e.flags (of_decide_eq_false h1)⟩ G
  | true =>
    have h1 : Wth p.flags 0 801 := of_decide_eq_true h1
    obtain ⟨F, hF⟩ : ∃ F : Nat, p.flags = .ofNat F := ⟨p.flags.toNat, (Int.toNat_of_nonneg h1.1).symm⟩
    have hF2 : F ≤ 800 := by have := h1.2; rw [hF] at this; have : ((F : Nat) : Int) < 801 := this; omega
    have hp0 : (prC p w)[0]? = some (.int .i64 (.ofNat F)) := by rw [← hF]; rfl
    cbv
    rintro _ rfl
    cbv
    refine ⟨_, rb (B') rfl, ?_⟩
    cbv
    rintro _ rfl
    cbv
    refine ⟨_, rb B' hp0, ?_⟩
    cbv
    refine BinP.inc (by omega) (fun z hz => ?_)
    cbv
    refine cw _ _ _ _ _ (fun r h2 => ?_)
    have hz' : (Int.ofNat z) = p.flags + 1 := by rw [hF, hz]; rfl
    cases r with
    | false => cbv; exact hk _ _ ⟨fun e => (by cases e), fun e => absurd (show Wth p.lasting 0 (.ofNat z) by rw [hz']; exact e.lasting) (of_decide_eq_false h2)⟩ G
    | true =>
      have h2 : Wth p.lasting 0 (p.flags + 1) := by rw [← hz']; exact of_decide_eq_true h2
      cbv
      rintro _ rfl
      cbv
      refine ⟨_, rb (B') rfl, ?_⟩
      cbv
      refine cw _ _ _ _ _ (fun r h3 => ?_)
      cases r with
      | false => cbv; exact hk _ _ ⟨fun e => (by cases e), fun e => absurd e.frm (of_decide_eq_false h3)⟩ G
      | true =>
        have h3 : Wth p.frm 1 21 := of_decide_eq_true h3
        cbv
        refine ⟨_, rbw B' rfl, ?_⟩
        cbv
        rintro _ rfl
        cbv
        refine ⟨_, rb B' hp2, ?_⟩
        cbv
        refine cl p.first _ m ((e1 ▸ hp.first).grows G) hlen.1 _ (fun b m1 h4 g1 => ?_)
        have G1 := G.trans g1
        cases b with
        | false => cbv; exact hk _ _ ⟨fun e => (by cases e), fun e => absurd (h4.2 e.first) (by simp)⟩ G1
        | true =>
          have B1 := (B.grows g1).get
          cbv
          refine ⟨_, rbw B1 rfl, ?_⟩
          cbv
          rintro _ rfl
          cbv
          refine ⟨_, rb B1 hp3, ?_⟩
          cbv
          refine cl p.over _ m1 ((e2 ▸ hp.over).grows G1) hlen.2.1 _ (fun b m2 h5 g2 => ?_)
          have G2 := G1.trans g2
          cases b with
          | false => cbv; exact hk _ _ ⟨fun e => (by cases e), fun e => absurd (h5.2 e.over) (by simp)⟩ G2
          | true =>
            have B2 := ((B.grows g1).grows g2).get
            cbv
            refine ⟨_, rbw B2 rfl, ?_⟩
            cbv
            refine cf m2 (hp.grows G2) _ (fun m3 b h6 g3 => ?_)
            have G3 := G2.trans g3
            cases b with
            | false => cbv; exact hk _ _ ⟨fun e => (by cases e), fun e => absurd (h6.2 e.files) (by simp)⟩ G3
            | true =>
              have B3 := (((B.grows g1).grows g2).grows g3).get
              cbv
              refine ⟨_, rbw B3 rfl, ?_⟩
              cbv
              refine cr m3 (hp.grows G3) _ (fun m4 b h7 g4 => ?_)
              have G4 := G3.trans g4
              cases b with
              | false => cbv; exact hk _ _ ⟨fun e => (by cases e), fun e => absurd (h7.2 e.rules) (by simp)⟩ G4
              | true =>
                have B4 := ((((B.grows g1).grows g2).grows g3).grows g4).get
                cbv
                refine ⟨_, rbw B4 rfl, ?_⟩
                cbv
                refine cc m4 (hp.grows G4) _ (fun m5 b h8 g5 => ?_)
                have G5 := G4.trans g5
                have h8 := ctrs_iff p h8
                cases b with
                | false => cbv; exact hk _ _ ⟨fun e => (by cases e), fun e => absurd (h8.2 e.ctrs) (by simp)⟩ G5
                | true =>
                  have B5 := (((((B.grows g1).grows g2).grows g3).grows g4).grows g5).get
                  cbv
                  refine ⟨_, rbw B5 rfl, ?_⟩
                  cbv
                  refine cu m5 (hp.grows G5) _ (fun m6 b h9 g6 => ?_)
                  have G6 := G5.trans g6
                  cases b with
                  | false => cbv; exact hk _ _ ⟨fun e => (by cases e), fun e => absurd (h9.2 e.users) (by simp)⟩ G6
                  | true =>
                    have B6 := ((((((B.grows g1).grows g2).grows g3).grows g4).grows g5).grows g6).get
                    cbv
                    refine ⟨_, rbw B6 rfl, ?_⟩
                    cbv
                    refine cs F hF hF2 m6 (hp.grows G6) _ (fun m7 b h10 g7 => ?_)
                    have h10 := h10.trans (strataOk_iff (h7.1 rfl) hF)
                    cases b with
                    | false => cbv; exact hk _ _ ⟨fun e => (by cases e), fun e => absurd (h10.2 e.strata) (by simp)⟩ (G6.trans g7)
                    | true => cbv; exact hk _ _ ⟨fun _ => ⟨h1, h2, h3, h4.1 rfl, h5.1 rfl, h6.1 rfl, h7.1 rfl, h8.1 rfl, h9.1 rfl, h10.1 rfl⟩, fun _ => rfl⟩ (G6.trans g7)
end
end Go.Proofs.Ytknenadpkgajjaa.GEv

