import Derived.Test.YtfgemjpoiconbaaGreatDoorGXmxC
import Derived.Test.YtfgemjpoiconbaaGreatDoorGXmS
/- The reader's 'kids' and 'element', by symbolic runs. -/
namespace Go.Proofs.YtfgemjpoiconbaaGreatDoor.GEv
open Go
set_option linter.unusedSimpArgs false
set_option linter.unusedVariables false
set_option maxRecDepth 100000
set_option maxHeartbeats 2000000
/-! ### how many elements there were -/
def ElB (st : Rd) : Prop := st.elems ≤ 401 ∧ (st.err = 0 → st.elems ≤ 400)
structure Sbr (st st' : Rd) : Prop where
  el : st'.elems = st.elems
  er : st'.err = 0 → st.err = 0
theorem Sbr.refl (st : Rd) : Sbr st st := ⟨rfl, fun h => h⟩
theorem Sbr.trans {a b c : Rd} (h : Sbr a b) (k : Sbr b c) : Sbr a c := ⟨k.el.trans h.el, fun e => h.er (k.er e)⟩
theorem ElB.sub {st st' : Rd} (h : ElB st) (k : Sbr st st') : ElB st' := ⟨by rw [k.el]; exact h.1, fun e => by rw [k.el]; exact h.2 (k.er e)⟩
theorem Sbr.go (n : Nat) (st : Rd) : Sbr st (goS n st) := ⟨rfl, fun h => h⟩
theorem Sbr.fail (a e : Nat) (st : Rd) : Sbr st (failS a e st) := by
  unfold failS
  split
  · rename_i h; exact ⟨rfl, fun _ => h⟩
  · exact Sbr.refl st
theorem Sbr.is (s p : Bs) (st : Rd) : Sbr st (isS s p st).2 := by
  unfold isS
  split
  · exact Sbr.go _ _
  · exact Sbr.refl st
theorem Sbr.must (s p : Bs) (st : Rd) : Sbr st (mustS s p st) := by
  have q := Sbr.is s p st
  unfold mustS
  split
  · rename_i e; rw [e] at q; exact q
  · rename_i e; rw [e] at q; exact q.trans (Sbr.fail _ _ _)
theorem Sbr.qual (s : Bs) (st : Rd) : Sbr st (qualS s st).2 := by
  unfold qualS
  show Sbr st (goS _ (if _ then _ else _))
  split
  · exact Sbr.go _ _
  · exact (Sbr.fail _ _ _).trans (Sbr.go _ _)
theorem Sbr.value (s : Bs) (st : Rd) : Sbr st (valueS s st).2 := by
  unfold valueS
  split
  · exact Sbr.go _ _
  · exact Sbr.fail _ _ _
theorem Sbr.attrs (s : Bs) : ∀ (f : Nat) (l : List (Bs × Bs)) (st : Rd) (L : List (Bs × Bs)) (ST : Rd), attrsS s f l st = some (L, ST) → Sbr st ST
  | 0, _, _, _, _, h => by cases h
  | f + 1, l, st, L, ST, h => by
    unfold attrsS at h
    have q0 := Sbr.go (blanksN s st) st
    simp only at h
    split at h
    · cases h; exact q0
    · split at h
      · cases h; exact q0
      · split at h
        · cases h; exact q0
        · split at h
          · cases h; exact q0.trans (Sbr.fail _ _ _)
          · refine (q0.trans ?_).trans (Sbr.attrs s f _ _ L ST h)
            refine Sbr.trans (Sbr.qual s _) (Sbr.trans (b := if _ then _ else _) ?_ (Sbr.trans (Sbr.must s [61] _) (Sbr.value s _)))
            split
            · exact Sbr.fail _ _ _
            · exact Sbr.refl _
theorem Sbr.remarks (s : Bs) : ∀ (f : Nat) (st ST : Rd), remarksS s f st = some ST → Sbr st ST
  | 0, _, _, h => by cases h
  | f + 1, st, ST, h => by
    unfold remarksS at h
    have q0 := Sbr.go (blanksN s st) st
    have q1 := Sbr.is s [60, 33, 45, 45] (goS (blanksN s st) st)
    simp only at h
    split at h
    · split at h
      · cases h; exact q0
      · exact q0.trans (Sbr.remarks s f _ _ h)
    · rename_i st1 e1
      rw [e1] at q1
      have q2 := q0.trans q1
      split at h
      · cases h; exact q2.trans (Sbr.fail _ _ _)
      · rename_i t y hc
        split at h
        · have q3 := Sbr.is s [45, 45, 62] (goS t.length st1)
          split at h
          · rename_i st2 e2
            rw [e2] at q3
            exact (q2.trans ((Sbr.go _ _).trans q3)).trans (Sbr.remarks s f _ _ h)
          · rename_i st2 e2
            rw [e2] at q3
            exact ((q2.trans ((Sbr.go _ _).trans q3)).trans (Sbr.fail _ _ _)).trans (Sbr.remarks s f _ _ h)
        · cases h; exact q2.trans (Sbr.fail _ _ _)
mutual
theorem elB_el (s : Bs) : ∀ (f d : Nat) (st : Rd) (e : El) (ST : Rd), ElB st → elementS s f d st = some (e, ST) → ElB ST
  | 0, _, _, _, _, _, h => by simp [elementS] at h
  | f + 1, d, st, e, ST, hb, h => by
    unfold elementS at h
    simp only at h
    split at h
    · rename_i hr
      have he : st.err = 0 := by
        unfold restS at hr
        split at hr
        · rename_i q; exact q
        · simp at hr
      have hb1 := hb.2 he
      split at h
      · cases h
        simp only [failS, he, if_true]
        exact ⟨by show st.elems + 1 ≤ 401; omega, fun q => by cases q⟩
      · have b1 : ElB { st with elems := st.elems + 1 } := ⟨by show st.elems + 1 ≤ 401; omega, fun _ => by show st.elems + 1 ≤ 400; omega⟩
        have b2 := b1.sub ((Sbr.go 1 _).trans (Sbr.qual s (goS 1 { st with elems := st.elems + 1 })))
        generalize qualS s (goS 1 { st with elems := st.elems + 1 }) = ks at h b2
        split at h
        · cases h
        · rename_i a st2 ha
          have b3 := b2.sub (Sbr.attrs s _ _ _ _ _ ha)
          have q3 := Sbr.is s [47, 62] st2
          split at h
          · rename_i st3 e3
            rw [e3] at q3
            cases h
            exact b3.sub q3
          · rename_i st3 e3
            rw [e3] at q3
            split at h
            · rename_i k st4 hk
              cases h
              exact elB_k s f _ _ _ _ _ _ (b3.sub (q3.trans (Sbr.must s _ _))) hk
            · cases h
    · cases h
      exact hb.sub (Sbr.fail _ _ _)
theorem elB_k (s : Bs) : ∀ (f : Nat) (n : Bs) (d : Nat) (l : List El) (st : Rd) (L : List El) (ST : Rd), ElB st → kidsS s f n d l st = some (L, ST) → ElB ST
  | 0, _, _, _, _, _, _, _, h => by simp [kidsS] at h
  | f + 1, n, d, l, st, L, ST, hb, h => by
    unfold kidsS at h
    split at h
    · cases h; exact hb
    · split at h
      · cases h
      · rename_i st1 hr
        have b1 := hb.sub (Sbr.remarks s _ _ _ hr)
        have q2 := Sbr.is s [60, 47] st1
        split at h
        · rename_i st2 e2
          rw [e2] at q2
          cases h
          refine b1.sub (q2.trans ((Sbr.qual s _).trans (Sbr.trans (b := if _ then _ else _) ?_ ((Sbr.go _ _).trans (Sbr.must s _ _)))))
          split
          · exact Sbr.refl _
          · exact Sbr.fail _ _ _
        · rename_i st2 e2
          rw [e2] at q2
          split at h
          · rename_i e st3 he
            exact elB_k s f n d _ _ _ _ (elB_el s f d _ _ _ (b1.sub q2) he) h
          · cases h
end
/-! ### rows of elements -/
theorem IsRow.kids {h : H} {g : Nat} {l : List El} {cs : List (List Value)} {v : Value} (hi : IsRow h g 25 4 cs v) (hl : cs.length = l.length) (he : ∀ (i : Nat) (e : El) (c : List Value), l[i]? = some e → cs[i]? = some c → IsEl h (fun x => g ≤ x) e c) : IsKs h (fun c => g ≤ c) l v := by
  rcases hi.ex with ⟨q, rfl⟩ | ⟨r, q1, q2, q3, q4, q5⟩
  · have : l = [] := by
      subst q
      exact List.eq_nil_of_length_eq_zero hl.symm
    subst this
    exact ⟨none, 0, rfl, .inl ⟨rfl, fun _ e => by cases e⟩⟩
  · rw [hl] at q1
    refine ⟨_, _, q1, .inr ⟨r, 0, fun i => cs.getD i [], rfl, q4, q3, fun i hi' => ?_, fun i x hx => ?_⟩⟩
    · have hx : cs[i]? = some (cs.getD i []) := by
        rw [List.getD_eq_getElem?_getD, List.getElem?_eq_getElem (by omega)]
        rfl
      obtain ⟨r', e1, _, _, e4⟩ := hi.at hx
      rw [hl, q1] at e1
      injection e1 with e1
      injection e1 with e1
      injection e1 with e1
      subst e1
      exact e4
    · have hlt := (List.getElem?_eq_some_iff.1 hx).1
      have hc : cs[i]? = some (cs.getD i []) := by
        rw [List.getD_eq_getElem?_getD, List.getElem?_eq_getElem (by omega)]
        rfl
      exact he i x _ hx hc
theorem elFill {c : List Value} (h : c.length = 4) : fillL (fun i => some (i * 4, 4)) (rep (Value.agg #[.string ⟨⟨[]⟩⟩, .slice none 0 0, .slice none 0 0, .int .i64 0]).cells.toList 1) [(0, .agg c.toArray)] = some c := by
  match c, h with
  | [x, y, z, w], _ => rfl
/-- What an element's contract says, for one amount of fuel. -/
def ElC (E : Env) (b : Nat) (s : Bs) (f : Nat) : Prop := ∀ (d : Nat) (st : Rd) (g0 h : H) (e : El) (ST : Rd) (K : Value → H → Prop), d ≤ 12 → IsRd g0 h b s st → st.at' ≤ s.length → ElB st → elementS s f d st = some (e, ST) →
  (∀ c h', IsRd g0 h' b s ST → ST.at' ≤ s.length → Keep b h h' → IsEl h' (fun x => h.next ≤ x) e c → K (.agg c.toArray) h') → CallP E 26 [.pointer (some ⟨b, 0, none⟩), .int .i64 (.ofNat d)] h K
def KsC (E : Env) (b : Nat) (s : Bs) (f : Nat) : Prop := ∀ (n : Bs) (d : Nat) (st : Rd) (g0 h : H) (k : List El) (ST : Rd) (K : Value → H → Prop), d ≤ 12 → IsRd g0 h b s st → st.at' ≤ s.length → ElB st → kidsS s f n d [] st = some (k, ST) →
  (∀ v h', IsRd g0 h' b s ST → ST.at' ≤ s.length → Keep b h h' → IsKs h' (fun x => h.next ≤ x) k v → K v h') → CallP E 48 [.pointer (some ⟨b, 0, none⟩), .string ⟨⟨n⟩⟩, .int .i64 (.ofNat d)] h K
attribute [local cbv_opaque] isString isSlice isBoolT fOff iSize eqNil zero H.load H.store H.push H.dip H.put List.length Nat.add Nat.sub Nat.mul List.take List.drop top Addr.add mixH restS isS failS goS mustS blanksN qualS valueS isQual cmpJ ariJ List.getD append
attribute [local cbv_eval] List.length_cons List.length_nil addr_add mixH_top
theorem xKids {E : Env} (hE : E = EMY) (f0 : Nat) (hf : f0 ≤ 10000) (b : Nat) (s : Bs) (hs : s.length ≤ 100000) (ih : ∀ f, f < f0 → ElC E b s f) : KsC E b s f0 := by
  intro n d st0 g0 h k ST K hd hr0 ha0 hb0 hf0 hk
  have T : TyOk E.P := by rw [hE]; exact tyOk
  have R : RdOk E.P := by rw [hE]; exact rdOk
  have RT : RowT E.P 23 25 4 := by rw [hE]; exact rowElem
  have zE : zero E.P 25 = some (.agg #[.string ⟨⟨[]⟩⟩, .slice none 0 0, .slice none 0 0, .int .i64 0]) := by rw [hE]; exact zElem
  have n1 := fun st h hr ha K hk => xBlanks hE b s (by omega) st g0 h hr ha K hk
  have n3 := fun st a e h hr K hk => nFails hE b s st a e g0 h hr K hk
  have n4 := fun p hp st h hr ha K hk => xIs hE b s p hp (by omega) st g0 h hr ha K hk
  have n5 := fun f st h hr ha ST hf K hk => xRemarks hE f b s hs st g0 h hr ha ST hf K hk
  have n6 := fun st h hr ha K hk => xQual hE b s (by omega) st g0 h hr ha K hk
  have n7 := fun p hp st h hr ha K hk => xMust hE b s p hp (by omega) st g0 h hr ha K hk
  refine CallP.ofXE hE rfl Tryz.func48 rfl (Nat.le_of_ble_eq_true rfl) ?_
  clear hE
  cbv
  refine LoopP.onX (fun x : H × List El × List (List Value) × Value × Rd × Nat => [(7, x.2.2.2.1), (0, .pointer (some ⟨b, 0, none⟩)), (1, .string ⟨⟨n⟩⟩), (2, .int .i64 (.ofNat d))]) (fun x => x.1) (fun x => IsRd g0 x.1 b s x.2.2.2.2.1 ∧ Keep b h x.1 ∧ x.2.2.2.2.1.at' ≤ s.length ∧ ElB x.2.2.2.2.1 ∧ x.2.1.length + x.2.2.2.2.2 ≤ f0 ∧ IsRow x.1 h.next 25 4 x.2.2.1 x.2.2.2.1 ∧ x.2.2.1.length = x.2.1.length ∧ (∀ (i : Nat) (e : El) (c : List Value), x.2.1[i]? = some e → x.2.2.1[i]? = some c → IsEl x.1 (fun y => h.next ≤ y ∧ NotAt x.2.2.2.1 y) e c) ∧ kidsS s x.2.2.2.2.2 n d x.2.1 x.2.2.2.2.1 = some (k, ST)) (fun x => x.2.2.2.2.2) (h, [], [], .slice none 0 0, st0, f0) rfl (Less.cons rfl (Less.cons rfl (Less.cons rfl (Less.cons rfl (Less.nil _))))) ⟨hr0, Keep.refl b h, ha0, hb0, by simp, IsRow.nil _ _ _ _, rfl, fun i e c h => by simp at h, hf0⟩ ?_
  rintro ⟨m, l, cs, v, st, f⟩ ⟨j1, j2, j3, j4, j5, j6, j7, j8, j9⟩
  have i1 : IsRd g0 m b s st := j1
  have i2 : Keep b h m := j2
  have i3 : st.at' ≤ s.length := j3
  have i4 : ElB st := j4
  have i5 : l.length + f ≤ f0 := j5
  have i6 : IsRow m h.next 25 4 cs v := j6
  have i7 : cs.length = l.length := j7
  have i8 : ∀ (i : Nat) (e : El) (c : List Value), l[i]? = some e → cs[i]? = some c → IsEl m (fun y => h.next ≤ y ∧ NotAt v y) e c := j8
  have i9 : kidsS s f n d l st = some (k, ST) := j9
  clear j1 j2 j3 j4 j5 j6 j7 j8 j9
  cases f with
  | zero => simp [kidsS] at i9
  | succ f =>
  have hbh := hr0.lt
  -- what stands is as it was where only the reader changed
  have keepRow : ∀ m', Keep b m m' → IsRow m' h.next 25 4 cs v := fun m' q => i6.keep q.next (fun r h1 h2 h3 => q.keep r h2 (by omega))
  have keepEl : ∀ m', Keep b m m' → ∀ (i : Nat) (e : El) (c : List Value), l[i]? = some e → cs[i]? = some c → IsEl m' (fun y => h.next ≤ y ∧ NotAt v y) e c := fun m' q i e c h1 h2 => (i8 i e c h1 h2).mono (fun _ p _ => p) (fun r h3 h4 => q.keep r h4 (by omega)) q.next
  have fin : ∀ m', Keep b m m' → IsKs m' (fun x => h.next ≤ x) l v := fun m' q => (keepRow m' q).kids i7 (fun i e c h1 h2 => (keepEl m' q i e c h1 h2).mono (fun _ p _ => p.1) (fun _ _ _ => rfl) (Nat.le_refl _))
  have L3 := ld_one (P := E.P) (i := 3) R.eA R.eS (read_cells i1.ex rfl) rfl
  unfold kidsS at i9
  cbv
  refine ⟨3, R.r3, ?_⟩
  cbv
  refine ⟨_, L3, ?_⟩
  cbv
  refine And.intro (fun q => ?_) (fun q => ?_)
  · have q : st.err = 0 := q
    rw [if_neg (by simp [q])] at i9
    cases hrem : remarksS s f st with
    | none => rw [hrem] at i9; cases i9
    | some st1 =>
    rw [hrem] at i9
    simp only at i9
    have b1 := i4.sub (Sbr.remarks s _ _ _ hrem)
    cbv
    refine .inl (n5 f st _ i1 i3 st1 hrem _ (fun v1 m1 r1 h1 k1 => ?_))
    have L1 := ld_one (P := E.P) (i := 1) T.iA T.iS (read_cells r1.ex rfl) rfl
    cbv
    refine ⟨1, R.r1, ?_⟩
    cbv
    refine ⟨_, L1, ?_⟩
    have h2 := is_le (p := [60, 47]) h1
    have b2 := b1.sub (Sbr.is s [60, 47] st1)
    have n4a := n4 [60, 47] (by simp) st1
    obtain ⟨z, st2, hz⟩ : ∃ z st', isS s [60, 47] st1 = (z, st') := ⟨_, _, rfl⟩
    rw [hz] at i9 h2 b2 n4a
    have h2 : st2.at' ≤ s.length := h2
    have b2 : ElB st2 := b2
    cbv
    refine .inl (n4a _ r1 h1 _ (fun m2 r2 k2 => ?_))
    have k2' := k1.trans k2
    cases z
    · simp only at i9
      cases hel : elementS s f d st2 with
      | none => rw [hel] at i9; cases i9
      | some p =>
      obtain ⟨e, st3⟩ := p
      rw [hel] at i9
      simp only at i9
      have b3 := elB_el s f d _ _ _ b2 hel
      cbv
      refine .inl (ih f (by omega) d st2 g0 _ e st3 _ hd r2 h2 b2 hel (fun c m3 r3 h3 k3 e3 => ?_))
      have k3' := k2'.trans k3
      cbv
      refine raw_buildSlice rfl RT.u zE T.eS (by decide) (c := c) (elFill e3.len) ?_
      have g4 : Grows m3 (m3.push (.cells c (some 25) true 0)) := (Grows.refl m3).push _
      have B4 : (m3.push (.cells c (some 25) true 0)).m.get m3.next = some (.cells c (some 25) true 0) := box_get _ _
      have N4 : (m3.push (.cells c (some 25) true 0)).next = m3.next + 1 := rfl
      generalize m3.push (.cells c (some 25) true 0) = m4 at g4 B4 N4 ⊢
      have k4 := k3'.trans (.of g4)
      have hmn := k3'.next
      have hm2 := k2'.next
      have hhn := i2.next
      have hgb := hr0.ge
      have e4 := e3.grows g4
      obtain ⟨v', h', ha1, ha2, ha3, ha4, ha5, ha6⟩ := row_append (q := m3.next) RT (keepRow _ k4) (i2.trans k4).next (by rw [i7]; omega) B4 e3.len e3.one (by omega) (NotAt.of_lt i6 (.inr hmn))
      cbv
      refine raw_appendS rfl rfl RT.u ha1 ?_
      cbv
      have hfar : ∀ x, m.next ≤ x → NotAt v x := fun x hx => NotAt.of_lt i6 (.inr hx)
      have G5 : Grows g0 h' := grows_row (r3.gr.trans g4) (by rw [ha3]; exact Nat.le_succ _) (fun r hr => ha5 r (by omega) (NotAt.of_lt i6 (.inl (by omega)))) (by
        rcases ha6 with q | q
        · exact .inl q
        · exact .inr (by omega))
      have r5 : IsRd g0 h' b s st3 := by
        refine ⟨by rw [ha3]; omega, hgb, G5, ?_⟩
        rw [ha5 b (by omega) (NotAt.of_lt i6 (.inl hbh)), g4.keep b (by omega)]
        exact r3.ex
      have k5 : Keep b h h' := by
        refine ⟨by rw [ha3]; omega, fun x hx hxb => ?_⟩
        rw [ha5 x (by omega) (NotAt.of_lt i6 (.inl hx))]
        exact (i2.trans k4).keep x hx hxb
      refine ⟨(h', l ++ [e], cs ++ [c], v', st3, f), Less.cons rfl (Less.cons rfl (Less.cons rfl (Less.cons rfl (Less.nil _)))), rfl, ⟨r5, k5, h3, b3, by simp; omega, ha2, by simp [i7], ?_, i9⟩, Nat.lt_succ_self _⟩
      intro i x y hx hy
      have hx : (l ++ [e])[i]? = some x := hx
      have hy : (cs ++ [c])[i]? = some y := hy
      show IsEl h' (fun y => h.next ≤ y ∧ NotAt v' y) x y
      rcases Nat.lt_or_ge i l.length with hil | hil
      · rw [List.getElem?_append_left hil] at hx
        rw [List.getElem?_append_left (by omega)] at hy
        exact (keepEl m4 k4 i x y hx hy).mono (fun r p hr => ⟨p.1, ha4 r hr⟩) (fun r p hr => ha5 r hr p.2) (by omega)
      · rw [List.getElem?_append_right hil] at hx
        rw [List.getElem?_append_right (by omega)] at hy
        have hi0 : i = l.length := by
          have := (List.getElem?_eq_some_iff.1 hx).1
          simp at this
          omega
        subst hi0
        rw [Nat.sub_self] at hx
        rw [i7, Nat.sub_self] at hy
        obtain rfl : e = x := by simpa using hx
        obtain rfl : c = y := by simpa using hy
        exact e4.mono (fun r p hr => ⟨by have : m2.next ≤ r := p; omega, ha4 r hr⟩) (fun r p hr => ha5 r hr (hfar r (by have : m2.next ≤ r := p; omega))) (by omega)
    · simp only at i9
      have h3 := qual_le h2
      have n6a := n6 st2
      obtain ⟨e, st3, hq⟩ : ∃ e st', qualS s st2 = (e, st') := ⟨_, _, rfl⟩
      rw [hq] at i9 h3 n6a
      have h3 : st3.at' ≤ s.length := h3
      cbv
      refine .inl (n6a _ r2 h2 _ (fun m3 r3 k3 => ?_))
      have k3' := k2'.trans k3
      cbv
      refine And.intro (fun q => ?_) (fun q => ?_)
      · have q : e = n := q
        rw [if_pos q] at i9
        have h4 := blanks_le h3
        have h5 := must_le (p := [62]) h4
        obtain ⟨rfl, rfl⟩ : l = k ∧ mustS s [62] (goS (blanksN s st3) st3) = ST := by simpa using i9
        cbv
        refine .inl (n1 st3 _ r3 h3 _ (fun m4 r4 k4 => ?_))
        generalize goS (blanksN s st3) st3 = st4 at *
        generalize decide (0 < blanksN s st3) = zz
        cbv
        refine .inl (n7 [62] (by simp) st4 _ r4 h4 _ (fun v5 m5 r5 k5 => ?_))
        have kk := k3'.trans (k4.trans k5)
        cbv
        exact ⟨_, rfl, hk _ _ r5 h5 (i2.trans kk) (fin m5 kk)⟩
      · have q : ¬ e = n := q
        rw [if_neg q] at i9
        cbv
        refine .inl (n3 st3 st1.at' 2 _ r3 _ (fun v4 m4 r4 k4 => ?_))
        have h3 : (failS st1.at' 2 st3).at' ≤ s.length := by rw [fail_at]; exact h3
        generalize failS st1.at' 2 st3 = st3 at i9 r4 h3
        have h4 := blanks_le h3
        have h5 := must_le (p := [62]) h4
        obtain ⟨rfl, rfl⟩ : l = k ∧ mustS s [62] (goS (blanksN s st3) st3) = ST := by simpa using i9
        cbv
        refine .inl (n1 st3 _ r4 h3 _ (fun m5 r5 k5 => ?_))
        generalize goS (blanksN s st3) st3 = st4 at *
        generalize decide (0 < blanksN s st3) = zz
        cbv
        refine .inl (n7 [62] (by simp) st4 _ r5 h4 _ (fun v6 m6 r6 k6 => ?_))
        have kk := k3'.trans (k4.trans (k5.trans k6))
        cbv
        exact ⟨_, rfl, hk _ _ r6 h5 (i2.trans kk) (fin m6 kk)⟩
  · have q : ¬ st.err = 0 := q
    rw [if_pos q] at i9
    obtain ⟨rfl, rfl⟩ : l = k ∧ st = ST := by simpa using i9
    cbv
    exact ⟨_, rfl, hk _ _ i1 i3 i2 (fin m (Keep.refl b m))⟩
end Go.Proofs.YtfgemjpoiconbaaGreatDoor.GEv

/- The reader's 'element', by a symbolic run. -/
namespace Go.Proofs.YtfgemjpoiconbaaGreatDoor.GEv
open Go
set_option linter.unusedSimpArgs false
set_option linter.unusedVariables false
set_option maxRecDepth 100000
set_option maxHeartbeats 2000000
theorem IsEl.of {h : H} {S : Nat → Prop} {n : Bs} {a : List (Bs × Bs)} {k : List El} {p : Int} {va vk : Value} (ha : IsAt h S a va) (hk : IsKs h S k vk) : IsEl h S (.mk n a k p) [.string ⟨⟨n⟩⟩, va, vk, .int .i64 p] := by
  obtain ⟨x, cap, rfl, q | ⟨b, off, d, rfl, h1, h2, h3, h4⟩⟩ := hk
  · obtain ⟨rfl, q⟩ := q
    exact .leaf ha q
  · by_cases hk : k = []
    · subst hk
      exact .leaf ha (fun x e => by cases e; rfl)
    · exact .node d ha hk h1 h2 h3 h4
abbrev zC : List Value := [.string ⟨⟨[]⟩⟩, .slice none 0 0, .slice none 0 0, .int .i64 0]
/-- An element is built of its place. -/
structure ElBuild (P : Program) (fs : Array Field) : Prop where
  u : P.underlying 25 = some (.struct fs)
  f : ∀ p : Int, fillL (fun i => (fs[i]?).bind fun f => (sizeOf P f.type).map fun s => (f.offset, s)) zC [(3, .int .i64 p)] = some [.string ⟨⟨[]⟩⟩, .slice none 0 0, .slice none 0 0, .int .i64 p]
  f0 : fillL (fun i => (fs[i]?).bind fun f => (sizeOf P f.type).map fun s => (f.offset, s)) zC [] = some zC
  a : fs.toList.all (fun f => (sizeOf P f.type).isSome) = true
theorem elBuild : ∃ fs, ElBuild EM.P fs := by
  obtain ⟨f1, f2, f3, f4, h, t1, t2, t3, t4, o1, o2, o3, o4⟩ := elemFs
  have T : TyOk EM.P := tyOk
  refine ⟨#[f1, f2, f3, f4], h, fun p => ?_, rfl, by simp [t1, t2, t3, t4, T.sS, T.lS, T.kS, T.iS]⟩
  have e3 : ((#[f1, f2, f3, f4] : Array Field)[3]?) = some f4 := rfl
  simp only [fillL, e3, Option.bind_some, t4, T.iS, Option.map_some, o4]
  rfl
theorem IsKs.mono {h h' : H} {S S' : Nat → Prop} {l : List El} {v : Value} (hS : ∀ b, S b → b < h.next → S' b) (hk : ∀ b, S b → b < h.next → h'.m.get b = h.m.get b) (hn : h.next ≤ h'.next) (hi : IsKs h S l v) : IsKs h' S' l v := by
  obtain ⟨a, cap, e, q⟩ := hi
  refine ⟨a, cap, e, ?_⟩
  rcases q with q | ⟨b, off, d, q1, q2, q3, q4, q5⟩
  · exact .inl q
  · exact .inr ⟨b, off, d, q1, hS b q2 q3, Nat.lt_of_lt_of_le q3 hn, fun i hi => read_keep (hk b q2 q3) (q4 i hi), fun i x hx => (q5 i x hx).mono hS hk hn⟩
theorem res_cell {P : Program} {l : L} {h : H} {a : Nat} {t : TypeId} {x : Addr} {v : Value} (hl : look l a = some (.pointer (some x))) (hx : h.load P t x = some v) : resL P l h [.cell a t] = some [v] := by
  simp only [resL, hl, hx]
attribute [local cbv_opaque] isString isSlice isBoolT fOff iSize eqNil zero H.load H.store H.push H.dip H.put List.length Nat.add Nat.sub Nat.mul List.take List.drop top Addr.add mixH restS isS failS goS mustS blanksN qualS valueS isQual cmpJ ariJ List.getD append
attribute [local cbv_eval] List.length_cons List.length_nil addr_add mixH_top
theorem xElement1 {E : Env} (hE : E = EMY) (f0 : Nat) (hf : f0 ≤ 10000) (b : Nat) (s : Bs) (hs : s.length ≤ 100000) (ih : KsC E b s f0) : ElC E b s (f0 + 1) := by
  intro d st g0 h e ST K hd hr0 ha0 hb0 hel hk
  have T : TyOk E.P := by rw [hE]; exact tyOk
  have R : RdOk E.P := by rw [hE]; exact rdOk
  have zE : zero E.P 25 = some (.agg #[.string ⟨⟨[]⟩⟩, .slice none 0 0, .slice none 0 0, .int .i64 0]) := by rw [hE]; exact zElem
  obtain ⟨fs, EB⟩ : ∃ fs, ElBuild E.P fs := by rw [hE]; exact elBuild
  have n2 := fun st h hr ha K hk => nRest hE b s st g0 h hr ha K hk
  have n3 := fun st a e h hr K hk => nFails hE b s st a e g0 h hr K hk
  have n4 := fun p hp st h hr ha K hk => xIs hE b s p hp (by omega) st g0 h hr ha K hk
  have n5 := fun l h K hk => nPrefix hE l [60] (by simp) h K hk
  have n6 := fun st h hr ha K hk => xQual hE b s (by omega) st g0 h hr ha K hk
  have n7 := fun p hp st h hr ha K hk => xMust hE b s p hp (by omega) st g0 h hr ha K hk
  have n8 := fun st h hr ha L ST hf K hk => xAttrs hE f0 b s hs st g0 h hr ha L ST hf K hk
  refine CallP.ofXE hE rfl Tryz.func26 rfl (Nat.le_of_ble_eq_true rfl) ?_
  clear hE
  have hbh := hr0.lt
  have hgb := hr0.ge
  cbv
  refine ⟨_, zE, ?_⟩
  have g1 : Grows h (h.push (boxO zC)) := (Grows.refl h).push _
  have B1 : (h.push (boxO zC)).m.get h.next = some (boxO zC) := box_get _ _
  have N1 : (h.push (boxO zC)).next = h.next + 1 := rfl
  cbv
  generalize hm1 : h.push _ = m1
  have g1 : Grows h m1 := by subst hm1; exact g1
  have B1 : m1.m.get h.next = some (boxO zC) := by subst hm1; exact B1
  have N1 : m1.next = h.next + 1 := by subst hm1; exact N1
  clear hm1
  have r1 : IsRd g0 m1 b s st := ⟨by omega, hgb, hr0.gr.trans g1, (g1.keep b hbh).trans hr0.ex⟩
  have L1 := ld_one (P := E.P) (i := 1) T.iA T.iS (read_cells r1.ex rfl) rfl
  refine ⟨1, R.r1, ?_⟩
  cbv
  refine ⟨_, L1, ?_⟩
  cbv
  refine raw_build rfl zE EB.u (EB.f _) EB.a ?_
  cbv
  refine ⟨_, zE, ?_⟩
  cbv
  have S2 : (m1.push (boxO zC)).store E.P 25 ⟨m1.next, 0, none⟩ (.agg (elC [] none 0 0 none 0 0 st.at').toArray) = some ((m1.push (boxO zC)).put m1.next (some (boxO (elC [] none 0 0 none 0 0 st.at')))) := st_agg T.eS (box_get _ _) rfl rfl rfl
  refine ⟨_, S2, ?_⟩
  obtain ⟨_, g2, B2, N2⟩ := laid g1 (boxO zC) (elC [] none 0 0 none 0 0 st.at') (some 25) true
  generalize (m1.push (boxO zC)).put m1.next (some (boxO (elC [] none 0 0 none 0 0 st.at'))) = m2 at g2 B2 N2 ⊢
  clear S2
  have r2 : IsRd g0 m2 b s st := ⟨by omega, hgb, r1.gr.trans g2, (g2.keep b (by omega)).trans r1.ex⟩
  have Z2 : m2.m.get h.next = some (boxO zC) := (g2.keep h.next (by omega)).trans B1
  have k2 : Keep b h m2 := (Keep.of g1).trans (.of g2)
  have nb4 : h.next ≠ b := by omega
  have nb5 : m1.next ≠ b := by omega
  -- the end: the result's cell is written, and read
  have fin : ∀ (m : H) (C : List Value), m.m.get h.next = some (boxO zC) → C.length = 4 → C.all one = true → IsRd g0 m b s ST → ST.at' ≤ s.length → Keep b h m → IsEl m (fun x => m1.next < x) e C → ∃ h', m.store E.P 25 ⟨h.next, 0, none⟩ (.agg C.toArray) = some h' ∧ h'.load E.P 25 ⟨h.next, 0, none⟩ = some (.agg C.toArray) ∧ K (.agg C.toArray) h' := by
    intro m C q1 q2 q3 q4 q5 q6 q7
    have G : ∀ r, r ≠ h.next → (m.put h.next (some (boxO C))).m.get r = m.m.get r := fun r hr => by rw [put_get, if_neg hr]
    refine ⟨m.put h.next (some (boxO C)), st_agg T.eS q1 rfl q2 q3, ld_agg T.eA T.eS (read_cells (by rw [put_get, if_pos rfl]) q2), hk C _ ⟨q4.lt, q4.ge, q4.gr.put (by have := hr0.gr.next; omega) _, (G b (fun q => nb4 q.symm)).trans q4.ex⟩ q5 ⟨q6.next, fun c hc hcb => (G c (by omega)).trans (q6.keep c hc hcb)⟩ (q7.mono (fun x hx _ => by have : m1.next < x := hx; omega) (fun x hx _ => G x (by have : m1.next < x := hx; omega)) (Nat.le_refl _))⟩
  cbv
  refine .inl (n2 st _ r2 ha0 _ (fun m3 r3 k3 => ?_))
  cbv
  have n5 := fun h K hk => n5 (restS s st) h K hk
  rw [show ([60] : Bs).length = 1 from rfl] at n5
  refine .inl (n5 _ _ (fun m4 e1 e2 e3 => ?_))
  have r4 : IsRd g0 m4 b s st := r3.re e1 e2 (r3.gr.trans e3)
  have k4 := k3.trans (.of e3)
  have L1 := ld_one (P := E.P) (i := 1) T.iA T.iS (read_cells r4.ex rfl) rfl
  unfold elementS at hel
  simp only at hel
  by_cases hp : (restS s st).take 1 = [60]
  · rw [decide_eq_true hp]
    rw [if_pos hp] at hel
    have he0 : st.err = 0 := by
      unfold restS at hp
      split at hp
      · rename_i q; exact q
      · simp at hp
    have hb1 := hb0.2 he0
    have L2 := ld_one (P := E.P) (i := 2) T.iA T.iS (read_cells r4.ex rfl) rfl
    have S2 : m4.store E.P 3 ⟨b, 2, none⟩ (.int .i64 (.ofNat (st.elems + 1))) = some (m4.put b (some (rdO s { st with elems := st.elems + 1 }))) := (st_one (P := E.P) (v := .int .i64 (.ofNat (st.elems + 1))) (i := 2) T.iS r4.ex (by simp) rfl rfl).trans rfl
    have r5 := r4.put (st' := { st with elems := st.elems + 1 })
    have k5 : Keep b m2 (m4.put b (some (rdO s { st with elems := st.elems + 1 }))) := k4.put _
    generalize m4.put b (some (rdO s { st with elems := st.elems + 1 })) = m5 at S2 r5 k5
    have L25 := ld_one (P := E.P) (i := 2) T.iA T.iS (read_cells r5.ex rfl) rfl
    have L15 := ld_one (P := E.P) (i := 1) T.iA T.iS (read_cells r5.ex rfl) rfl
    cbv
    refine ⟨2, R.r2, ?_⟩
    cbv
    refine ⟨_, L2, ?_⟩
    cbv
    refine And.intro (by show st.elems + 1 ≤ _; omega) ?_
    refine ⟨2, R.r2, ?_⟩
    cbv
    refine ⟨_, S2, ?_⟩
    cbv
    refine And.intro (fun e12 => ?_) (fun e12 => ?_)
    · have e12 : 12 ≤ d := e12
      rw [if_pos (.inl e12)] at hel
      obtain ⟨rfl, rfl⟩ : El.mk [] [] [] st.at' = e ∧ failS st.at' 4 { st with elems := st.elems + 1 } = ST := by simpa using hel
      cbv
      refine ⟨1, R.r1, ?_⟩
      cbv
      refine ⟨_, L15, ?_⟩
      cbv
      refine .inl (n3 { st with elems := st.elems + 1 } st.at' 4 _ r5 _ (fun v6 m6 r6 k6 => ?_))
      have k6' := k5.trans k6
      have L6 := ld_agg (P := E.P) T.eA T.eS (read_cells ((k6'.keep m1.next N2 nb5).trans B2) rfl)
      obtain ⟨h', q1, q2, q3⟩ := fin m6 (elC [] none 0 0 none 0 0 st.at') ((k6'.keep h.next (by omega) nb4).trans Z2) rfl rfl r6 (by rw [fail_at]; exact ha0) (k2.trans k6') (.leaf ⟨_, _, rfl, .inl ⟨rfl, fun _ q => by cases q⟩⟩ (fun _ q => by cases q))
      cbv
      refine ⟨_, L6, ?_⟩
      cbv
      refine ⟨_, q1, ?_⟩
      cbv
      exact ⟨_, res_cell rfl q2, q3⟩
    have e12 : d < 12 := e12
    cbv
    refine ⟨2, R.r2, ?_⟩
    cbv
    refine ⟨_, L25, ?_⟩
    cbv
    refine And.intro (fun e4 => ?_) (fun e4 => ?_)
    · have e4 : 400 < st.elems + 1 := e4
      rw [if_pos (.inr e4)] at hel
      obtain ⟨rfl, rfl⟩ : El.mk [] [] [] st.at' = e ∧ failS st.at' 4 { st with elems := st.elems + 1 } = ST := by simpa using hel
      cbv
      refine ⟨1, R.r1, ?_⟩
      cbv
      refine ⟨_, L15, ?_⟩
      cbv
      refine .inl (n3 { st with elems := st.elems + 1 } st.at' 4 _ r5 _ (fun v6 m6 r6 k6 => ?_))
      have k6' := k5.trans k6
      have L6 := ld_agg (P := E.P) T.eA T.eS (read_cells ((k6'.keep m1.next N2 nb5).trans B2) rfl)
      obtain ⟨h', q1, q2, q3⟩ := fin m6 (elC [] none 0 0 none 0 0 st.at') ((k6'.keep h.next (by omega) nb4).trans Z2) rfl rfl r6 (by rw [fail_at]; exact ha0) (k2.trans k6') (.leaf ⟨_, _, rfl, .inl ⟨rfl, fun _ q => by cases q⟩⟩ (fun _ q => by cases q))
      cbv
      refine ⟨_, L6, ?_⟩
      cbv
      refine ⟨_, q1, ?_⟩
      cbv
      exact ⟨_, res_cell rfl q2, q3⟩
    have e4 : st.elems + 1 ≤ 400 := e4
    rw [if_neg (by omega)] at hel
    have hlen : st.at' + 1 ≤ s.length := by
      have q := congrArg List.length hp
      have := rest_le s st
      simp only [List.length_take, List.length_cons, List.length_nil] at q
      omega
    have bb : ElB { st with elems := st.elems + 1 } := ⟨by show st.elems + 1 ≤ 401; omega, fun _ => by show st.elems + 1 ≤ 400; omega⟩
    have S6 : m5.store E.P 3 ⟨b, 1, none⟩ (.int .i64 (.ofNat (st.at' + 1))) = some (m5.put b (some (rdO s (goS 1 { st with elems := st.elems + 1 })))) := (st_one (P := E.P) (v := .int .i64 (.ofNat (st.at' + 1))) (i := 1) T.iS r5.ex (by simp) rfl rfl).trans rfl
    have r6 := r5.put (st' := goS 1 { st with elems := st.elems + 1 })
    have k6 : Keep b m2 (m5.put b (some (rdO s (goS 1 { st with elems := st.elems + 1 })))) := k5.put _
    generalize m5.put b (some (rdO s (goS 1 { st with elems := st.elems + 1 }))) = m6 at S6 r6 k6
    have b6 := bb.sub (Sbr.go 1 _)
    have h6 : (goS 1 { st with elems := st.elems + 1 }).at' ≤ s.length := hlen
    cbv
    refine ⟨1, R.r1, ?_⟩
    cbv
    refine ⟨_, L15, ?_⟩
    cbv
    refine And.intro (by show st.at' + 1 ≤ _; omega) ?_
    refine ⟨1, R.r1, ?_⟩
    cbv
    refine ⟨_, S6, ?_⟩
    generalize goS 1 { st with elems := st.elems + 1 } = st6 at hel r6 b6 h6
    clear bb L15 L25 r5 k5 S6
    have b7 := b6.sub (Sbr.qual s st6)
    have h7 := qual_le h6
    have n6a := n6 st6
    obtain ⟨n, st7, hq⟩ : ∃ n st', qualS s st6 = (n, st') := ⟨_, _, rfl⟩
    rw [hq] at hel b7 h7 n6a
    have h7 : st7.at' ≤ s.length := h7
    have b7 : ElB st7 := b7
    cbv
    refine .inl (n6a _ r6 h6 _ (fun m7 r7 k7 => ?_))
    have k7' := k6.trans k7
    have B7 := (k7'.keep m1.next N2 nb5).trans B2
    have Z7 := (k7'.keep h.next (by omega) nb4).trans Z2
    have n27 := k7'.next
    -- a field of the element is written
    have wr : ∀ (m : H) (st' : Rd) (c : List Value), IsRd g0 m b s st' → Keep b h m → m.m.get h.next = some (boxO zC) → IsRd g0 (m.put m1.next (some (boxO c))) b s st' ∧ Keep b h (m.put m1.next (some (boxO c))) ∧ (m.put m1.next (some (boxO c))).m.get m1.next = some (boxO c) ∧ (m.put m1.next (some (boxO c))).m.get h.next = some (boxO zC) ∧ (∀ r, r ≠ m1.next → (m.put m1.next (some (boxO c))).m.get r = m.m.get r) := by
      intro m st' c q1 q2 q3
      have G : ∀ r, r ≠ m1.next → (m.put m1.next (some (boxO c))).m.get r = m.m.get r := fun r hr => by rw [put_get, if_neg hr]
      exact ⟨⟨q1.lt, q1.ge, q1.gr.put (by have := hr0.gr.next; omega) _, (G b (fun q => nb5 q.symm)).trans q1.ex⟩, ⟨q2.next, fun r hr hrb => (G r (by omega)).trans (q2.keep r hr hrb)⟩, by rw [put_get, if_pos rfl], (G _ (by omega)).trans q3, G⟩
    have S8 : m7.store E.P 9 ⟨m1.next, 0, none⟩ (.string ⟨⟨n⟩⟩) = some (m7.put m1.next (some (boxO (elC n none 0 0 none 0 0 st.at')))) := (st_one (P := E.P) (v := .string ⟨⟨n⟩⟩) (i := 0) T.sS B7 (by simp) rfl rfl).trans rfl
    obtain ⟨r8, k8, B8, Z8, G8⟩ := wr m7 st7 (elC n none 0 0 none 0 0 st.at') r7 (k2.trans k7') Z7
    have N8 : (m7.put m1.next (some (boxO (elC n none 0 0 none 0 0 st.at')))).next = m7.next := rfl
    cbv
    refine ⟨0, T.e0, ?_⟩
    cbv
    refine ⟨_, S8, ?_⟩
    generalize m7.put m1.next (some (boxO (elC n none 0 0 none 0 0 st.at'))) = m8 at S8 r8 k8 B8 Z8 G8 N8
    simp only at hel
    cases hat : attrsS s f0 [] st7 with
    | none => rw [hat] at hel; cases hel
    | some pa =>
    obtain ⟨a, st9⟩ := pa
    rw [hat] at hel
    simp only at hel
    have b9 := b7.sub (Sbr.attrs s _ _ _ _ _ hat)
    cbv
    refine .inl (n8 st7 _ r8 h7 a st9 hat _ (fun va m9 r9 h9 k9 hal ha9 => ?_))
    obtain ⟨aa, ac, rfl, ha9'⟩ := ha9
    have ha9 : IsAt m9 (fun c => m8.next ≤ c) a (.slice aa a.length ac) := ⟨_, _, rfl, ha9'⟩
    clear ha9'
    have B9 := (k9.keep m1.next (by omega) nb5).trans B8
    have Z9 := (k9.keep h.next (by omega) nb4).trans Z8
    have kk9 := k8.trans k9
    have n89 := k9.next
    have S10 : m9.store E.P 22 ⟨m1.next, 1, none⟩ (.slice aa a.length ac) = some (m9.put m1.next (some (boxO (elC n aa a.length ac none 0 0 st.at')))) := (st_one (P := E.P) (v := .slice aa a.length ac) (i := 1) T.lS B9 (by simp) rfl rfl).trans rfl
    obtain ⟨r10, k10, B10, Z10, G10⟩ := wr m9 st9 (elC n aa a.length ac none 0 0 st.at') r9 kk9 Z9
    have N10 : (m9.put m1.next (some (boxO (elC n aa a.length ac none 0 0 st.at')))).next = m9.next := rfl
    have ha10 : IsAt (m9.put m1.next (some (boxO (elC n aa a.length ac none 0 0 st.at')))) (fun c => m8.next ≤ c) a (.slice aa a.length ac) := ha9.mono (fun _ q _ => q) (fun r q _ => G10 r (by have : m8.next ≤ r := q; omega)) (Nat.le_refl _)
    cbv
    refine ⟨1, T.e1, ?_⟩
    cbv
    refine ⟨_, S10, ?_⟩
    generalize m9.put m1.next (some (boxO (elC n aa a.length ac none 0 0 st.at'))) = m10 at S10 r10 k10 B10 Z10 G10 N10 ha10
    have h11 := is_le (p := [47, 62]) h9
    have b11 := b9.sub (Sbr.is s [47, 62] st9)
    have n4a := n4 [47, 62] (by simp) st9
    obtain ⟨z, st11, hz⟩ : ∃ z st', isS s [47, 62] st9 = (z, st') := ⟨_, _, rfl⟩
    rw [hz] at hel h11 b11 n4a
    have h11 : st11.at' ≤ s.length := h11
    have b11 : ElB st11 := b11
    cbv
    refine .inl (n4a _ r10 h9 _ (fun m11 r11 k11 => ?_))
    have B11 := (k11.keep m1.next (by omega) nb5).trans B10
    have Z11 := (k11.keep h.next (by omega) nb4).trans Z10
    have n1011 := k11.next
    have ha11 : IsAt m11 (fun c => m8.next ≤ c) a (.slice aa a.length ac) := ha10.mono (fun _ q _ => q) (fun r q hr => k11.keep r hr (by have : m8.next ≤ r := q; omega)) n1011
    cases z
    · simp only at hel
      have h12 := must_le (p := [62]) h11
      have b12 := b11.sub (Sbr.must s [62] st11)
      cbv
      refine .inl (n7 [62] (by simp) st11 _ r11 h11 _ (fun v12 m12 r12 k12 => ?_))
      generalize mustS s [62] st11 = st12 at hel h12 b12 r12
      have B12 := (k12.keep m1.next (by omega) nb5).trans B11
      have Z12 := (k12.keep h.next (by omega) nb4).trans Z11
      have n1112 := k12.next
      have ha12 : IsAt m12 (fun c => m8.next ≤ c) a (.slice aa a.length ac) := ha11.mono (fun _ q _ => q) (fun r q hr => k12.keep r hr (by have : m8.next ≤ r := q; omega)) n1112
      cases hks : kidsS s f0 n (d + 1) [] st12 with
      | none => rw [hks] at hel; cases hel
      | some pk =>
      obtain ⟨k, st13⟩ := pk
      rw [hks] at hel
      obtain ⟨rfl, rfl⟩ : El.mk n a k st.at' = e ∧ st13 = ST := by simpa using hel
      have L12 := ld_one (P := E.P) (i := 0) T.sA T.sS (read_cells B12 rfl) rfl
      cbv
      refine ⟨0, T.e0, ?_⟩
      cbv
      refine ⟨_, L12, ?_⟩
      cbv
      refine And.intro (by show d + 1 ≤ _; omega) ?_
      refine .inl (ih n (d + 1) st12 g0 m12 k st13 _ (by omega) r12 h12 b12 hks (fun vk m13 r13 h13 k13 hk13 => ?_))
      obtain ⟨ka, kc, rfl, hk13'⟩ := hk13
      have hk13 : IsKs m13 (fun c => m12.next ≤ c) k (.slice ka k.length kc) := ⟨_, _, rfl, hk13'⟩
      clear hk13'
      have B13 := (k13.keep m1.next (by omega) nb5).trans B12
      have Z13 := (k13.keep h.next (by omega) nb4).trans Z12
      have n1213 := k13.next
      have ha13 : IsAt m13 (fun c => m8.next ≤ c) a (.slice aa a.length ac) := ha12.mono (fun _ q _ => q) (fun r q hr => k13.keep r hr (by have : m8.next ≤ r := q; omega)) n1213
      have S14 : m13.store E.P 23 ⟨m1.next, 2, none⟩ (.slice ka k.length kc) = some (m13.put m1.next (some (boxO (elC n aa a.length ac ka k.length kc st.at')))) := (st_one (P := E.P) (v := .slice ka k.length kc) (i := 2) T.kS B13 (by simp) rfl rfl).trans rfl
      obtain ⟨r14, k14, B14, Z14, G14⟩ := wr m13 st13 (elC n aa a.length ac ka k.length kc st.at') r13 (k10.trans (k11.trans (k12.trans k13))) Z13
      have he14 : IsEl (m13.put m1.next (some (boxO (elC n aa a.length ac ka k.length kc st.at')))) (fun x => m1.next < x) (.mk n a k st.at') (elC n aa a.length ac ka k.length kc st.at') := by
        have q := IsEl.of (h := m13) (S := fun x => m1.next < x) (n := n) (p := st.at') (ha13.mono (fun r q _ => by have : m8.next ≤ r := q; omega) (fun _ _ _ => rfl) (Nat.le_refl _)) (hk13.mono (fun r q _ => by have : m12.next ≤ r := q; omega) (fun _ _ _ => rfl) (Nat.le_refl _))
        exact q.mono (fun _ q _ => q) (fun r q _ => G14 r (by have : m1.next < r := q; omega)) (Nat.le_refl _)
      cbv
      refine ⟨2, T.e2, ?_⟩
      cbv
      refine ⟨_, S14, ?_⟩
      generalize m13.put m1.next (some (boxO (elC n aa a.length ac ka k.length kc st.at'))) = m14 at S14 r14 k14 B14 Z14 G14 he14
      have L14 := ld_agg (P := E.P) T.eA T.eS (read_cells B14 rfl)
      obtain ⟨h', q1, q2, q3⟩ := fin m14 (elC n aa a.length ac ka k.length kc st.at') Z14 rfl rfl r14 h13 k14 he14
      cbv
      refine ⟨_, L14, ?_⟩
      cbv
      refine ⟨_, q1, ?_⟩
      cbv
      exact ⟨_, res_cell rfl q2, q3⟩
    · obtain ⟨rfl, rfl⟩ : El.mk n a [] st.at' = e ∧ st11 = ST := by simpa using hel
      have L11 := ld_agg (P := E.P) T.eA T.eS (read_cells B11 rfl)
      have he11 : IsEl m11 (fun x => m1.next < x) (.mk n a [] st.at') (elC n aa a.length ac none 0 0 st.at') := .leaf (ha11.mono (fun r q _ => by have : m8.next ≤ r := q; omega) (fun _ _ _ => rfl) (Nat.le_refl _)) (fun _ q => by cases q)
      obtain ⟨h', q1, q2, q3⟩ := fin m11 (elC n aa a.length ac none 0 0 st.at') Z11 rfl rfl r11 h11 (k10.trans k11) he11
      cbv
      refine ⟨_, L11, ?_⟩
      cbv
      refine ⟨_, q1, ?_⟩
      cbv
      exact ⟨_, res_cell rfl q2, q3⟩
  · rw [decide_eq_false hp]
    rw [if_neg hp] at hel
    obtain ⟨rfl, rfl⟩ : El.mk [] [] [] st.at' = e ∧ failS st.at' 2 st = ST := by simpa using hel
    cbv
    refine ⟨1, R.r1, ?_⟩
    cbv
    refine ⟨_, L1, ?_⟩
    cbv
    refine .inl (n3 st st.at' 2 _ r4 _ (fun v5 m5 r5 k5 => ?_))
    have k5' := k4.trans k5
    have L5 := ld_agg (P := E.P) T.eA T.eS (read_cells ((k5'.keep m1.next N2 nb5).trans B2) rfl)
    obtain ⟨h', q1, q2, q3⟩ := fin m5 (elC [] none 0 0 none 0 0 st.at') ((k5'.keep h.next (by omega) nb4).trans Z2) rfl rfl r5 (by rw [fail_at]; exact ha0) (k2.trans k5') (.leaf ⟨_, _, rfl, .inl ⟨rfl, fun _ q => by cases q⟩⟩ (fun _ q => by cases q))
    cbv
    refine ⟨_, L5, ?_⟩
    cbv
    refine ⟨_, q1, ?_⟩
    cbv
    exact ⟨_, res_cell rfl q2, q3⟩
theorem xElement {E : Env} (hE : E = EMY) (b : Nat) (s : Bs) (hs : s.length ≤ 100000) : ∀ (f : Nat), f ≤ 10000 → ElC E b s f := by
  intro f
  induction f using Nat.strongRecOn with
  | ind f ih =>
    intro hf
    cases f with
    | zero =>
      intro d st g0 h e ST K _ _ _ _ h
      simp [elementS] at h
    | succ f => exact xElement1 hE f (by omega) b s hs (xKids hE f (by omega) b s hs (fun g hg => ih g (by omega) (by omega)))
end Go.Proofs.YtfgemjpoiconbaaGreatDoor.GEv

/- xml.Parse, by a symbolic run. -/
namespace Go.Proofs.YtfgemjpoiconbaaGreatDoor.GEv
open Go
set_option linter.unusedSimpArgs false
set_option linter.unusedVariables false
set_option maxRecDepth 100000
set_option maxHeartbeats 2000000
abbrev rdC (s : Bs) (st : Rd) : List Value := [.string ⟨⟨s⟩⟩, .int .i64 (.ofNat st.at'), .int .i64 (.ofNat st.elems), .int .i64 (.ofNat st.err), .int .i64 (.ofNat st.out)]
/-- A reader is built of its text. -/
structure RdBuild (P : Program) (fs : Array Field) : Prop where
  u : P.underlying 56 = some (.struct fs)
  z : zero P 56 = some (.agg (rdC [] ⟨0, 0, 0, 0⟩).toArray)
  f : ∀ s : Bs, fillL (fun i => (fs[i]?).bind fun f => (sizeOf P f.type).map fun s => (f.offset, s)) (rdC [] ⟨0, 0, 0, 0⟩) [(0, .string ⟨⟨s⟩⟩)] = some (rdC s ⟨0, 0, 0, 0⟩)
  a : fs.toList.all (fun f => (sizeOf P f.type).isSome) = true
theorem rdBuild : ∃ fs, RdBuild EM.P fs := by
  have h0 : ((fieldsOf (EM.P.underlying 56))[0]?).isSome = true := by kernel_rfl
  have hu : EM.P.underlying 56 = some (.struct (fieldsOf (EM.P.underlying 56))) := by kernel_rfl
  have hp : ((fieldsOf (EM.P.underlying 56))[0]?).map (fun f => (f.offset, sizeOf EM.P f.type)) = some (0, some 1) := by kernel_rfl
  have ha : (fieldsOf (EM.P.underlying 56)).toList.all (fun f => (sizeOf EM.P f.type).isSome) = true := by kernel_rfl
  have hz : zero EM.P 56 = some (.agg (rdC [] ⟨0, 0, 0, 0⟩).toArray) := by kernel_rfl
  refine ⟨_, hu, hz, fun s => ?_, ha⟩
  simp only [fillL, place_of hp]
  rfl
theorem res3 {P : Program} {l : L} {h : H} {a b c : Nat} {t : TypeId} {x : Addr} {u v w : Value} (hl : look l a = some (.pointer (some x))) (hx : h.load P t x = some u) (h1 : look l b = some v) (h2 : look l c = some w) : resL P l h [.cell a t, .tmp b, .tmp c] = some [u, v, w] := by
  simp only [resL, hl, hx, h1, h2]
/-- What is known of pointers to readers, and of rows of functions. -/
structure PaOk (P : Program) : Prop where
  pS : sizeOf P 54 = some 1
  pA : isAgg P 54 = some false
  pZ : zero P 54 = some (.pointer none)
  fU : P.underlying 58 = some (.slice 1)
  fZ : zero P 1 = some .nilFunc
  fS : sizeOf P 1 = some 1
  fA : isAgg P 1 = some false
  fT : isSlice P (some 58) = true
  fI : iSize P 58 = some 1
theorem paOk : PaOk EM.P := ⟨by kernel_rfl, by kernel_rfl, by kernel_rfl, by kernel_rfl, by kernel_rfl, by kernel_rfl, by kernel_rfl, by kernel_rfl, by kernel_rfl⟩
abbrev partsF (b a5 a6 : Nat) : List Value := [.func (.func 27) #[.pointer (some ⟨b, 0, none⟩)] #[], .func (.func 25) #[] #[.pointer (some ⟨a5, 0, none⟩), .pointer (some ⟨a6, 0, none⟩)], .func (.func 27) #[.pointer (some ⟨b, 0, none⟩)] #[]]
/-- What stands while the parts are called. -/
structure PI (a2 a5 b aS : Nat) (fs : List Value) (m : H) : Prop where
  c2 : m.m.get a2 = some (boxO zC)
  c5 : m.m.get a5 = some (.cells [.pointer (some ⟨b, 0, none⟩)] (some 54) true 0)
  cS : m.m.get aS = some (.cells fs (some 1) true 0)
  lt : aS < m.next
theorem PI.keep {a2 a5 b aS : Nat} {fs : List Value} {m m' : H} (p : PI a2 a5 b aS fs m) (hn : m.next ≤ m'.next) (hk : ∀ r, r = a2 ∨ r = a5 ∨ r = aS → m'.m.get r = m.m.get r) : PI a2 a5 b aS fs m' := ⟨(hk _ (.inl rfl)).trans p.c2, (hk _ (.inr (.inl rfl))).trans p.c5, (hk _ (.inr (.inr rfl))).trans p.cS, Nat.lt_of_lt_of_le p.lt hn⟩
/-- The result's cell for an element. -/
structure PE (a6 aS : Nat) (e : El) (m : H) : Prop where
  ex : ∃ c, m.m.get a6 = some (boxO c) ∧ c.length = 4 ∧ c.all one = true ∧ IsEl m (fun x => aS < x) e c
theorem PE.keep {a6 aS : Nat} {e : El} {m m' : H} (p : PE a6 aS e m) (hn : m.next ≤ m'.next) (hk : ∀ r, r < m.next → r = a6 ∨ aS < r → m'.m.get r = m.m.get r) (h6 : a6 < m.next) : PE a6 aS e m' := by
  obtain ⟨c, h1, h2, h3, h4⟩ := p.ex
  exact ⟨c, (hk _ h6 (.inl rfl)).trans h1, h2, h3, h4.mono (fun _ q _ => q) (fun r q hr => hk r hr (.inr q)) hn⟩
/-- A store in a region that draws. -/
theorem FitP.put {l : L} {o : Oper} {h h1 : H} {bef i b : Nat} {seen : List (Nat × Foot)} {K : List (Nat × Foot) → Prop} (hf : ∀ w, footL l o w h.m h1.m = some (.wr b)) (hfit : fits bef (.wr b) seen = true) (hk : K ((i, .wr b) :: seen)) : FitP l o h h1 bef seen i K := ⟨_, _, rfl, hf _, hfit, hk⟩
attribute [local cbv_opaque] isString isSlice isBoolT fOff iSize eqNil zero H.load H.store H.push H.dip H.put List.length Nat.add Nat.sub Nat.mul List.take List.drop top Addr.add mixH restS isS failS goS mustS blanksN qualS valueS isQual cmpJ ariJ List.getD append
attribute [local cbv_eval] List.length_cons List.length_nil addr_add mixH_top
section
variable {E : Env} (hE : E = EMY)
include hE
theorem xRoot (f : Nat) (hf : f ≤ 10000) (b : Nat) (s : Bs) (hs : s.length ≤ 100000) (st : Rd) (g0 h : H) (a5 a6 : Nat) (e : El) (ST : Rd) (c0 : List Value) (hr : IsRd g0 h b s st) (ha : st.at' ≤ s.length) (hb : ElB st) (hel : elementS s f 0 st = some (e, ST))
    (h5 : h.m.get a5 = some (.cells [.pointer (some ⟨b, 0, none⟩)] (some 54) true 0)) (h6 : h.m.get a6 = some (boxO c0)) (hc0 : c0.length = 4) (h6n : a6 < h.next) (h6b : a6 ≠ b) (h6g : g0.next ≤ a6) (K : Value → H → Prop)
    (hk : ∀ v c h', IsRd g0 h' b s ST → ST.at' ≤ s.length → h.next ≤ h'.next → (∀ r, r < h.next → r ≠ b → r ≠ a6 → h'.m.get r = h.m.get r) → h'.m.get a6 = some (boxO c) → c.length = 4 → c.all one = true → IsEl h' (fun x => h.next ≤ x) e c → K v h') :
    CallP E 25 [.pointer (some ⟨a5, 0, none⟩), .pointer (some ⟨a6, 0, none⟩)] h K := by
  have T : TyOk E.P := by rw [hE]; exact tyOk
  have A : PaOk E.P := by rw [hE]; exact paOk
  have n1 := xElement hE b s hs f hf
  refine CallP.ofXE hE rfl Tryz.func25 rfl (Nat.le_of_ble_eq_true rfl) ?_
  clear hE
  have L0 := ld_one (P := E.P) (i := 0) A.pA A.pS (read_cells h5 rfl) rfl
  cbv
  refine ⟨_, L0, ?_⟩
  cbv
  refine .inl (n1 0 st g0 _ e ST _ (Nat.zero_le _) hr ha hb hel (fun c m r1 h1 k1 e1 => ?_))
  have B1 := (k1.keep a6 h6n h6b).trans h6
  have S1 : m.store E.P 25 ⟨a6, 0, none⟩ (.agg c.toArray) = some (m.put a6 (some (boxO c))) := st_agg T.eS B1 hc0 e1.len e1.one
  have G : ∀ r, r ≠ a6 → (m.put a6 (some (boxO c))).m.get r = m.m.get r := fun r hr => by rw [put_get, if_neg hr]
  cbv
  refine ⟨_, S1, ?_⟩
  cbv
  refine ⟨_, rfl, hk _ c _ ⟨r1.lt, r1.ge, r1.gr.put h6g _, (G b (fun q => h6b q.symm)).trans r1.ex⟩ h1 k1.next (fun r q1 q2 q3 => (G r q3).trans (k1.keep r q1 q2)) (by rw [put_get, if_pos rfl]) e1.len e1.one ?_⟩
  exact e1.mono (fun _ q _ => q) (fun r q _ => G r (by have : h.next ≤ r := q; omega)) (Nat.le_refl _)
theorem xParse (f : Nat) (hf : f ≤ 10000) (s : Bs) (hs : s.length ≤ 1000000) (h : H) (e : El) (n er : Nat) (hp : parseS f s = some (e, n, er)) (K : Value → H → Prop)
    (hk : ∀ c h', Grows h h' → IsEl h' (fun x => h.next ≤ x) e c → K (.tuple #[.agg c.toArray, .int .i64 (.ofNat n), .int .i64 (.ofNat er)]) h') : CallP E 14 [.string ⟨⟨s⟩⟩] h K := by
  have T : TyOk E.P := by rw [hE]; exact tyOk
  have R : RdOk E.P := by rw [hE]; exact rdOk
  have A : PaOk E.P := by rw [hE]; exact paOk
  have zE : zero E.P 25 = some (.agg #[.string ⟨⟨[]⟩⟩, .slice none 0 0, .slice none 0 0, .int .i64 0]) := by rw [hE]; exact zElem
  obtain ⟨fs, EB⟩ : ∃ fs, ElBuild E.P fs := by rw [hE]; exact elBuild
  obtain ⟨rs, RB⟩ : ∃ fs, RdBuild E.P fs := by rw [hE]; exact rdBuild
  have n1 := fun hs f st g0 h b hr ha ST hf K hk => xRemarks hE f b s hs st g0 h hr ha ST hf K hk
  have n2 := fun hs b st g0 h a5 a6 e ST c0 hr ha hb hel h5 h6 hc0 h6n h6b h6g K hk => xRoot hE f hf b s hs st g0 h a5 a6 e ST c0 hr ha hb hel h5 h6 hc0 h6n h6b h6g K hk
  have n3 := fun b st g0 h hr ha K hk => nRest hE b s st g0 h hr ha K hk
  have n4 := fun b st a e g0 h hr K hk => nFails hE b s st a e g0 h hr K hk
  refine CallP.ofXE hE rfl Tryz.func14 rfl (Nat.le_of_ble_eq_true rfl) ?_
  unfold parseS at hp
  cbv
  refine ⟨_, zE, ?_⟩
  have g1 : Grows h (h.push (boxO zC)) := (Grows.refl h).push _
  have B1 : (h.push (boxO zC)).m.get h.next = some (boxO zC) := box_get _ _
  have N1 : (h.push (boxO zC)).next = h.next + 1 := rfl
  cbv
  generalize hm1 : h.push _ = m1
  have g1 : Grows h m1 := by subst hm1; exact g1
  have B1 : m1.m.get h.next = some (boxO zC) := by subst hm1; exact B1
  have N1 : m1.next = h.next + 1 := by subst hm1; exact N1
  clear hm1
  refine And.intro T.str ?_
  refine And.intro (fun hl => ?_) (fun hl => ?_)
  · have hl : 8000 < s.length := hl
    rw [if_pos hl] at hp
    cbv
    refine raw_build rfl zE EB.u EB.f0 EB.a ?_
    cbv
    have S1 : m1.store E.P 25 ⟨h.next, 0, none⟩ (.agg zC.toArray) = some (m1.put h.next (some (boxO zC))) := st_agg T.eS B1 rfl rfl rfl
    refine ⟨_, S1, ?_⟩
    cbv
    obtain ⟨rfl, rfl, rfl⟩ : nothing = e ∧ 0 = n ∧ 3 = er := by simpa using hp
    have q2 : (m1.put h.next (some (boxO zC))).load E.P 25 ⟨h.next, 0, none⟩ = some (.agg zC.toArray) := ld_agg T.eA T.eS (read_cells (by rw [put_get, if_pos rfl]) rfl)
    exact ⟨_, res3 rfl q2 rfl rfl, hk zC _ (g1.put (Nat.le_refl _) _) (.leaf ⟨_, _, rfl, .inl ⟨rfl, fun _ q => by cases q⟩⟩ (fun _ q => by cases q))⟩
  · have hl : s.length ≤ 8000 := hl
    rw [if_neg (by omega)] at hp
    cbv
    refine raw_build rfl RB.z RB.u (RB.f s) RB.a ?_
    cbv
    have r2 : IsRd h (m1.push (rdO s ⟨0, 0, 0, 0⟩)) m1.next s ⟨0, 0, 0, 0⟩ := ⟨Nat.lt_succ_self _, g1.next, g1.push _, box_get _ _⟩
    have B2 : (m1.push (rdO s ⟨0, 0, 0, 0⟩)).m.get h.next = some (boxO zC) := by rw [push_get, if_neg (by omega)]; exact B1
    have N2 : (m1.push (rdO s ⟨0, 0, 0, 0⟩)).next = m1.next + 1 := rfl
    refine ⟨_, A.pZ, ?_⟩
    cbv
    generalize hm2 : m1.push (AObj.cells _ _ _ _) = m2
    have r2 : IsRd h m2 m1.next s ⟨0, 0, 0, 0⟩ := by subst hm2; exact r2
    have B2 : m2.m.get h.next = some (boxO zC) := by subst hm2; exact B2
    have N2 : m2.next = m1.next + 1 := by subst hm2; exact N2
    clear hm2
    have S3 : (m2.push (.cells [.pointer none] (some 54) true 0)).store E.P 54 ⟨m2.next, 0, none⟩ (.pointer (some ⟨m1.next, 0, none⟩)) = some ((m2.push (.cells [.pointer none] (some 54) true 0)).put m2.next (some (.cells [.pointer (some ⟨m1.next, 0, none⟩)] (some 54) true 0))) := (st_one (P := E.P) (v := .pointer (some ⟨m1.next, 0, none⟩)) (i := 0) A.pS (box_get _ _) (by simp) rfl rfl).trans rfl
    refine ⟨_, S3, ?_⟩
    obtain ⟨j0, j1, j2, j3⟩ := laid r2.gr (.cells [.pointer none] (some 54) true 0) [.pointer (some ⟨m1.next, 0, none⟩)] (some 54) true
    generalize (m2.push (.cells [.pointer none] (some 54) true 0)).put m2.next (some (.cells [.pointer (some ⟨m1.next, 0, none⟩)] (some 54) true 0)) = m3 at j0 j1 j2 j3 ⊢
    cbv
    refine ⟨_, zE, ?_⟩
    cbv
    have N3 := j1.next
    have j4 : Grows m3 (m3.push (boxO zC)) := (Grows.refl m3).push _
    have B4 : (m3.push (boxO zC)).m.get m3.next = some (boxO zC) := box_get _ _
    have N4 : (m3.push (boxO zC)).next = m3.next + 1 := rfl
    generalize hm4 : m3.push (AObj.cells _ _ _ _) = m4
    have j4 : Grows m3 m4 := by subst hm4; exact j4
    have B4 : m4.m.get m3.next = some (boxO zC) := by subst hm4; exact B4
    have N4 : m4.next = m3.next + 1 := by subst hm4; exact N4
    clear hm4
    have L5 := ld_one (P := E.P) (i := 0) A.pA A.pS (read_cells ((j4.keep m2.next j3).trans j2) rfl) rfl
    refine ⟨_, L5, ?_⟩
    cbv
    refine ⟨_, L5, ?_⟩
    cbv
    refine raw_buildSlice rfl A.fU A.fZ A.fS (by decide) (c := (partsF m1.next m2.next m3.next)) rfl ?_
    have j5 : Grows m4 (m4.push (.cells (partsF m1.next m2.next m3.next) (some 1) true 0)) := (Grows.refl m4).push _
    have B5 := box_get m4 (.cells (partsF m1.next m2.next m3.next) (some 1) true 0)
    have N5 : (m4.push (.cells (partsF m1.next m2.next m3.next) (some 1) true 0)).next = m4.next + 1 := rfl
    generalize m4.push (.cells (partsF m1.next m2.next m3.next) (some 1) true 0) = m5 at j5 B5 N5 ⊢
    have gg : Grows m2 m5 := j1.trans (j4.trans j5)
    have hN3 : m2.next < m3.next := j3
    have P5 : PI h.next m2.next m1.next m4.next _ m5 := ⟨(gg.keep h.next (by omega)).trans B2, ((j4.trans j5).keep m2.next j3).trans j2, B5, by omega⟩
    have R5 : IsRd h m5 m1.next s ⟨0, 0, 0, 0⟩ := ⟨by omega, g1.next, r2.gr.trans gg, (gg.keep m1.next (by omega)).trans r2.ex⟩
    have C6 : m5.m.get m3.next = some (boxO zC) := (j5.keep m3.next (by omega)).trans B4
    -- what the spec says
    cases hs1 : remarksS s f ⟨0, 0, 0, 0⟩ with
    | none => rw [hs1] at hp; cases hp
    | some st1 =>
    rw [hs1] at hp
    simp only at hp
    cases hs2 : elementS s f 0 st1 with
    | none => rw [hs2] at hp; cases hp
    | some p2 =>
    obtain ⟨e1, st2⟩ := p2
    rw [hs2] at hp
    simp only at hp
    cases hs3 : remarksS s f st2 with
    | none => rw [hs3] at hp; cases hp
    | some st3 =>
    rw [hs3] at hp
    simp only at hp
    cbv
    refine And.intro A.fT ?_
    have hsl : s.length ≤ 100000 := by omega
    have b0 : ElB ⟨0, 0, 0, 0⟩ := ⟨Nat.zero_le _, fun _ => Nat.zero_le _⟩
    have b1 := b0.sub (Sbr.remarks s _ _ _ hs1)
    have nN4 : m4.next = m3.next + 1 := N4
    refine LoopP.onX (fun x : H × Nat => [(25, .int .i64 (.ofNat x.2)), (24, .int .i64 (.ofNat 3)), (23, .slice (some ⟨m4.next, 0, none⟩) 3 3), (2, .pointer (some ⟨h.next, 0, none⟩)), (5, .pointer (some ⟨m2.next, 0, none⟩)), (6, .pointer (some ⟨m3.next, 0, none⟩)), (0, .string ⟨⟨s⟩⟩)]) (fun x => x.1) (fun x => PI h.next m2.next m1.next m4.next (partsF m1.next m2.next m3.next) x.1 ∧ ((x.2 = 0 ∧ IsRd h x.1 m1.next s ⟨0, 0, 0, 0⟩ ∧ x.1.m.get m3.next = some (boxO zC)) ∨ (x.2 = 1 ∧ IsRd h x.1 m1.next s st1 ∧ st1.at' ≤ s.length ∧ x.1.m.get m3.next = some (boxO zC)) ∨ (x.2 = 2 ∧ IsRd h x.1 m1.next s st2 ∧ st2.at' ≤ s.length ∧ PE m3.next m4.next e1 x.1) ∨ (x.2 = 3 ∧ IsRd h x.1 m1.next s st3 ∧ st3.at' ≤ s.length ∧ PE m3.next m4.next e1 x.1))) (fun x => 3 - x.2) (m5, 0) rfl (Less.cons rfl (Less.cons rfl (Less.cons rfl (Less.cons rfl (Less.cons rfl (Less.cons rfl (Less.cons rfl (Less.nil _)))))))) ⟨P5, .inl ⟨rfl, R5, C6⟩⟩ ?_
    rintro ⟨m, i⟩ ⟨i1, i2⟩
    have i1 : PI h.next m2.next m1.next m4.next (partsF m1.next m2.next m3.next) m := i1
    have rdS := read_cells i1.cS rfl
    have hlt := i1.lt
    rcases i2 with ⟨hi, i2, i3⟩ | ⟨hi, i2, i3, i4⟩ | ⟨hi, i2, i3, i4⟩ | ⟨hi, i2, i3, i4⟩
    · obtain rfl : i = 0 := hi
      have i2 : IsRd h m m1.next s ⟨0, 0, 0, 0⟩ := i2
      have i3 : m.m.get m3.next = some (boxO zC) := i3
      have LF := ld_one (P := E.P) (i := 0) A.fA A.fS rdS rfl
      cbv
      refine And.intro (fun _ => ?_) (fun e => absurd e (by decide))
      cbv
      refine ⟨1, A.fI, by decide, ?_⟩
      cbv
      refine ⟨_, LF, ?_⟩
      cbv
      refine .inl (n1 hsl f ⟨0, 0, 0, 0⟩ h _ m1.next i2 (Nat.zero_le _) st1 hs1 _ (fun v6 m6 r6 h6 k6 => ?_))
      cbv
      refine And.intro (by decide) ?_
      have hn6 := k6.next
      exact ⟨(m6, 1), Less.cons rfl (Less.cons rfl (Less.cons rfl (Less.cons rfl (Less.cons rfl (Less.cons rfl (Less.cons rfl (Less.nil _))))))), rfl, ⟨i1.keep hn6 (fun r hr => k6.keep r (by omega) (by omega)), .inr (.inl ⟨rfl, r6, h6, (k6.keep m3.next (by omega) (by omega)).trans i3⟩)⟩, (by show 3 - 1 < 3 - 0; decide)⟩
    · obtain rfl : i = 1 := hi
      have i2 : IsRd h m m1.next s st1 := i2
      have i4 : m.m.get m3.next = some (boxO zC) := i4
      have LF := ld_one (P := E.P) (i := 1) A.fA A.fS rdS rfl
      cbv
      refine And.intro (fun _ => ?_) (fun e => absurd e (by decide))
      cbv
      refine ⟨1, A.fI, by decide, ?_⟩
      cbv
      refine ⟨_, LF, ?_⟩
      cbv
      refine .inl (n2 hsl m1.next st1 h _ m2.next m3.next e1 st2 zC i2 i3 b1 hs2 i1.c5 i4 rfl (by omega) (by omega) (by omega) _ (fun v6 c6 m6 r6 h6 hn6 k6 q1 q2 q3 q4 => ?_))
      cbv
      refine And.intro (by decide) ?_
      exact ⟨(m6, 2), Less.cons rfl (Less.cons rfl (Less.cons rfl (Less.cons rfl (Less.cons rfl (Less.cons rfl (Less.cons rfl (Less.nil _))))))), rfl, ⟨i1.keep hn6 (fun r hr => k6 r (by omega) (by omega) (by omega)), .inr (.inr (.inl ⟨rfl, r6, h6, ⟨c6, q1, q2, q3, q4.mono (fun r q _ => by have : m.next ≤ r := q; omega) (fun _ _ _ => rfl) (Nat.le_refl _)⟩⟩))⟩, (by show 3 - 2 < 3 - 1; decide)⟩
    · obtain rfl : i = 2 := hi
      have i2 : IsRd h m m1.next s st2 := i2
      have i4 : PE m3.next m4.next e1 m := i4
      have LF := ld_one (P := E.P) (i := 2) A.fA A.fS rdS rfl
      cbv
      refine And.intro (fun _ => ?_) (fun e => absurd e (by decide))
      cbv
      refine ⟨1, A.fI, by decide, ?_⟩
      cbv
      refine ⟨_, LF, ?_⟩
      cbv
      refine .inl (n1 hsl f st2 h _ m1.next i2 i3 st3 hs3 _ (fun v6 m6 r6 h6 k6 => ?_))
      cbv
      refine And.intro (by decide) ?_
      have hn6 := k6.next
      exact ⟨(m6, 3), Less.cons rfl (Less.cons rfl (Less.cons rfl (Less.cons rfl (Less.cons rfl (Less.cons rfl (Less.cons rfl (Less.nil _))))))), rfl, ⟨i1.keep hn6 (fun r hr => k6.keep r (by omega) (by omega)), .inr (.inr (.inr ⟨rfl, r6, h6, i4.keep hn6 (fun r hr hq => k6.keep r hr (by omega)) (by omega)⟩))⟩, (by show 3 - 3 < 3 - 2; decide)⟩
    · obtain rfl : i = 3 := hi
      have i2 : IsRd h m m1.next s st3 := i2
      have i4 : PE m3.next m4.next e1 m := i4
      have L5 := ld_one (P := E.P) (i := 0) A.pA A.pS (read_cells i1.c5 rfl) rfl
      cbv
      refine And.intro (fun e => absurd e (by decide)) (fun _ => ?_)
      cbv
      refine ⟨_, L5, ?_⟩
      cbv
      refine .inl (n3 m1.next st3 h _ i2 i3 _ (fun m7 r7 k7 => ?_))
      have hn7 := k7.next
      have P7 := i1.keep hn7 (fun r hr => k7.keep r (by omega) (by omega))
      have E7 := i4.keep hn7 (fun r hr hq => k7.keep r hr (by omega)) (by omega)
      cbv
      refine And.intro (fun q => ?_) (fun q => ?_)
      · have q : restS s st3 = [] := q
        rw [if_pos q] at hp
        generalize hst8 : st3 = st8 at hp r7
        clear hst8
        have r8 := r7
        have P8 := P7
        have E8 := E7
        have n8 := hn7
        cbv
        have L8 := ld_one (P := E.P) (i := 0) A.pA A.pS (read_cells P8.c5 rfl) rfl
        have L83 := ld_one (P := E.P) (i := 3) R.eA R.eS (read_cells r8.ex rfl) rfl
        refine ⟨_, L8, ?_⟩
        cbv
        refine ⟨3, R.r3, ?_⟩
        cbv
        refine ⟨_, L83, ?_⟩
        cbv
        refine And.intro (fun e0 => ?_) (fun e0 => ?_)
        · have e0 : st8.err = 0 := e0
          rw [if_pos e0] at hp
          obtain ⟨rfl, rfl, rfl⟩ : e1 = e ∧ s.length = n ∧ 0 = er := by simpa using hp
          obtain ⟨c, q1, q2, q3, q4⟩ := E8.ex
          have L6 := ld_agg (P := E.P) T.eA T.eS (read_cells q1 q2)
          have S1 : m7.store E.P 25 ⟨h.next, 0, none⟩ (.agg c.toArray) = some (m7.put h.next (some (boxO c))) := st_agg T.eS P8.c2 rfl q2 q3
          have L2 : (m7.put h.next (some (boxO c))).load E.P 25 ⟨h.next, 0, none⟩ = some (.agg c.toArray) := ld_agg T.eA T.eS (read_cells (by rw [put_get, if_pos rfl]) q2)
          have e9 : IsEl (m7.put h.next (some (boxO c))) (fun x => h.next ≤ x) e1 c := q4.mono (fun r q _ => by have : m4.next < r := q; omega) (fun r q _ => by rw [put_get, if_neg (by have : m4.next < r := q; omega)]) (show m7.next ≤ (m7.put h.next (some (boxO c))).next from Nat.le_refl _)
          have g9 := r8.gr.put (Nat.le_refl _) (some (boxO c))
          generalize m7.put h.next (some (boxO c)) = m11 at S1 L2 e9 g9
          cbv
          refine ⟨_, L6, ?_⟩
          cbv
          refine And.intro T.str ?_
          refine ⟨_, S1, ?_⟩
          cbv
          exact ⟨_, res3 rfl L2 rfl rfl, hk c _ g9 e9⟩
        · have e0 : ¬ st8.err = 0 := e0
          rw [if_neg e0] at hp
          obtain ⟨rfl, rfl, rfl⟩ : nothing = e ∧ st8.out = n ∧ st8.err = er := by simpa using hp
          have L84 := ld_one (P := E.P) (i := 4) T.iA T.iS (read_cells r8.ex rfl) rfl
          have Mq : m7.m = m7.m ∧ m7.next = m7.next ∧ Grows h m7 := ⟨rfl, rfl, r8.gr⟩
          cbv
          refine DrawP.of [0, 0, 2, 6, 14, 0, 32, 96, 224, 1, 543, 2047] (by kernel_rfl) (by kernel_rfl) ?_
          cbv
          refine raw_build rfl zE EB.u EB.f0 EB.a ?_
          refine FitP.stay (f := (.rd none)) rfl rfl ?_
          generalize hM : mixH _ _ = M'
          have Mq' : M'.m = m7.m ∧ M'.next = m7.next ∧ Grows h M' := by
            subst hM
            refine ⟨Mq.1, Mq.2.1, ?_⟩
            apply Grows.mixTop
            repeat first | exact Mq.2.2 | apply Grows.dip
          clear hM Mq
          revert M'
          intro M Mq
          cbv
          refine ⟨_, ld_at L8 Mq.1, ?_⟩
          refine FitP.stay (f := (.rd (some m2.next))) rfl rfl ?_
          generalize hM : mixH _ _ = M'
          have Mq' : M'.m = m7.m ∧ M'.next = m7.next ∧ Grows h M' := by
            subst hM
            refine ⟨Mq.1, Mq.2.1, ?_⟩
            apply Grows.mixTop
            repeat first | exact Mq.2.2 | apply Grows.dip
          clear hM Mq
          revert M'
          intro M Mq
          cbv
          refine ⟨4, R.r4, ?_⟩
          cbv
          refine ⟨_, ld_at L84 Mq.1, ?_⟩
          refine FitP.stay (f := (.rd (some m1.next))) rfl rfl ?_
          generalize hM : mixH _ _ = M'
          have Mq' : M'.m = m7.m ∧ M'.next = m7.next ∧ Grows h M' := by
            subst hM
            refine ⟨Mq.1, Mq.2.1, ?_⟩
            apply Grows.mixTop
            repeat first | exact Mq.2.2 | apply Grows.dip
          clear hM Mq
          revert M'
          intro M Mq
          cbv
          refine ⟨_, ld_at L8 Mq.1, ?_⟩
          refine FitP.stay (f := (.rd (some m2.next))) rfl rfl ?_
          generalize hM : mixH _ _ = M'
          have Mq' : M'.m = m7.m ∧ M'.next = m7.next ∧ Grows h M' := by
            subst hM
            refine ⟨Mq.1, Mq.2.1, ?_⟩
            apply Grows.mixTop
            repeat first | exact Mq.2.2 | apply Grows.dip
          clear hM Mq
          revert M'
          intro M Mq
          cbv
          refine ⟨3, R.r3, ?_⟩
          cbv
          refine ⟨_, ld_at L83 Mq.1, ?_⟩
          refine FitP.stay (f := (.rd (some m1.next))) rfl rfl ?_
          generalize hM : mixH _ _ = M'
          have Mq' : M'.m = m7.m ∧ M'.next = m7.next ∧ Grows h M' := by
            subst hM
            refine ⟨Mq.1, Mq.2.1, ?_⟩
            apply Grows.mixTop
            repeat first | exact Mq.2.2 | apply Grows.dip
          clear hM Mq
          revert M'
          intro M Mq
          cbv
          have hM2 : M.m.get h.next = some (boxO zC) := by rw [Mq.1]; exact P8.c2
          have S1 : (⟨M.m, M.next, top M.next⟩ : H).store E.P 25 ⟨h.next, 0, none⟩ (.agg zC.toArray) = some ((⟨M.m, M.next, top M.next⟩ : H).put h.next (some (boxO zC))) := st_agg T.eS hM2 rfl rfl rfl
          refine ⟨_, S1, ?_⟩
          have w1 : (h.next == m1.next) = false := by simp; omega
          have w2 : (h.next == m2.next) = false := by simp; omega
          refine FitP.put (b := h.next) (fun w => rfl) ?_ ?_
          · simp [fits, clash, w1, w2, Nat.testBit]
          have g9 := Mq.2.2.mix (Mq.2.2.mark.put (Nat.le_refl _) (some (boxO zC)))
          have L2 : (mixH M ((⟨M.m, M.next, top M.next⟩ : H).put h.next (some (boxO zC)))).load E.P 25 ⟨h.next, 0, none⟩ = some (.agg zC.toArray) := ld_agg T.eA T.eS (read_cells (show ((⟨M.m, M.next, top M.next⟩ : H).put h.next (some (boxO zC))).m.get h.next = _ by rw [put_get, if_pos rfl]) rfl)
          generalize mixH M ((⟨M.m, M.next, top M.next⟩ : H).put h.next (some (boxO zC))) = m11 at g9 L2 ⊢
          cbv
          exact ⟨_, res3 rfl (ld_at L2 rfl) rfl rfl, hk zC _ g9.dip.dip (.leaf ⟨_, _, rfl, .inl ⟨rfl, fun _ q => by cases q⟩⟩ (fun _ q => by cases q))⟩
      · have q : ¬ restS s st3 = [] := q
        rw [if_neg q] at hp
        have he3 : st3.err = 0 := by
          by_cases z : st3.err = 0
          · exact z
          · exact absurd (by simp [restS, z]) q
        have L7 := ld_one (P := E.P) (i := 0) A.pA A.pS (read_cells P7.c5 rfl) rfl
        have L71 := ld_one (P := E.P) (i := 1) T.iA T.iS (read_cells r7.ex rfl) rfl
        have Mq : m7.m = m7.m ∧ m7.next = m7.next ∧ Grows h m7 := ⟨rfl, rfl, r7.gr⟩
        cbv
        refine DrawP.of [0, 0, 2, 6, 14, 31] (by kernel_rfl) (by kernel_rfl) ?_
        cbv
        refine ⟨_, ld_at L7 rfl, ?_⟩
        refine FitP.stay (f := (.rd (some m2.next))) rfl rfl ?_
        generalize hM : mixH _ _ = M'
        have Mq' : M'.m = m7.m ∧ M'.next = m7.next ∧ Grows h M' := by
          subst hM
          refine ⟨Mq.1, Mq.2.1, ?_⟩
          apply Grows.mixTop
          repeat first | exact Mq.2.2 | apply Grows.dip
        clear hM Mq
        revert M'
        intro M Mq
        cbv
        refine ⟨_, ld_at L7 Mq.1, ?_⟩
        refine FitP.stay (f := (.rd (some m2.next))) rfl rfl ?_
        generalize hM : mixH _ _ = M'
        have Mq' : M'.m = m7.m ∧ M'.next = m7.next ∧ Grows h M' := by
          subst hM
          refine ⟨Mq.1, Mq.2.1, ?_⟩
          apply Grows.mixTop
          repeat first | exact Mq.2.2 | apply Grows.dip
        clear hM Mq
        revert M'
        intro M Mq
        cbv
        refine ⟨1, R.r1, ?_⟩
        cbv
        refine ⟨_, ld_at L71 Mq.1, ?_⟩
        refine FitP.stay (f := (.rd (some m1.next))) rfl rfl ?_
        generalize hM : mixH _ _ = M'
        have Mq' : M'.m = m7.m ∧ M'.next = m7.next ∧ Grows h M' := by
          subst hM
          refine ⟨Mq.1, Mq.2.1, ?_⟩
          apply Grows.mixTop
          repeat first | exact Mq.2.2 | apply Grows.dip
        clear hM Mq
        revert M'
        intro M Mq
        cbv
        have rM : IsRd h ⟨M.m, M.next, top M.next⟩ m1.next s st3 := r7.re Mq.1 Mq.2.1 Mq.2.2.mark
        refine .inl (n4 m1.next st3 st3.at' 2 h _ rM _ (fun v8 m9 r9 k9 => ?_))
        refine FitP.writeG (fun w => by cases w <;> rfl) (by simp [Nat.testBit]) (fun F hF => ?_)
        have G9 : Grows h (mixH M m9) := Mq.2.2.mix r9.gr
        have K9 : ∀ r, r < m7.next → r ≠ m1.next → (mixH M m9).m.get r = m7.m.get r := fun r q1 q2 => by
          show m9.m.get r = _
          rw [k9.keep r (by show r < M.next; rw [Mq.2.1]; exact q1) q2]
          show M.m.get r = _
          rw [Mq.1]
        have N9 : m7.next ≤ (mixH M m9).next := by
          show m7.next ≤ m9.next
          have := k9.next
          have e : (⟨M.m, M.next, top M.next⟩ : H).next = m7.next := Mq.2.1
          omega
        have r9 : IsRd h (mixH M m9) m1.next s (failS st3.at' 2 st3) := r9.re rfl rfl G9
        generalize mixH M m9 = m10 at K9 N9 r9 G9 ⊢
        generalize hst8 : failS st3.at' 2 st3 = st8 at hp r9
        clear hst8
        have P8 := P7.keep N9 (fun r hr => K9 r (by omega) (by omega))
        have E8 := E7.keep N9 (fun r hr hq => K9 r hr (by omega)) (by omega)
        have r8 := r9
        have n8 : m.next ≤ m10.next := Nat.le_trans hn7 N9
        obtain ⟨m7, rfl⟩ : ∃ x, x = m10 := ⟨_, rfl⟩
        cbv
        have L8 := ld_one (P := E.P) (i := 0) A.pA A.pS (read_cells P8.c5 rfl) rfl
        have L83 := ld_one (P := E.P) (i := 3) R.eA R.eS (read_cells r8.ex rfl) rfl
        refine ⟨_, L8, ?_⟩
        cbv
        refine ⟨3, R.r3, ?_⟩
        cbv
        refine ⟨_, L83, ?_⟩
        cbv
        refine And.intro (fun e0 => ?_) (fun e0 => ?_)
        · have e0 : st8.err = 0 := e0
          rw [if_pos e0] at hp
          obtain ⟨rfl, rfl, rfl⟩ : e1 = e ∧ s.length = n ∧ 0 = er := by simpa using hp
          obtain ⟨c, q1, q2, q3, q4⟩ := E8.ex
          have L6 := ld_agg (P := E.P) T.eA T.eS (read_cells q1 q2)
          have S1 : m7.store E.P 25 ⟨h.next, 0, none⟩ (.agg c.toArray) = some (m7.put h.next (some (boxO c))) := st_agg T.eS P8.c2 rfl q2 q3
          have L2 : (m7.put h.next (some (boxO c))).load E.P 25 ⟨h.next, 0, none⟩ = some (.agg c.toArray) := ld_agg T.eA T.eS (read_cells (by rw [put_get, if_pos rfl]) q2)
          have e9 : IsEl (m7.put h.next (some (boxO c))) (fun x => h.next ≤ x) e1 c := q4.mono (fun r q _ => by have : m4.next < r := q; omega) (fun r q _ => by rw [put_get, if_neg (by have : m4.next < r := q; omega)]) (show m7.next ≤ (m7.put h.next (some (boxO c))).next from Nat.le_refl _)
          have g9 := r8.gr.put (Nat.le_refl _) (some (boxO c))
          generalize m7.put h.next (some (boxO c)) = m11 at S1 L2 e9 g9
          cbv
          refine ⟨_, L6, ?_⟩
          cbv
          refine And.intro T.str ?_
          refine ⟨_, S1, ?_⟩
          cbv
          exact ⟨_, res3 rfl L2 rfl rfl, hk c _ g9 e9⟩
        · have e0 : ¬ st8.err = 0 := e0
          rw [if_neg e0] at hp
          obtain ⟨rfl, rfl, rfl⟩ : nothing = e ∧ st8.out = n ∧ st8.err = er := by simpa using hp
          have L84 := ld_one (P := E.P) (i := 4) T.iA T.iS (read_cells r8.ex rfl) rfl
          have Mq : m7.m = m7.m ∧ m7.next = m7.next ∧ Grows h m7 := ⟨rfl, rfl, r8.gr⟩
          cbv
          refine DrawP.of [0, 0, 2, 6, 14, 0, 32, 96, 224, 1, 543, 2047] (by kernel_rfl) (by kernel_rfl) ?_
          cbv
          refine raw_build rfl zE EB.u EB.f0 EB.a ?_
          refine FitP.stay (f := (.rd none)) rfl rfl ?_
          generalize hM : mixH _ _ = M'
          have Mq' : M'.m = m7.m ∧ M'.next = m7.next ∧ Grows h M' := by
            subst hM
            refine ⟨Mq.1, Mq.2.1, ?_⟩
            apply Grows.mixTop
            repeat first | exact Mq.2.2 | apply Grows.dip
          clear hM Mq
          revert M'
          intro M Mq
          cbv
          refine ⟨_, ld_at L8 Mq.1, ?_⟩
          refine FitP.stay (f := (.rd (some m2.next))) rfl rfl ?_
          generalize hM : mixH _ _ = M'
          have Mq' : M'.m = m7.m ∧ M'.next = m7.next ∧ Grows h M' := by
            subst hM
            refine ⟨Mq.1, Mq.2.1, ?_⟩
            apply Grows.mixTop
            repeat first | exact Mq.2.2 | apply Grows.dip
          clear hM Mq
          revert M'
          intro M Mq
          cbv
          refine ⟨4, R.r4, ?_⟩
          cbv
          refine ⟨_, ld_at L84 Mq.1, ?_⟩
          refine FitP.stay (f := (.rd (some m1.next))) rfl rfl ?_
          generalize hM : mixH _ _ = M'
          have Mq' : M'.m = m7.m ∧ M'.next = m7.next ∧ Grows h M' := by
            subst hM
            refine ⟨Mq.1, Mq.2.1, ?_⟩
            apply Grows.mixTop
            repeat first | exact Mq.2.2 | apply Grows.dip
          clear hM Mq
          revert M'
          intro M Mq
          cbv
          refine ⟨_, ld_at L8 Mq.1, ?_⟩
          refine FitP.stay (f := (.rd (some m2.next))) rfl rfl ?_
          generalize hM : mixH _ _ = M'
          have Mq' : M'.m = m7.m ∧ M'.next = m7.next ∧ Grows h M' := by
            subst hM
            refine ⟨Mq.1, Mq.2.1, ?_⟩
            apply Grows.mixTop
            repeat first | exact Mq.2.2 | apply Grows.dip
          clear hM Mq
          revert M'
          intro M Mq
          cbv
          refine ⟨3, R.r3, ?_⟩
          cbv
          refine ⟨_, ld_at L83 Mq.1, ?_⟩
          refine FitP.stay (f := (.rd (some m1.next))) rfl rfl ?_
          generalize hM : mixH _ _ = M'
          have Mq' : M'.m = m7.m ∧ M'.next = m7.next ∧ Grows h M' := by
            subst hM
            refine ⟨Mq.1, Mq.2.1, ?_⟩
            apply Grows.mixTop
            repeat first | exact Mq.2.2 | apply Grows.dip
          clear hM Mq
          revert M'
          intro M Mq
          cbv
          have hM2 : M.m.get h.next = some (boxO zC) := by rw [Mq.1]; exact P8.c2
          have S1 : (⟨M.m, M.next, top M.next⟩ : H).store E.P 25 ⟨h.next, 0, none⟩ (.agg zC.toArray) = some ((⟨M.m, M.next, top M.next⟩ : H).put h.next (some (boxO zC))) := st_agg T.eS hM2 rfl rfl rfl
          refine ⟨_, S1, ?_⟩
          have w1 : (h.next == m1.next) = false := by simp; omega
          have w2 : (h.next == m2.next) = false := by simp; omega
          refine FitP.put (b := h.next) (fun w => rfl) ?_ ?_
          · simp [fits, clash, w1, w2, Nat.testBit]
          have g9 := Mq.2.2.mix (Mq.2.2.mark.put (Nat.le_refl _) (some (boxO zC)))
          have L2 : (mixH M ((⟨M.m, M.next, top M.next⟩ : H).put h.next (some (boxO zC)))).load E.P 25 ⟨h.next, 0, none⟩ = some (.agg zC.toArray) := ld_agg T.eA T.eS (read_cells (show ((⟨M.m, M.next, top M.next⟩ : H).put h.next (some (boxO zC))).m.get h.next = _ by rw [put_get, if_pos rfl]) rfl)
          generalize mixH M ((⟨M.m, M.next, top M.next⟩ : H).put h.next (some (boxO zC))) = m11 at g9 L2 ⊢
          cbv
          exact ⟨_, res3 rfl (ld_at L2 rfl) rfl rfl, hk zC _ g9.dip.dip (.leaf ⟨_, _, rfl, .inl ⟨rfl, fun _ q => by cases q⟩⟩ (fun _ q => by cases q))⟩
end
end Go.Proofs.YtfgemjpoiconbaaGreatDoor.GEv

