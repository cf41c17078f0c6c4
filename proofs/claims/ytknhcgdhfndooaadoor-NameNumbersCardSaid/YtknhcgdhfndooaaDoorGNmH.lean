/- 'entity' of the reference, and Unescape of both, by symbolic runs. -/
import Derived.Test.YtknhcgdhfndooaaDoorGNmD
namespace Go.Proofs.YtknhcgdhfndooaaDoor.GEv
open Go
set_option linter.unusedSimpArgs false
set_option linter.unusedVariables false
theorem unesc_none38 {l : List UInt8} (h : cutB 38 l = none) : unesc l = some l := unesc_plain l (cutB_none h)
theorem unesc_cut {l p r : List UInt8} (h : cutB 38 l = some (p, r)) : unesc l = (unesc (38 :: r)).map (p ++ ·) := by
  obtain ⟨e, hn⟩ := cutB_some h
  rw [e]
  exact unesc_pre p _ hn
theorem enc_len (n : Int) : (Utf8.encode n).data.toList.length ≤ 4 := by
  unfold Utf8.encode
  generalize (if Utf8.valid n = true then n.toNat else Utf8.runeError) = c
  dsimp only
  repeat' split
  all_goals simp
theorem ref_len {hex : Bool} {l x : List UInt8} (h : refD hex l = some x) : x.length ≤ 4 := by
  unfold refD at h
  split at h
  · cases h
  split at h
  · split at h
    · have h := Option.some.inj h
      rw [← h, encodeB]
      exact enc_len (.ofNat _)
    · cases h
  · cases h
theorem entity_len {l x : List UInt8} (h : entity l = some x) : x.length ≤ 4 := by
  unfold entity at h
  split at h
  · cases h; simp
  split at h
  · cases h; simp
  split at h
  · cases h; simp
  split at h
  · cases h; simp
  split at h
  · cases h; simp
  split at h
  · cases h
  · split at h
    · unfold refV at h
      split at h
      · cases h
      · split at h
        · exact ref_len h
        · exact ref_len h
    · cases h
theorem getD_mem_take {s : List UInt8} {i k : Nat} {c : UInt8} (h : ∀ j, i ≤ j → j < k → s.getD j 0 ≠ c) : c ∉ (s.drop i).take (k - i) := by
  intro hm
  obtain ⟨n, hn, e⟩ := List.getElem_of_mem hm
  rw [List.length_take, List.length_drop] at hn
  rw [List.getElem_take, List.getElem_drop] at e
  have := h (i + n) (by omega) (by omega)
  rw [List.getD_eq_getElem?_getD, List.getElem?_eq_getElem (by omega)] at this
  exact this e
theorem cut_at {s : List UInt8} {i k : Nat} {c : UInt8} (hik : i ≤ k) (hk : k < s.length) (h : ∀ j, i ≤ j → j < k → s.getD j 0 ≠ c) (hc : s.getD k 0 = c) : cutB c (s.drop i) = some ((s.drop i).take (k - i), s.drop (k + 1)) := by
  have e : s.drop i = (s.drop i).take (k - i) ++ c :: s.drop (k + 1) := by
    have e1 : s.drop i = (s.drop i).take (k - i) ++ (s.drop i).drop (k - i) := (List.take_append_drop _ _).symm
    rw [List.drop_drop, show i + (k - i) = k by omega, drop_get hk, hc] at e1
    exact e1
  have := cutB_of (c := c) (q := s.drop (k + 1)) (getD_mem_take h)
  rwa [← e] at this
theorem cut_end {s : List UInt8} {i : Nat} {c : UInt8} (h : ∀ j, i ≤ j → j < s.length → s.getD j 0 ≠ c) : cutB c (s.drop i) = none := by
  refine cutB_not ?_
  have := getD_mem_take h
  rwa [List.take_of_length_le (by rw [List.length_drop]; omega)] at this
set_option maxRecDepth 100000
attribute [local cbv_opaque] isString isSlice isBoolT fOff iSize eqNil zero H.load H.store H.push H.dip H.put List.length List.getD Nat.add Nat.sub Nat.mul List.take List.drop lowN UInt8.toNat bytesV Utf8.encode encodeB sign List.append
attribute [local cbv_eval] List.length_cons List.length_nil
section
variable {E : Env} (hE : E = EM2)
include hE
theorem cutC2 (c : UInt8) (l : List UInt8) (hl : l.length ≤ 1000000) (h : H) (K : Value → H → Prop) (hk : K (cutV c l) h) : CallP E 30 [.string ⟨⟨l⟩⟩, .string ⟨⟨[c]⟩⟩] h K := by
  refine CallP.memo (v := cutV c l) ?_ (by rw [hE]; exact ⟨_, _, Tryd.func30, rfl⟩) hk
  rw [hE]
  show cutP [.string ⟨⟨l⟩⟩, .string ⟨⟨[c]⟩⟩] = _
  have : isLe (⟨⟨l⟩⟩ : ByteArray).size 1000000 = true := Nat.ble_eq_true_of_le hl
  simp only [cutP, this]
theorem meantC2 (l : List UInt8) (h : H) (K : Value → H → Prop) (hk : K (optV (entity l)) h) : CallP E 33 [.string ⟨⟨l⟩⟩] h K :=
  CallP.memo (v := optV (entity l)) (by rw [hE]; rfl) (by rw [hE]; exact ⟨_, _, Tryd.func33, rfl⟩) hk
theorem entityC2 (l : List UInt8) (h : H) (K : Value → H → Prop) (hk : K (optV (entity l)) h) : CallP E 36 [.string ⟨⟨l⟩⟩] h K :=
  CallP.memo (v := optV (entity l)) (by rw [hE]; rfl) (by rw [hE]; exact ⟨_, _, Tryd.func36, rfl⟩) hk
theorem wholeC2 (l : List UInt8) (hl : l.length ≤ 1000000) (h : H) (K : Value → H → Prop) (hk : K (.bool (signs l)) h) : CallP E 29 [.string ⟨⟨l⟩⟩] h K := by
  refine CallP.memo (v := .bool (signs l)) ?_ (by rw [hE]; exact ⟨_, _, Tryd.func29, rfl⟩) hk
  rw [hE]
  show signsP [.string ⟨⟨l⟩⟩] = _
  have : isLe (⟨⟨l⟩⟩ : ByteArray).size 1000000 = true := Nat.ble_eq_true_of_le hl
  simp only [signsP, this]
theorem signsC2 (l : List UInt8) (hl : l.length ≤ 1000000) (h : H) (K : Value → H → Prop) (hk : K (.bool (signs l)) h) : CallP E 15 [.string ⟨⟨l⟩⟩] h K := by
  refine CallP.memo (v := .bool (signs l)) ?_ (by rw [hE]; exact ⟨_, _, Tryd.func15, rfl⟩) hk
  rw [hE]
  show signsP [.string ⟨⟨l⟩⟩] = _
  have : isLe (⟨⟨l⟩⟩ : ByteArray).size 1000000 = true := Nat.ble_eq_true_of_le hl
  simp only [signsP, this]
theorem nUnesc (l : List UInt8) (hl : l.length ≤ 100000) (h : H) (K : Value → H → Prop) (hk : ∀ h', K (optV (unescape l)) h') : CallP E 17 [.string ⟨⟨l⟩⟩] h K := by
  refine CallP.ofE hE rfl Tryd.func17 rfl (Nat.le_of_ble_eq_true rfl) ?_
  have n0 := fun h K hk => wholeC2 hE l (by omega) h K hk
  have zB : zero E.P 44 = some (.agg #[.pointer none, .slice none 0 0]) := by rw [hE]; exact bZero
  have n1 := fun c l hl h K hk => cutC2 hE c l hl h K hk
  have n2 := fun b l t h hb hl K hk => bWrite hE b l t h hb hl K hk
  have n3 := fun b l h hb hl K hk => bString hE b l h hb hl K hk
  have n4 := fun l h K hk => meantC2 hE l h K hk
  clear hE
  unfold unescape at hk
  generalize signs l = A at n0 hk
  cases A
  · cbv
    refine .inl (n0 _ _ ?_)
    cbv
    exact ⟨_, rfl, hk _⟩
  have hk : ∀ h', K (optV (unesc l)) h' := hk
  cbv
  refine .inl (n0 _ _ ?_)
  cbv
  refine ⟨_, zB, ?_⟩
  cbv
  have hB : IsB (h.push (.cells [.pointer none, .slice none 0 0] (some 44) true 0)) h.next [] := ⟨Nat.lt_succ_self _, .pointer none, .slice none 0 0, by rw [push_get, if_pos rfl], .inl rfl, .inl ⟨rfl, rfl⟩⟩
  refine LoopP.on (fun x : H × List UInt8 × List UInt8 => [(4, .pointer (some ⟨h.next, 0, none⟩)), (0, .string ⟨⟨x.2.2⟩⟩)]) (fun x => x.1) (fun x => IsB x.1 h.next x.2.1 ∧ x.2.1.length + 4 * x.2.2.length ≤ 400000 ∧ unesc l = (unesc x.2.2).map (x.2.1 ++ ·)) (fun x => x.2.2.length) (h.push (.cells [.pointer none, .slice none 0 0] (some 44) true 0), [], l) rfl (Less.cons rfl (Less.cons rfl (Less.nil _))) ⟨hB, by simp; omega, by simp⟩ ?_
  rintro ⟨g, w, r⟩ ⟨i1, i2, i3⟩
  have i1 : IsB g h.next w := i1
  have i2 : w.length + 4 * r.length ≤ 400000 := i2
  have i3 : unesc l = (unesc r).map (w ++ ·) := i3
  clear hB zB n0
  have n5 := fun h K hk => n1 38 r (by omega) h K hk
  unfold cutV at n5
  cases hc : cutB 38 r with
  | none =>
    simp only [hc] at n5
    rw [i3, unesc_none38 hc] at hk
    cbv
    refine .inl (n5 _ _ ?_)
    cbv
    refine .inl (n2 _ _ _ _ i1 (by omega) _ fun v g1 hb1 => ?_)
    cbv
    refine .inl (n3 _ _ _ hb1 (by simp; omega) _ fun g2 => ?_)
    cbv
    exact ⟨_, rfl, hk _⟩
  | some pq =>
    obtain ⟨p, q⟩ := pq
    simp only [hc] at n5
    obtain ⟨hr, hpn⟩ := cutB_some hc
    have hlen : r.length = p.length + q.length + 1 := by rw [hr]; simp; omega
    rw [unesc_cut hc] at i3
    have n6 := fun h K hk => n1 59 q (by omega) h K hk
    unfold cutV at n6
    cases hd : cutB 59 q with
    | none =>
      simp only [hd] at n6
      rw [i3, unesc_ampN q hd] at hk
      have n7 := fun h K hk => n4 q h K hk
      generalize entity q = o at n7
      cases o
      all_goals cbv
      all_goals (refine .inl (n5 _ _ ?_); cbv)
      all_goals (refine .inl (n2 _ _ _ _ i1 (by omega) _ fun v g1 hb1 => ?_); cbv)
      all_goals (refine .inl (n6 _ _ ?_); cbv)
      all_goals (refine .inl (n7 _ _ ?_); cbv)
      all_goals exact ⟨_, rfl, hk _⟩
    | some kb =>
      obtain ⟨k, b⟩ := kb
      simp only [hd] at n6
      obtain ⟨hq, hkn⟩ := cutB_some hd
      have hlen2 : q.length = k.length + b.length + 1 := by rw [hq]; simp; omega
      rw [unesc_ampS q k b hd] at i3
      have n7 := fun h K hk => n4 k h K hk
      have hel := fun x hx => entity_len (l := k) (x := x) hx
      generalize entity k = o at n7 i3 hel
      cases o with
      | none =>
        rw [i3] at hk
        cbv
        refine .inl (n5 _ _ ?_)
        cbv
        refine .inl (n2 _ _ _ _ i1 (by omega) _ fun v g1 hb1 => ?_)
        cbv
        refine .inl (n6 _ _ ?_)
        cbv
        refine .inl (n7 _ _ ?_)
        cbv
        exact ⟨_, rfl, hk _⟩
      | some x =>
        have hel := hel x rfl
        cbv
        refine .inl (n5 _ _ ?_)
        cbv
        refine .inl (n2 _ _ _ _ i1 (by omega) _ fun v g1 hb1 => ?_)
        cbv
        refine .inl (n6 _ _ ?_)
        cbv
        refine .inl (n7 _ _ ?_)
        cbv
        refine .inl (n2 _ _ _ _ hb1 (by simp; omega) _ fun v2 g2 hb2 => ?_)
        cbv
        refine ⟨(g2, (w ++ p) ++ x, b), Less.cons rfl (Less.cons rfl (Less.nil _)), rfl, ⟨hb2, (by show ((w ++ p) ++ x).length + 4 * b.length ≤ 400000; simp; omega), ?_⟩, (by show b.length < r.length; omega)⟩
        rw [i3]
        show ((((unesc b).map (x ++ ·)).map (p ++ ·)).map (w ++ ·)) = (unesc b).map (((w ++ p) ++ x) ++ ·)
        cases unesc b <;> simp
theorem rUnesc (l : List UInt8) (hl : l.length ≤ 100000) (h : H) (K : Value → H → Prop) (hk : ∀ h', K (optV (unescape l)) h') : CallP E 24 [.string ⟨⟨l⟩⟩] h K := by
  refine CallP.ofE hE rfl Tryd.func24 rfl (Nat.le_of_ble_eq_true rfl) ?_
  have hS : isString E.1 9 = true := by rw [hE]; exact stringT
  have n0 := fun h K hk => signsC2 hE l (by omega) h K hk
  have n4 := fun l h K hk => entityC2 hE l h K hk
  clear hE
  unfold unescape at hk
  generalize signs l = A at n0 hk
  cases A
  · cbv
    refine .inl (n0 _ _ ?_)
    cbv
    exact ⟨_, rfl, hk _⟩
  have hk : ∀ h', K (optV (unesc l)) h' := hk
  cbv
  refine .inl (n0 _ _ ?_)
  cbv
  refine LoopP.on (fun x : Nat × List UInt8 => [(5, .int .i64 (.ofNat x.1)), (4, .string ⟨⟨x.2⟩⟩), (0, .string ⟨⟨l⟩⟩)]) (fun _ => h) (fun x => x.1 ≤ l.length ∧ x.2.length ≤ 4 * x.1 ∧ unesc l = (unesc (l.drop x.1)).map (x.2 ++ ·)) (fun x => l.length - x.1) (0, []) rfl (Less.cons rfl (Less.cons rfl (Less.cons rfl (Less.nil _)))) ⟨Nat.zero_le _, Nat.le_refl _, by simp⟩ ?_
  rintro ⟨i, w⟩ ⟨i1, i2, i3⟩
  have i1 : i ≤ l.length := i1
  have i2 : w.length ≤ 4 * i := i2
  have i3 : unesc l = (unesc (l.drop i)).map (w ++ ·) := i3
  clear n0
  by_cases hi : i < l.length
  · have hb : Nat.le (Nat.add i 1) 4611686018427387904 := by show i + 1 ≤ _; omega
    have hd := drop_get hi
    by_cases hc : l.getD i 0 = 38
    · have hcn : (l.getD i 0).toNat = 38 := by rw [hc]; rfl
      rw [hd, hc] at i3
      cbv
      refine And.intro hS ?_
      refine And.intro (fun _ => ?_) (fun e => absurd e (by omega))
      cbv
      refine And.intro hS (And.intro hi ?_)
      rw [hcn]
      refine And.intro (fun _ => ?_) (fun e => absurd rfl e)
      cbv
      refine And.intro hb ?_
      refine LoopP.on (fun k : Nat => [(6, .int .i64 (.ofNat k)), (5, .int .i64 (.ofNat i)), (4, .string ⟨⟨w⟩⟩), (0, .string ⟨⟨l⟩⟩)]) (fun _ => h) (fun k => i + 1 ≤ k ∧ k ≤ l.length ∧ ∀ j, i + 1 ≤ j → j < k → l.getD j 0 ≠ 59) (fun k => l.length - k) (i + 1) rfl (Less.cons rfl (Less.cons rfl (Less.cons rfl (Less.cons rfl (Less.nil _))))) ⟨Nat.le_refl _, hi, by omega⟩ ?_
      rintro k ⟨k1, k2, k3⟩
      have hkb : Nat.le (Nat.add k 1) 4611686018427387904 := by show k + 1 ≤ _; omega
      by_cases hki : k < l.length
      · by_cases hkc : l.getD k 0 = 59
        · have hkn : (l.getD k 0).toNat = 59 := by rw [hkc]; rfl
          have hcut := cut_at k1 hki k3 hkc
          rw [unesc_ampS _ _ _ hcut] at i3
          have n5 := fun h K hk => n4 ((l.drop (i + 1)).take (k - (i + 1))) h K hk
          have n5 : ∀ (h : H) (K : Value → H → Prop), K (optV (entity ((l.drop (i + 1)).take (k - (i + 1))))) h → CallP E 36 [.string ⟨⟨(l.drop (Nat.add i 1)).take (Nat.sub k (Nat.add i 1))⟩⟩] h K := n5
          have hel := fun x hx => entity_len (l := (l.drop (i + 1)).take (k - (i + 1))) (x := x) hx
          generalize entity ((l.drop (i + 1)).take (k - (i + 1))) = o at n5 i3 hel
          have hne : ¬ k = l.length := by omega
          have k1' : Nat.le (Nat.add i 1) k := k1
          have hki' : Nat.le k l.length := k2
          cases o with
          | none =>
            rw [i3] at hk
            cbv
            refine And.intro hS ?_
            refine And.intro (fun _ => ?_) (fun e => absurd e (by omega))
            cbv
            refine And.intro hS (And.intro hki ?_)
            rw [hkn]
            refine And.intro (fun _ => ?_) (fun e => absurd rfl e)
            cbv
            refine And.intro hS ?_
            refine And.intro (fun e => absurd e hne) (fun _ => ?_)
            cbv
            refine And.intro hb (And.intro hS (And.intro k1' (And.intro hki' ?_)))
            refine .inl (n5 _ _ ?_)
            cbv
            exact ⟨_, rfl, hk _⟩
          | some x =>
            have hel := hel x rfl
            have hwx : Nat.le (Nat.add w.length x.length) 4611686018427387904 := by show w.length + x.length ≤ _; omega
            cbv
            refine And.intro hS ?_
            refine And.intro (fun _ => ?_) (fun e => absurd e (by omega))
            cbv
            refine And.intro hS (And.intro hki ?_)
            rw [hkn]
            refine And.intro (fun _ => ?_) (fun e => absurd rfl e)
            cbv
            refine And.intro hS ?_
            refine And.intro (fun e => absurd e hne) (fun _ => ?_)
            cbv
            refine And.intro hb (And.intro hS (And.intro k1' (And.intro hki' ?_)))
            refine .inl (n5 _ _ ?_)
            cbv
            refine And.intro hwx ?_
            refine And.intro hkb ?_
            refine ⟨(k + 1, w ++ x), Less.cons rfl (Less.cons rfl (Less.cons rfl (Less.nil _))), rfl, ⟨hki, (by show (w ++ x).length ≤ 4 * (k + 1); simp; omega), ?_⟩, (by show l.length - (k + 1) < l.length - i; omega)⟩
            rw [i3]
            show ((unesc (l.drop (k + 1))).map (x ++ ·)).map (w ++ ·) = (unesc (l.drop (k + 1))).map ((w ++ x) ++ ·)
            cases unesc (l.drop (k + 1)) <;> simp
        · have hkn : ¬ (l.getD k 0).toNat = 59 := fun e => hkc (UInt8.toNat_inj.1 e)
          cbv
          refine And.intro hS ?_
          refine And.intro (fun _ => ?_) (fun e => absurd e (by omega))
          cbv
          refine And.intro hS (And.intro hki ?_)
          refine And.intro (fun e => absurd e hkn) (fun _ => ?_)
          cbv
          refine And.intro hkb ?_
          refine ⟨k + 1, Less.cons rfl (Less.cons rfl (Less.cons rfl (Less.cons rfl (Less.nil _)))), rfl, ⟨(by omega), hki, fun j j1 j2 => ?_⟩, (by omega)⟩
          rcases Nat.lt_or_ge j k with q | q
          · exact k3 j j1 q
          · rw [show j = k by omega]; exact hkc
      · have hke : k = l.length := by omega
        subst hke
        have hcut := cut_end k3
        rw [unesc_ampN _ hcut] at i3
        rw [i3] at hk
        cbv
        refine And.intro hS ?_
        refine And.intro (fun e => absurd e (Nat.lt_irrefl _)) (fun _ => ?_)
        cbv
        refine And.intro hS ?_
        refine And.intro (fun _ => ?_) (fun e => absurd rfl e)
        cbv
        exact ⟨_, rfl, hk _⟩
    · have hcn : ¬ (l.getD i 0).toNat = 38 := fun e => hc (UInt8.toNat_inj.1 e)
      have ht : List.take (Nat.sub (Nat.add i 1) i) (List.drop i l) = [l.getD i 0] := take_one hi
      have hii : Nat.le i (Nat.add i 1) := Nat.le_succ i
      have hil : Nat.le (Nat.add i 1) l.length := hi
      have hwx : Nat.le (Nat.add w.length (Nat.add 0 1)) 4611686018427387904 := by show w.length + 1 ≤ _; omega
      rw [hd, unesc_other _ _ hc] at i3
      cbv
      refine And.intro hS ?_
      refine And.intro (fun _ => ?_) (fun e => absurd e (by omega))
      cbv
      refine And.intro hS (And.intro hi ?_)
      refine And.intro (fun e => absurd e hcn) (fun _ => ?_)
      cbv
      refine And.intro hb (And.intro hS (And.intro hii (And.intro hil ?_)))
      rw [ht]
      refine ⟨(by show w.length + 1 ≤ _; omega), hb, (i + 1, w ++ [l.getD i 0]), Less.cons rfl (Less.cons rfl (Less.cons rfl (Less.nil _))), rfl, ⟨hi, (by show (w ++ [l.getD i 0]).length ≤ 4 * (i + 1); simp; omega), ?_⟩, (by show l.length - (i + 1) < l.length - i; omega)⟩
      rw [i3]
      show ((unesc (l.drop (i + 1))).map (l.getD i 0 :: ·)).map (w ++ ·) = (unesc (l.drop (i + 1))).map ((w ++ [l.getD i 0]) ++ ·)
      cases unesc (l.drop (i + 1)) <;> simp
  · have hi : i = l.length := by omega
    rw [hi, List.drop_eq_nil_of_le (Nat.le_refl _), unesc_nil] at i3
    rw [i3] at hk
    have hk : ∀ h', K (.tuple #[.string ⟨⟨w⟩⟩, .bool true]) h' := by
      intro h'
      have := hk h'
      simp only [Option.map_some, List.append_nil] at this
      exact this
    cbv
    refine And.intro hS ?_
    refine And.intro (fun e => absurd e (by omega)) (fun _ => ?_)
    cbv
    exact ⟨_, rfl, hk _⟩
end
end Go.Proofs.YtknhcgdhfndooaaDoor.GEv
