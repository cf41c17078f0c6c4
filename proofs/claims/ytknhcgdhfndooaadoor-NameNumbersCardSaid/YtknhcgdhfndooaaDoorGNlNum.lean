/- 'NameNumbers', by a symbolic run: a sign by its number is it. -/
import Derived.Test.YtknhcgdhfndooaaDoorGNlDig
import Derived.Test.YtknhcgdhfndooaaDoorGNmW
namespace Go.Proofs.YtknhcgdhfndooaaDoor.GEv
open Go
open Go.RowKit (Below)
set_option linter.unusedSimpArgs false
set_option linter.unusedVariables false
set_option maxRecDepth 100000
attribute [local cbv_opaque] isString isSlice isBoolT fOff iSize eqNil zero H.load H.store H.push H.dip H.put List.length List.getD Nat.add Nat.sub List.take List.drop UInt8.toNat isName escape top List.append Utf8.encode encodeB sign digL
attribute [local cbv_eval] List.length_cons List.length_nil append_nilE append_consE
section
variable {E : Env} (hE : E = EM3)
include hE
theorem nameNumbers (n k : Int) (hex : Bool) (h : H) : CallP E 5 [.int .i64 n, .int .i64 k, .bool hex] h (fun v _ => v = .bool true) := by
  refine CallP.ofE hE rfl Tryd.func5 rfl (Nat.le_of_ble_eq_true rfl) ?_
  have hS : isString E.1 9 = true := by rw [hE]; exact stringT
  have hB : isBoolT E.1 4 = true := by rw [hE]; exact boolT
  have uS : E.P.underlying 9 = some .string := by rw [hE]; exact stringU
  have ui : E.P.underlying 3 = some (.int .i64) := by rw [hE]; exact intU
  have t3 : E.P.underlying 21 = some (.int .i32) := by rw [hE]; exact i32U
  have r1 : E.P.underlying 30 = some (.slice 21) := by rw [hE]; exact runesU2
  have r2 : zero E.P 21 = some (.int .i32 0) := by rw [hE]; exact i32Zero
  have r3 : sizeOf E.P 21 = some 1 := by rw [hE]; exact i32Size
  have d10 := fun n hn h K hk => digits10 hE n n (Nat.le_refl _) hn h K hk
  have d16 := fun n hn h K hk => digits16 hE n n (Nat.le_refl _) hn h K hk
  have u0 := fun l hl h K hk => nUnescC hE l hl h K hk
  have c0 := fun r h K hk => rCharC hE r h K hk
  have kn := fun h K hk => knownC hE h K hk
  clear hE
  cases n with
  | negSucc n =>
    cbv
    refine And.intro (fun _ => ?_) (fun e => absurd e (by omega))
    cbv
    exact ⟨_, rfl, rfl⟩
  | ofNat n =>
  by_cases hn : 33554431 < n
  · cbv
    refine And.intro (fun e => absurd e (Nat.not_lt_zero _)) (fun _ => ?_)
    cbv
    refine And.intro (fun _ => ?_) (fun e => absurd e (by omega))
    cbv
    exact ⟨_, rfl, rfl⟩
  cases k with
  | negSucc k =>
    cbv
    refine And.intro (fun e => absurd e (Nat.not_lt_zero _)) (fun _ => ?_)
    cbv
    refine And.intro (fun e => absurd e (by omega)) (fun _ => ?_)
    cbv
    refine And.intro (fun _ => ?_) (fun e => absurd e (by omega))
    cbv
    exact ⟨_, rfl, rfl⟩
  | ofNat k =>
  by_cases hk : 8 < k
  · cbv
    refine And.intro (fun e => absurd e (Nat.not_lt_zero _)) (fun _ => ?_)
    cbv
    refine And.intro (fun e => absurd e (by omega)) (fun _ => ?_)
    cbv
    refine And.intro (fun e => absurd e (Nat.not_lt_zero _)) (fun _ => ?_)
    cbv
    refine And.intro (fun _ => ?_) (fun e => absurd e (by omega))
    cbv
    exact ⟨_, rfl, rfl⟩
  have d10 := d10 n (by omega)
  have d16 := d16 n (by omega)
  cases hex
  · have hdl : (digL 10 n n).length ≤ 31 := digL_small (hex := false) 30 n n (by omega)
    cbv
    refine And.intro (fun e => absurd e (Nat.not_lt_zero _)) (fun _ => ?_)
    cbv
    refine And.intro (fun e => absurd e (by omega)) (fun _ => ?_)
    cbv
    refine And.intro (fun e => absurd e (Nat.not_lt_zero _)) (fun _ => ?_)
    cbv
    refine And.intro (fun e => absurd e (by omega)) (fun _ => ?_)
    cbv
    refine .inl (d10 _ _ fun h1 _ => ?_)
    clear d10 d16
    cbv
    refine LoopP.on (fun i : Nat => [(8, .int .i64 (.ofNat i)), (7, .string ⟨⟨List.replicate i 48 ++ digL 10 n n⟩⟩), (0, .int .i64 (.ofNat n)), (1, .int .i64 (.ofNat k)), (2, .bool false)]) (fun _ => h1) (fun i => i ≤ k) (fun i => k - i) 0 rfl (Less.cons rfl (Less.cons rfl (Less.cons rfl (Less.cons rfl (Less.cons rfl (Less.nil _)))))) (Nat.zero_le _) ?_
    intro i i1
    have i1 : i ≤ k := i1
    by_cases hi : i < k
    · have hb : Nat.le (Nat.add i 1) 4611686018427387904 := by show i + 1 ≤ _; omega
      have hl : Nat.le (Nat.add (Nat.add 0 1) (List.replicate i 48 ++ digL 10 n n).length) 4611686018427387904 := by
        show 1 + (List.replicate i 48 ++ digL 10 n n).length ≤ _
        simp
        omega
      have hr : 48 :: (List.replicate i 48 ++ digL 10 n n) = List.replicate (i + 1) 48 ++ digL 10 n n := rfl
      generalize hw : List.replicate i 48 ++ digL 10 n n = w at hl hr ⊢
      cbv
      refine And.intro (fun _ => ?_) (fun e => absurd e (by omega))
      cbv
      refine And.intro hl ?_
      refine And.intro hb ?_
      rw [hr]
      exact ⟨i + 1, Less.cons rfl (Less.cons rfl (Less.cons rfl (Less.cons rfl (Less.cons rfl (Less.nil _))))), rfl, hi, (by show k - (i + 1) < k - i; omega)⟩
    · obtain rfl : i = k := by omega
      have hmem := noughts_mem (hex := false) (n := n) (k := i)
      have hnum : numF false 0 (List.replicate i 48 ++ digL 10 n n) = some n := by
        rw [numF_noughts]
        exact digL_num (hex := false) n n (Nat.le_refl _)
      have hlen1 : 1 ≤ (List.replicate i 48 ++ digL 10 n n).length := by
        have := digL_len (b := 10) n n
        simp
        omega
      have hlen2 : (List.replicate i 48 ++ digL 10 n n).length ≤ 40 := by
        simp
        omega
      have hmem : ∀ c ∈ List.replicate i 48 ++ digL 10 n n, c ∈ digT := hmem
      clear hdl
      generalize List.replicate i 48 ++ digL 10 n n = w at hmem hnum hlen1 hlen2 ⊢
      have hun : unescape (38 :: 35 :: (w ++ [59])) = refD false w := by
        have := unesc_ref (w := w) (by intro hm; exact (digT_ok _ (hmem _ hm)).2.2.1 rfl) (by intro c hc; exact ⟨(digT_ok _ (hmem _ hc)).1, (digT_ok _ (hmem _ hc)).2.1⟩)
        rw [ref_dec (fun c hc => (digT_ok _ (hmem _ hc)).2.2.2) hlen1] at this; exact this
      have b1 : Nat.le (Nat.add 2 w.length) 4611686018427387904 := by show 2 + w.length ≤ _; omega
      have b2 : Nat.le (Nat.add (Nat.add (Nat.add w.length 1) 1) 1) 4611686018427387904 := by show w.length + 1 + 1 + 1 ≤ _; omega
      have b3 : Nat.le (Nat.add 3 w.length) 4611686018427387904 := by show 3 + w.length ≤ _; omega
      have b4 : Nat.le (Nat.add (Nat.add (Nat.add (Nat.add w.length 1) 1) 1) 1) 4611686018427387904 := by show w.length + 1 + 1 + 1 + 1 ≤ _; omega
      have hne : ¬ i < i := Nat.lt_irrefl _
      have u1 : ∀ (h : H) (K : Value → H → Prop), K (optV (refD false w)) h → CallP E 17 [.string ⟨⟨38 :: 35 :: (w ++ [59])⟩⟩] h K := by
        intro h K hk
        refine u0 _ (by simp; omega) h K ?_
        rw [hun]
        exact hk
      clear u0 hun
      by_cases h7 : 7 < w.length
      · rw [refD_long (.inr h7)] at u1
        cbv
        refine And.intro (fun e => absurd e (by omega)) (fun _ => ?_)
        cbv
        refine And.intro b1 (And.intro b2 ?_)
        refine .inl (u1 _ _ ?_)
        cbv
        refine And.intro hS ?_
        refine And.intro (fun e => absurd e (by omega)) (fun _ => ?_)
        cbv
        refine And.intro hB ?_
        cbv
        refine .inl (kn _ _ ?_)
        cbv
        exact ⟨_, rfl, rfl⟩
      rw [refD_some hlen1 (by omega) hnum] at u1
      have c1 := fun h K hk => c0 (.ofNat n) h K hk
      have hsl := sign_le (n := n)
      generalize sign (.ofNat n) = b at u1 c1 hsl
      by_cases hbig : 1114111 < n
      · obtain rfl : b = false := by
          cases b
          · rfl
          · exact absurd (hsl rfl) (by omega)
        cbv
        refine And.intro (fun e => absurd e (by omega)) (fun _ => ?_)
        cbv
        refine And.intro b1 (And.intro b2 ?_)
        refine .inl (u1 _ _ ?_)
        cbv
        refine And.intro hS ?_
        refine And.intro (fun _ => ?_) (fun e => absurd e (by omega))
        cbv
        refine And.intro (fun e => absurd e (by omega)) (fun _ => ?_)
        cbv
        refine And.intro hB ?_
        cbv
        refine .inl (kn _ _ ?_)
        cbv
        exact ⟨_, rfl, rfl⟩
      cbv
      refine And.intro (fun e => absurd e (by omega)) (fun _ => ?_)
      cbv
      refine And.intro b1 (And.intro b2 ?_)
      cases b
      all_goals (refine .inl (u1 _ _ ?_); cbv; refine And.intro hS ?_; refine And.intro (fun _ => ?_) (fun e => absurd e (by omega)); cbv; refine And.intro (fun _ => ?_) (fun e => absurd e (by omega)); cbv)
      all_goals (refine raw_conv rfl ui t3 (wrap_i32 (by omega)) ?_; cbv; refine .inl (c1 _ _ ?_); cbv; refine And.intro hB ?_; cbv)
      · refine .inl (kn _ _ ?_)
        cbv
        exact ⟨_, rfl, rfl⟩
      refine raw_conv rfl ui t3 (wrap_i32 (by omega)) ?_
      cbv
      refine raw_buildSlice rfl r1 r2 r3 (c := [.int .i32 (.ofNat n)]) (by decide) rfl ?_
      cbv
      refine raw_unrunes rfl r1 uS t3 (rs := [.ofNat n]) (read_one _ _ _) rfl ?_
      rw [runes_one]
      have hee : encodeB n = (Utf8.encode (.ofNat n)).data.toList := by rw [encodeB]
      clear u1
      generalize Utf8.encode (.ofNat n) = u at hee ⊢
      generalize encodeB n = x at hee ⊢
      refine And.intro (fun _ => ?_) (fun e => absurd hee e)
      cbv
      refine .inl (kn _ _ ?_)
      cbv
      exact ⟨_, rfl, rfl⟩
  · have hdl : (digL 16 n n).length ≤ 31 := digL_small (hex := true) 30 n n (by omega)
    cbv
    refine And.intro (fun e => absurd e (Nat.not_lt_zero _)) (fun _ => ?_)
    cbv
    refine And.intro (fun e => absurd e (by omega)) (fun _ => ?_)
    cbv
    refine And.intro (fun e => absurd e (Nat.not_lt_zero _)) (fun _ => ?_)
    cbv
    refine And.intro (fun e => absurd e (by omega)) (fun _ => ?_)
    cbv
    refine .inl (d10 _ _ fun h1 _ => ?_)
    cbv
    refine .inl (d16 _ _ fun h1 _ => ?_)
    clear d10 d16
    cbv
    refine LoopP.on (fun i : Nat => [(8, .int .i64 (.ofNat i)), (7, .string ⟨⟨List.replicate i 48 ++ digL 16 n n⟩⟩), (0, .int .i64 (.ofNat n)), (1, .int .i64 (.ofNat k)), (2, .bool true)]) (fun _ => h1) (fun i => i ≤ k) (fun i => k - i) 0 rfl (Less.cons rfl (Less.cons rfl (Less.cons rfl (Less.cons rfl (Less.cons rfl (Less.nil _)))))) (Nat.zero_le _) ?_
    intro i i1
    have i1 : i ≤ k := i1
    by_cases hi : i < k
    · have hb : Nat.le (Nat.add i 1) 4611686018427387904 := by show i + 1 ≤ _; omega
      have hl : Nat.le (Nat.add (Nat.add 0 1) (List.replicate i 48 ++ digL 16 n n).length) 4611686018427387904 := by
        show 1 + (List.replicate i 48 ++ digL 16 n n).length ≤ _
        simp
        omega
      have hr : 48 :: (List.replicate i 48 ++ digL 16 n n) = List.replicate (i + 1) 48 ++ digL 16 n n := rfl
      generalize hw : List.replicate i 48 ++ digL 16 n n = w at hl hr ⊢
      cbv
      refine And.intro (fun _ => ?_) (fun e => absurd e (by omega))
      cbv
      refine And.intro hl ?_
      refine And.intro hb ?_
      rw [hr]
      exact ⟨i + 1, Less.cons rfl (Less.cons rfl (Less.cons rfl (Less.cons rfl (Less.cons rfl (Less.nil _))))), rfl, hi, (by show k - (i + 1) < k - i; omega)⟩
    · obtain rfl : i = k := by omega
      have hmem := noughts_mem (hex := true) (n := n) (k := i)
      have hnum : numF true 0 (List.replicate i 48 ++ digL 16 n n) = some n := by
        rw [numF_noughts]
        exact digL_num (hex := true) n n (Nat.le_refl _)
      have hlen1 : 1 ≤ (List.replicate i 48 ++ digL 16 n n).length := by
        have := digL_len (b := 16) n n
        simp
        omega
      have hlen2 : (List.replicate i 48 ++ digL 16 n n).length ≤ 40 := by
        simp
        omega
      have hmem : ∀ c ∈ List.replicate i 48 ++ digL 16 n n, c ∈ digT := hmem
      clear hdl
      generalize List.replicate i 48 ++ digL 16 n n = w at hmem hnum hlen1 hlen2 ⊢
      have hun : unescape (38 :: 35 :: 120 :: (w ++ [59])) = refD true w := by
        have := unesc_ref (w := 120 :: w) (by intro hm; cases hm with | tail _ hm => exact (digT_ok _ (hmem _ hm)).2.2.1 rfl) (by intro c hc; cases hc with | head => exact ⟨by decide, by decide⟩ | tail _ hc => exact ⟨(digT_ok _ (hmem _ hc)).1, (digT_ok _ (hmem _ hc)).2.1⟩)
        exact this
      have b1 : Nat.le (Nat.add 2 w.length) 4611686018427387904 := by show 2 + w.length ≤ _; omega
      have b2 : Nat.le (Nat.add (Nat.add (Nat.add w.length 1) 1) 1) 4611686018427387904 := by show w.length + 1 + 1 + 1 ≤ _; omega
      have b3 : Nat.le (Nat.add 3 w.length) 4611686018427387904 := by show 3 + w.length ≤ _; omega
      have b4 : Nat.le (Nat.add (Nat.add (Nat.add (Nat.add w.length 1) 1) 1) 1) 4611686018427387904 := by show w.length + 1 + 1 + 1 + 1 ≤ _; omega
      have hne : ¬ i < i := Nat.lt_irrefl _
      have u1 : ∀ (h : H) (K : Value → H → Prop), K (optV (refD true w)) h → CallP E 17 [.string ⟨⟨38 :: 35 :: 120 :: (w ++ [59])⟩⟩] h K := by
        intro h K hk
        refine u0 _ (by simp; omega) h K ?_
        rw [hun]
        exact hk
      clear u0 hun
      by_cases h7 : 7 < w.length
      · rw [refD_long (.inr h7)] at u1
        cbv
        refine And.intro (fun e => absurd e (by omega)) (fun _ => ?_)
        cbv
        refine And.intro b1 (And.intro b2 (And.intro b3 (And.intro b4 ?_)))
        refine .inl (u1 _ _ ?_)
        cbv
        refine And.intro hS ?_
        refine And.intro (fun e => absurd e (by omega)) (fun _ => ?_)
        cbv
        refine And.intro hB ?_
        cbv
        refine .inl (kn _ _ ?_)
        cbv
        exact ⟨_, rfl, rfl⟩
      rw [refD_some hlen1 (by omega) hnum] at u1
      have c1 := fun h K hk => c0 (.ofNat n) h K hk
      have hsl := sign_le (n := n)
      generalize sign (.ofNat n) = b at u1 c1 hsl
      by_cases hbig : 1114111 < n
      · obtain rfl : b = false := by
          cases b
          · rfl
          · exact absurd (hsl rfl) (by omega)
        cbv
        refine And.intro (fun e => absurd e (by omega)) (fun _ => ?_)
        cbv
        refine And.intro b1 (And.intro b2 (And.intro b3 (And.intro b4 ?_)))
        refine .inl (u1 _ _ ?_)
        cbv
        refine And.intro hS ?_
        refine And.intro (fun _ => ?_) (fun e => absurd e (by omega))
        cbv
        refine And.intro (fun e => absurd e (by omega)) (fun _ => ?_)
        cbv
        refine And.intro hB ?_
        cbv
        refine .inl (kn _ _ ?_)
        cbv
        exact ⟨_, rfl, rfl⟩
      cbv
      refine And.intro (fun e => absurd e (by omega)) (fun _ => ?_)
      cbv
      refine And.intro b1 (And.intro b2 (And.intro b3 (And.intro b4 ?_)))
      cases b
      all_goals (refine .inl (u1 _ _ ?_); cbv; refine And.intro hS ?_; refine And.intro (fun _ => ?_) (fun e => absurd e (by omega)); cbv; refine And.intro (fun _ => ?_) (fun e => absurd e (by omega)); cbv)
      all_goals (refine raw_conv rfl ui t3 (wrap_i32 (by omega)) ?_; cbv; refine .inl (c1 _ _ ?_); cbv; refine And.intro hB ?_; cbv)
      · refine .inl (kn _ _ ?_)
        cbv
        exact ⟨_, rfl, rfl⟩
      refine raw_conv rfl ui t3 (wrap_i32 (by omega)) ?_
      cbv
      refine raw_buildSlice rfl r1 r2 r3 (c := [.int .i32 (.ofNat n)]) (by decide) rfl ?_
      cbv
      refine raw_unrunes rfl r1 uS t3 (rs := [.ofNat n]) (read_one _ _ _) rfl ?_
      rw [runes_one]
      have hee : encodeB n = (Utf8.encode (.ofNat n)).data.toList := by rw [encodeB]
      clear u1
      generalize Utf8.encode (.ofNat n) = u at hee ⊢
      generalize encodeB n = x at hee ⊢
      refine And.intro (fun _ => ?_) (fun e => absurd hee e)
      cbv
      refine .inl (kn _ _ ?_)
      cbv
      exact ⟨_, rfl, rfl⟩
end
theorem nameNumbers_calls (a0 : Int) (w0 : (Lit.int .i64 a0).wf = true) (a1 : Int) (w1 : (Lit.int .i64 a1).wf = true) (a2 : Bool) (W : World) (hL : laidMetH Tryd.prog Rows.nameNumbersRow.laid W) (hS : W.ShapedOpen Tryd.prog) : Calls Tryd.prog 5 #[.int .i64 a0, .int .i64 a1, .bool a2] W fun e W' => e = .returned (.bool true) ∧ Below W.heap.size W W' := by
  exact calls_of emok3' (nameNumbers rfl a0 a1 a2 h0) rfl rfl (wok_of hL hS) (size_of hS)
end Go.Proofs.YtknhcgdhfndooaaDoor.GEv
