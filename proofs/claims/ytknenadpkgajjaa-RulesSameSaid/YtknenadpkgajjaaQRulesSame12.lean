/- RulesSame, part 12: the words, the walks and the plain laws that the proof rests on. -/
import Derived.Test.YtknenadpkgajjaaQRulesSame11
section
namespace Go.Proofs.Ytknenadpkgajjaa.PA
open Go.RowKit Go.Proofs.YtknenadpkgajjaaW.PrintWords Go.Proofs.YtknenadpkgajjaaW.PrintLast Go.Proofs.YtknenadpkgajjaaW.PrintMore
attribute [local go_sem] max2_int min2_int max_two min_two max_three min_three max_four min_four   -- for this text's walks alone
set_option linter.unusedVariables false
set_option linter.unusedSimpArgs false
/-! ### sentrylaw10_RulesSame: function 7 -/
open Go.Proofs.Ytknenadpkgajjaa.GShare
set_option linter.unusedSimpArgs false
set_option linter.unusedVariables false
theorem ten {W : World} {b t : Nat} {v0 v1 v2 v3 v4 v5 v6 v7 v8 v9 : Value} (h : W.heap[b]? = some (.cells #[v0, v1, v2, v3, v4, v5, v6, v7, v8, v9] t (0, 0))) : W.cell? ⟨b, 0, none⟩ = some v0 ∧ W.cell? ⟨b, 1, none⟩ = some v1 ∧ W.cell? ⟨b, 2, none⟩ = some v2 ∧ W.cell? ⟨b, 3, none⟩ = some v3 ∧ W.cell? ⟨b, 4, none⟩ = some v4 ∧ W.cell? ⟨b, 5, none⟩ = some v5 ∧ W.cell? ⟨b, 6, none⟩ = some v6 ∧ W.cell? ⟨b, 7, none⟩ = some v7 ∧ W.cell? ⟨b, 8, none⟩ = some v8 ∧ W.cell? ⟨b, 9, none⟩ = some v9 :=
  ⟨(blk_cell h 0).trans rfl, (blk_cell h 1).trans rfl, (blk_cell h 2).trans rfl, (blk_cell h 3).trans rfl, (blk_cell h 4).trans rfl, (blk_cell h 5).trans rfl, (blk_cell h 6).trans rfl, (blk_cell h 7).trans rfl, (blk_cell h 8).trans rfl, (blk_cell h 9).trans rfl⟩
theorem ten_alloc {W : World} {b t : Nat} {v0 v1 v2 v3 v4 v5 v6 v7 v8 v9 : Value} (h : W.heap[b]? = some (.cells #[v0, v1, v2, v3, v4, v5, v6, v7, v8, v9] t (0, 0))) : (∀ o, (W.alloc o).cell? ⟨b, 0, none⟩ = some v0) ∧ (∀ o, (W.alloc o).cell? ⟨b, 1, none⟩ = some v1) ∧ (∀ o, (W.alloc o).cell? ⟨b, 2, none⟩ = some v2) ∧ (∀ o, (W.alloc o).cell? ⟨b, 3, none⟩ = some v3) ∧ (∀ o, (W.alloc o).cell? ⟨b, 4, none⟩ = some v4) ∧ (∀ o, (W.alloc o).cell? ⟨b, 5, none⟩ = some v5) ∧ (∀ o, (W.alloc o).cell? ⟨b, 6, none⟩ = some v6) ∧ (∀ o, (W.alloc o).cell? ⟨b, 7, none⟩ = some v7) ∧ (∀ o, (W.alloc o).cell? ⟨b, 8, none⟩ = some v8) ∧ (∀ o, (W.alloc o).cell? ⟨b, 9, none⟩ = some v9) :=
  ⟨fun o => (ten (blk_alloc h o)).1, fun o => (ten (blk_alloc h o)).2.1, fun o => (ten (blk_alloc h o)).2.2.1, fun o => (ten (blk_alloc h o)).2.2.2.1, fun o => (ten (blk_alloc h o)).2.2.2.2.1, fun o => (ten (blk_alloc h o)).2.2.2.2.2.1, fun o => (ten (blk_alloc h o)).2.2.2.2.2.2.1, fun o => (ten (blk_alloc h o)).2.2.2.2.2.2.2.1, fun o => (ten (blk_alloc h o)).2.2.2.2.2.2.2.2.1, fun o => (ten (blk_alloc h o)).2.2.2.2.2.2.2.2.2⟩
def smallP (p2 : List Int) (p5 : List ByteArray) (p6 : List S28) (p8 : List S46) (p9 : List S57) : Prop := p2.length < 1000000 ∧ p5.length < 1000000 ∧ p6.length < 1000000 ∧ p8.length < 1000000 ∧ p9.length < 1000000
instance (p2 : List Int) (p5 : List ByteArray) (p6 : List S28) (p8 : List S46) (p9 : List S57) : Decidable (smallP p2 p5 p6 p8 p9) := by unfold smallP; infer_instance
def sameOut (k : Nat) (a0_0 : Int) (a0_1 : Int) (l0_2 : List Int) (l0_3 : List Int) (a0_4 : Int) (l0_5 : List ByteArray) (l0_6 : List S28) (l0_7 : List S44) (l0_8 : List S46) (l0_9 : List S57) (a1_0 : Int) (a1_1 : Int) (l1_2 : List Int) (l1_3 : List Int) (a1_4 : Int) (l1_5 : List ByteArray) (l1_6 : List S28) (l1_7 : List S44) (l1_8 : List S46) (l1_9 : List S57) : Option Bool := (rules_Same.f k a0_0 a0_1 l0_2 l0_3 a0_4 l0_5 l0_6 l0_7 l0_8 l0_9 a1_0 a1_1 l1_2 l1_3 a1_4 l1_5 l1_6 l1_7 l1_8 l1_9).bind fun b1 => if b1 = false then (rules_Same.f k a1_0 a1_1 l1_2 l1_3 a1_4 l1_5 l1_6 l1_7 l1_8 l1_9 a0_0 a0_1 l0_2 l0_3 a0_4 l0_5 l0_6 l0_7 l0_8 l0_9).bind fun b2 => if b2 = false then (rules_Same.f k a1_0 a1_1 l1_2 l1_3 a1_4 l1_5 l1_6 l1_7 l1_8 l1_9 a1_0 a1_1 l1_2 l1_3 a1_4 l1_5 l1_6 l1_7 l1_8 l1_9).bind fun b3 => if b3 = true then sentrylaw10_known.f k else none else none else none
theorem sameOut_open {k : Nat} {a0_0 : Int} {a0_1 : Int} {l0_2 : List Int} {l0_3 : List Int} {a0_4 : Int} {l0_5 : List ByteArray} {l0_6 : List S28} {l0_7 : List S44} {l0_8 : List S46} {l0_9 : List S57} {a1_0 : Int} {a1_1 : Int} {l1_2 : List Int} {l1_3 : List Int} {a1_4 : Int} {l1_5 : List ByteArray} {l1_6 : List S28} {l1_7 : List S44} {l1_8 : List S46} {l1_9 : List S57} {r : Bool} (h : sameOut k a0_0 a0_1 l0_2 l0_3 a0_4 l0_5 l0_6 l0_7 l0_8 l0_9 a1_0 a1_1 l1_2 l1_3 a1_4 l1_5 l1_6 l1_7 l1_8 l1_9 = some r) : rules_Same.f k a0_0 a0_1 l0_2 l0_3 a0_4 l0_5 l0_6 l0_7 l0_8 l0_9 a1_0 a1_1 l1_2 l1_3 a1_4 l1_5 l1_6 l1_7 l1_8 l1_9 = some false ∧ rules_Same.f k a1_0 a1_1 l1_2 l1_3 a1_4 l1_5 l1_6 l1_7 l1_8 l1_9 a0_0 a0_1 l0_2 l0_3 a0_4 l0_5 l0_6 l0_7 l0_8 l0_9 = some false ∧ rules_Same.f k a1_0 a1_1 l1_2 l1_3 a1_4 l1_5 l1_6 l1_7 l1_8 l1_9 a1_0 a1_1 l1_2 l1_3 a1_4 l1_5 l1_6 l1_7 l1_8 l1_9 = some true ∧ sentrylaw10_known.f k = some r := by
  unfold sameOut at h
  obtain ⟨b1, h1, h⟩ := Option.bind_eq_some_iff.mp h
  cases b1 with
  | true => rw [if_neg (by decide)] at h; cases h
  | false =>
    rw [if_pos rfl] at h
    obtain ⟨b2, h2, h⟩ := Option.bind_eq_some_iff.mp h
    cases b2 with
    | true => rw [if_neg (by decide)] at h; cases h
    | false =>
      rw [if_pos rfl] at h
      obtain ⟨b3, h3, h⟩ := Option.bind_eq_some_iff.mp h
      cases b3 with
      | false => rw [if_neg (by decide)] at h; cases h
      | true =>
        rw [if_pos rfl] at h
        exact ⟨h1, h2, h3, h⟩
theorem sameOut_mono (k : Nat) (a0_0 : Int) (a0_1 : Int) (l0_2 : List Int) (l0_3 : List Int) (a0_4 : Int) (l0_5 : List ByteArray) (l0_6 : List S28) (l0_7 : List S44) (l0_8 : List S46) (l0_9 : List S57) (a1_0 : Int) (a1_1 : Int) (l1_2 : List Int) (l1_3 : List Int) (a1_4 : Int) (l1_5 : List ByteArray) (l1_6 : List S28) (l1_7 : List S44) (l1_8 : List S46) (l1_9 : List S57) : LeO (sameOut k a0_0 a0_1 l0_2 l0_3 a0_4 l0_5 l0_6 l0_7 l0_8 l0_9 a1_0 a1_1 l1_2 l1_3 a1_4 l1_5 l1_6 l1_7 l1_8 l1_9) (sameOut (k + 1) a0_0 a0_1 l0_2 l0_3 a0_4 l0_5 l0_6 l0_7 l0_8 l0_9 a1_0 a1_1 l1_2 l1_3 a1_4 l1_5 l1_6 l1_7 l1_8 l1_9) :=
  .bind (rules_Same.mono _ _ _ _ _ _ _ _ _ _ _ _ _ _ _ _ _ _ _ _ k) fun b1 => .ite (.bind (rules_Same.mono _ _ _ _ _ _ _ _ _ _ _ _ _ _ _ _ _ _ _ _ k) fun b2 => .ite (.bind (rules_Same.mono _ _ _ _ _ _ _ _ _ _ _ _ _ _ _ _ _ _ _ _ k) fun b3 => .ite (sentrylaw10_known.mono k) (.refl _)) (.refl _)) (.refl _)
set_option maxHeartbeats 4000000 in
set_option maxRecDepth 100000 in
theorem same_w0 (k : Nat) (a0_0 : Int) (a0_1 : Int) (A0_2 : Option Addr) (c0_2 : Nat) (l0_2 : List Int) (A0_3 : Option Addr) (c0_3 : Nat) (l0_3 : List Int) (a0_4 : Int) (A0_5 : Option Addr) (c0_5 : Nat) (l0_5 : List ByteArray) (A0_6 : Option Addr) (c0_6 : Nat) (l0_6 : List S28) (A0_7 : Option Addr) (c0_7 : Nat) (l0_7 : List S44) (A0_8 : Option Addr) (c0_8 : Nat) (l0_8 : List S46) (A0_9 : Option Addr) (c0_9 : Nat) (l0_9 : List S57) (r : Bool) (w : World) (hr0_2 : Kd.C (Kd.int .i64) w A0_2 l0_2.length l0_2) (hc0_2 : l0_2.length ≤ c0_2) (hr0_3 : Kd.C (Kd.int .i64) w A0_3 l0_3.length l0_3) (hc0_3 : l0_3.length ≤ c0_3) (hr0_5 : Kd.C Kd.string w A0_5 l0_5.length l0_5) (hc0_5 : l0_5.length ≤ c0_5) (hr0_6 : Kd.C k28 w A0_6 l0_6.length l0_6) (hc0_6 : l0_6.length ≤ c0_6) (hr0_7 : Kd.C k44 w A0_7 l0_7.length l0_7) (hc0_7 : l0_7.length ≤ c0_7) (hr0_8 : Kd.C k46 w A0_8 l0_8.length l0_8) (hc0_8 : l0_8.length ≤ c0_8) (hr0_9 : Kd.C k57 w A0_9 l0_9.length l0_9) (hc0_9 : l0_9.length ≤ c0_9) (hbig : sentrylaw10_big.f k a0_0 a0_1 l0_2 l0_3 a0_4 l0_5 l0_6 l0_7 l0_8 l0_9 = some false) (hs : smallP l0_2 l0_5 l0_6 l0_8 l0_9) (h : sameOut k a0_0 a0_1 l0_2 l0_3 a0_4 l0_5 l0_6 l0_7 l0_8 l0_9 (wrap64 (a0_0 + 1)) a0_1 l0_2 l0_3 a0_4 l0_5 l0_6 l0_7 l0_8 l0_9 = some r) :
    Calls Try.prog 7 #[.agg #[.int .i64 a0_0, .int .i64 a0_1, .slice A0_2 l0_2.length c0_2, .slice A0_3 l0_3.length c0_3, .int .i64 a0_4, .slice A0_5 l0_5.length c0_5, .slice A0_6 l0_6.length c0_6, .slice A0_7 l0_7.length c0_7, .slice A0_8 l0_8.length c0_8, .slice A0_9 l0_9.length c0_9], .int .i64 0] w fun e w' => e = .returned (.bool r) ∧ Below w.heap.size w w' := by
  have HBG := Aside0.mk hbig
  have HS := Aside0.mk hs
  have HR0_2 := Aside0.mk (And.intro hr0_2 hc0_2)
  have HR0_3 := Aside0.mk (And.intro hr0_3 hc0_3)
  have HR0_5 := Aside0.mk (And.intro hr0_5 hc0_5)
  have HR0_6 := Aside0.mk (And.intro hr0_6 hc0_6)
  have HR0_7 := Aside0.mk (And.intro hr0_7 hc0_7)
  have HR0_8 := Aside0.mk (And.intro hr0_8 hc0_8)
  have HR0_9 := Aside0.mk (And.intro hr0_9 hc0_9)
  obtain ⟨h1, h2, h3, h4⟩ := sameOut_open h
  have HQ1 := Aside0.mk h1
  have HQ2 := Aside0.mk h2
  have HQ3 := Aside0.mk h3
  have HKN := Aside0.mk h4
  clear hr0_2 hc0_2 hr0_3 hc0_3 hr0_5 hc0_5 hr0_6 hc0_6 hr0_7 hc0_7 hr0_8 hc0_8 hr0_9 hc0_9 hbig hs h h1 h2 h3 h4
  have HB0 := Aside0.mk (Below.refl w.heap.size w)
  go_enter Try.func7, Try.ntmps7
  go_wp2_with (fail)
  refine (sentrylaw10_big.calls k a0_0 a0_1 _ _ l0_2 _ _ l0_3 a0_4 _ _ l0_5 _ _ l0_6 _ _ l0_7 _ _ l0_8 _ _ l0_9 false _ (Kd.C_alloc HR0_2.out.1 _) HR0_2.out.2 (Kd.C_alloc HR0_3.out.1 _) HR0_3.out.2 (Kd.C_alloc HR0_5.out.1 _) HR0_5.out.2 (Kd.C_alloc HR0_6.out.1 _) HR0_6.out.2 (Kd.C_alloc HR0_7.out.1 _) HR0_7.out.2 (Kd.C_alloc HR0_8.out.1 _) HR0_8.out.2 (Kd.C_alloc HR0_9.out.1 _) HR0_9.out.2 HBG.out).mono ?_
  rintro e w1 ⟨rfl, hb1⟩
  have HB1 := Aside0.mk (below_step (below_alloc HB0.out _ : Below w.heap.size w _) hb1)
  have HP1 := Aside0.mk ((hb1.block _ (blk_lt (MapKept.heap_alloc w _).1)).trans (MapKept.heap_alloc w _).1)
  clear hb1 HB0 HBG
  obtain ⟨kp0, kp1, kp2, kp3, kp4, kp5, kp6, kp7, kp8, kp9⟩ := ten HP1.out
  obtain ⟨kq0, kq1, kq2, kq3, kq4, kq5, kq6, kq7, kq8, kq9⟩ := ten_alloc HP1.out
  have HP4 := Aside0.mk (blk_alloc HP1.out (.cells #[.int .i64 (wrap64 (a0_0 + 1)), .int .i64 a0_1, .slice A0_2 l0_2.length c0_2, .slice A0_3 l0_3.length c0_3, .int .i64 a0_4, .slice A0_5 l0_5.length c0_5, .slice A0_6 l0_6.length c0_6, .slice A0_7 l0_7.length c0_7, .slice A0_8 l0_8.length c0_8, .slice A0_9 l0_9.length c0_9] 36))
  have HQ4 := Aside0.mk (MapKept.heap_alloc w1 (.cells #[.int .i64 (wrap64 (a0_0 + 1)), .int .i64 a0_1, .slice A0_2 l0_2.length c0_2, .slice A0_3 l0_3.length c0_3, .int .i64 a0_4, .slice A0_5 l0_5.length c0_5, .slice A0_6 l0_6.length c0_6, .slice A0_7 l0_7.length c0_7, .slice A0_8 l0_8.length c0_8, .slice A0_9 l0_9.length c0_9] 36)).1
  have HB4 := Aside0.mk (below_alloc HB1.out (.cells #[.int .i64 (wrap64 (a0_0 + 1)), .int .i64 a0_1, .slice A0_2 l0_2.length c0_2, .slice A0_3 l0_3.length c0_3, .int .i64 a0_4, .slice A0_5 l0_5.length c0_5, .slice A0_6 l0_6.length c0_6, .slice A0_7 l0_7.length c0_7, .slice A0_8 l0_8.length c0_8, .slice A0_9 l0_9.length c0_9] 36))
  have HBQ := Aside0.mk (Below.refl (w1.alloc (.cells #[.int .i64 (wrap64 (a0_0 + 1)), .int .i64 a0_1, .slice A0_2 l0_2.length c0_2, .slice A0_3 l0_3.length c0_3, .int .i64 a0_4, .slice A0_5 l0_5.length c0_5, .slice A0_6 l0_6.length c0_6, .slice A0_7 l0_7.length c0_7, .slice A0_8 l0_8.length c0_8, .slice A0_9 l0_9.length c0_9] 36)).heap.size (w1.alloc (.cells #[.int .i64 (wrap64 (a0_0 + 1)), .int .i64 a0_1, .slice A0_2 l0_2.length c0_2, .slice A0_3 l0_3.length c0_3, .int .i64 a0_4, .slice A0_5 l0_5.length c0_5, .slice A0_6 l0_6.length c0_6, .slice A0_7 l0_7.length c0_7, .slice A0_8 l0_8.length c0_8, .slice A0_9 l0_9.length c0_9] 36)))
  clear HBQ
  go_wp2_with (fail)
  have HQB4 := HQ4
  clear HQ4
  have HBQ4 := Aside0.mk (Below.refl (w1.alloc (.cells #[.int .i64 (wrap64 (a0_0 + 1)), .int .i64 a0_1, .slice A0_2 l0_2.length c0_2, .slice A0_3 l0_3.length c0_3, .int .i64 a0_4, .slice A0_5 l0_5.length c0_5, .slice A0_6 l0_6.length c0_6, .slice A0_7 l0_7.length c0_7, .slice A0_8 l0_8.length c0_8, .slice A0_9 l0_9.length c0_9] 36)).heap.size (w1.alloc (.cells #[.int .i64 (wrap64 (a0_0 + 1)), .int .i64 a0_1, .slice A0_2 l0_2.length c0_2, .slice A0_3 l0_3.length c0_3, .int .i64 a0_4, .slice A0_5 l0_5.length c0_5, .slice A0_6 l0_6.length c0_6, .slice A0_7 l0_7.length c0_7, .slice A0_8 l0_8.length c0_8, .slice A0_9 l0_9.length c0_9] 36)))
  refine (rules_Same.calls k a0_0 a0_1 _ _ l0_2 _ _ l0_3 a0_4 _ _ l0_5 _ _ l0_6 _ _ l0_7 _ _ l0_8 _ _ l0_9 (wrap64 (a0_0 + 1)) a0_1 _ _ l0_2 _ _ l0_3 a0_4 _ _ l0_5 _ _ l0_6 _ _ l0_7 _ _ l0_8 _ _ l0_9 false _ (Kd.C_below HR0_2.out.1 HB4.out) HR0_2.out.2 (Kd.C_below HR0_3.out.1 HB4.out) HR0_3.out.2 (Kd.C_below HR0_5.out.1 HB4.out) HR0_5.out.2 (Kd.C_below HR0_6.out.1 HB4.out) HR0_6.out.2 (Kd.C_below HR0_7.out.1 HB4.out) HR0_7.out.2 (Kd.C_below HR0_8.out.1 HB4.out) HR0_8.out.2 (Kd.C_below HR0_9.out.1 HB4.out) HR0_9.out.2 (Kd.C_below HR0_2.out.1 HB4.out) HR0_2.out.2 (Kd.C_below HR0_3.out.1 HB4.out) HR0_3.out.2 (Kd.C_below HR0_5.out.1 HB4.out) HR0_5.out.2 (Kd.C_below HR0_6.out.1 HB4.out) HR0_6.out.2 (Kd.C_below HR0_7.out.1 HB4.out) HR0_7.out.2 (Kd.C_below HR0_8.out.1 HB4.out) HR0_8.out.2 (Kd.C_below HR0_9.out.1 HB4.out) HR0_9.out.2 HQ1.out).mono ?_
  rintro e w5 ⟨rfl, hb⟩
  have HB5 := Aside0.mk (below_step HB4.out hb)
  have HBQ5 := Aside0.mk (below_step HBQ4.out hb)
  have HP5 := Aside0.mk ((hb.block _ (blk_lt HP4.out)).trans HP4.out)
  have HQB5 := Aside0.mk ((hb.block _ (blk_lt HQB4.out)).trans HQB4.out)
  clear hb HP4 HQB4 HB4 HBQ4 HQ1
  obtain ⟨kp5_0, kp5_1, kp5_2, kp5_3, kp5_4, kp5_5, kp5_6, kp5_7, kp5_8, kp5_9⟩ := ten HP5.out
  obtain ⟨kq5_0, kq5_1, kq5_2, kq5_3, kq5_4, kq5_5, kq5_6, kq5_7, kq5_8, kq5_9⟩ := ten HQB5.out
  go_wp2_with (fail)
  refine (rules_Same.calls k (wrap64 (a0_0 + 1)) a0_1 _ _ l0_2 _ _ l0_3 a0_4 _ _ l0_5 _ _ l0_6 _ _ l0_7 _ _ l0_8 _ _ l0_9 a0_0 a0_1 _ _ l0_2 _ _ l0_3 a0_4 _ _ l0_5 _ _ l0_6 _ _ l0_7 _ _ l0_8 _ _ l0_9 false _ (Kd.C_below HR0_2.out.1 HB5.out) HR0_2.out.2 (Kd.C_below HR0_3.out.1 HB5.out) HR0_3.out.2 (Kd.C_below HR0_5.out.1 HB5.out) HR0_5.out.2 (Kd.C_below HR0_6.out.1 HB5.out) HR0_6.out.2 (Kd.C_below HR0_7.out.1 HB5.out) HR0_7.out.2 (Kd.C_below HR0_8.out.1 HB5.out) HR0_8.out.2 (Kd.C_below HR0_9.out.1 HB5.out) HR0_9.out.2 (Kd.C_below HR0_2.out.1 HB5.out) HR0_2.out.2 (Kd.C_below HR0_3.out.1 HB5.out) HR0_3.out.2 (Kd.C_below HR0_5.out.1 HB5.out) HR0_5.out.2 (Kd.C_below HR0_6.out.1 HB5.out) HR0_6.out.2 (Kd.C_below HR0_7.out.1 HB5.out) HR0_7.out.2 (Kd.C_below HR0_8.out.1 HB5.out) HR0_8.out.2 (Kd.C_below HR0_9.out.1 HB5.out) HR0_9.out.2 HQ2.out).mono ?_
  rintro e w6 ⟨rfl, hb⟩
  have HB6 := Aside0.mk (below_step HB5.out hb)
  have HBQ6 := Aside0.mk (below_step HBQ5.out hb)
  have HP6 := Aside0.mk ((hb.block _ (blk_lt HP5.out)).trans HP5.out)
  have HQB6 := Aside0.mk ((hb.block _ (blk_lt HQB5.out)).trans HQB5.out)
  clear hb HP5 HQB5 HB5 HBQ5 HQ2
  obtain ⟨kp6_0, kp6_1, kp6_2, kp6_3, kp6_4, kp6_5, kp6_6, kp6_7, kp6_8, kp6_9⟩ := ten HP6.out
  obtain ⟨kq6_0, kq6_1, kq6_2, kq6_3, kq6_4, kq6_5, kq6_6, kq6_7, kq6_8, kq6_9⟩ := ten HQB6.out
  go_wp2_with (fail)
  refine (rules_Same.calls k (wrap64 (a0_0 + 1)) a0_1 _ _ l0_2 _ _ l0_3 a0_4 _ _ l0_5 _ _ l0_6 _ _ l0_7 _ _ l0_8 _ _ l0_9 (wrap64 (a0_0 + 1)) a0_1 _ _ l0_2 _ _ l0_3 a0_4 _ _ l0_5 _ _ l0_6 _ _ l0_7 _ _ l0_8 _ _ l0_9 true _ (Kd.C_below HR0_2.out.1 HB6.out) HR0_2.out.2 (Kd.C_below HR0_3.out.1 HB6.out) HR0_3.out.2 (Kd.C_below HR0_5.out.1 HB6.out) HR0_5.out.2 (Kd.C_below HR0_6.out.1 HB6.out) HR0_6.out.2 (Kd.C_below HR0_7.out.1 HB6.out) HR0_7.out.2 (Kd.C_below HR0_8.out.1 HB6.out) HR0_8.out.2 (Kd.C_below HR0_9.out.1 HB6.out) HR0_9.out.2 (Kd.C_below HR0_2.out.1 HB6.out) HR0_2.out.2 (Kd.C_below HR0_3.out.1 HB6.out) HR0_3.out.2 (Kd.C_below HR0_5.out.1 HB6.out) HR0_5.out.2 (Kd.C_below HR0_6.out.1 HB6.out) HR0_6.out.2 (Kd.C_below HR0_7.out.1 HB6.out) HR0_7.out.2 (Kd.C_below HR0_8.out.1 HB6.out) HR0_8.out.2 (Kd.C_below HR0_9.out.1 HB6.out) HR0_9.out.2 HQ3.out).mono ?_
  rintro e w7 ⟨rfl, hb⟩
  have HB7 := Aside0.mk (below_step HB6.out hb)
  have HBQ7 := Aside0.mk (below_step HBQ6.out hb)
  have HP7 := Aside0.mk ((hb.block _ (blk_lt HP6.out)).trans HP6.out)
  have HQB7 := Aside0.mk ((hb.block _ (blk_lt HQB6.out)).trans HQB6.out)
  clear hb HP6 HQB6 HB6 HBQ6 HQ3
  obtain ⟨kp7_0, kp7_1, kp7_2, kp7_3, kp7_4, kp7_5, kp7_6, kp7_7, kp7_8, kp7_9⟩ := ten HP7.out
  obtain ⟨kq7_0, kq7_1, kq7_2, kq7_3, kq7_4, kq7_5, kq7_6, kq7_7, kq7_8, kq7_9⟩ := ten HQB7.out
  go_wp2_with (fail)
  refine (sentrylaw10_known.calls k r _ HKN.out).mono ?_
  rintro e w8 ⟨rfl, hb⟩
  have HB8 := Aside0.mk (below_step HB7.out hb)
  clear hb
  go_wp2
  go_ret
  exact ⟨rfl, HB8.out⟩
set_option maxHeartbeats 4000000 in
set_option maxRecDepth 100000 in
theorem same_w1 (k : Nat) (a0_0 : Int) (a0_1 : Int) (A0_2 : Option Addr) (c0_2 : Nat) (l0_2 : List Int) (A0_3 : Option Addr) (c0_3 : Nat) (l0_3 : List Int) (a0_4 : Int) (A0_5 : Option Addr) (c0_5 : Nat) (l0_5 : List ByteArray) (A0_6 : Option Addr) (c0_6 : Nat) (l0_6 : List S28) (A0_7 : Option Addr) (c0_7 : Nat) (l0_7 : List S44) (A0_8 : Option Addr) (c0_8 : Nat) (l0_8 : List S46) (A0_9 : Option Addr) (c0_9 : Nat) (l0_9 : List S57) (r : Bool) (w : World) (hr0_2 : Kd.C (Kd.int .i64) w A0_2 l0_2.length l0_2) (hc0_2 : l0_2.length ≤ c0_2) (hr0_3 : Kd.C (Kd.int .i64) w A0_3 l0_3.length l0_3) (hc0_3 : l0_3.length ≤ c0_3) (hr0_5 : Kd.C Kd.string w A0_5 l0_5.length l0_5) (hc0_5 : l0_5.length ≤ c0_5) (hr0_6 : Kd.C k28 w A0_6 l0_6.length l0_6) (hc0_6 : l0_6.length ≤ c0_6) (hr0_7 : Kd.C k44 w A0_7 l0_7.length l0_7) (hc0_7 : l0_7.length ≤ c0_7) (hr0_8 : Kd.C k46 w A0_8 l0_8.length l0_8) (hc0_8 : l0_8.length ≤ c0_8) (hr0_9 : Kd.C k57 w A0_9 l0_9.length l0_9) (hc0_9 : l0_9.length ≤ c0_9) (hbig : sentrylaw10_big.f k a0_0 a0_1 l0_2 l0_3 a0_4 l0_5 l0_6 l0_7 l0_8 l0_9 = some false) (hs : smallP l0_2 l0_5 l0_6 l0_8 l0_9) (h : sameOut k a0_0 a0_1 l0_2 l0_3 a0_4 l0_5 l0_6 l0_7 l0_8 l0_9 a0_0 (wrap64 (a0_1 + 1)) l0_2 l0_3 a0_4 l0_5 l0_6 l0_7 l0_8 l0_9 = some r) :
    Calls Try.prog 7 #[.agg #[.int .i64 a0_0, .int .i64 a0_1, .slice A0_2 l0_2.length c0_2, .slice A0_3 l0_3.length c0_3, .int .i64 a0_4, .slice A0_5 l0_5.length c0_5, .slice A0_6 l0_6.length c0_6, .slice A0_7 l0_7.length c0_7, .slice A0_8 l0_8.length c0_8, .slice A0_9 l0_9.length c0_9], .int .i64 1] w fun e w' => e = .returned (.bool r) ∧ Below w.heap.size w w' := by
  have HBG := Aside0.mk hbig
  have HS := Aside0.mk hs
  have HR0_2 := Aside0.mk (And.intro hr0_2 hc0_2)
  have HR0_3 := Aside0.mk (And.intro hr0_3 hc0_3)
  have HR0_5 := Aside0.mk (And.intro hr0_5 hc0_5)
  have HR0_6 := Aside0.mk (And.intro hr0_6 hc0_6)
  have HR0_7 := Aside0.mk (And.intro hr0_7 hc0_7)
  have HR0_8 := Aside0.mk (And.intro hr0_8 hc0_8)
  have HR0_9 := Aside0.mk (And.intro hr0_9 hc0_9)
  obtain ⟨h1, h2, h3, h4⟩ := sameOut_open h
  have HQ1 := Aside0.mk h1
  have HQ2 := Aside0.mk h2
  have HQ3 := Aside0.mk h3
  have HKN := Aside0.mk h4
  clear hr0_2 hc0_2 hr0_3 hc0_3 hr0_5 hc0_5 hr0_6 hc0_6 hr0_7 hc0_7 hr0_8 hc0_8 hr0_9 hc0_9 hbig hs h h1 h2 h3 h4
  have HB0 := Aside0.mk (Below.refl w.heap.size w)
  go_enter Try.func7, Try.ntmps7
  go_wp2_with (fail)
  refine (sentrylaw10_big.calls k a0_0 a0_1 _ _ l0_2 _ _ l0_3 a0_4 _ _ l0_5 _ _ l0_6 _ _ l0_7 _ _ l0_8 _ _ l0_9 false _ (Kd.C_alloc HR0_2.out.1 _) HR0_2.out.2 (Kd.C_alloc HR0_3.out.1 _) HR0_3.out.2 (Kd.C_alloc HR0_5.out.1 _) HR0_5.out.2 (Kd.C_alloc HR0_6.out.1 _) HR0_6.out.2 (Kd.C_alloc HR0_7.out.1 _) HR0_7.out.2 (Kd.C_alloc HR0_8.out.1 _) HR0_8.out.2 (Kd.C_alloc HR0_9.out.1 _) HR0_9.out.2 HBG.out).mono ?_
  rintro e w1 ⟨rfl, hb1⟩
  have HB1 := Aside0.mk (below_step (below_alloc HB0.out _ : Below w.heap.size w _) hb1)
  have HP1 := Aside0.mk ((hb1.block _ (blk_lt (MapKept.heap_alloc w _).1)).trans (MapKept.heap_alloc w _).1)
  clear hb1 HB0 HBG
  obtain ⟨kp0, kp1, kp2, kp3, kp4, kp5, kp6, kp7, kp8, kp9⟩ := ten HP1.out
  obtain ⟨kq0, kq1, kq2, kq3, kq4, kq5, kq6, kq7, kq8, kq9⟩ := ten_alloc HP1.out
  have HP4 := Aside0.mk (blk_alloc HP1.out (.cells #[.int .i64 a0_0, .int .i64 (wrap64 (a0_1 + 1)), .slice A0_2 l0_2.length c0_2, .slice A0_3 l0_3.length c0_3, .int .i64 a0_4, .slice A0_5 l0_5.length c0_5, .slice A0_6 l0_6.length c0_6, .slice A0_7 l0_7.length c0_7, .slice A0_8 l0_8.length c0_8, .slice A0_9 l0_9.length c0_9] 36))
  have HQ4 := Aside0.mk (MapKept.heap_alloc w1 (.cells #[.int .i64 a0_0, .int .i64 (wrap64 (a0_1 + 1)), .slice A0_2 l0_2.length c0_2, .slice A0_3 l0_3.length c0_3, .int .i64 a0_4, .slice A0_5 l0_5.length c0_5, .slice A0_6 l0_6.length c0_6, .slice A0_7 l0_7.length c0_7, .slice A0_8 l0_8.length c0_8, .slice A0_9 l0_9.length c0_9] 36)).1
  have HB4 := Aside0.mk (below_alloc HB1.out (.cells #[.int .i64 a0_0, .int .i64 (wrap64 (a0_1 + 1)), .slice A0_2 l0_2.length c0_2, .slice A0_3 l0_3.length c0_3, .int .i64 a0_4, .slice A0_5 l0_5.length c0_5, .slice A0_6 l0_6.length c0_6, .slice A0_7 l0_7.length c0_7, .slice A0_8 l0_8.length c0_8, .slice A0_9 l0_9.length c0_9] 36))
  have HBQ := Aside0.mk (Below.refl (w1.alloc (.cells #[.int .i64 a0_0, .int .i64 (wrap64 (a0_1 + 1)), .slice A0_2 l0_2.length c0_2, .slice A0_3 l0_3.length c0_3, .int .i64 a0_4, .slice A0_5 l0_5.length c0_5, .slice A0_6 l0_6.length c0_6, .slice A0_7 l0_7.length c0_7, .slice A0_8 l0_8.length c0_8, .slice A0_9 l0_9.length c0_9] 36)).heap.size (w1.alloc (.cells #[.int .i64 a0_0, .int .i64 (wrap64 (a0_1 + 1)), .slice A0_2 l0_2.length c0_2, .slice A0_3 l0_3.length c0_3, .int .i64 a0_4, .slice A0_5 l0_5.length c0_5, .slice A0_6 l0_6.length c0_6, .slice A0_7 l0_7.length c0_7, .slice A0_8 l0_8.length c0_8, .slice A0_9 l0_9.length c0_9] 36)))
  clear HBQ
  go_wp2_with (fail)
  have HQB4 := HQ4
  clear HQ4
  have HBQ4 := Aside0.mk (Below.refl (w1.alloc (.cells #[.int .i64 a0_0, .int .i64 (wrap64 (a0_1 + 1)), .slice A0_2 l0_2.length c0_2, .slice A0_3 l0_3.length c0_3, .int .i64 a0_4, .slice A0_5 l0_5.length c0_5, .slice A0_6 l0_6.length c0_6, .slice A0_7 l0_7.length c0_7, .slice A0_8 l0_8.length c0_8, .slice A0_9 l0_9.length c0_9] 36)).heap.size (w1.alloc (.cells #[.int .i64 a0_0, .int .i64 (wrap64 (a0_1 + 1)), .slice A0_2 l0_2.length c0_2, .slice A0_3 l0_3.length c0_3, .int .i64 a0_4, .slice A0_5 l0_5.length c0_5, .slice A0_6 l0_6.length c0_6, .slice A0_7 l0_7.length c0_7, .slice A0_8 l0_8.length c0_8, .slice A0_9 l0_9.length c0_9] 36)))
  refine (rules_Same.calls k a0_0 a0_1 _ _ l0_2 _ _ l0_3 a0_4 _ _ l0_5 _ _ l0_6 _ _ l0_7 _ _ l0_8 _ _ l0_9 a0_0 (wrap64 (a0_1 + 1)) _ _ l0_2 _ _ l0_3 a0_4 _ _ l0_5 _ _ l0_6 _ _ l0_7 _ _ l0_8 _ _ l0_9 false _ (Kd.C_below HR0_2.out.1 HB4.out) HR0_2.out.2 (Kd.C_below HR0_3.out.1 HB4.out) HR0_3.out.2 (Kd.C_below HR0_5.out.1 HB4.out) HR0_5.out.2 (Kd.C_below HR0_6.out.1 HB4.out) HR0_6.out.2 (Kd.C_below HR0_7.out.1 HB4.out) HR0_7.out.2 (Kd.C_below HR0_8.out.1 HB4.out) HR0_8.out.2 (Kd.C_below HR0_9.out.1 HB4.out) HR0_9.out.2 (Kd.C_below HR0_2.out.1 HB4.out) HR0_2.out.2 (Kd.C_below HR0_3.out.1 HB4.out) HR0_3.out.2 (Kd.C_below HR0_5.out.1 HB4.out) HR0_5.out.2 (Kd.C_below HR0_6.out.1 HB4.out) HR0_6.out.2 (Kd.C_below HR0_7.out.1 HB4.out) HR0_7.out.2 (Kd.C_below HR0_8.out.1 HB4.out) HR0_8.out.2 (Kd.C_below HR0_9.out.1 HB4.out) HR0_9.out.2 HQ1.out).mono ?_
  rintro e w5 ⟨rfl, hb⟩
  have HB5 := Aside0.mk (below_step HB4.out hb)
  have HBQ5 := Aside0.mk (below_step HBQ4.out hb)
  have HP5 := Aside0.mk ((hb.block _ (blk_lt HP4.out)).trans HP4.out)
  have HQB5 := Aside0.mk ((hb.block _ (blk_lt HQB4.out)).trans HQB4.out)
  clear hb HP4 HQB4 HB4 HBQ4 HQ1
  obtain ⟨kp5_0, kp5_1, kp5_2, kp5_3, kp5_4, kp5_5, kp5_6, kp5_7, kp5_8, kp5_9⟩ := ten HP5.out
  obtain ⟨kq5_0, kq5_1, kq5_2, kq5_3, kq5_4, kq5_5, kq5_6, kq5_7, kq5_8, kq5_9⟩ := ten HQB5.out
  go_wp2_with (fail)
  refine (rules_Same.calls k a0_0 (wrap64 (a0_1 + 1)) _ _ l0_2 _ _ l0_3 a0_4 _ _ l0_5 _ _ l0_6 _ _ l0_7 _ _ l0_8 _ _ l0_9 a0_0 a0_1 _ _ l0_2 _ _ l0_3 a0_4 _ _ l0_5 _ _ l0_6 _ _ l0_7 _ _ l0_8 _ _ l0_9 false _ (Kd.C_below HR0_2.out.1 HB5.out) HR0_2.out.2 (Kd.C_below HR0_3.out.1 HB5.out) HR0_3.out.2 (Kd.C_below HR0_5.out.1 HB5.out) HR0_5.out.2 (Kd.C_below HR0_6.out.1 HB5.out) HR0_6.out.2 (Kd.C_below HR0_7.out.1 HB5.out) HR0_7.out.2 (Kd.C_below HR0_8.out.1 HB5.out) HR0_8.out.2 (Kd.C_below HR0_9.out.1 HB5.out) HR0_9.out.2 (Kd.C_below HR0_2.out.1 HB5.out) HR0_2.out.2 (Kd.C_below HR0_3.out.1 HB5.out) HR0_3.out.2 (Kd.C_below HR0_5.out.1 HB5.out) HR0_5.out.2 (Kd.C_below HR0_6.out.1 HB5.out) HR0_6.out.2 (Kd.C_below HR0_7.out.1 HB5.out) HR0_7.out.2 (Kd.C_below HR0_8.out.1 HB5.out) HR0_8.out.2 (Kd.C_below HR0_9.out.1 HB5.out) HR0_9.out.2 HQ2.out).mono ?_
  rintro e w6 ⟨rfl, hb⟩
  have HB6 := Aside0.mk (below_step HB5.out hb)
  have HBQ6 := Aside0.mk (below_step HBQ5.out hb)
  have HP6 := Aside0.mk ((hb.block _ (blk_lt HP5.out)).trans HP5.out)
  have HQB6 := Aside0.mk ((hb.block _ (blk_lt HQB5.out)).trans HQB5.out)
  clear hb HP5 HQB5 HB5 HBQ5 HQ2
  obtain ⟨kp6_0, kp6_1, kp6_2, kp6_3, kp6_4, kp6_5, kp6_6, kp6_7, kp6_8, kp6_9⟩ := ten HP6.out
  obtain ⟨kq6_0, kq6_1, kq6_2, kq6_3, kq6_4, kq6_5, kq6_6, kq6_7, kq6_8, kq6_9⟩ := ten HQB6.out
  go_wp2_with (fail)
  refine (rules_Same.calls k a0_0 (wrap64 (a0_1 + 1)) _ _ l0_2 _ _ l0_3 a0_4 _ _ l0_5 _ _ l0_6 _ _ l0_7 _ _ l0_8 _ _ l0_9 a0_0 (wrap64 (a0_1 + 1)) _ _ l0_2 _ _ l0_3 a0_4 _ _ l0_5 _ _ l0_6 _ _ l0_7 _ _ l0_8 _ _ l0_9 true _ (Kd.C_below HR0_2.out.1 HB6.out) HR0_2.out.2 (Kd.C_below HR0_3.out.1 HB6.out) HR0_3.out.2 (Kd.C_below HR0_5.out.1 HB6.out) HR0_5.out.2 (Kd.C_below HR0_6.out.1 HB6.out) HR0_6.out.2 (Kd.C_below HR0_7.out.1 HB6.out) HR0_7.out.2 (Kd.C_below HR0_8.out.1 HB6.out) HR0_8.out.2 (Kd.C_below HR0_9.out.1 HB6.out) HR0_9.out.2 (Kd.C_below HR0_2.out.1 HB6.out) HR0_2.out.2 (Kd.C_below HR0_3.out.1 HB6.out) HR0_3.out.2 (Kd.C_below HR0_5.out.1 HB6.out) HR0_5.out.2 (Kd.C_below HR0_6.out.1 HB6.out) HR0_6.out.2 (Kd.C_below HR0_7.out.1 HB6.out) HR0_7.out.2 (Kd.C_below HR0_8.out.1 HB6.out) HR0_8.out.2 (Kd.C_below HR0_9.out.1 HB6.out) HR0_9.out.2 HQ3.out).mono ?_
  rintro e w7 ⟨rfl, hb⟩
  have HB7 := Aside0.mk (below_step HB6.out hb)
  have HBQ7 := Aside0.mk (below_step HBQ6.out hb)
  have HP7 := Aside0.mk ((hb.block _ (blk_lt HP6.out)).trans HP6.out)
  have HQB7 := Aside0.mk ((hb.block _ (blk_lt HQB6.out)).trans HQB6.out)
  clear hb HP6 HQB6 HB6 HBQ6 HQ3
  obtain ⟨kp7_0, kp7_1, kp7_2, kp7_3, kp7_4, kp7_5, kp7_6, kp7_7, kp7_8, kp7_9⟩ := ten HP7.out
  obtain ⟨kq7_0, kq7_1, kq7_2, kq7_3, kq7_4, kq7_5, kq7_6, kq7_7, kq7_8, kq7_9⟩ := ten HQB7.out
  go_wp2_with (fail)
  refine (sentrylaw10_known.calls k r _ HKN.out).mono ?_
  rintro e w8 ⟨rfl, hb⟩
  have HB8 := Aside0.mk (below_step HB7.out hb)
  clear hb
  go_wp2
  go_ret
  exact ⟨rfl, HB8.out⟩
set_option maxHeartbeats 4000000 in
set_option maxRecDepth 100000 in
theorem same_w2 (k : Nat) (a0_0 : Int) (a0_1 : Int) (A0_2 : Option Addr) (c0_2 : Nat) (l0_2 : List Int) (A0_3 : Option Addr) (c0_3 : Nat) (l0_3 : List Int) (a0_4 : Int) (A0_5 : Option Addr) (c0_5 : Nat) (l0_5 : List ByteArray) (A0_6 : Option Addr) (c0_6 : Nat) (l0_6 : List S28) (A0_7 : Option Addr) (c0_7 : Nat) (l0_7 : List S44) (A0_8 : Option Addr) (c0_8 : Nat) (l0_8 : List S46) (A0_9 : Option Addr) (c0_9 : Nat) (l0_9 : List S57) (r : Bool) (w : World) (hr0_2 : Kd.C (Kd.int .i64) w A0_2 l0_2.length l0_2) (hc0_2 : l0_2.length ≤ c0_2) (hr0_3 : Kd.C (Kd.int .i64) w A0_3 l0_3.length l0_3) (hc0_3 : l0_3.length ≤ c0_3) (hr0_5 : Kd.C Kd.string w A0_5 l0_5.length l0_5) (hc0_5 : l0_5.length ≤ c0_5) (hr0_6 : Kd.C k28 w A0_6 l0_6.length l0_6) (hc0_6 : l0_6.length ≤ c0_6) (hr0_7 : Kd.C k44 w A0_7 l0_7.length l0_7) (hc0_7 : l0_7.length ≤ c0_7) (hr0_8 : Kd.C k46 w A0_8 l0_8.length l0_8) (hc0_8 : l0_8.length ≤ c0_8) (hr0_9 : Kd.C k57 w A0_9 l0_9.length l0_9) (hc0_9 : l0_9.length ≤ c0_9) (hbig : sentrylaw10_big.f k a0_0 a0_1 l0_2 l0_3 a0_4 l0_5 l0_6 l0_7 l0_8 l0_9 = some false) (hs : smallP l0_2 l0_5 l0_6 l0_8 l0_9) (lq : List Int) (hlq : lq = l0_2 ++ [1]) (h : sameOut k a0_0 a0_1 l0_2 l0_3 a0_4 l0_5 l0_6 l0_7 l0_8 l0_9 a0_0 a0_1 lq l0_3 a0_4 l0_5 l0_6 l0_7 l0_8 l0_9 = some r) :
    Calls Try.prog 7 #[.agg #[.int .i64 a0_0, .int .i64 a0_1, .slice A0_2 l0_2.length c0_2, .slice A0_3 l0_3.length c0_3, .int .i64 a0_4, .slice A0_5 l0_5.length c0_5, .slice A0_6 l0_6.length c0_6, .slice A0_7 l0_7.length c0_7, .slice A0_8 l0_8.length c0_8, .slice A0_9 l0_9.length c0_9], .int .i64 2] w fun e w' => e = .returned (.bool r) ∧ Below w.heap.size w w' := by
  have HBG := Aside0.mk hbig
  have HS := Aside0.mk hs
  have HR0_2 := Aside0.mk (And.intro hr0_2 hc0_2)
  have HR0_3 := Aside0.mk (And.intro hr0_3 hc0_3)
  have HR0_5 := Aside0.mk (And.intro hr0_5 hc0_5)
  have HR0_6 := Aside0.mk (And.intro hr0_6 hc0_6)
  have HR0_7 := Aside0.mk (And.intro hr0_7 hc0_7)
  have HR0_8 := Aside0.mk (And.intro hr0_8 hc0_8)
  have HR0_9 := Aside0.mk (And.intro hr0_9 hc0_9)
  obtain ⟨h1, h2, h3, h4⟩ := sameOut_open h
  have HQ1 := Aside0.mk h1
  have HQ2 := Aside0.mk h2
  have HQ3 := Aside0.mk h3
  have HKN := Aside0.mk h4
  clear hr0_2 hc0_2 hr0_3 hc0_3 hr0_5 hc0_5 hr0_6 hc0_6 hr0_7 hc0_7 hr0_8 hc0_8 hr0_9 hc0_9 hbig hs h h1 h2 h3 h4
  have HB0 := Aside0.mk (Below.refl w.heap.size w)
  go_enter Try.func7, Try.ntmps7
  go_wp2_with (fail)
  refine (sentrylaw10_big.calls k a0_0 a0_1 _ _ l0_2 _ _ l0_3 a0_4 _ _ l0_5 _ _ l0_6 _ _ l0_7 _ _ l0_8 _ _ l0_9 false _ (Kd.C_alloc HR0_2.out.1 _) HR0_2.out.2 (Kd.C_alloc HR0_3.out.1 _) HR0_3.out.2 (Kd.C_alloc HR0_5.out.1 _) HR0_5.out.2 (Kd.C_alloc HR0_6.out.1 _) HR0_6.out.2 (Kd.C_alloc HR0_7.out.1 _) HR0_7.out.2 (Kd.C_alloc HR0_8.out.1 _) HR0_8.out.2 (Kd.C_alloc HR0_9.out.1 _) HR0_9.out.2 HBG.out).mono ?_
  rintro e w1 ⟨rfl, hb1⟩
  have HB1 := Aside0.mk (below_step (below_alloc HB0.out _ : Below w.heap.size w _) hb1)
  have HP1 := Aside0.mk ((hb1.block _ (blk_lt (MapKept.heap_alloc w _).1)).trans (MapKept.heap_alloc w _).1)
  clear hb1 HB0 HBG
  obtain ⟨kp0, kp1, kp2, kp3, kp4, kp5, kp6, kp7, kp8, kp9⟩ := ten HP1.out
  obtain ⟨kq0, kq1, kq2, kq3, kq4, kq5, kq6, kq7, kq8, kq9⟩ := ten_alloc HP1.out
  have kr : ∀ o o', ((w1.alloc o).alloc o').cell? ⟨w.heap.size, 2, none⟩ = some (.slice A0_2 l0_2.length c0_2) := fun o o' => (blk_cell (blk_alloc (blk_alloc HP1.out o) o') 2).trans rfl
  have HSL := Aside0.mk (show l0_2.length < 1000000 from HS.out.1)
  have info : (Try.prog.info? 3).map (fun i => (i.zero, i.size, i.bytes)) = some (some (.int .i64 0), ((Kd.int .i64)).sz, 8) := by kernel_rfl
  have HBW := Aside0.mk (below_alloc (below_alloc HB1.out (.cells #[.int .i64 a0_0, .int .i64 a0_1, .slice A0_2 l0_2.length c0_2, .slice A0_3 l0_3.length c0_3, .int .i64 a0_4, .slice A0_5 l0_5.length c0_5, .slice A0_6 l0_6.length c0_6, .slice A0_7 l0_7.length c0_7, .slice A0_8 l0_8.length c0_8, .slice A0_9 l0_9.length c0_9] 36)) (.cells #[] 3))
  have HO0 := Aside0.mk (OwnW.fresh (d := (Kd.int .i64)) (w0 := w) (base := w.heap.size) (g := w1.heap.size + 1) (by have := HB1.out.size; omega) (by have h5 := (MapKept.heap_alloc (w1.alloc (.cells #[.int .i64 a0_0, .int .i64 a0_1, .slice A0_2 l0_2.length c0_2, .slice A0_3 l0_3.length c0_3, .int .i64 a0_4, .slice A0_5 l0_5.length c0_5, .slice A0_6 l0_6.length c0_6, .slice A0_7 l0_7.length c0_7, .slice A0_8 l0_8.length c0_8, .slice A0_9 l0_9.length c0_9] 36)) (.cells #[] 3)).1; rw [World.size_alloc] at h5; exact h5))
  have HPW := Aside0.mk (blk_alloc (blk_alloc HP1.out (.cells #[.int .i64 a0_0, .int .i64 a0_1, .slice A0_2 l0_2.length c0_2, .slice A0_3 l0_3.length c0_3, .int .i64 a0_4, .slice A0_5 l0_5.length c0_5, .slice A0_6 l0_6.length c0_6, .slice A0_7 l0_7.length c0_7, .slice A0_8 l0_8.length c0_8, .slice A0_9 l0_9.length c0_9] 36)) (.cells #[] 3))
  have HQW := Aside0.mk (blk_alloc (MapKept.heap_alloc w1 (.cells #[.int .i64 a0_0, .int .i64 a0_1, .slice A0_2 l0_2.length c0_2, .slice A0_3 l0_3.length c0_3, .int .i64 a0_4, .slice A0_5 l0_5.length c0_5, .slice A0_6 l0_6.length c0_6, .slice A0_7 l0_7.length c0_7, .slice A0_8 l0_8.length c0_8, .slice A0_9 l0_9.length c0_9] 36)).1 (.cells #[] 3))
  have HLE := Aside0.mk (show w.heap.size < w1.heap.size from blk_lt HP1.out)
  go_wp2_with ((with_reducible refine gate_builtin (b := .append) (xs := #[.tmp 40, .tmp 42]) rfl ?_); at_builtin; refine Stop.out ?_)
  refine ⟨?_⟩
  refine append_rows (Kd.int .i64) (w0 := w) rfl (.tmp 40) (.tmp 42) 29 3 (.int .i64 0) 8 rfl Try.underlying29 info rfl (by decide) (by omega) (.slice (some ⟨w1.heap.size + 1, 0, none⟩) 0 0) [] l0_2 A0_2 l0_2.length c0_2 rfl rfl HO0.out HR0_2.out.1 HBW.out (by have := HSL.out; simp only [List.length_nil]; omega) ?_
  intro v2 w2 ho hb hg
  rw [List.nil_append] at ho
  have HO2 := Aside0.mk ho
  have HB2 := Aside0.mk hb
  have HP2 := Aside0.mk (blk_grown HPW.out hg (fun hh => by simp only [Value.ownBlock] at hh; injection hh with hh; have := HLE.out; omega))
  have HQB2 := Aside0.mk (blk_grown HQW.out hg (fun hh => by simp only [Value.ownBlock] at hh; injection hh with hh; omega))
  clear ho hb hg HO0 HPW HQW HBW kr
  have HLQ := Aside0.mk hlq
  clear hlq
  go_wp2_with ((with_reducible refine gate_builtin (b := .append) (xs := #[.tmp 43, .tmp 44]) rfl ?_); at_builtin; refine Stop.out ?_)
  refine ⟨?_⟩
  refine append_one (Kd.int .i64) (w0 := w) rfl (.tmp 43) (.tmp 44) 29 3 (.int .i64 0) 8 rfl Try.underlying29 info rfl (by decide) (by omega) v2 l0_2 1 [.int .i64 1] rfl rfl (rfl) HO2.out HB2.out (by have := HSL.out; omega) ?_
  intro v3 w3 ho hb hg
  rw [← HLQ.out] at ho
  have HP3 := Aside0.mk (blk_grown HP2.out hg (fun hh => HO2.out.ne HP2.out (by decide) hh))
  have HQB3 := Aside0.mk (blk_grown HQB2.out hg (fun hh => HO2.out.ne HQB2.out (by decide) hh))
  obtain ⟨Aq, cq, rfl, _, _⟩ := ho.toC hb
  have HO3 := Aside0.mk ho
  have HB3 := Aside0.mk hb
  clear ho hb hg HO2 HB2 HP2 HQB2
  have kc : w3.cell? ⟨w1.heap.size, 2, none⟩ = some (.slice A0_2 l0_2.length c0_2) := (blk_cell HQB3.out 2).trans rfl
  have kf : w3.frozen? ⟨w1.heap.size, 2, none⟩ = false := blk_frozen HQB3.out 2
  go_wp2_with ((with_reducible refine gate_store (t := 29) (p := 46) rfl ?_); refine Stop.out ?_)
  refine ⟨?_⟩
  refine store_event (t := 29) (p := 46) (v := ?vo) (w1 := w3.setCell ⟨w1.heap.size, 2, none⟩ (.slice Aq lq.length cq)) ?hg ?ho ?hn ?hr ?_
  case ho => rfl
  case hg => rfl
  case hn => rfl
  case hr => first | (go_simp; done) | (go_simp; rfl)
  intro w4 hw
  have hP4 : w4.heap[w.heap.size]? = some (.cells #[.int .i64 a0_0, .int .i64 a0_1, .slice A0_2 l0_2.length c0_2, .slice A0_3 l0_3.length c0_3, .int .i64 a0_4, .slice A0_5 l0_5.length c0_5, .slice A0_6 l0_6.length c0_6, .slice A0_7 l0_7.length c0_7, .slice A0_8 l0_8.length c0_8, .slice A0_9 l0_9.length c0_9] 36 (0, 0)) := by rw [hw]; exact blk_far HP3.out (fun hh => by have h2 : w.heap.size = w1.heap.size := hh; have := HLE.out; omega) _
  have hQ4 : w4.heap[w1.heap.size]? = some (.cells #[.int .i64 a0_0, .int .i64 a0_1, .slice Aq lq.length cq, .slice A0_3 l0_3.length c0_3, .int .i64 a0_4, .slice A0_5 l0_5.length c0_5, .slice A0_6 l0_6.length c0_6, .slice A0_7 l0_7.length c0_7, .slice A0_8 l0_8.length c0_8, .slice A0_9 l0_9.length c0_9] 36 (0, 0)) := by rw [hw]; exact blk_put HQB3.out 2 _ rfl
  have hB4 : Below w.heap.size w w4 := by rw [hw]; exact below_set HB3.out (show w.heap.size ≤ w1.heap.size by have := HLE.out; omega)
  have hO4 := HO3.out.far (q := w1.heap.size) (i := 2) (HO3.out.ne HQB3.out (by decide)) (.slice Aq lq.length cq)
  rw [← hw] at hO4
  obtain ⟨Aq2, cq2, he2, hl2, hC2⟩ := hO4.toC hB4
  injection he2 with he2 _ he3
  subst he2 he3
  have HQC := Aside0.mk (And.intro hC2 hl2)
  have HP4 := Aside0.mk hP4
  have HQB4 := Aside0.mk hQ4
  have HB4 := Aside0.mk hB4
  clear hw hP4 hQ4 hB4 hO4 hC2 hl2 HO3 HB3 HP3 HQB3 kc kf info
  have HBQ4 := Aside0.mk (Below.refl w4.heap.size w4)
  obtain ⟨kp_0, kp_1, kp_2, kp_3, kp_4, kp_5, kp_6, kp_7, kp_8, kp_9⟩ := ten HP4.out
  obtain ⟨kq_0, kq_1, kq_2, kq_3, kq_4, kq_5, kq_6, kq_7, kq_8, kq_9⟩ := ten HQB4.out
  go_wp2_with (fail)
  refine (rules_Same.calls k a0_0 a0_1 _ _ l0_2 _ _ l0_3 a0_4 _ _ l0_5 _ _ l0_6 _ _ l0_7 _ _ l0_8 _ _ l0_9 a0_0 a0_1 Aq cq lq _ _ l0_3 a0_4 _ _ l0_5 _ _ l0_6 _ _ l0_7 _ _ l0_8 _ _ l0_9 false _ (Kd.C_below HR0_2.out.1 HB4.out) HR0_2.out.2 (Kd.C_below HR0_3.out.1 HB4.out) HR0_3.out.2 (Kd.C_below HR0_5.out.1 HB4.out) HR0_5.out.2 (Kd.C_below HR0_6.out.1 HB4.out) HR0_6.out.2 (Kd.C_below HR0_7.out.1 HB4.out) HR0_7.out.2 (Kd.C_below HR0_8.out.1 HB4.out) HR0_8.out.2 (Kd.C_below HR0_9.out.1 HB4.out) HR0_9.out.2 (Kd.C_below HQC.out.1 HBQ4.out) HQC.out.2 (Kd.C_below HR0_3.out.1 HB4.out) HR0_3.out.2 (Kd.C_below HR0_5.out.1 HB4.out) HR0_5.out.2 (Kd.C_below HR0_6.out.1 HB4.out) HR0_6.out.2 (Kd.C_below HR0_7.out.1 HB4.out) HR0_7.out.2 (Kd.C_below HR0_8.out.1 HB4.out) HR0_8.out.2 (Kd.C_below HR0_9.out.1 HB4.out) HR0_9.out.2 HQ1.out).mono ?_
  rintro e w5 ⟨rfl, hb⟩
  have HB5 := Aside0.mk (below_step HB4.out hb)
  have HBQ5 := Aside0.mk (below_step HBQ4.out hb)
  have HP5 := Aside0.mk ((hb.block _ (blk_lt HP4.out)).trans HP4.out)
  have HQB5 := Aside0.mk ((hb.block _ (blk_lt HQB4.out)).trans HQB4.out)
  clear hb HP4 HQB4 HB4 HBQ4 HQ1
  obtain ⟨kp5_0, kp5_1, kp5_2, kp5_3, kp5_4, kp5_5, kp5_6, kp5_7, kp5_8, kp5_9⟩ := ten HP5.out
  obtain ⟨kq5_0, kq5_1, kq5_2, kq5_3, kq5_4, kq5_5, kq5_6, kq5_7, kq5_8, kq5_9⟩ := ten HQB5.out
  go_wp2_with (fail)
  refine (rules_Same.calls k a0_0 a0_1 Aq cq lq _ _ l0_3 a0_4 _ _ l0_5 _ _ l0_6 _ _ l0_7 _ _ l0_8 _ _ l0_9 a0_0 a0_1 _ _ l0_2 _ _ l0_3 a0_4 _ _ l0_5 _ _ l0_6 _ _ l0_7 _ _ l0_8 _ _ l0_9 false _ (Kd.C_below HQC.out.1 HBQ5.out) HQC.out.2 (Kd.C_below HR0_3.out.1 HB5.out) HR0_3.out.2 (Kd.C_below HR0_5.out.1 HB5.out) HR0_5.out.2 (Kd.C_below HR0_6.out.1 HB5.out) HR0_6.out.2 (Kd.C_below HR0_7.out.1 HB5.out) HR0_7.out.2 (Kd.C_below HR0_8.out.1 HB5.out) HR0_8.out.2 (Kd.C_below HR0_9.out.1 HB5.out) HR0_9.out.2 (Kd.C_below HR0_2.out.1 HB5.out) HR0_2.out.2 (Kd.C_below HR0_3.out.1 HB5.out) HR0_3.out.2 (Kd.C_below HR0_5.out.1 HB5.out) HR0_5.out.2 (Kd.C_below HR0_6.out.1 HB5.out) HR0_6.out.2 (Kd.C_below HR0_7.out.1 HB5.out) HR0_7.out.2 (Kd.C_below HR0_8.out.1 HB5.out) HR0_8.out.2 (Kd.C_below HR0_9.out.1 HB5.out) HR0_9.out.2 HQ2.out).mono ?_
  rintro e w6 ⟨rfl, hb⟩
  have HB6 := Aside0.mk (below_step HB5.out hb)
  have HBQ6 := Aside0.mk (below_step HBQ5.out hb)
  have HP6 := Aside0.mk ((hb.block _ (blk_lt HP5.out)).trans HP5.out)
  have HQB6 := Aside0.mk ((hb.block _ (blk_lt HQB5.out)).trans HQB5.out)
  clear hb HP5 HQB5 HB5 HBQ5 HQ2
  obtain ⟨kp6_0, kp6_1, kp6_2, kp6_3, kp6_4, kp6_5, kp6_6, kp6_7, kp6_8, kp6_9⟩ := ten HP6.out
  obtain ⟨kq6_0, kq6_1, kq6_2, kq6_3, kq6_4, kq6_5, kq6_6, kq6_7, kq6_8, kq6_9⟩ := ten HQB6.out
  go_wp2_with (fail)
  refine (rules_Same.calls k a0_0 a0_1 Aq cq lq _ _ l0_3 a0_4 _ _ l0_5 _ _ l0_6 _ _ l0_7 _ _ l0_8 _ _ l0_9 a0_0 a0_1 Aq cq lq _ _ l0_3 a0_4 _ _ l0_5 _ _ l0_6 _ _ l0_7 _ _ l0_8 _ _ l0_9 true _ (Kd.C_below HQC.out.1 HBQ6.out) HQC.out.2 (Kd.C_below HR0_3.out.1 HB6.out) HR0_3.out.2 (Kd.C_below HR0_5.out.1 HB6.out) HR0_5.out.2 (Kd.C_below HR0_6.out.1 HB6.out) HR0_6.out.2 (Kd.C_below HR0_7.out.1 HB6.out) HR0_7.out.2 (Kd.C_below HR0_8.out.1 HB6.out) HR0_8.out.2 (Kd.C_below HR0_9.out.1 HB6.out) HR0_9.out.2 (Kd.C_below HQC.out.1 HBQ6.out) HQC.out.2 (Kd.C_below HR0_3.out.1 HB6.out) HR0_3.out.2 (Kd.C_below HR0_5.out.1 HB6.out) HR0_5.out.2 (Kd.C_below HR0_6.out.1 HB6.out) HR0_6.out.2 (Kd.C_below HR0_7.out.1 HB6.out) HR0_7.out.2 (Kd.C_below HR0_8.out.1 HB6.out) HR0_8.out.2 (Kd.C_below HR0_9.out.1 HB6.out) HR0_9.out.2 HQ3.out).mono ?_
  rintro e w7 ⟨rfl, hb⟩
  have HB7 := Aside0.mk (below_step HB6.out hb)
  have HBQ7 := Aside0.mk (below_step HBQ6.out hb)
  have HP7 := Aside0.mk ((hb.block _ (blk_lt HP6.out)).trans HP6.out)
  have HQB7 := Aside0.mk ((hb.block _ (blk_lt HQB6.out)).trans HQB6.out)
  clear hb HP6 HQB6 HB6 HBQ6 HQ3
  obtain ⟨kp7_0, kp7_1, kp7_2, kp7_3, kp7_4, kp7_5, kp7_6, kp7_7, kp7_8, kp7_9⟩ := ten HP7.out
  obtain ⟨kq7_0, kq7_1, kq7_2, kq7_3, kq7_4, kq7_5, kq7_6, kq7_7, kq7_8, kq7_9⟩ := ten HQB7.out
  go_wp2_with (fail)
  refine (sentrylaw10_known.calls k r _ HKN.out).mono ?_
  rintro e w8 ⟨rfl, hb⟩
  have HB8 := Aside0.mk (below_step HB7.out hb)
  clear hb
  go_wp2
  go_ret
  exact ⟨rfl, HB8.out⟩
set_option maxHeartbeats 4000000 in
set_option maxRecDepth 100000 in
theorem same_w3 (k : Nat) (a0_0 : Int) (a0_1 : Int) (A0_2 : Option Addr) (c0_2 : Nat) (l0_2 : List Int) (A0_3 : Option Addr) (c0_3 : Nat) (l0_3 : List Int) (a0_4 : Int) (A0_5 : Option Addr) (c0_5 : Nat) (l0_5 : List ByteArray) (A0_6 : Option Addr) (c0_6 : Nat) (l0_6 : List S28) (A0_7 : Option Addr) (c0_7 : Nat) (l0_7 : List S44) (A0_8 : Option Addr) (c0_8 : Nat) (l0_8 : List S46) (A0_9 : Option Addr) (c0_9 : Nat) (l0_9 : List S57) (r : Bool) (w : World) (hr0_2 : Kd.C (Kd.int .i64) w A0_2 l0_2.length l0_2) (hc0_2 : l0_2.length ≤ c0_2) (hr0_3 : Kd.C (Kd.int .i64) w A0_3 l0_3.length l0_3) (hc0_3 : l0_3.length ≤ c0_3) (hr0_5 : Kd.C Kd.string w A0_5 l0_5.length l0_5) (hc0_5 : l0_5.length ≤ c0_5) (hr0_6 : Kd.C k28 w A0_6 l0_6.length l0_6) (hc0_6 : l0_6.length ≤ c0_6) (hr0_7 : Kd.C k44 w A0_7 l0_7.length l0_7) (hc0_7 : l0_7.length ≤ c0_7) (hr0_8 : Kd.C k46 w A0_8 l0_8.length l0_8) (hc0_8 : l0_8.length ≤ c0_8) (hr0_9 : Kd.C k57 w A0_9 l0_9.length l0_9) (hc0_9 : l0_9.length ≤ c0_9) (hbig : sentrylaw10_big.f k a0_0 a0_1 l0_2 l0_3 a0_4 l0_5 l0_6 l0_7 l0_8 l0_9 = some false) (hs : smallP l0_2 l0_5 l0_6 l0_8 l0_9) (lq : List ByteArray) (hlq : lq = l0_5 ++ [⟨#[120]⟩]) (h : sameOut k a0_0 a0_1 l0_2 l0_3 a0_4 l0_5 l0_6 l0_7 l0_8 l0_9 a0_0 a0_1 l0_2 l0_3 a0_4 lq l0_6 l0_7 l0_8 l0_9 = some r) :
    Calls Try.prog 7 #[.agg #[.int .i64 a0_0, .int .i64 a0_1, .slice A0_2 l0_2.length c0_2, .slice A0_3 l0_3.length c0_3, .int .i64 a0_4, .slice A0_5 l0_5.length c0_5, .slice A0_6 l0_6.length c0_6, .slice A0_7 l0_7.length c0_7, .slice A0_8 l0_8.length c0_8, .slice A0_9 l0_9.length c0_9], .int .i64 3] w fun e w' => e = .returned (.bool r) ∧ Below w.heap.size w w' := by
  have HBG := Aside0.mk hbig
  have HS := Aside0.mk hs
  have HR0_2 := Aside0.mk (And.intro hr0_2 hc0_2)
  have HR0_3 := Aside0.mk (And.intro hr0_3 hc0_3)
  have HR0_5 := Aside0.mk (And.intro hr0_5 hc0_5)
  have HR0_6 := Aside0.mk (And.intro hr0_6 hc0_6)
  have HR0_7 := Aside0.mk (And.intro hr0_7 hc0_7)
  have HR0_8 := Aside0.mk (And.intro hr0_8 hc0_8)
  have HR0_9 := Aside0.mk (And.intro hr0_9 hc0_9)
  obtain ⟨h1, h2, h3, h4⟩ := sameOut_open h
  have HQ1 := Aside0.mk h1
  have HQ2 := Aside0.mk h2
  have HQ3 := Aside0.mk h3
  have HKN := Aside0.mk h4
  clear hr0_2 hc0_2 hr0_3 hc0_3 hr0_5 hc0_5 hr0_6 hc0_6 hr0_7 hc0_7 hr0_8 hc0_8 hr0_9 hc0_9 hbig hs h h1 h2 h3 h4
  have HB0 := Aside0.mk (Below.refl w.heap.size w)
  go_enter Try.func7, Try.ntmps7
  go_wp2_with (fail)
  refine (sentrylaw10_big.calls k a0_0 a0_1 _ _ l0_2 _ _ l0_3 a0_4 _ _ l0_5 _ _ l0_6 _ _ l0_7 _ _ l0_8 _ _ l0_9 false _ (Kd.C_alloc HR0_2.out.1 _) HR0_2.out.2 (Kd.C_alloc HR0_3.out.1 _) HR0_3.out.2 (Kd.C_alloc HR0_5.out.1 _) HR0_5.out.2 (Kd.C_alloc HR0_6.out.1 _) HR0_6.out.2 (Kd.C_alloc HR0_7.out.1 _) HR0_7.out.2 (Kd.C_alloc HR0_8.out.1 _) HR0_8.out.2 (Kd.C_alloc HR0_9.out.1 _) HR0_9.out.2 HBG.out).mono ?_
  rintro e w1 ⟨rfl, hb1⟩
  have HB1 := Aside0.mk (below_step (below_alloc HB0.out _ : Below w.heap.size w _) hb1)
  have HP1 := Aside0.mk ((hb1.block _ (blk_lt (MapKept.heap_alloc w _).1)).trans (MapKept.heap_alloc w _).1)
  clear hb1 HB0 HBG
  obtain ⟨kp0, kp1, kp2, kp3, kp4, kp5, kp6, kp7, kp8, kp9⟩ := ten HP1.out
  obtain ⟨kq0, kq1, kq2, kq3, kq4, kq5, kq6, kq7, kq8, kq9⟩ := ten_alloc HP1.out
  have kr : ∀ o o', ((w1.alloc o).alloc o').cell? ⟨w.heap.size, 5, none⟩ = some (.slice A0_5 l0_5.length c0_5) := fun o o' => (blk_cell (blk_alloc (blk_alloc HP1.out o) o') 5).trans rfl
  have HSL := Aside0.mk (show l0_5.length < 1000000 from HS.out.2.1)
  have info : (Try.prog.info? 9).map (fun i => (i.zero, i.size, i.bytes)) = some (some (.string ⟨#[]⟩), (Kd.string).sz, 16) := by kernel_rfl
  have HBW := Aside0.mk (below_alloc (below_alloc HB1.out (.cells #[.int .i64 a0_0, .int .i64 a0_1, .slice A0_2 l0_2.length c0_2, .slice A0_3 l0_3.length c0_3, .int .i64 a0_4, .slice A0_5 l0_5.length c0_5, .slice A0_6 l0_6.length c0_6, .slice A0_7 l0_7.length c0_7, .slice A0_8 l0_8.length c0_8, .slice A0_9 l0_9.length c0_9] 36)) (.cells #[] 9))
  have HO0 := Aside0.mk (OwnW.fresh (d := Kd.string) (w0 := w) (base := w.heap.size) (g := w1.heap.size + 1) (by have := HB1.out.size; omega) (by have h5 := (MapKept.heap_alloc (w1.alloc (.cells #[.int .i64 a0_0, .int .i64 a0_1, .slice A0_2 l0_2.length c0_2, .slice A0_3 l0_3.length c0_3, .int .i64 a0_4, .slice A0_5 l0_5.length c0_5, .slice A0_6 l0_6.length c0_6, .slice A0_7 l0_7.length c0_7, .slice A0_8 l0_8.length c0_8, .slice A0_9 l0_9.length c0_9] 36)) (.cells #[] 9)).1; rw [World.size_alloc] at h5; exact h5))
  have HPW := Aside0.mk (blk_alloc (blk_alloc HP1.out (.cells #[.int .i64 a0_0, .int .i64 a0_1, .slice A0_2 l0_2.length c0_2, .slice A0_3 l0_3.length c0_3, .int .i64 a0_4, .slice A0_5 l0_5.length c0_5, .slice A0_6 l0_6.length c0_6, .slice A0_7 l0_7.length c0_7, .slice A0_8 l0_8.length c0_8, .slice A0_9 l0_9.length c0_9] 36)) (.cells #[] 9))
  have HQW := Aside0.mk (blk_alloc (MapKept.heap_alloc w1 (.cells #[.int .i64 a0_0, .int .i64 a0_1, .slice A0_2 l0_2.length c0_2, .slice A0_3 l0_3.length c0_3, .int .i64 a0_4, .slice A0_5 l0_5.length c0_5, .slice A0_6 l0_6.length c0_6, .slice A0_7 l0_7.length c0_7, .slice A0_8 l0_8.length c0_8, .slice A0_9 l0_9.length c0_9] 36)).1 (.cells #[] 9))
  have HLE := Aside0.mk (show w.heap.size < w1.heap.size from blk_lt HP1.out)
  go_wp2_with ((with_reducible refine gate_builtin (b := .append) (xs := #[.tmp 49, .tmp 51]) rfl ?_); at_builtin; refine Stop.out ?_)
  refine ⟨?_⟩
  refine append_rows Kd.string (w0 := w) rfl (.tmp 49) (.tmp 51) 30 9 (.string ⟨#[]⟩) 16 rfl Try.underlying30 info rfl (by decide) (by omega) (.slice (some ⟨w1.heap.size + 1, 0, none⟩) 0 0) [] l0_5 A0_5 l0_5.length c0_5 rfl rfl HO0.out HR0_5.out.1 HBW.out (by have := HSL.out; simp only [List.length_nil]; omega) ?_
  intro v2 w2 ho hb hg
  rw [List.nil_append] at ho
  have HO2 := Aside0.mk ho
  have HB2 := Aside0.mk hb
  have HP2 := Aside0.mk (blk_grown HPW.out hg (fun hh => by simp only [Value.ownBlock] at hh; injection hh with hh; have := HLE.out; omega))
  have HQB2 := Aside0.mk (blk_grown HQW.out hg (fun hh => by simp only [Value.ownBlock] at hh; injection hh with hh; omega))
  clear ho hb hg HO0 HPW HQW HBW kr
  have HLQ := Aside0.mk hlq
  clear hlq
  go_wp2_with ((with_reducible refine gate_builtin (b := .append) (xs := #[.tmp 52, .tmp 53]) rfl ?_); at_builtin; refine Stop.out ?_)
  refine ⟨?_⟩
  refine append_one Kd.string (w0 := w) rfl (.tmp 52) (.tmp 53) 30 9 (.string ⟨#[]⟩) 16 rfl Try.underlying30 info rfl (by decide) (by omega) v2 l0_5 ⟨#[120]⟩ [.string ⟨#[120]⟩] rfl rfl (rfl) HO2.out HB2.out (by have := HSL.out; omega) ?_
  intro v3 w3 ho hb hg
  rw [← HLQ.out] at ho
  have HP3 := Aside0.mk (blk_grown HP2.out hg (fun hh => HO2.out.ne HP2.out (by decide) hh))
  have HQB3 := Aside0.mk (blk_grown HQB2.out hg (fun hh => HO2.out.ne HQB2.out (by decide) hh))
  obtain ⟨Aq, cq, rfl, _, _⟩ := ho.toC hb
  have HO3 := Aside0.mk ho
  have HB3 := Aside0.mk hb
  clear ho hb hg HO2 HB2 HP2 HQB2
  have kc : w3.cell? ⟨w1.heap.size, 5, none⟩ = some (.slice A0_5 l0_5.length c0_5) := (blk_cell HQB3.out 5).trans rfl
  have kf : w3.frozen? ⟨w1.heap.size, 5, none⟩ = false := blk_frozen HQB3.out 5
  go_wp2_with ((with_reducible refine gate_store (t := 30) (p := 55) rfl ?_); refine Stop.out ?_)
  refine ⟨?_⟩
  refine store_event (t := 30) (p := 55) (v := ?vo) (w1 := w3.setCell ⟨w1.heap.size, 5, none⟩ (.slice Aq lq.length cq)) ?hg ?ho ?hn ?hr ?_
  case ho => rfl
  case hg => rfl
  case hn => rfl
  case hr => first | (go_simp; done) | (go_simp; rfl)
  intro w4 hw
  have hP4 : w4.heap[w.heap.size]? = some (.cells #[.int .i64 a0_0, .int .i64 a0_1, .slice A0_2 l0_2.length c0_2, .slice A0_3 l0_3.length c0_3, .int .i64 a0_4, .slice A0_5 l0_5.length c0_5, .slice A0_6 l0_6.length c0_6, .slice A0_7 l0_7.length c0_7, .slice A0_8 l0_8.length c0_8, .slice A0_9 l0_9.length c0_9] 36 (0, 0)) := by rw [hw]; exact blk_far HP3.out (fun hh => by have h2 : w.heap.size = w1.heap.size := hh; have := HLE.out; omega) _
  have hQ4 : w4.heap[w1.heap.size]? = some (.cells #[.int .i64 a0_0, .int .i64 a0_1, .slice A0_2 l0_2.length c0_2, .slice A0_3 l0_3.length c0_3, .int .i64 a0_4, .slice Aq lq.length cq, .slice A0_6 l0_6.length c0_6, .slice A0_7 l0_7.length c0_7, .slice A0_8 l0_8.length c0_8, .slice A0_9 l0_9.length c0_9] 36 (0, 0)) := by rw [hw]; exact blk_put HQB3.out 5 _ rfl
  have hB4 : Below w.heap.size w w4 := by rw [hw]; exact below_set HB3.out (show w.heap.size ≤ w1.heap.size by have := HLE.out; omega)
  have hO4 := HO3.out.far (q := w1.heap.size) (i := 5) (HO3.out.ne HQB3.out (by decide)) (.slice Aq lq.length cq)
  rw [← hw] at hO4
  obtain ⟨Aq2, cq2, he2, hl2, hC2⟩ := hO4.toC hB4
  injection he2 with he2 _ he3
  subst he2 he3
  have HQC := Aside0.mk (And.intro hC2 hl2)
  have HP4 := Aside0.mk hP4
  have HQB4 := Aside0.mk hQ4
  have HB4 := Aside0.mk hB4
  clear hw hP4 hQ4 hB4 hO4 hC2 hl2 HO3 HB3 HP3 HQB3 kc kf info
  have HBQ4 := Aside0.mk (Below.refl w4.heap.size w4)
  obtain ⟨kp_0, kp_1, kp_2, kp_3, kp_4, kp_5, kp_6, kp_7, kp_8, kp_9⟩ := ten HP4.out
  obtain ⟨kq_0, kq_1, kq_2, kq_3, kq_4, kq_5, kq_6, kq_7, kq_8, kq_9⟩ := ten HQB4.out
  go_wp2_with (fail)
  refine (rules_Same.calls k a0_0 a0_1 _ _ l0_2 _ _ l0_3 a0_4 _ _ l0_5 _ _ l0_6 _ _ l0_7 _ _ l0_8 _ _ l0_9 a0_0 a0_1 _ _ l0_2 _ _ l0_3 a0_4 Aq cq lq _ _ l0_6 _ _ l0_7 _ _ l0_8 _ _ l0_9 false _ (Kd.C_below HR0_2.out.1 HB4.out) HR0_2.out.2 (Kd.C_below HR0_3.out.1 HB4.out) HR0_3.out.2 (Kd.C_below HR0_5.out.1 HB4.out) HR0_5.out.2 (Kd.C_below HR0_6.out.1 HB4.out) HR0_6.out.2 (Kd.C_below HR0_7.out.1 HB4.out) HR0_7.out.2 (Kd.C_below HR0_8.out.1 HB4.out) HR0_8.out.2 (Kd.C_below HR0_9.out.1 HB4.out) HR0_9.out.2 (Kd.C_below HR0_2.out.1 HB4.out) HR0_2.out.2 (Kd.C_below HR0_3.out.1 HB4.out) HR0_3.out.2 (Kd.C_below HQC.out.1 HBQ4.out) HQC.out.2 (Kd.C_below HR0_6.out.1 HB4.out) HR0_6.out.2 (Kd.C_below HR0_7.out.1 HB4.out) HR0_7.out.2 (Kd.C_below HR0_8.out.1 HB4.out) HR0_8.out.2 (Kd.C_below HR0_9.out.1 HB4.out) HR0_9.out.2 HQ1.out).mono ?_
  rintro e w5 ⟨rfl, hb⟩
  have HB5 := Aside0.mk (below_step HB4.out hb)
  have HBQ5 := Aside0.mk (below_step HBQ4.out hb)
  have HP5 := Aside0.mk ((hb.block _ (blk_lt HP4.out)).trans HP4.out)
  have HQB5 := Aside0.mk ((hb.block _ (blk_lt HQB4.out)).trans HQB4.out)
  clear hb HP4 HQB4 HB4 HBQ4 HQ1
  obtain ⟨kp5_0, kp5_1, kp5_2, kp5_3, kp5_4, kp5_5, kp5_6, kp5_7, kp5_8, kp5_9⟩ := ten HP5.out
  obtain ⟨kq5_0, kq5_1, kq5_2, kq5_3, kq5_4, kq5_5, kq5_6, kq5_7, kq5_8, kq5_9⟩ := ten HQB5.out
  go_wp2_with (fail)
  refine (rules_Same.calls k a0_0 a0_1 _ _ l0_2 _ _ l0_3 a0_4 Aq cq lq _ _ l0_6 _ _ l0_7 _ _ l0_8 _ _ l0_9 a0_0 a0_1 _ _ l0_2 _ _ l0_3 a0_4 _ _ l0_5 _ _ l0_6 _ _ l0_7 _ _ l0_8 _ _ l0_9 false _ (Kd.C_below HR0_2.out.1 HB5.out) HR0_2.out.2 (Kd.C_below HR0_3.out.1 HB5.out) HR0_3.out.2 (Kd.C_below HQC.out.1 HBQ5.out) HQC.out.2 (Kd.C_below HR0_6.out.1 HB5.out) HR0_6.out.2 (Kd.C_below HR0_7.out.1 HB5.out) HR0_7.out.2 (Kd.C_below HR0_8.out.1 HB5.out) HR0_8.out.2 (Kd.C_below HR0_9.out.1 HB5.out) HR0_9.out.2 (Kd.C_below HR0_2.out.1 HB5.out) HR0_2.out.2 (Kd.C_below HR0_3.out.1 HB5.out) HR0_3.out.2 (Kd.C_below HR0_5.out.1 HB5.out) HR0_5.out.2 (Kd.C_below HR0_6.out.1 HB5.out) HR0_6.out.2 (Kd.C_below HR0_7.out.1 HB5.out) HR0_7.out.2 (Kd.C_below HR0_8.out.1 HB5.out) HR0_8.out.2 (Kd.C_below HR0_9.out.1 HB5.out) HR0_9.out.2 HQ2.out).mono ?_
  rintro e w6 ⟨rfl, hb⟩
  have HB6 := Aside0.mk (below_step HB5.out hb)
  have HBQ6 := Aside0.mk (below_step HBQ5.out hb)
  have HP6 := Aside0.mk ((hb.block _ (blk_lt HP5.out)).trans HP5.out)
  have HQB6 := Aside0.mk ((hb.block _ (blk_lt HQB5.out)).trans HQB5.out)
  clear hb HP5 HQB5 HB5 HBQ5 HQ2
  obtain ⟨kp6_0, kp6_1, kp6_2, kp6_3, kp6_4, kp6_5, kp6_6, kp6_7, kp6_8, kp6_9⟩ := ten HP6.out
  obtain ⟨kq6_0, kq6_1, kq6_2, kq6_3, kq6_4, kq6_5, kq6_6, kq6_7, kq6_8, kq6_9⟩ := ten HQB6.out
  go_wp2_with (fail)
  refine (rules_Same.calls k a0_0 a0_1 _ _ l0_2 _ _ l0_3 a0_4 Aq cq lq _ _ l0_6 _ _ l0_7 _ _ l0_8 _ _ l0_9 a0_0 a0_1 _ _ l0_2 _ _ l0_3 a0_4 Aq cq lq _ _ l0_6 _ _ l0_7 _ _ l0_8 _ _ l0_9 true _ (Kd.C_below HR0_2.out.1 HB6.out) HR0_2.out.2 (Kd.C_below HR0_3.out.1 HB6.out) HR0_3.out.2 (Kd.C_below HQC.out.1 HBQ6.out) HQC.out.2 (Kd.C_below HR0_6.out.1 HB6.out) HR0_6.out.2 (Kd.C_below HR0_7.out.1 HB6.out) HR0_7.out.2 (Kd.C_below HR0_8.out.1 HB6.out) HR0_8.out.2 (Kd.C_below HR0_9.out.1 HB6.out) HR0_9.out.2 (Kd.C_below HR0_2.out.1 HB6.out) HR0_2.out.2 (Kd.C_below HR0_3.out.1 HB6.out) HR0_3.out.2 (Kd.C_below HQC.out.1 HBQ6.out) HQC.out.2 (Kd.C_below HR0_6.out.1 HB6.out) HR0_6.out.2 (Kd.C_below HR0_7.out.1 HB6.out) HR0_7.out.2 (Kd.C_below HR0_8.out.1 HB6.out) HR0_8.out.2 (Kd.C_below HR0_9.out.1 HB6.out) HR0_9.out.2 HQ3.out).mono ?_
  rintro e w7 ⟨rfl, hb⟩
  have HB7 := Aside0.mk (below_step HB6.out hb)
  have HBQ7 := Aside0.mk (below_step HBQ6.out hb)
  have HP7 := Aside0.mk ((hb.block _ (blk_lt HP6.out)).trans HP6.out)
  have HQB7 := Aside0.mk ((hb.block _ (blk_lt HQB6.out)).trans HQB6.out)
  clear hb HP6 HQB6 HB6 HBQ6 HQ3
  obtain ⟨kp7_0, kp7_1, kp7_2, kp7_3, kp7_4, kp7_5, kp7_6, kp7_7, kp7_8, kp7_9⟩ := ten HP7.out
  obtain ⟨kq7_0, kq7_1, kq7_2, kq7_3, kq7_4, kq7_5, kq7_6, kq7_7, kq7_8, kq7_9⟩ := ten HQB7.out
  go_wp2_with (fail)
  refine (sentrylaw10_known.calls k r _ HKN.out).mono ?_
  rintro e w8 ⟨rfl, hb⟩
  have HB8 := Aside0.mk (below_step HB7.out hb)
  clear hb
  go_wp2
  go_ret
  exact ⟨rfl, HB8.out⟩
set_option maxHeartbeats 4000000 in
set_option maxRecDepth 100000 in
theorem same_w4 (k : Nat) (a0_0 : Int) (a0_1 : Int) (A0_2 : Option Addr) (c0_2 : Nat) (l0_2 : List Int) (A0_3 : Option Addr) (c0_3 : Nat) (l0_3 : List Int) (a0_4 : Int) (A0_5 : Option Addr) (c0_5 : Nat) (l0_5 : List ByteArray) (A0_6 : Option Addr) (c0_6 : Nat) (l0_6 : List S28) (A0_7 : Option Addr) (c0_7 : Nat) (l0_7 : List S44) (A0_8 : Option Addr) (c0_8 : Nat) (l0_8 : List S46) (A0_9 : Option Addr) (c0_9 : Nat) (l0_9 : List S57) (r : Bool) (w : World) (hr0_2 : Kd.C (Kd.int .i64) w A0_2 l0_2.length l0_2) (hc0_2 : l0_2.length ≤ c0_2) (hr0_3 : Kd.C (Kd.int .i64) w A0_3 l0_3.length l0_3) (hc0_3 : l0_3.length ≤ c0_3) (hr0_5 : Kd.C Kd.string w A0_5 l0_5.length l0_5) (hc0_5 : l0_5.length ≤ c0_5) (hr0_6 : Kd.C k28 w A0_6 l0_6.length l0_6) (hc0_6 : l0_6.length ≤ c0_6) (hr0_7 : Kd.C k44 w A0_7 l0_7.length l0_7) (hc0_7 : l0_7.length ≤ c0_7) (hr0_8 : Kd.C k46 w A0_8 l0_8.length l0_8) (hc0_8 : l0_8.length ≤ c0_8) (hr0_9 : Kd.C k57 w A0_9 l0_9.length l0_9) (hc0_9 : l0_9.length ≤ c0_9) (hbig : sentrylaw10_big.f k a0_0 a0_1 l0_2 l0_3 a0_4 l0_5 l0_6 l0_7 l0_8 l0_9 = some false) (hs : smallP l0_2 l0_5 l0_6 l0_8 l0_9) (lq : List S28) (hlq : lq = l0_6 ++ [z28]) (h : sameOut k a0_0 a0_1 l0_2 l0_3 a0_4 l0_5 l0_6 l0_7 l0_8 l0_9 a0_0 a0_1 l0_2 l0_3 a0_4 l0_5 lq l0_7 l0_8 l0_9 = some r) :
    Calls Try.prog 7 #[.agg #[.int .i64 a0_0, .int .i64 a0_1, .slice A0_2 l0_2.length c0_2, .slice A0_3 l0_3.length c0_3, .int .i64 a0_4, .slice A0_5 l0_5.length c0_5, .slice A0_6 l0_6.length c0_6, .slice A0_7 l0_7.length c0_7, .slice A0_8 l0_8.length c0_8, .slice A0_9 l0_9.length c0_9], .int .i64 4] w fun e w' => e = .returned (.bool r) ∧ Below w.heap.size w w' := by
  have HBG := Aside0.mk hbig
  have HS := Aside0.mk hs
  have HR0_2 := Aside0.mk (And.intro hr0_2 hc0_2)
  have HR0_3 := Aside0.mk (And.intro hr0_3 hc0_3)
  have HR0_5 := Aside0.mk (And.intro hr0_5 hc0_5)
  have HR0_6 := Aside0.mk (And.intro hr0_6 hc0_6)
  have HR0_7 := Aside0.mk (And.intro hr0_7 hc0_7)
  have HR0_8 := Aside0.mk (And.intro hr0_8 hc0_8)
  have HR0_9 := Aside0.mk (And.intro hr0_9 hc0_9)
  obtain ⟨h1, h2, h3, h4⟩ := sameOut_open h
  have HQ1 := Aside0.mk h1
  have HQ2 := Aside0.mk h2
  have HQ3 := Aside0.mk h3
  have HKN := Aside0.mk h4
  clear hr0_2 hc0_2 hr0_3 hc0_3 hr0_5 hc0_5 hr0_6 hc0_6 hr0_7 hc0_7 hr0_8 hc0_8 hr0_9 hc0_9 hbig hs h h1 h2 h3 h4
  have HB0 := Aside0.mk (Below.refl w.heap.size w)
  go_enter Try.func7, Try.ntmps7
  go_wp2_with (fail)
  refine (sentrylaw10_big.calls k a0_0 a0_1 _ _ l0_2 _ _ l0_3 a0_4 _ _ l0_5 _ _ l0_6 _ _ l0_7 _ _ l0_8 _ _ l0_9 false _ (Kd.C_alloc HR0_2.out.1 _) HR0_2.out.2 (Kd.C_alloc HR0_3.out.1 _) HR0_3.out.2 (Kd.C_alloc HR0_5.out.1 _) HR0_5.out.2 (Kd.C_alloc HR0_6.out.1 _) HR0_6.out.2 (Kd.C_alloc HR0_7.out.1 _) HR0_7.out.2 (Kd.C_alloc HR0_8.out.1 _) HR0_8.out.2 (Kd.C_alloc HR0_9.out.1 _) HR0_9.out.2 HBG.out).mono ?_
  rintro e w1 ⟨rfl, hb1⟩
  have HB1 := Aside0.mk (below_step (below_alloc HB0.out _ : Below w.heap.size w _) hb1)
  have HP1 := Aside0.mk ((hb1.block _ (blk_lt (MapKept.heap_alloc w _).1)).trans (MapKept.heap_alloc w _).1)
  clear hb1 HB0 HBG
  obtain ⟨kp0, kp1, kp2, kp3, kp4, kp5, kp6, kp7, kp8, kp9⟩ := ten HP1.out
  obtain ⟨kq0, kq1, kq2, kq3, kq4, kq5, kq6, kq7, kq8, kq9⟩ := ten_alloc HP1.out
  have kr : ∀ o o', ((w1.alloc o).alloc o').cell? ⟨w.heap.size, 6, none⟩ = some (.slice A0_6 l0_6.length c0_6) := fun o o' => (blk_cell (blk_alloc (blk_alloc HP1.out o) o') 6).trans rfl
  have HSL := Aside0.mk (show l0_6.length < 1000000 from HS.out.2.2.1)
  have info : (Try.prog.info? 28).map (fun i => (i.zero, i.size, i.bytes)) = some (some (.agg #[.int .i64 0, .slice none 0 0, .slice none 0 0, .slice none 0 0]), (k28).sz, 80) := by kernel_rfl
  have HBW := Aside0.mk (below_alloc (below_alloc HB1.out (.cells #[.int .i64 a0_0, .int .i64 a0_1, .slice A0_2 l0_2.length c0_2, .slice A0_3 l0_3.length c0_3, .int .i64 a0_4, .slice A0_5 l0_5.length c0_5, .slice A0_6 l0_6.length c0_6, .slice A0_7 l0_7.length c0_7, .slice A0_8 l0_8.length c0_8, .slice A0_9 l0_9.length c0_9] 36)) (.cells #[] 28))
  have HO0 := Aside0.mk (OwnW.fresh (d := k28) (w0 := w) (base := w.heap.size) (g := w1.heap.size + 1) (by have := HB1.out.size; omega) (by have h5 := (MapKept.heap_alloc (w1.alloc (.cells #[.int .i64 a0_0, .int .i64 a0_1, .slice A0_2 l0_2.length c0_2, .slice A0_3 l0_3.length c0_3, .int .i64 a0_4, .slice A0_5 l0_5.length c0_5, .slice A0_6 l0_6.length c0_6, .slice A0_7 l0_7.length c0_7, .slice A0_8 l0_8.length c0_8, .slice A0_9 l0_9.length c0_9] 36)) (.cells #[] 28)).1; rw [World.size_alloc] at h5; exact h5))
  have HPW := Aside0.mk (blk_alloc (blk_alloc HP1.out (.cells #[.int .i64 a0_0, .int .i64 a0_1, .slice A0_2 l0_2.length c0_2, .slice A0_3 l0_3.length c0_3, .int .i64 a0_4, .slice A0_5 l0_5.length c0_5, .slice A0_6 l0_6.length c0_6, .slice A0_7 l0_7.length c0_7, .slice A0_8 l0_8.length c0_8, .slice A0_9 l0_9.length c0_9] 36)) (.cells #[] 28))
  have HQW := Aside0.mk (blk_alloc (MapKept.heap_alloc w1 (.cells #[.int .i64 a0_0, .int .i64 a0_1, .slice A0_2 l0_2.length c0_2, .slice A0_3 l0_3.length c0_3, .int .i64 a0_4, .slice A0_5 l0_5.length c0_5, .slice A0_6 l0_6.length c0_6, .slice A0_7 l0_7.length c0_7, .slice A0_8 l0_8.length c0_8, .slice A0_9 l0_9.length c0_9] 36)).1 (.cells #[] 28))
  have HLE := Aside0.mk (show w.heap.size < w1.heap.size from blk_lt HP1.out)
  go_wp2_with ((with_reducible refine gate_builtin (b := .append) (xs := #[.tmp 58, .tmp 60]) rfl ?_); at_builtin; refine Stop.out ?_)
  refine ⟨?_⟩
  refine append_rows k28 (w0 := w) rfl (.tmp 58) (.tmp 60) 31 28 (.agg #[.int .i64 0, .slice none 0 0, .slice none 0 0, .slice none 0 0]) 80 rfl Try.underlying31 info rfl (by decide) (by omega) (.slice (some ⟨w1.heap.size + 1, 0, none⟩) 0 0) [] l0_6 A0_6 l0_6.length c0_6 rfl rfl HO0.out HR0_6.out.1 HBW.out (by have := HSL.out; simp only [List.length_nil]; omega) ?_
  intro v2 w2 ho hb hg
  rw [List.nil_append] at ho
  have HO2 := Aside0.mk ho
  have HB2 := Aside0.mk hb
  have HP2 := Aside0.mk (blk_grown HPW.out hg (fun hh => by simp only [Value.ownBlock] at hh; injection hh with hh; have := HLE.out; omega))
  have HQB2 := Aside0.mk (blk_grown HQW.out hg (fun hh => by simp only [Value.ownBlock] at hh; injection hh with hh; omega))
  clear ho hb hg HO0 HPW HQW HBW kr
  have HLQ := Aside0.mk hlq
  clear hlq
  go_wp2_with ((with_reducible refine gate_builtin (b := .append) (xs := #[.tmp 61, .tmp 63]) rfl ?_); at_builtin; refine Stop.out ?_)
  refine ⟨?_⟩
  refine append_one k28 (w0 := w) rfl (.tmp 61) (.tmp 63) 31 28 (.agg #[.int .i64 0, .slice none 0 0, .slice none 0 0, .slice none 0 0]) 80 rfl Try.underlying31 info rfl (by decide) (by omega) v2 l0_6 z28 [.int .i64 0, .slice none 0 0, .slice none 0 0, .slice none 0 0] rfl rfl (k28_mk _ z28 (Nat.le_refl 0) (Kd.C_nil _ _) (Nat.le_refl 0) (Kd.C_nil _ _) (Nat.le_refl 0) (Kd.C_nil _ _)) HO2.out HB2.out (by have := HSL.out; omega) ?_
  intro v3 w3 ho hb hg
  rw [← HLQ.out] at ho
  have HP3 := Aside0.mk (blk_grown HP2.out hg (fun hh => HO2.out.ne HP2.out (by decide) hh))
  have HQB3 := Aside0.mk (blk_grown HQB2.out hg (fun hh => HO2.out.ne HQB2.out (by decide) hh))
  obtain ⟨Aq, cq, rfl, _, _⟩ := ho.toC hb
  have HO3 := Aside0.mk ho
  have HB3 := Aside0.mk hb
  clear ho hb hg HO2 HB2 HP2 HQB2
  have kc : w3.cell? ⟨w1.heap.size, 6, none⟩ = some (.slice A0_6 l0_6.length c0_6) := (blk_cell HQB3.out 6).trans rfl
  have kf : w3.frozen? ⟨w1.heap.size, 6, none⟩ = false := blk_frozen HQB3.out 6
  go_wp2_with ((with_reducible refine gate_store (t := 31) (p := 65) rfl ?_); refine Stop.out ?_)
  refine ⟨?_⟩
  refine store_event (t := 31) (p := 65) (v := ?vo) (w1 := w3.setCell ⟨w1.heap.size, 6, none⟩ (.slice Aq lq.length cq)) ?hg ?ho ?hn ?hr ?_
  case ho => rfl
  case hg => rfl
  case hn => rfl
  case hr => first | (go_simp; done) | (go_simp; rfl)
  intro w4 hw
  have hP4 : w4.heap[w.heap.size]? = some (.cells #[.int .i64 a0_0, .int .i64 a0_1, .slice A0_2 l0_2.length c0_2, .slice A0_3 l0_3.length c0_3, .int .i64 a0_4, .slice A0_5 l0_5.length c0_5, .slice A0_6 l0_6.length c0_6, .slice A0_7 l0_7.length c0_7, .slice A0_8 l0_8.length c0_8, .slice A0_9 l0_9.length c0_9] 36 (0, 0)) := by rw [hw]; exact blk_far HP3.out (fun hh => by have h2 : w.heap.size = w1.heap.size := hh; have := HLE.out; omega) _
  have hQ4 : w4.heap[w1.heap.size]? = some (.cells #[.int .i64 a0_0, .int .i64 a0_1, .slice A0_2 l0_2.length c0_2, .slice A0_3 l0_3.length c0_3, .int .i64 a0_4, .slice A0_5 l0_5.length c0_5, .slice Aq lq.length cq, .slice A0_7 l0_7.length c0_7, .slice A0_8 l0_8.length c0_8, .slice A0_9 l0_9.length c0_9] 36 (0, 0)) := by rw [hw]; exact blk_put HQB3.out 6 _ rfl
  have hB4 : Below w.heap.size w w4 := by rw [hw]; exact below_set HB3.out (show w.heap.size ≤ w1.heap.size by have := HLE.out; omega)
  have hO4 := HO3.out.far (q := w1.heap.size) (i := 6) (HO3.out.ne HQB3.out (by decide)) (.slice Aq lq.length cq)
  rw [← hw] at hO4
  obtain ⟨Aq2, cq2, he2, hl2, hC2⟩ := hO4.toC hB4
  injection he2 with he2 _ he3
  subst he2 he3
  have HQC := Aside0.mk (And.intro hC2 hl2)
  have HP4 := Aside0.mk hP4
  have HQB4 := Aside0.mk hQ4
  have HB4 := Aside0.mk hB4
  clear hw hP4 hQ4 hB4 hO4 hC2 hl2 HO3 HB3 HP3 HQB3 kc kf info
  have HBQ4 := Aside0.mk (Below.refl w4.heap.size w4)
  obtain ⟨kp_0, kp_1, kp_2, kp_3, kp_4, kp_5, kp_6, kp_7, kp_8, kp_9⟩ := ten HP4.out
  obtain ⟨kq_0, kq_1, kq_2, kq_3, kq_4, kq_5, kq_6, kq_7, kq_8, kq_9⟩ := ten HQB4.out
  go_wp2_with (fail)
  refine (rules_Same.calls k a0_0 a0_1 _ _ l0_2 _ _ l0_3 a0_4 _ _ l0_5 _ _ l0_6 _ _ l0_7 _ _ l0_8 _ _ l0_9 a0_0 a0_1 _ _ l0_2 _ _ l0_3 a0_4 _ _ l0_5 Aq cq lq _ _ l0_7 _ _ l0_8 _ _ l0_9 false _ (Kd.C_below HR0_2.out.1 HB4.out) HR0_2.out.2 (Kd.C_below HR0_3.out.1 HB4.out) HR0_3.out.2 (Kd.C_below HR0_5.out.1 HB4.out) HR0_5.out.2 (Kd.C_below HR0_6.out.1 HB4.out) HR0_6.out.2 (Kd.C_below HR0_7.out.1 HB4.out) HR0_7.out.2 (Kd.C_below HR0_8.out.1 HB4.out) HR0_8.out.2 (Kd.C_below HR0_9.out.1 HB4.out) HR0_9.out.2 (Kd.C_below HR0_2.out.1 HB4.out) HR0_2.out.2 (Kd.C_below HR0_3.out.1 HB4.out) HR0_3.out.2 (Kd.C_below HR0_5.out.1 HB4.out) HR0_5.out.2 (Kd.C_below HQC.out.1 HBQ4.out) HQC.out.2 (Kd.C_below HR0_7.out.1 HB4.out) HR0_7.out.2 (Kd.C_below HR0_8.out.1 HB4.out) HR0_8.out.2 (Kd.C_below HR0_9.out.1 HB4.out) HR0_9.out.2 HQ1.out).mono ?_
  rintro e w5 ⟨rfl, hb⟩
  have HB5 := Aside0.mk (below_step HB4.out hb)
  have HBQ5 := Aside0.mk (below_step HBQ4.out hb)
  have HP5 := Aside0.mk ((hb.block _ (blk_lt HP4.out)).trans HP4.out)
  have HQB5 := Aside0.mk ((hb.block _ (blk_lt HQB4.out)).trans HQB4.out)
  clear hb HP4 HQB4 HB4 HBQ4 HQ1
  obtain ⟨kp5_0, kp5_1, kp5_2, kp5_3, kp5_4, kp5_5, kp5_6, kp5_7, kp5_8, kp5_9⟩ := ten HP5.out
  obtain ⟨kq5_0, kq5_1, kq5_2, kq5_3, kq5_4, kq5_5, kq5_6, kq5_7, kq5_8, kq5_9⟩ := ten HQB5.out
  go_wp2_with (fail)
  refine (rules_Same.calls k a0_0 a0_1 _ _ l0_2 _ _ l0_3 a0_4 _ _ l0_5 Aq cq lq _ _ l0_7 _ _ l0_8 _ _ l0_9 a0_0 a0_1 _ _ l0_2 _ _ l0_3 a0_4 _ _ l0_5 _ _ l0_6 _ _ l0_7 _ _ l0_8 _ _ l0_9 false _ (Kd.C_below HR0_2.out.1 HB5.out) HR0_2.out.2 (Kd.C_below HR0_3.out.1 HB5.out) HR0_3.out.2 (Kd.C_below HR0_5.out.1 HB5.out) HR0_5.out.2 (Kd.C_below HQC.out.1 HBQ5.out) HQC.out.2 (Kd.C_below HR0_7.out.1 HB5.out) HR0_7.out.2 (Kd.C_below HR0_8.out.1 HB5.out) HR0_8.out.2 (Kd.C_below HR0_9.out.1 HB5.out) HR0_9.out.2 (Kd.C_below HR0_2.out.1 HB5.out) HR0_2.out.2 (Kd.C_below HR0_3.out.1 HB5.out) HR0_3.out.2 (Kd.C_below HR0_5.out.1 HB5.out) HR0_5.out.2 (Kd.C_below HR0_6.out.1 HB5.out) HR0_6.out.2 (Kd.C_below HR0_7.out.1 HB5.out) HR0_7.out.2 (Kd.C_below HR0_8.out.1 HB5.out) HR0_8.out.2 (Kd.C_below HR0_9.out.1 HB5.out) HR0_9.out.2 HQ2.out).mono ?_
  rintro e w6 ⟨rfl, hb⟩
  have HB6 := Aside0.mk (below_step HB5.out hb)
  have HBQ6 := Aside0.mk (below_step HBQ5.out hb)
  have HP6 := Aside0.mk ((hb.block _ (blk_lt HP5.out)).trans HP5.out)
  have HQB6 := Aside0.mk ((hb.block _ (blk_lt HQB5.out)).trans HQB5.out)
  clear hb HP5 HQB5 HB5 HBQ5 HQ2
  obtain ⟨kp6_0, kp6_1, kp6_2, kp6_3, kp6_4, kp6_5, kp6_6, kp6_7, kp6_8, kp6_9⟩ := ten HP6.out
  obtain ⟨kq6_0, kq6_1, kq6_2, kq6_3, kq6_4, kq6_5, kq6_6, kq6_7, kq6_8, kq6_9⟩ := ten HQB6.out
  go_wp2_with (fail)
  refine (rules_Same.calls k a0_0 a0_1 _ _ l0_2 _ _ l0_3 a0_4 _ _ l0_5 Aq cq lq _ _ l0_7 _ _ l0_8 _ _ l0_9 a0_0 a0_1 _ _ l0_2 _ _ l0_3 a0_4 _ _ l0_5 Aq cq lq _ _ l0_7 _ _ l0_8 _ _ l0_9 true _ (Kd.C_below HR0_2.out.1 HB6.out) HR0_2.out.2 (Kd.C_below HR0_3.out.1 HB6.out) HR0_3.out.2 (Kd.C_below HR0_5.out.1 HB6.out) HR0_5.out.2 (Kd.C_below HQC.out.1 HBQ6.out) HQC.out.2 (Kd.C_below HR0_7.out.1 HB6.out) HR0_7.out.2 (Kd.C_below HR0_8.out.1 HB6.out) HR0_8.out.2 (Kd.C_below HR0_9.out.1 HB6.out) HR0_9.out.2 (Kd.C_below HR0_2.out.1 HB6.out) HR0_2.out.2 (Kd.C_below HR0_3.out.1 HB6.out) HR0_3.out.2 (Kd.C_below HR0_5.out.1 HB6.out) HR0_5.out.2 (Kd.C_below HQC.out.1 HBQ6.out) HQC.out.2 (Kd.C_below HR0_7.out.1 HB6.out) HR0_7.out.2 (Kd.C_below HR0_8.out.1 HB6.out) HR0_8.out.2 (Kd.C_below HR0_9.out.1 HB6.out) HR0_9.out.2 HQ3.out).mono ?_
  rintro e w7 ⟨rfl, hb⟩
  have HB7 := Aside0.mk (below_step HB6.out hb)
  have HBQ7 := Aside0.mk (below_step HBQ6.out hb)
  have HP7 := Aside0.mk ((hb.block _ (blk_lt HP6.out)).trans HP6.out)
  have HQB7 := Aside0.mk ((hb.block _ (blk_lt HQB6.out)).trans HQB6.out)
  clear hb HP6 HQB6 HB6 HBQ6 HQ3
  obtain ⟨kp7_0, kp7_1, kp7_2, kp7_3, kp7_4, kp7_5, kp7_6, kp7_7, kp7_8, kp7_9⟩ := ten HP7.out
  obtain ⟨kq7_0, kq7_1, kq7_2, kq7_3, kq7_4, kq7_5, kq7_6, kq7_7, kq7_8, kq7_9⟩ := ten HQB7.out
  go_wp2_with (fail)
  refine (sentrylaw10_known.calls k r _ HKN.out).mono ?_
  rintro e w8 ⟨rfl, hb⟩
  have HB8 := Aside0.mk (below_step HB7.out hb)
  clear hb
  go_wp2
  go_ret
  exact ⟨rfl, HB8.out⟩
set_option maxHeartbeats 4000000 in
set_option maxRecDepth 100000 in
theorem same_w5 (k : Nat) (a0_0 : Int) (a0_1 : Int) (A0_2 : Option Addr) (c0_2 : Nat) (l0_2 : List Int) (A0_3 : Option Addr) (c0_3 : Nat) (l0_3 : List Int) (a0_4 : Int) (A0_5 : Option Addr) (c0_5 : Nat) (l0_5 : List ByteArray) (A0_6 : Option Addr) (c0_6 : Nat) (l0_6 : List S28) (A0_7 : Option Addr) (c0_7 : Nat) (l0_7 : List S44) (A0_8 : Option Addr) (c0_8 : Nat) (l0_8 : List S46) (A0_9 : Option Addr) (c0_9 : Nat) (l0_9 : List S57) (r : Bool) (w : World) (hr0_2 : Kd.C (Kd.int .i64) w A0_2 l0_2.length l0_2) (hc0_2 : l0_2.length ≤ c0_2) (hr0_3 : Kd.C (Kd.int .i64) w A0_3 l0_3.length l0_3) (hc0_3 : l0_3.length ≤ c0_3) (hr0_5 : Kd.C Kd.string w A0_5 l0_5.length l0_5) (hc0_5 : l0_5.length ≤ c0_5) (hr0_6 : Kd.C k28 w A0_6 l0_6.length l0_6) (hc0_6 : l0_6.length ≤ c0_6) (hr0_7 : Kd.C k44 w A0_7 l0_7.length l0_7) (hc0_7 : l0_7.length ≤ c0_7) (hr0_8 : Kd.C k46 w A0_8 l0_8.length l0_8) (hc0_8 : l0_8.length ≤ c0_8) (hr0_9 : Kd.C k57 w A0_9 l0_9.length l0_9) (hc0_9 : l0_9.length ≤ c0_9) (hbig : sentrylaw10_big.f k a0_0 a0_1 l0_2 l0_3 a0_4 l0_5 l0_6 l0_7 l0_8 l0_9 = some false) (hs : smallP l0_2 l0_5 l0_6 l0_8 l0_9) (lq : List S46) (hlq : lq = l0_8 ++ [z46]) (h : sameOut k a0_0 a0_1 l0_2 l0_3 a0_4 l0_5 l0_6 l0_7 l0_8 l0_9 a0_0 a0_1 l0_2 l0_3 a0_4 l0_5 l0_6 l0_7 lq l0_9 = some r) :
    Calls Try.prog 7 #[.agg #[.int .i64 a0_0, .int .i64 a0_1, .slice A0_2 l0_2.length c0_2, .slice A0_3 l0_3.length c0_3, .int .i64 a0_4, .slice A0_5 l0_5.length c0_5, .slice A0_6 l0_6.length c0_6, .slice A0_7 l0_7.length c0_7, .slice A0_8 l0_8.length c0_8, .slice A0_9 l0_9.length c0_9], .int .i64 5] w fun e w' => e = .returned (.bool r) ∧ Below w.heap.size w w' := by
  have HBG := Aside0.mk hbig
  have HS := Aside0.mk hs
  have HR0_2 := Aside0.mk (And.intro hr0_2 hc0_2)
  have HR0_3 := Aside0.mk (And.intro hr0_3 hc0_3)
  have HR0_5 := Aside0.mk (And.intro hr0_5 hc0_5)
  have HR0_6 := Aside0.mk (And.intro hr0_6 hc0_6)
  have HR0_7 := Aside0.mk (And.intro hr0_7 hc0_7)
  have HR0_8 := Aside0.mk (And.intro hr0_8 hc0_8)
  have HR0_9 := Aside0.mk (And.intro hr0_9 hc0_9)
  obtain ⟨h1, h2, h3, h4⟩ := sameOut_open h
  have HQ1 := Aside0.mk h1
  have HQ2 := Aside0.mk h2
  have HQ3 := Aside0.mk h3
  have HKN := Aside0.mk h4
  clear hr0_2 hc0_2 hr0_3 hc0_3 hr0_5 hc0_5 hr0_6 hc0_6 hr0_7 hc0_7 hr0_8 hc0_8 hr0_9 hc0_9 hbig hs h h1 h2 h3 h4
  have HB0 := Aside0.mk (Below.refl w.heap.size w)
  go_enter Try.func7, Try.ntmps7
  go_wp2_with (fail)
  refine (sentrylaw10_big.calls k a0_0 a0_1 _ _ l0_2 _ _ l0_3 a0_4 _ _ l0_5 _ _ l0_6 _ _ l0_7 _ _ l0_8 _ _ l0_9 false _ (Kd.C_alloc HR0_2.out.1 _) HR0_2.out.2 (Kd.C_alloc HR0_3.out.1 _) HR0_3.out.2 (Kd.C_alloc HR0_5.out.1 _) HR0_5.out.2 (Kd.C_alloc HR0_6.out.1 _) HR0_6.out.2 (Kd.C_alloc HR0_7.out.1 _) HR0_7.out.2 (Kd.C_alloc HR0_8.out.1 _) HR0_8.out.2 (Kd.C_alloc HR0_9.out.1 _) HR0_9.out.2 HBG.out).mono ?_
  rintro e w1 ⟨rfl, hb1⟩
  have HB1 := Aside0.mk (below_step (below_alloc HB0.out _ : Below w.heap.size w _) hb1)
  have HP1 := Aside0.mk ((hb1.block _ (blk_lt (MapKept.heap_alloc w _).1)).trans (MapKept.heap_alloc w _).1)
  clear hb1 HB0 HBG
  obtain ⟨kp0, kp1, kp2, kp3, kp4, kp5, kp6, kp7, kp8, kp9⟩ := ten HP1.out
  obtain ⟨kq0, kq1, kq2, kq3, kq4, kq5, kq6, kq7, kq8, kq9⟩ := ten_alloc HP1.out
  have kr : ∀ o o', ((w1.alloc o).alloc o').cell? ⟨w.heap.size, 8, none⟩ = some (.slice A0_8 l0_8.length c0_8) := fun o o' => (blk_cell (blk_alloc (blk_alloc HP1.out o) o') 8).trans rfl
  have HSL := Aside0.mk (show l0_8.length < 1000000 from HS.out.2.2.2.1)
  have info : (Try.prog.info? 46).map (fun i => (i.zero, i.size, i.bytes)) = some (some (.agg #[.string ⟨#[]⟩, .int .i64 0, .slice none 0 0, .int .i64 0]), (k46).sz, 56) := by kernel_rfl
  have HBW := Aside0.mk (below_alloc (below_alloc HB1.out (.cells #[.int .i64 a0_0, .int .i64 a0_1, .slice A0_2 l0_2.length c0_2, .slice A0_3 l0_3.length c0_3, .int .i64 a0_4, .slice A0_5 l0_5.length c0_5, .slice A0_6 l0_6.length c0_6, .slice A0_7 l0_7.length c0_7, .slice A0_8 l0_8.length c0_8, .slice A0_9 l0_9.length c0_9] 36)) (.cells #[] 46))
  have HO0 := Aside0.mk (OwnW.fresh (d := k46) (w0 := w) (base := w.heap.size) (g := w1.heap.size + 1) (by have := HB1.out.size; omega) (by have h5 := (MapKept.heap_alloc (w1.alloc (.cells #[.int .i64 a0_0, .int .i64 a0_1, .slice A0_2 l0_2.length c0_2, .slice A0_3 l0_3.length c0_3, .int .i64 a0_4, .slice A0_5 l0_5.length c0_5, .slice A0_6 l0_6.length c0_6, .slice A0_7 l0_7.length c0_7, .slice A0_8 l0_8.length c0_8, .slice A0_9 l0_9.length c0_9] 36)) (.cells #[] 46)).1; rw [World.size_alloc] at h5; exact h5))
  have HPW := Aside0.mk (blk_alloc (blk_alloc HP1.out (.cells #[.int .i64 a0_0, .int .i64 a0_1, .slice A0_2 l0_2.length c0_2, .slice A0_3 l0_3.length c0_3, .int .i64 a0_4, .slice A0_5 l0_5.length c0_5, .slice A0_6 l0_6.length c0_6, .slice A0_7 l0_7.length c0_7, .slice A0_8 l0_8.length c0_8, .slice A0_9 l0_9.length c0_9] 36)) (.cells #[] 46))
  have HQW := Aside0.mk (blk_alloc (MapKept.heap_alloc w1 (.cells #[.int .i64 a0_0, .int .i64 a0_1, .slice A0_2 l0_2.length c0_2, .slice A0_3 l0_3.length c0_3, .int .i64 a0_4, .slice A0_5 l0_5.length c0_5, .slice A0_6 l0_6.length c0_6, .slice A0_7 l0_7.length c0_7, .slice A0_8 l0_8.length c0_8, .slice A0_9 l0_9.length c0_9] 36)).1 (.cells #[] 46))
  have HLE := Aside0.mk (show w.heap.size < w1.heap.size from blk_lt HP1.out)
  go_wp2_with ((with_reducible refine gate_builtin (b := .append) (xs := #[.tmp 68, .tmp 70]) rfl ?_); at_builtin; refine Stop.out ?_)
  refine ⟨?_⟩
  refine append_rows k46 (w0 := w) rfl (.tmp 68) (.tmp 70) 33 46 (.agg #[.string ⟨#[]⟩, .int .i64 0, .slice none 0 0, .int .i64 0]) 56 rfl Try.underlying33 info rfl (by decide) (by omega) (.slice (some ⟨w1.heap.size + 1, 0, none⟩) 0 0) [] l0_8 A0_8 l0_8.length c0_8 rfl rfl HO0.out HR0_8.out.1 HBW.out (by have := HSL.out; simp only [List.length_nil]; omega) ?_
  intro v2 w2 ho hb hg
  rw [List.nil_append] at ho
  have HO2 := Aside0.mk ho
  have HB2 := Aside0.mk hb
  have HP2 := Aside0.mk (blk_grown HPW.out hg (fun hh => by simp only [Value.ownBlock] at hh; injection hh with hh; have := HLE.out; omega))
  have HQB2 := Aside0.mk (blk_grown HQW.out hg (fun hh => by simp only [Value.ownBlock] at hh; injection hh with hh; omega))
  clear ho hb hg HO0 HPW HQW HBW kr
  have HLQ := Aside0.mk hlq
  clear hlq
  go_wp2_with ((with_reducible refine gate_builtin (b := .append) (xs := #[.tmp 71, .tmp 73]) rfl ?_); at_builtin; refine Stop.out ?_)
  refine ⟨?_⟩
  refine append_one k46 (w0 := w) rfl (.tmp 71) (.tmp 73) 33 46 (.agg #[.string ⟨#[]⟩, .int .i64 0, .slice none 0 0, .int .i64 0]) 56 rfl Try.underlying33 info rfl (by decide) (by omega) v2 l0_8 z46 [.string ⟨#[]⟩, .int .i64 0, .slice none 0 0, .int .i64 0] rfl rfl (k46_mk _ z46 (Nat.le_refl 0) (Kd.C_nil _ _)) HO2.out HB2.out (by have := HSL.out; omega) ?_
  intro v3 w3 ho hb hg
  rw [← HLQ.out] at ho
  have HP3 := Aside0.mk (blk_grown HP2.out hg (fun hh => HO2.out.ne HP2.out (by decide) hh))
  have HQB3 := Aside0.mk (blk_grown HQB2.out hg (fun hh => HO2.out.ne HQB2.out (by decide) hh))
  obtain ⟨Aq, cq, rfl, _, _⟩ := ho.toC hb
  have HO3 := Aside0.mk ho
  have HB3 := Aside0.mk hb
  clear ho hb hg HO2 HB2 HP2 HQB2
  have kc : w3.cell? ⟨w1.heap.size, 8, none⟩ = some (.slice A0_8 l0_8.length c0_8) := (blk_cell HQB3.out 8).trans rfl
  have kf : w3.frozen? ⟨w1.heap.size, 8, none⟩ = false := blk_frozen HQB3.out 8
  go_wp2_with ((with_reducible refine gate_store (t := 33) (p := 75) rfl ?_); refine Stop.out ?_)
  refine ⟨?_⟩
  refine store_event (t := 33) (p := 75) (v := ?vo) (w1 := w3.setCell ⟨w1.heap.size, 8, none⟩ (.slice Aq lq.length cq)) ?hg ?ho ?hn ?hr ?_
  case ho => rfl
  case hg => rfl
  case hn => rfl
  case hr => first | (go_simp; done) | (go_simp; rfl)
  intro w4 hw
  have hP4 : w4.heap[w.heap.size]? = some (.cells #[.int .i64 a0_0, .int .i64 a0_1, .slice A0_2 l0_2.length c0_2, .slice A0_3 l0_3.length c0_3, .int .i64 a0_4, .slice A0_5 l0_5.length c0_5, .slice A0_6 l0_6.length c0_6, .slice A0_7 l0_7.length c0_7, .slice A0_8 l0_8.length c0_8, .slice A0_9 l0_9.length c0_9] 36 (0, 0)) := by rw [hw]; exact blk_far HP3.out (fun hh => by have h2 : w.heap.size = w1.heap.size := hh; have := HLE.out; omega) _
  have hQ4 : w4.heap[w1.heap.size]? = some (.cells #[.int .i64 a0_0, .int .i64 a0_1, .slice A0_2 l0_2.length c0_2, .slice A0_3 l0_3.length c0_3, .int .i64 a0_4, .slice A0_5 l0_5.length c0_5, .slice A0_6 l0_6.length c0_6, .slice A0_7 l0_7.length c0_7, .slice Aq lq.length cq, .slice A0_9 l0_9.length c0_9] 36 (0, 0)) := by rw [hw]; exact blk_put HQB3.out 8 _ rfl
  have hB4 : Below w.heap.size w w4 := by rw [hw]; exact below_set HB3.out (show w.heap.size ≤ w1.heap.size by have := HLE.out; omega)
  have hO4 := HO3.out.far (q := w1.heap.size) (i := 8) (HO3.out.ne HQB3.out (by decide)) (.slice Aq lq.length cq)
  rw [← hw] at hO4
  obtain ⟨Aq2, cq2, he2, hl2, hC2⟩ := hO4.toC hB4
  injection he2 with he2 _ he3
  subst he2 he3
  have HQC := Aside0.mk (And.intro hC2 hl2)
  have HP4 := Aside0.mk hP4
  have HQB4 := Aside0.mk hQ4
  have HB4 := Aside0.mk hB4
  clear hw hP4 hQ4 hB4 hO4 hC2 hl2 HO3 HB3 HP3 HQB3 kc kf info
  have HBQ4 := Aside0.mk (Below.refl w4.heap.size w4)
  obtain ⟨kp_0, kp_1, kp_2, kp_3, kp_4, kp_5, kp_6, kp_7, kp_8, kp_9⟩ := ten HP4.out
  obtain ⟨kq_0, kq_1, kq_2, kq_3, kq_4, kq_5, kq_6, kq_7, kq_8, kq_9⟩ := ten HQB4.out
  go_wp2_with (fail)
  refine (rules_Same.calls k a0_0 a0_1 _ _ l0_2 _ _ l0_3 a0_4 _ _ l0_5 _ _ l0_6 _ _ l0_7 _ _ l0_8 _ _ l0_9 a0_0 a0_1 _ _ l0_2 _ _ l0_3 a0_4 _ _ l0_5 _ _ l0_6 _ _ l0_7 Aq cq lq _ _ l0_9 false _ (Kd.C_below HR0_2.out.1 HB4.out) HR0_2.out.2 (Kd.C_below HR0_3.out.1 HB4.out) HR0_3.out.2 (Kd.C_below HR0_5.out.1 HB4.out) HR0_5.out.2 (Kd.C_below HR0_6.out.1 HB4.out) HR0_6.out.2 (Kd.C_below HR0_7.out.1 HB4.out) HR0_7.out.2 (Kd.C_below HR0_8.out.1 HB4.out) HR0_8.out.2 (Kd.C_below HR0_9.out.1 HB4.out) HR0_9.out.2 (Kd.C_below HR0_2.out.1 HB4.out) HR0_2.out.2 (Kd.C_below HR0_3.out.1 HB4.out) HR0_3.out.2 (Kd.C_below HR0_5.out.1 HB4.out) HR0_5.out.2 (Kd.C_below HR0_6.out.1 HB4.out) HR0_6.out.2 (Kd.C_below HR0_7.out.1 HB4.out) HR0_7.out.2 (Kd.C_below HQC.out.1 HBQ4.out) HQC.out.2 (Kd.C_below HR0_9.out.1 HB4.out) HR0_9.out.2 HQ1.out).mono ?_
  rintro e w5 ⟨rfl, hb⟩
  have HB5 := Aside0.mk (below_step HB4.out hb)
  have HBQ5 := Aside0.mk (below_step HBQ4.out hb)
  have HP5 := Aside0.mk ((hb.block _ (blk_lt HP4.out)).trans HP4.out)
  have HQB5 := Aside0.mk ((hb.block _ (blk_lt HQB4.out)).trans HQB4.out)
  clear hb HP4 HQB4 HB4 HBQ4 HQ1
  obtain ⟨kp5_0, kp5_1, kp5_2, kp5_3, kp5_4, kp5_5, kp5_6, kp5_7, kp5_8, kp5_9⟩ := ten HP5.out
  obtain ⟨kq5_0, kq5_1, kq5_2, kq5_3, kq5_4, kq5_5, kq5_6, kq5_7, kq5_8, kq5_9⟩ := ten HQB5.out
  go_wp2_with (fail)
  refine (rules_Same.calls k a0_0 a0_1 _ _ l0_2 _ _ l0_3 a0_4 _ _ l0_5 _ _ l0_6 _ _ l0_7 Aq cq lq _ _ l0_9 a0_0 a0_1 _ _ l0_2 _ _ l0_3 a0_4 _ _ l0_5 _ _ l0_6 _ _ l0_7 _ _ l0_8 _ _ l0_9 false _ (Kd.C_below HR0_2.out.1 HB5.out) HR0_2.out.2 (Kd.C_below HR0_3.out.1 HB5.out) HR0_3.out.2 (Kd.C_below HR0_5.out.1 HB5.out) HR0_5.out.2 (Kd.C_below HR0_6.out.1 HB5.out) HR0_6.out.2 (Kd.C_below HR0_7.out.1 HB5.out) HR0_7.out.2 (Kd.C_below HQC.out.1 HBQ5.out) HQC.out.2 (Kd.C_below HR0_9.out.1 HB5.out) HR0_9.out.2 (Kd.C_below HR0_2.out.1 HB5.out) HR0_2.out.2 (Kd.C_below HR0_3.out.1 HB5.out) HR0_3.out.2 (Kd.C_below HR0_5.out.1 HB5.out) HR0_5.out.2 (Kd.C_below HR0_6.out.1 HB5.out) HR0_6.out.2 (Kd.C_below HR0_7.out.1 HB5.out) HR0_7.out.2 (Kd.C_below HR0_8.out.1 HB5.out) HR0_8.out.2 (Kd.C_below HR0_9.out.1 HB5.out) HR0_9.out.2 HQ2.out).mono ?_
  rintro e w6 ⟨rfl, hb⟩
  have HB6 := Aside0.mk (below_step HB5.out hb)
  have HBQ6 := Aside0.mk (below_step HBQ5.out hb)
  have HP6 := Aside0.mk ((hb.block _ (blk_lt HP5.out)).trans HP5.out)
  have HQB6 := Aside0.mk ((hb.block _ (blk_lt HQB5.out)).trans HQB5.out)
  clear hb HP5 HQB5 HB5 HBQ5 HQ2
  obtain ⟨kp6_0, kp6_1, kp6_2, kp6_3, kp6_4, kp6_5, kp6_6, kp6_7, kp6_8, kp6_9⟩ := ten HP6.out
  obtain ⟨kq6_0, kq6_1, kq6_2, kq6_3, kq6_4, kq6_5, kq6_6, kq6_7, kq6_8, kq6_9⟩ := ten HQB6.out
  go_wp2_with (fail)
  refine (rules_Same.calls k a0_0 a0_1 _ _ l0_2 _ _ l0_3 a0_4 _ _ l0_5 _ _ l0_6 _ _ l0_7 Aq cq lq _ _ l0_9 a0_0 a0_1 _ _ l0_2 _ _ l0_3 a0_4 _ _ l0_5 _ _ l0_6 _ _ l0_7 Aq cq lq _ _ l0_9 true _ (Kd.C_below HR0_2.out.1 HB6.out) HR0_2.out.2 (Kd.C_below HR0_3.out.1 HB6.out) HR0_3.out.2 (Kd.C_below HR0_5.out.1 HB6.out) HR0_5.out.2 (Kd.C_below HR0_6.out.1 HB6.out) HR0_6.out.2 (Kd.C_below HR0_7.out.1 HB6.out) HR0_7.out.2 (Kd.C_below HQC.out.1 HBQ6.out) HQC.out.2 (Kd.C_below HR0_9.out.1 HB6.out) HR0_9.out.2 (Kd.C_below HR0_2.out.1 HB6.out) HR0_2.out.2 (Kd.C_below HR0_3.out.1 HB6.out) HR0_3.out.2 (Kd.C_below HR0_5.out.1 HB6.out) HR0_5.out.2 (Kd.C_below HR0_6.out.1 HB6.out) HR0_6.out.2 (Kd.C_below HR0_7.out.1 HB6.out) HR0_7.out.2 (Kd.C_below HQC.out.1 HBQ6.out) HQC.out.2 (Kd.C_below HR0_9.out.1 HB6.out) HR0_9.out.2 HQ3.out).mono ?_
  rintro e w7 ⟨rfl, hb⟩
  have HB7 := Aside0.mk (below_step HB6.out hb)
  have HBQ7 := Aside0.mk (below_step HBQ6.out hb)
  have HP7 := Aside0.mk ((hb.block _ (blk_lt HP6.out)).trans HP6.out)
  have HQB7 := Aside0.mk ((hb.block _ (blk_lt HQB6.out)).trans HQB6.out)
  clear hb HP6 HQB6 HB6 HBQ6 HQ3
  obtain ⟨kp7_0, kp7_1, kp7_2, kp7_3, kp7_4, kp7_5, kp7_6, kp7_7, kp7_8, kp7_9⟩ := ten HP7.out
  obtain ⟨kq7_0, kq7_1, kq7_2, kq7_3, kq7_4, kq7_5, kq7_6, kq7_7, kq7_8, kq7_9⟩ := ten HQB7.out
  go_wp2_with (fail)
  refine (sentrylaw10_known.calls k r _ HKN.out).mono ?_
  rintro e w8 ⟨rfl, hb⟩
  have HB8 := Aside0.mk (below_step HB7.out hb)
  clear hb
  go_wp2
  go_ret
  exact ⟨rfl, HB8.out⟩
set_option maxHeartbeats 4000000 in
set_option maxRecDepth 100000 in
theorem same_w6 (k : Nat) (a0_0 : Int) (a0_1 : Int) (A0_2 : Option Addr) (c0_2 : Nat) (l0_2 : List Int) (A0_3 : Option Addr) (c0_3 : Nat) (l0_3 : List Int) (a0_4 : Int) (A0_5 : Option Addr) (c0_5 : Nat) (l0_5 : List ByteArray) (A0_6 : Option Addr) (c0_6 : Nat) (l0_6 : List S28) (A0_7 : Option Addr) (c0_7 : Nat) (l0_7 : List S44) (A0_8 : Option Addr) (c0_8 : Nat) (l0_8 : List S46) (A0_9 : Option Addr) (c0_9 : Nat) (l0_9 : List S57) (r : Bool) (w : World) (hr0_2 : Kd.C (Kd.int .i64) w A0_2 l0_2.length l0_2) (hc0_2 : l0_2.length ≤ c0_2) (hr0_3 : Kd.C (Kd.int .i64) w A0_3 l0_3.length l0_3) (hc0_3 : l0_3.length ≤ c0_3) (hr0_5 : Kd.C Kd.string w A0_5 l0_5.length l0_5) (hc0_5 : l0_5.length ≤ c0_5) (hr0_6 : Kd.C k28 w A0_6 l0_6.length l0_6) (hc0_6 : l0_6.length ≤ c0_6) (hr0_7 : Kd.C k44 w A0_7 l0_7.length l0_7) (hc0_7 : l0_7.length ≤ c0_7) (hr0_8 : Kd.C k46 w A0_8 l0_8.length l0_8) (hc0_8 : l0_8.length ≤ c0_8) (hr0_9 : Kd.C k57 w A0_9 l0_9.length l0_9) (hc0_9 : l0_9.length ≤ c0_9) (hbig : sentrylaw10_big.f k a0_0 a0_1 l0_2 l0_3 a0_4 l0_5 l0_6 l0_7 l0_8 l0_9 = some false) (hs : smallP l0_2 l0_5 l0_6 l0_8 l0_9) (lq : List S57) (hlq : lq = l0_9 ++ [z57]) (h : sameOut k a0_0 a0_1 l0_2 l0_3 a0_4 l0_5 l0_6 l0_7 l0_8 l0_9 a0_0 a0_1 l0_2 l0_3 a0_4 l0_5 l0_6 l0_7 l0_8 lq = some r) :
    Calls Try.prog 7 #[.agg #[.int .i64 a0_0, .int .i64 a0_1, .slice A0_2 l0_2.length c0_2, .slice A0_3 l0_3.length c0_3, .int .i64 a0_4, .slice A0_5 l0_5.length c0_5, .slice A0_6 l0_6.length c0_6, .slice A0_7 l0_7.length c0_7, .slice A0_8 l0_8.length c0_8, .slice A0_9 l0_9.length c0_9], .int .i64 6] w fun e w' => e = .returned (.bool r) ∧ Below w.heap.size w w' := by
  have HBG := Aside0.mk hbig
  have HS := Aside0.mk hs
  have HR0_2 := Aside0.mk (And.intro hr0_2 hc0_2)
  have HR0_3 := Aside0.mk (And.intro hr0_3 hc0_3)
  have HR0_5 := Aside0.mk (And.intro hr0_5 hc0_5)
  have HR0_6 := Aside0.mk (And.intro hr0_6 hc0_6)
  have HR0_7 := Aside0.mk (And.intro hr0_7 hc0_7)
  have HR0_8 := Aside0.mk (And.intro hr0_8 hc0_8)
  have HR0_9 := Aside0.mk (And.intro hr0_9 hc0_9)
  obtain ⟨h1, h2, h3, h4⟩ := sameOut_open h
  have HQ1 := Aside0.mk h1
  have HQ2 := Aside0.mk h2
  have HQ3 := Aside0.mk h3
  have HKN := Aside0.mk h4
  clear hr0_2 hc0_2 hr0_3 hc0_3 hr0_5 hc0_5 hr0_6 hc0_6 hr0_7 hc0_7 hr0_8 hc0_8 hr0_9 hc0_9 hbig hs h h1 h2 h3 h4
  have HB0 := Aside0.mk (Below.refl w.heap.size w)
  go_enter Try.func7, Try.ntmps7
  go_wp2_with (fail)
  refine (sentrylaw10_big.calls k a0_0 a0_1 _ _ l0_2 _ _ l0_3 a0_4 _ _ l0_5 _ _ l0_6 _ _ l0_7 _ _ l0_8 _ _ l0_9 false _ (Kd.C_alloc HR0_2.out.1 _) HR0_2.out.2 (Kd.C_alloc HR0_3.out.1 _) HR0_3.out.2 (Kd.C_alloc HR0_5.out.1 _) HR0_5.out.2 (Kd.C_alloc HR0_6.out.1 _) HR0_6.out.2 (Kd.C_alloc HR0_7.out.1 _) HR0_7.out.2 (Kd.C_alloc HR0_8.out.1 _) HR0_8.out.2 (Kd.C_alloc HR0_9.out.1 _) HR0_9.out.2 HBG.out).mono ?_
  rintro e w1 ⟨rfl, hb1⟩
  have HB1 := Aside0.mk (below_step (below_alloc HB0.out _ : Below w.heap.size w _) hb1)
  have HP1 := Aside0.mk ((hb1.block _ (blk_lt (MapKept.heap_alloc w _).1)).trans (MapKept.heap_alloc w _).1)
  clear hb1 HB0 HBG
  obtain ⟨kp0, kp1, kp2, kp3, kp4, kp5, kp6, kp7, kp8, kp9⟩ := ten HP1.out
  obtain ⟨kq0, kq1, kq2, kq3, kq4, kq5, kq6, kq7, kq8, kq9⟩ := ten_alloc HP1.out
  have kr : ∀ o o', ((w1.alloc o).alloc o').cell? ⟨w.heap.size, 9, none⟩ = some (.slice A0_9 l0_9.length c0_9) := fun o o' => (blk_cell (blk_alloc (blk_alloc HP1.out o) o') 9).trans rfl
  have HSL := Aside0.mk (show l0_9.length < 1000000 from HS.out.2.2.2.2)
  have info : (Try.prog.info? 57).map (fun i => (i.zero, i.size, i.bytes)) = some (some (.agg #[.string ⟨#[]⟩, .int .i64 0, .string ⟨#[]⟩, .bool false, .int .i64 0, .slice none 0 0, .slice none 0 0]), (k57).sz, 104) := by kernel_rfl
  have HBW := Aside0.mk (below_alloc (below_alloc HB1.out (.cells #[.int .i64 a0_0, .int .i64 a0_1, .slice A0_2 l0_2.length c0_2, .slice A0_3 l0_3.length c0_3, .int .i64 a0_4, .slice A0_5 l0_5.length c0_5, .slice A0_6 l0_6.length c0_6, .slice A0_7 l0_7.length c0_7, .slice A0_8 l0_8.length c0_8, .slice A0_9 l0_9.length c0_9] 36)) (.cells #[] 57))
  have HO0 := Aside0.mk (OwnW.fresh (d := k57) (w0 := w) (base := w.heap.size) (g := w1.heap.size + 1) (by have := HB1.out.size; omega) (by have h5 := (MapKept.heap_alloc (w1.alloc (.cells #[.int .i64 a0_0, .int .i64 a0_1, .slice A0_2 l0_2.length c0_2, .slice A0_3 l0_3.length c0_3, .int .i64 a0_4, .slice A0_5 l0_5.length c0_5, .slice A0_6 l0_6.length c0_6, .slice A0_7 l0_7.length c0_7, .slice A0_8 l0_8.length c0_8, .slice A0_9 l0_9.length c0_9] 36)) (.cells #[] 57)).1; rw [World.size_alloc] at h5; exact h5))
  have HPW := Aside0.mk (blk_alloc (blk_alloc HP1.out (.cells #[.int .i64 a0_0, .int .i64 a0_1, .slice A0_2 l0_2.length c0_2, .slice A0_3 l0_3.length c0_3, .int .i64 a0_4, .slice A0_5 l0_5.length c0_5, .slice A0_6 l0_6.length c0_6, .slice A0_7 l0_7.length c0_7, .slice A0_8 l0_8.length c0_8, .slice A0_9 l0_9.length c0_9] 36)) (.cells #[] 57))
  have HQW := Aside0.mk (blk_alloc (MapKept.heap_alloc w1 (.cells #[.int .i64 a0_0, .int .i64 a0_1, .slice A0_2 l0_2.length c0_2, .slice A0_3 l0_3.length c0_3, .int .i64 a0_4, .slice A0_5 l0_5.length c0_5, .slice A0_6 l0_6.length c0_6, .slice A0_7 l0_7.length c0_7, .slice A0_8 l0_8.length c0_8, .slice A0_9 l0_9.length c0_9] 36)).1 (.cells #[] 57))
  have HLE := Aside0.mk (show w.heap.size < w1.heap.size from blk_lt HP1.out)
  go_wp2_with ((with_reducible refine gate_builtin (b := .append) (xs := #[.tmp 18, .tmp 20]) rfl ?_); at_builtin; refine Stop.out ?_)
  refine ⟨?_⟩
  refine append_rows k57 (w0 := w) rfl (.tmp 18) (.tmp 20) 34 57 (.agg #[.string ⟨#[]⟩, .int .i64 0, .string ⟨#[]⟩, .bool false, .int .i64 0, .slice none 0 0, .slice none 0 0]) 104 rfl Try.underlying34 info rfl (by decide) (by omega) (.slice (some ⟨w1.heap.size + 1, 0, none⟩) 0 0) [] l0_9 A0_9 l0_9.length c0_9 rfl rfl HO0.out HR0_9.out.1 HBW.out (by have := HSL.out; simp only [List.length_nil]; omega) ?_
  intro v2 w2 ho hb hg
  rw [List.nil_append] at ho
  have HO2 := Aside0.mk ho
  have HB2 := Aside0.mk hb
  have HP2 := Aside0.mk (blk_grown HPW.out hg (fun hh => by simp only [Value.ownBlock] at hh; injection hh with hh; have := HLE.out; omega))
  have HQB2 := Aside0.mk (blk_grown HQW.out hg (fun hh => by simp only [Value.ownBlock] at hh; injection hh with hh; omega))
  clear ho hb hg HO0 HPW HQW HBW kr
  have HLQ := Aside0.mk hlq
  clear hlq
  go_wp2_with ((with_reducible refine gate_builtin (b := .append) (xs := #[.tmp 21, .tmp 23]) rfl ?_); at_builtin; refine Stop.out ?_)
  refine ⟨?_⟩
  refine append_one k57 (w0 := w) rfl (.tmp 21) (.tmp 23) 34 57 (.agg #[.string ⟨#[]⟩, .int .i64 0, .string ⟨#[]⟩, .bool false, .int .i64 0, .slice none 0 0, .slice none 0 0]) 104 rfl Try.underlying34 info rfl (by decide) (by omega) v2 l0_9 z57 [.string ⟨#[]⟩, .int .i64 0, .string ⟨#[]⟩, .bool false, .int .i64 0, .slice none 0 0, .slice none 0 0] rfl rfl (k57_mk _ z57 (Nat.le_refl 0) (Kd.C_nil _ _) (Nat.le_refl 0) (Kd.C_nil _ _)) HO2.out HB2.out (by have := HSL.out; omega) ?_
  intro v3 w3 ho hb hg
  rw [← HLQ.out] at ho
  have HP3 := Aside0.mk (blk_grown HP2.out hg (fun hh => HO2.out.ne HP2.out (by decide) hh))
  have HQB3 := Aside0.mk (blk_grown HQB2.out hg (fun hh => HO2.out.ne HQB2.out (by decide) hh))
  obtain ⟨Aq, cq, rfl, _, _⟩ := ho.toC hb
  have HO3 := Aside0.mk ho
  have HB3 := Aside0.mk hb
  clear ho hb hg HO2 HB2 HP2 HQB2
  have kc : w3.cell? ⟨w1.heap.size, 9, none⟩ = some (.slice A0_9 l0_9.length c0_9) := (blk_cell HQB3.out 9).trans rfl
  have kf : w3.frozen? ⟨w1.heap.size, 9, none⟩ = false := blk_frozen HQB3.out 9
  go_wp2_with ((with_reducible refine gate_store (t := 34) (p := 25) rfl ?_); refine Stop.out ?_)
  refine ⟨?_⟩
  refine store_event (t := 34) (p := 25) (v := ?vo) (w1 := w3.setCell ⟨w1.heap.size, 9, none⟩ (.slice Aq lq.length cq)) ?hg ?ho ?hn ?hr ?_
  case ho => rfl
  case hg => rfl
  case hn => rfl
  case hr => first | (go_simp; done) | (go_simp; rfl)
  intro w4 hw
  have hP4 : w4.heap[w.heap.size]? = some (.cells #[.int .i64 a0_0, .int .i64 a0_1, .slice A0_2 l0_2.length c0_2, .slice A0_3 l0_3.length c0_3, .int .i64 a0_4, .slice A0_5 l0_5.length c0_5, .slice A0_6 l0_6.length c0_6, .slice A0_7 l0_7.length c0_7, .slice A0_8 l0_8.length c0_8, .slice A0_9 l0_9.length c0_9] 36 (0, 0)) := by rw [hw]; exact blk_far HP3.out (fun hh => by have h2 : w.heap.size = w1.heap.size := hh; have := HLE.out; omega) _
  have hQ4 : w4.heap[w1.heap.size]? = some (.cells #[.int .i64 a0_0, .int .i64 a0_1, .slice A0_2 l0_2.length c0_2, .slice A0_3 l0_3.length c0_3, .int .i64 a0_4, .slice A0_5 l0_5.length c0_5, .slice A0_6 l0_6.length c0_6, .slice A0_7 l0_7.length c0_7, .slice A0_8 l0_8.length c0_8, .slice Aq lq.length cq] 36 (0, 0)) := by rw [hw]; exact blk_put HQB3.out 9 _ rfl
  have hB4 : Below w.heap.size w w4 := by rw [hw]; exact below_set HB3.out (show w.heap.size ≤ w1.heap.size by have := HLE.out; omega)
  have hO4 := HO3.out.far (q := w1.heap.size) (i := 9) (HO3.out.ne HQB3.out (by decide)) (.slice Aq lq.length cq)
  rw [← hw] at hO4
  obtain ⟨Aq2, cq2, he2, hl2, hC2⟩ := hO4.toC hB4
  injection he2 with he2 _ he3
  subst he2 he3
  have HQC := Aside0.mk (And.intro hC2 hl2)
  have HP4 := Aside0.mk hP4
  have HQB4 := Aside0.mk hQ4
  have HB4 := Aside0.mk hB4
  clear hw hP4 hQ4 hB4 hO4 hC2 hl2 HO3 HB3 HP3 HQB3 kc kf info
  have HBQ4 := Aside0.mk (Below.refl w4.heap.size w4)
  obtain ⟨kp_0, kp_1, kp_2, kp_3, kp_4, kp_5, kp_6, kp_7, kp_8, kp_9⟩ := ten HP4.out
  obtain ⟨kq_0, kq_1, kq_2, kq_3, kq_4, kq_5, kq_6, kq_7, kq_8, kq_9⟩ := ten HQB4.out
  go_wp2_with (fail)
  refine (rules_Same.calls k a0_0 a0_1 _ _ l0_2 _ _ l0_3 a0_4 _ _ l0_5 _ _ l0_6 _ _ l0_7 _ _ l0_8 _ _ l0_9 a0_0 a0_1 _ _ l0_2 _ _ l0_3 a0_4 _ _ l0_5 _ _ l0_6 _ _ l0_7 _ _ l0_8 Aq cq lq false _ (Kd.C_below HR0_2.out.1 HB4.out) HR0_2.out.2 (Kd.C_below HR0_3.out.1 HB4.out) HR0_3.out.2 (Kd.C_below HR0_5.out.1 HB4.out) HR0_5.out.2 (Kd.C_below HR0_6.out.1 HB4.out) HR0_6.out.2 (Kd.C_below HR0_7.out.1 HB4.out) HR0_7.out.2 (Kd.C_below HR0_8.out.1 HB4.out) HR0_8.out.2 (Kd.C_below HR0_9.out.1 HB4.out) HR0_9.out.2 (Kd.C_below HR0_2.out.1 HB4.out) HR0_2.out.2 (Kd.C_below HR0_3.out.1 HB4.out) HR0_3.out.2 (Kd.C_below HR0_5.out.1 HB4.out) HR0_5.out.2 (Kd.C_below HR0_6.out.1 HB4.out) HR0_6.out.2 (Kd.C_below HR0_7.out.1 HB4.out) HR0_7.out.2 (Kd.C_below HR0_8.out.1 HB4.out) HR0_8.out.2 (Kd.C_below HQC.out.1 HBQ4.out) HQC.out.2 HQ1.out).mono ?_
  rintro e w5 ⟨rfl, hb⟩
  have HB5 := Aside0.mk (below_step HB4.out hb)
  have HBQ5 := Aside0.mk (below_step HBQ4.out hb)
  have HP5 := Aside0.mk ((hb.block _ (blk_lt HP4.out)).trans HP4.out)
  have HQB5 := Aside0.mk ((hb.block _ (blk_lt HQB4.out)).trans HQB4.out)
  clear hb HP4 HQB4 HB4 HBQ4 HQ1
  obtain ⟨kp5_0, kp5_1, kp5_2, kp5_3, kp5_4, kp5_5, kp5_6, kp5_7, kp5_8, kp5_9⟩ := ten HP5.out
  obtain ⟨kq5_0, kq5_1, kq5_2, kq5_3, kq5_4, kq5_5, kq5_6, kq5_7, kq5_8, kq5_9⟩ := ten HQB5.out
  go_wp2_with (fail)
  refine (rules_Same.calls k a0_0 a0_1 _ _ l0_2 _ _ l0_3 a0_4 _ _ l0_5 _ _ l0_6 _ _ l0_7 _ _ l0_8 Aq cq lq a0_0 a0_1 _ _ l0_2 _ _ l0_3 a0_4 _ _ l0_5 _ _ l0_6 _ _ l0_7 _ _ l0_8 _ _ l0_9 false _ (Kd.C_below HR0_2.out.1 HB5.out) HR0_2.out.2 (Kd.C_below HR0_3.out.1 HB5.out) HR0_3.out.2 (Kd.C_below HR0_5.out.1 HB5.out) HR0_5.out.2 (Kd.C_below HR0_6.out.1 HB5.out) HR0_6.out.2 (Kd.C_below HR0_7.out.1 HB5.out) HR0_7.out.2 (Kd.C_below HR0_8.out.1 HB5.out) HR0_8.out.2 (Kd.C_below HQC.out.1 HBQ5.out) HQC.out.2 (Kd.C_below HR0_2.out.1 HB5.out) HR0_2.out.2 (Kd.C_below HR0_3.out.1 HB5.out) HR0_3.out.2 (Kd.C_below HR0_5.out.1 HB5.out) HR0_5.out.2 (Kd.C_below HR0_6.out.1 HB5.out) HR0_6.out.2 (Kd.C_below HR0_7.out.1 HB5.out) HR0_7.out.2 (Kd.C_below HR0_8.out.1 HB5.out) HR0_8.out.2 (Kd.C_below HR0_9.out.1 HB5.out) HR0_9.out.2 HQ2.out).mono ?_
  rintro e w6 ⟨rfl, hb⟩
  have HB6 := Aside0.mk (below_step HB5.out hb)
  have HBQ6 := Aside0.mk (below_step HBQ5.out hb)
  have HP6 := Aside0.mk ((hb.block _ (blk_lt HP5.out)).trans HP5.out)
  have HQB6 := Aside0.mk ((hb.block _ (blk_lt HQB5.out)).trans HQB5.out)
  clear hb HP5 HQB5 HB5 HBQ5 HQ2
  obtain ⟨kp6_0, kp6_1, kp6_2, kp6_3, kp6_4, kp6_5, kp6_6, kp6_7, kp6_8, kp6_9⟩ := ten HP6.out
  obtain ⟨kq6_0, kq6_1, kq6_2, kq6_3, kq6_4, kq6_5, kq6_6, kq6_7, kq6_8, kq6_9⟩ := ten HQB6.out
  go_wp2_with (fail)
  refine (rules_Same.calls k a0_0 a0_1 _ _ l0_2 _ _ l0_3 a0_4 _ _ l0_5 _ _ l0_6 _ _ l0_7 _ _ l0_8 Aq cq lq a0_0 a0_1 _ _ l0_2 _ _ l0_3 a0_4 _ _ l0_5 _ _ l0_6 _ _ l0_7 _ _ l0_8 Aq cq lq true _ (Kd.C_below HR0_2.out.1 HB6.out) HR0_2.out.2 (Kd.C_below HR0_3.out.1 HB6.out) HR0_3.out.2 (Kd.C_below HR0_5.out.1 HB6.out) HR0_5.out.2 (Kd.C_below HR0_6.out.1 HB6.out) HR0_6.out.2 (Kd.C_below HR0_7.out.1 HB6.out) HR0_7.out.2 (Kd.C_below HR0_8.out.1 HB6.out) HR0_8.out.2 (Kd.C_below HQC.out.1 HBQ6.out) HQC.out.2 (Kd.C_below HR0_2.out.1 HB6.out) HR0_2.out.2 (Kd.C_below HR0_3.out.1 HB6.out) HR0_3.out.2 (Kd.C_below HR0_5.out.1 HB6.out) HR0_5.out.2 (Kd.C_below HR0_6.out.1 HB6.out) HR0_6.out.2 (Kd.C_below HR0_7.out.1 HB6.out) HR0_7.out.2 (Kd.C_below HR0_8.out.1 HB6.out) HR0_8.out.2 (Kd.C_below HQC.out.1 HBQ6.out) HQC.out.2 HQ3.out).mono ?_
  rintro e w7 ⟨rfl, hb⟩
  have HB7 := Aside0.mk (below_step HB6.out hb)
  have HBQ7 := Aside0.mk (below_step HBQ6.out hb)
  have HP7 := Aside0.mk ((hb.block _ (blk_lt HP6.out)).trans HP6.out)
  have HQB7 := Aside0.mk ((hb.block _ (blk_lt HQB6.out)).trans HQB6.out)
  clear hb HP6 HQB6 HB6 HBQ6 HQ3
  obtain ⟨kp7_0, kp7_1, kp7_2, kp7_3, kp7_4, kp7_5, kp7_6, kp7_7, kp7_8, kp7_9⟩ := ten HP7.out
  obtain ⟨kq7_0, kq7_1, kq7_2, kq7_3, kq7_4, kq7_5, kq7_6, kq7_7, kq7_8, kq7_9⟩ := ten HQB7.out
  go_wp2_with (fail)
  refine (sentrylaw10_known.calls k r _ HKN.out).mono ?_
  rintro e w8 ⟨rfl, hb⟩
  have HB8 := Aside0.mk (below_step HB7.out hb)
  clear hb
  go_wp2
  go_ret
  exact ⟨rfl, HB8.out⟩
def sameAll (k : Nat) (a0_0 : Int) (a0_1 : Int) (l0_2 : List Int) (l0_3 : List Int) (a0_4 : Int) (l0_5 : List ByteArray) (l0_6 : List S28) (l0_7 : List S44) (l0_8 : List S46) (l0_9 : List S57) (a1 : Int) : Option Bool := if a1 = 0 then sameOut k a0_0 a0_1 l0_2 l0_3 a0_4 l0_5 l0_6 l0_7 l0_8 l0_9 (wrap64 (a0_0 + 1)) a0_1 l0_2 l0_3 a0_4 l0_5 l0_6 l0_7 l0_8 l0_9 else if a1 = 1 then sameOut k a0_0 a0_1 l0_2 l0_3 a0_4 l0_5 l0_6 l0_7 l0_8 l0_9 a0_0 (wrap64 (a0_1 + 1)) l0_2 l0_3 a0_4 l0_5 l0_6 l0_7 l0_8 l0_9 else if a1 = 2 then sameOut k a0_0 a0_1 l0_2 l0_3 a0_4 l0_5 l0_6 l0_7 l0_8 l0_9 a0_0 a0_1 (l0_2 ++ [1]) l0_3 a0_4 l0_5 l0_6 l0_7 l0_8 l0_9 else if a1 = 3 then sameOut k a0_0 a0_1 l0_2 l0_3 a0_4 l0_5 l0_6 l0_7 l0_8 l0_9 a0_0 a0_1 l0_2 l0_3 a0_4 (l0_5 ++ [⟨#[120]⟩]) l0_6 l0_7 l0_8 l0_9 else if a1 = 4 then sameOut k a0_0 a0_1 l0_2 l0_3 a0_4 l0_5 l0_6 l0_7 l0_8 l0_9 a0_0 a0_1 l0_2 l0_3 a0_4 l0_5 (l0_6 ++ [z28]) l0_7 l0_8 l0_9 else if a1 = 5 then sameOut k a0_0 a0_1 l0_2 l0_3 a0_4 l0_5 l0_6 l0_7 l0_8 l0_9 a0_0 a0_1 l0_2 l0_3 a0_4 l0_5 l0_6 l0_7 (l0_8 ++ [z46]) l0_9 else sameOut k a0_0 a0_1 l0_2 l0_3 a0_4 l0_5 l0_6 l0_7 l0_8 l0_9 a0_0 a0_1 l0_2 l0_3 a0_4 l0_5 l0_6 l0_7 l0_8 (l0_9 ++ [z57])
def sentrylaw10_RulesSame.f (k : Nat) (a0_0 : Int) (a0_1 : Int) (l0_2 : List Int) (l0_3 : List Int) (a0_4 : Int) (l0_5 : List ByteArray) (l0_6 : List S28) (l0_7 : List S44) (l0_8 : List S46) (l0_9 : List S57) (a1 : Int) : Option Bool := (sentrylaw10_big.f k a0_0 a0_1 l0_2 l0_3 a0_4 l0_5 l0_6 l0_7 l0_8 l0_9).bind fun b => if b = true then some true else if a1 < 0 then some true else if a1 > 6 then some true else if smallP l0_2 l0_5 l0_6 l0_8 l0_9 then sameAll k a0_0 a0_1 l0_2 l0_3 a0_4 l0_5 l0_6 l0_7 l0_8 l0_9 a1 else none
theorem sentrylaw10_RulesSame.mono : ∀ a0 a1 a2 a3 a4 a5 a6 a7 a8 a9 b k, LeO (sentrylaw10_RulesSame.f k a0 a1 a2 a3 a4 a5 a6 a7 a8 a9 b) (sentrylaw10_RulesSame.f (k + 1) a0 a1 a2 a3 a4 a5 a6 a7 a8 a9 b) := fun a0 a1 a2 a3 a4 a5 a6 a7 a8 a9 b k =>
  .bind (sentrylaw10_big.mono _ _ _ _ _ _ _ _ _ _ k) fun b => .ite (.refl _) (.ite (.refl _) (.ite (.refl _) (.ite (.ite (sameOut_mono k _ _ _ _ _ _ _ _ _ _ _ _ _ _ _ _ _ _ _ _) (.ite (sameOut_mono k _ _ _ _ _ _ _ _ _ _ _ _ _ _ _ _ _ _ _ _) (.ite (sameOut_mono k _ _ _ _ _ _ _ _ _ _ _ _ _ _ _ _ _ _ _ _) (.ite (sameOut_mono k _ _ _ _ _ _ _ _ _ _ _ _ _ _ _ _ _ _ _ _) (.ite (sameOut_mono k _ _ _ _ _ _ _ _ _ _ _ _ _ _ _ _ _ _ _ _) (.ite (sameOut_mono k _ _ _ _ _ _ _ _ _ _ _ _ _ _ _ _ _ _ _ _) (sameOut_mono k _ _ _ _ _ _ _ _ _ _ _ _ _ _ _ _ _ _ _ _))))))) (.refl _))))
set_option maxHeartbeats 4000000 in
set_option maxRecDepth 100000 in
theorem sentrylaw10_RulesSame.calls (k : Nat) (a0_0 : Int) (a0_1 : Int) (A0_2 : Option Addr) (c0_2 : Nat) (l0_2 : List Int) (A0_3 : Option Addr) (c0_3 : Nat) (l0_3 : List Int) (a0_4 : Int) (A0_5 : Option Addr) (c0_5 : Nat) (l0_5 : List ByteArray) (A0_6 : Option Addr) (c0_6 : Nat) (l0_6 : List S28) (A0_7 : Option Addr) (c0_7 : Nat) (l0_7 : List S44) (A0_8 : Option Addr) (c0_8 : Nat) (l0_8 : List S46) (A0_9 : Option Addr) (c0_9 : Nat) (l0_9 : List S57) (a1 : Int) (r : Bool) (w : World) (hr0_2 : Kd.C (Kd.int .i64) w A0_2 l0_2.length l0_2) (hc0_2 : l0_2.length ≤ c0_2) (hr0_3 : Kd.C (Kd.int .i64) w A0_3 l0_3.length l0_3) (hc0_3 : l0_3.length ≤ c0_3) (hr0_5 : Kd.C Kd.string w A0_5 l0_5.length l0_5) (hc0_5 : l0_5.length ≤ c0_5) (hr0_6 : Kd.C k28 w A0_6 l0_6.length l0_6) (hc0_6 : l0_6.length ≤ c0_6) (hr0_7 : Kd.C k44 w A0_7 l0_7.length l0_7) (hc0_7 : l0_7.length ≤ c0_7) (hr0_8 : Kd.C k46 w A0_8 l0_8.length l0_8) (hc0_8 : l0_8.length ≤ c0_8) (hr0_9 : Kd.C k57 w A0_9 l0_9.length l0_9) (hc0_9 : l0_9.length ≤ c0_9) (h : sentrylaw10_RulesSame.f k a0_0 a0_1 l0_2 l0_3 a0_4 l0_5 l0_6 l0_7 l0_8 l0_9 a1 = some r) :
    Calls Try.prog 7 #[.agg #[.int .i64 a0_0, .int .i64 a0_1, .slice A0_2 l0_2.length c0_2, .slice A0_3 l0_3.length c0_3, .int .i64 a0_4, .slice A0_5 l0_5.length c0_5, .slice A0_6 l0_6.length c0_6, .slice A0_7 l0_7.length c0_7, .slice A0_8 l0_8.length c0_8, .slice A0_9 l0_9.length c0_9], .int .i64 a1] w fun e w' => e = .returned (.bool r) ∧ Below w.heap.size w w' := by
  unfold sentrylaw10_RulesSame.f at h
  obtain ⟨b, hbig, h⟩ := Option.bind_eq_some_iff.mp h
  have HR0_2 := Aside0.mk (And.intro hr0_2 hc0_2)
  have HR0_3 := Aside0.mk (And.intro hr0_3 hc0_3)
  have HR0_5 := Aside0.mk (And.intro hr0_5 hc0_5)
  have HR0_6 := Aside0.mk (And.intro hr0_6 hc0_6)
  have HR0_7 := Aside0.mk (And.intro hr0_7 hc0_7)
  have HR0_8 := Aside0.mk (And.intro hr0_8 hc0_8)
  have HR0_9 := Aside0.mk (And.intro hr0_9 hc0_9)
  have HBG := Aside0.mk hbig
  have guard : ∀ (hh : b = true ∨ (b = false ∧ (a1 < 0 ∨ a1 > 6))) (hr : r = true), Calls Try.prog 7 #[.agg #[.int .i64 a0_0, .int .i64 a0_1, .slice A0_2 l0_2.length c0_2, .slice A0_3 l0_3.length c0_3, .int .i64 a0_4, .slice A0_5 l0_5.length c0_5, .slice A0_6 l0_6.length c0_6, .slice A0_7 l0_7.length c0_7, .slice A0_8 l0_8.length c0_8, .slice A0_9 l0_9.length c0_9], .int .i64 a1] w fun e w' => e = .returned (.bool r) ∧ Below w.heap.size w w' := by
    intro hh hr
    subst hr
    clear hr0_2 hc0_2 hr0_3 hc0_3 hr0_5 hc0_5 hr0_6 hc0_6 hr0_7 hc0_7 hr0_8 hc0_8 hr0_9 hc0_9 hbig h
    rcases hh with rfl | ⟨rfl, hh⟩
    · go_enter Try.func7, Try.ntmps7
      go_wp2_with (fail)
      refine (sentrylaw10_big.calls k a0_0 a0_1 _ _ l0_2 _ _ l0_3 a0_4 _ _ l0_5 _ _ l0_6 _ _ l0_7 _ _ l0_8 _ _ l0_9 true _ (Kd.C_alloc HR0_2.out.1 _) HR0_2.out.2 (Kd.C_alloc HR0_3.out.1 _) HR0_3.out.2 (Kd.C_alloc HR0_5.out.1 _) HR0_5.out.2 (Kd.C_alloc HR0_6.out.1 _) HR0_6.out.2 (Kd.C_alloc HR0_7.out.1 _) HR0_7.out.2 (Kd.C_alloc HR0_8.out.1 _) HR0_8.out.2 (Kd.C_alloc HR0_9.out.1 _) HR0_9.out.2 HBG.out).mono ?_
      rintro e w1 ⟨rfl, hb1⟩
      have HB1 := Aside0.mk (below_step (below_alloc (Below.refl _ _) _ : Below w.heap.size w _) hb1)
      clear hb1 HBG
      go_wp2
      go_ret
      exact ⟨rfl, HB1.out⟩
    · rcases hh with hh | hh
      · have c1 : decide (a1 < 0) = true := decide_eq_true hh
        go_enter Try.func7, Try.ntmps7
        go_wp2_with (fail)
        refine (sentrylaw10_big.calls k a0_0 a0_1 _ _ l0_2 _ _ l0_3 a0_4 _ _ l0_5 _ _ l0_6 _ _ l0_7 _ _ l0_8 _ _ l0_9 false _ (Kd.C_alloc HR0_2.out.1 _) HR0_2.out.2 (Kd.C_alloc HR0_3.out.1 _) HR0_3.out.2 (Kd.C_alloc HR0_5.out.1 _) HR0_5.out.2 (Kd.C_alloc HR0_6.out.1 _) HR0_6.out.2 (Kd.C_alloc HR0_7.out.1 _) HR0_7.out.2 (Kd.C_alloc HR0_8.out.1 _) HR0_8.out.2 (Kd.C_alloc HR0_9.out.1 _) HR0_9.out.2 HBG.out).mono ?_
        rintro e w1 ⟨rfl, hb1⟩
        have HB1 := Aside0.mk (below_step (below_alloc (Below.refl _ _) _ : Below w.heap.size w _) hb1)
        clear hb1 HBG
        go_wp2
        go_ret
        exact ⟨rfl, HB1.out⟩
      · have c1 : decide (a1 < 0) = false := decide_eq_false (by omega)
        have c2 : decide (6 < a1) = true := decide_eq_true hh
        go_enter Try.func7, Try.ntmps7
        go_wp2_with (fail)
        refine (sentrylaw10_big.calls k a0_0 a0_1 _ _ l0_2 _ _ l0_3 a0_4 _ _ l0_5 _ _ l0_6 _ _ l0_7 _ _ l0_8 _ _ l0_9 false _ (Kd.C_alloc HR0_2.out.1 _) HR0_2.out.2 (Kd.C_alloc HR0_3.out.1 _) HR0_3.out.2 (Kd.C_alloc HR0_5.out.1 _) HR0_5.out.2 (Kd.C_alloc HR0_6.out.1 _) HR0_6.out.2 (Kd.C_alloc HR0_7.out.1 _) HR0_7.out.2 (Kd.C_alloc HR0_8.out.1 _) HR0_8.out.2 (Kd.C_alloc HR0_9.out.1 _) HR0_9.out.2 HBG.out).mono ?_
        rintro e w1 ⟨rfl, hb1⟩
        have HB1 := Aside0.mk (below_step (below_alloc (Below.refl _ _) _ : Below w.heap.size w _) hb1)
        clear hb1 HBG
        go_wp2
        go_ret
        exact ⟨rfl, HB1.out⟩
  cases b with
  | true =>
    rw [if_pos rfl] at h
    exact guard (.inl rfl) (Option.some.inj h).symm
  | false =>
    rw [if_neg (by decide)] at h
    by_cases h1 : a1 < 0
    · rw [if_pos h1] at h
      exact guard (.inr ⟨rfl, .inl h1⟩) (Option.some.inj h).symm
    rw [if_neg h1] at h
    by_cases h2 : a1 > 6
    · rw [if_pos h2] at h
      exact guard (.inr ⟨rfl, .inr h2⟩) (Option.some.inj h).symm
    rw [if_neg h2] at h
    by_cases hs : smallP l0_2 l0_5 l0_6 l0_8 l0_9
    case neg => rw [if_neg hs] at h; cases h
    rw [if_pos hs] at h
    clear guard HBG HR0_2 HR0_3 HR0_5 HR0_6 HR0_7 HR0_8 HR0_9
    unfold sameAll at h
    have e0 : a1 = 0 ∨ a1 = 1 ∨ a1 = 2 ∨ a1 = 3 ∨ a1 = 4 ∨ a1 = 5 ∨ a1 = 6 := by omega
    rcases e0 with rfl | rfl | rfl | rfl | rfl | rfl | rfl
    · exact same_w0 k a0_0 a0_1 _ _ l0_2 _ _ l0_3 a0_4 _ _ l0_5 _ _ l0_6 _ _ l0_7 _ _ l0_8 _ _ l0_9 r w hr0_2 hc0_2 hr0_3 hc0_3 hr0_5 hc0_5 hr0_6 hc0_6 hr0_7 hc0_7 hr0_8 hc0_8 hr0_9 hc0_9 hbig hs (by rw [if_pos rfl] at h; exact h)
    · exact same_w1 k a0_0 a0_1 _ _ l0_2 _ _ l0_3 a0_4 _ _ l0_5 _ _ l0_6 _ _ l0_7 _ _ l0_8 _ _ l0_9 r w hr0_2 hc0_2 hr0_3 hc0_3 hr0_5 hc0_5 hr0_6 hc0_6 hr0_7 hc0_7 hr0_8 hc0_8 hr0_9 hc0_9 hbig hs (by rw [if_neg (by decide)] at h; rw [if_pos rfl] at h; exact h)
    · exact same_w2 k a0_0 a0_1 _ _ l0_2 _ _ l0_3 a0_4 _ _ l0_5 _ _ l0_6 _ _ l0_7 _ _ l0_8 _ _ l0_9 r w hr0_2 hc0_2 hr0_3 hc0_3 hr0_5 hc0_5 hr0_6 hc0_6 hr0_7 hc0_7 hr0_8 hc0_8 hr0_9 hc0_9 hbig hs _ rfl (by rw [if_neg (by decide)] at h; rw [if_neg (by decide)] at h; rw [if_pos rfl] at h; exact h)
    · exact same_w3 k a0_0 a0_1 _ _ l0_2 _ _ l0_3 a0_4 _ _ l0_5 _ _ l0_6 _ _ l0_7 _ _ l0_8 _ _ l0_9 r w hr0_2 hc0_2 hr0_3 hc0_3 hr0_5 hc0_5 hr0_6 hc0_6 hr0_7 hc0_7 hr0_8 hc0_8 hr0_9 hc0_9 hbig hs _ rfl (by rw [if_neg (by decide)] at h; rw [if_neg (by decide)] at h; rw [if_neg (by decide)] at h; rw [if_pos rfl] at h; exact h)
    · exact same_w4 k a0_0 a0_1 _ _ l0_2 _ _ l0_3 a0_4 _ _ l0_5 _ _ l0_6 _ _ l0_7 _ _ l0_8 _ _ l0_9 r w hr0_2 hc0_2 hr0_3 hc0_3 hr0_5 hc0_5 hr0_6 hc0_6 hr0_7 hc0_7 hr0_8 hc0_8 hr0_9 hc0_9 hbig hs _ rfl (by rw [if_neg (by decide)] at h; rw [if_neg (by decide)] at h; rw [if_neg (by decide)] at h; rw [if_neg (by decide)] at h; rw [if_pos rfl] at h; exact h)
    · exact same_w5 k a0_0 a0_1 _ _ l0_2 _ _ l0_3 a0_4 _ _ l0_5 _ _ l0_6 _ _ l0_7 _ _ l0_8 _ _ l0_9 r w hr0_2 hc0_2 hr0_3 hc0_3 hr0_5 hc0_5 hr0_6 hc0_6 hr0_7 hc0_7 hr0_8 hc0_8 hr0_9 hc0_9 hbig hs _ rfl (by rw [if_neg (by decide)] at h; rw [if_neg (by decide)] at h; rw [if_neg (by decide)] at h; rw [if_neg (by decide)] at h; rw [if_neg (by decide)] at h; rw [if_pos rfl] at h; exact h)
    · exact same_w6 k a0_0 a0_1 _ _ l0_2 _ _ l0_3 a0_4 _ _ l0_5 _ _ l0_6 _ _ l0_7 _ _ l0_8 _ _ l0_9 r w hr0_2 hc0_2 hr0_3 hc0_3 hr0_5 hc0_5 hr0_6 hc0_6 hr0_7 hc0_7 hr0_8 hc0_8 hr0_9 hc0_9 hbig hs _ rfl (by rw [if_neg (by decide)] at h; rw [if_neg (by decide)] at h; rw [if_neg (by decide)] at h; rw [if_neg (by decide)] at h; rw [if_neg (by decide)] at h; rw [if_neg (by decide)] at h; exact h)
end Go.Proofs.Ytknenadpkgajjaa.PA
end
