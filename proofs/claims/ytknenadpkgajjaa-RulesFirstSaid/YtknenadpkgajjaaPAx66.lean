-- Printed by this session's gprint.py (over the kit's print.py) out of the translation.
import Derived.Test.YtknenadpkgajjaaPAx0
import Derived.Test.YtknenadpkgajjaaPAx51
import Derived.Test.YtknenadpkgajjaaPAx53
namespace Go.Proofs.Ytknenadpkgajjaa.PA
open Go.RowKit Go.Proofs.YtknenadpkgajjaaW.PrintWords Go.Proofs.YtknenadpkgajjaaW.PrintLast Go.Proofs.YtknenadpkgajjaaW.PrintMore
attribute [local go_sem] max2_int min2_int max_two min_two max_three min_three max_four min_four   -- for this text's walks alone
set_option linter.unusedVariables false
set_option linter.unusedSimpArgs false

/-! ### sentrylaw10_RulesFirst: function 5 -/
set_option linter.unusedSimpArgs false
set_option linter.unusedVariables false
def okAt (l : List Int) (la : Int) (i : Nat) : Bool := decide (rd l i ≥ 0) && decide (rd l i < la) && (decide (i = 0) || decide (rd l ((i - 1 : Nat) : Int) < rd l i))
def okB (l : List Int) (la : Int) (n : Nat) : Bool := (List.range n).all (okAt l la)
theorem okB_succ (l : List Int) (la : Int) (n : Nat) : okB l la (n + 1) = (okB l la n && okAt l la n) := by unfold okB; rw [List.range_succ, List.all_append]; simp
def firstG (k : Nat) (b b1 b2 : Bool) : Option Bool := if b1 = b then (if b2 = b then sentrylaw10_known.f k else none) else none
def firstF (k : Nat) (l : List Int) (la : Int) : Option Bool := (rules_Is.f k 50 la l [] 1 [] [] [] [] []).bind fun b1 => (rules_Is.f k 50 la [] l 1 [] [] [] [] []).bind fun b2 => firstG k (okB l la l.length) b1 b2
def sentrylaw10_RulesFirst.f (k : Nat) (l0 : List Int) (a1 : Int) : Option Bool := if (l0.length : Int) > 50 then some true else if a1 < 0 then some true else if a1 > 50 then some true else firstF k l0 a1
theorem sentrylaw10_RulesFirst.mono : ∀ a0 a1 k, LeO (sentrylaw10_RulesFirst.f k a0 a1) (sentrylaw10_RulesFirst.f (k + 1) a0 a1) := fun a0 a1 k =>
  .ite (.refl _) (.ite (.refl _) (.ite (.refl _) (.bind (rules_Is.mono _ _ _ _ _ _ _ _ _ _ k) fun b1 => .bind (rules_Is.mono _ _ _ _ _ _ _ _ _ _ k) fun b2 => .ite (.ite (sentrylaw10_known.mono k) (.refl _)) (.refl _))))
set_option maxHeartbeats 4000000 in
set_option maxRecDepth 100000 in
theorem first_walk (k : Nat) (A0 : Option Addr) (c0 : Nat) (l0 : List Int) (a1 : Int) (r : Bool) (w : World) (hr0 : Kd.C (Kd.int .i64) w A0 l0.length l0) (hc0 : l0.length ≤ c0) (h1 : ¬ (l0.length : Int) > 50) (h2 : ¬ a1 < 0) (h3 : ¬ a1 > 50) (h : firstF k l0 a1 = some r) :
    Calls Try.prog 5 #[.slice A0 l0.length c0, .int .i64 a1] w fun e w' => e = .returned (.bool r) ∧ Below w.heap.size w w' := by
  have HR := Aside0.mk hr0
  have HC := Aside0.mk hc0
  have HH := Aside0.mk h
  have HB0 := Aside0.mk (Below.refl w.heap.size w)
  have c1 : decide (50 < (l0.length : Int)) = false := decide_eq_false h1
  have c1b : decide (50 < l0.length) = false := decide_eq_false (by omega)
  have c2 : decide (a1 < 0) = false := decide_eq_false h2
  have c3 : decide (50 < a1) = false := decide_eq_false h3
  have hlen : l0.length ≤ 50 := by omega
  clear hr0 hc0 h h1 h2 h3
  go_enter Try.func5, Try.ntmps5
  go_wp2
  go_loopg [5, 6] l0.length (fun kq v5 v6 w' => ∃ i : Nat, v6 = .int .i64 i ∧ v5 = .bool (okB l0 a1 i) ∧ Aside0 (i + kq = l0.length) ∧ Aside0 (Below w.heap.size w w'))
  case atStart => exact ⟨0, rfl, rfl, ⟨by omega⟩, HB0⟩
  case round =>
    clear HB0
    obtain ⟨i, rfl, rfl, HK, HB⟩ := hrel
    by_cases hi : i < l0.length
    · obtain ⟨gk1, rfl⟩ : ∃ m, gk = m + 1 := ⟨gk - 1, by have := HK.out; omega⟩
      obtain ⟨ad, ea, hx0⟩ := Kd.at_int (Kd.C_below HR.out HB.out) (↑i) (by omega) (by omega)
      subst ea
      simp only [Int.toNat_natCast] at hx0
      have hs := okB_succ l0 a1 i
      have hi1 : ((i : Int) < (l0.length : Int)) = True := eq_true (by omega)
      have hi2 : (i < l0.length) = True := eq_true hi
      have hi3 : decide ((i : Int) < (l0.length : Int)) = true := decide_eq_true (by omega)
      cases hb : okB l0 a1 i with
      | false =>
        have hs2 : okB l0 a1 (i + 1) = false := by rw [hs, hb]; rfl
        clear hs
        go_wp2
        repeat (go_quiet (fail); try go_wp2)
        go_roundg gk1
        case measure => omega
        case rel => exact ⟨i + 1, (by simp), (by rw [hs2]), ⟨by have := HK.out; omega⟩, ⟨by repeat (first | exact HB.out | apply below_alloc | apply pw_below_drewN | apply below_drew1)⟩⟩
      | true =>
        by_cases q1 : rd l0 i ≥ 0
        case neg =>
          have q1b : decide (rd l0 ↑i ≥ 0) = false := decide_eq_false q1
          have q1c : decide (0 ≤ rd l0 ↑i) = false := decide_eq_false q1
          have hs2 : okB l0 a1 (i + 1) = false := by rw [hs, hb]; unfold okAt; rw [q1b]; rfl
          clear hs q1
          go_wp2
          repeat (go_quiet (fail); try go_wp2)
          go_roundg gk1
          case measure => omega
          case rel => exact ⟨i + 1, (by simp), (by rw [hs2]), ⟨by have := HK.out; omega⟩, ⟨by repeat (first | exact HB.out | apply below_alloc | apply pw_below_drewN | apply below_drew1)⟩⟩
        have q1b : decide (rd l0 ↑i ≥ 0) = true := decide_eq_true q1
        have q1c : decide (0 ≤ rd l0 ↑i) = true := decide_eq_true q1
        by_cases q2 : rd l0 i < a1
        case neg =>
          have q2b : decide (rd l0 ↑i < a1) = false := decide_eq_false q2
          have hs2 : okB l0 a1 (i + 1) = false := by rw [hs, hb]; unfold okAt; rw [q1b, q2b]; rfl
          clear hs q1 q2
          go_wp2
          repeat (go_quiet (fail); try go_wp2)
          go_roundg gk1
          case measure => omega
          case rel => exact ⟨i + 1, (by simp), (by rw [hs2]), ⟨by have := HK.out; omega⟩, ⟨by repeat (first | exact HB.out | apply below_alloc | apply pw_below_drewN | apply below_drew1)⟩⟩
        have q2b : decide (rd l0 ↑i < a1) = true := decide_eq_true q2
        by_cases q3 : i = 0
        · have hs2 : okB l0 a1 (i + 1) = true := by rw [hs, hb]; unfold okAt; rw [q1b, q2b, decide_eq_true q3]; rfl
          have q3b : ((i : Int) == 0) = true := beq_iff_eq.mpr (by omega)
          clear hs q1 q2 q3
          go_wp2
          repeat (go_quiet (fail); try go_wp2)
          go_roundg gk1
          case measure => omega
          case rel => exact ⟨i + 1, (by simp), (by rw [hs2]), ⟨by have := HK.out; omega⟩, ⟨by repeat (first | exact HB.out | apply below_alloc | apply pw_below_drewN | apply below_drew1)⟩⟩
        · have q3c : wrap64 ((i : Int) - 1) = ((i - 1 : Nat) : Int) := by unfold wrap64; omega
          have p5 : 0 ≤ wrap64 ((i : Int) - 1) := by omega
          have p6 : wrap64 ((i : Int) - 1) < (l0.length : Int) := by omega
          obtain ⟨ad2, ea2, hx1⟩ := Kd.at_int (Kd.C_below HR.out HB.out) (wrap64 ((i : Int) - 1)) p5 p6
          cases ea2
          have q3b : ((i : Int) == 0) = false := beq_eq_false_iff_ne.mpr (by omega)
          have hs2 : okB l0 a1 (i + 1) = decide (rd l0 (wrap64 ((i : Int) - 1)) < rd l0 i) := by rw [hs, hb]; unfold okAt; rw [q1b, q2b, decide_eq_false q3, q3c]; rfl
          have HW := Aside0.mk (show wrap64 ((i : Int) + 1) = ((i + 1 : Nat) : Int) by unfold wrap64; omega)
          replace p5 := eq_true p5
          replace p6 := eq_true p6
          clear hs q1 q2 q3 q3c hlen
          go_wp2
          repeat (go_quiet (fail); try go_wp2)
          go_roundg gk1
          case measure => omega
          case rel => exact ⟨i + 1, (by rw [HW.out]), (by rw [hs2]), ⟨by have := HK.out; omega⟩, ⟨by repeat (first | exact HB.out | apply below_alloc | apply pw_below_drewN | apply below_drew1)⟩⟩
    · have HI := Aside0.mk (show i = l0.length by have := HK.out; omega)
      have hi3 : decide ((i : Int) < (l0.length : Int)) = false := decide_eq_false (by omega)
      obtain ⟨b1, hq1, hh⟩ := Option.bind_eq_some_iff.mp HH.out
      obtain ⟨b2, hq2, hg⟩ := Option.bind_eq_some_iff.mp hh
      have hn : okB l0 a1 l0.length = okB l0 a1 i := by rw [HI.out]
      rw [hn] at hg
      unfold firstG at hg
      by_cases e1 : b1 = okB l0 a1 i
      case neg => rw [if_neg e1] at hg; cases hg
      rw [if_pos e1] at hg
      by_cases e2 : b2 = okB l0 a1 i
      case neg => rw [if_neg e2] at hg; cases hg
      rw [if_pos e2] at hg
      rw [e1] at hq1
      rw [e2] at hq2
      have HQ1 := Aside0.mk hq1
      have HQ2 := Aside0.mk hq2
      have HG := Aside0.mk hg
      clear hq1 hq2 hg hh e1 e2 hn HH
      obtain ⟨bb, hbb⟩ : ∃ b, b = okB l0 a1 i := ⟨_, rfl⟩
      rw [← hbb]
      rw [← hbb] at HQ1 HQ2
      clear hbb
      go_wp2_with (fail)
      refine (rules_Is.calls k 50 a1 A0 c0 l0 none 0 [] 1 none 0 [] none 0 [] none 0 [] none 0 [] none 0 [] bb _ (Kd.C_below HR.out HB.out) HC.out (Kd.C_nil _ _) (Nat.le_refl _) (Kd.C_nil _ _) (Nat.le_refl _) (Kd.C_nil _ _) (Nat.le_refl _) (Kd.C_nil _ _) (Nat.le_refl _) (Kd.C_nil _ _) (Nat.le_refl _) (Kd.C_nil _ _) (Nat.le_refl _) HQ1.out).mono ?_
      rintro e w2 ⟨rfl, hb2⟩
      have HB2 := Aside0.mk (below_step HB.out hb2)
      clear hb2 HB HQ1
      have hbe : (bb == bb) = true := beq_self_eq_true bb
      go_wp2_with (fail)
      refine (rules_Is.calls k 50 a1 none 0 [] A0 c0 l0 1 none 0 [] none 0 [] none 0 [] none 0 [] none 0 [] bb _ (Kd.C_nil _ _) (Nat.le_refl _) (Kd.C_below HR.out HB2.out) HC.out (Kd.C_nil _ _) (Nat.le_refl _) (Kd.C_nil _ _) (Nat.le_refl _) (Kd.C_nil _ _) (Nat.le_refl _) (Kd.C_nil _ _) (Nat.le_refl _) (Kd.C_nil _ _) (Nat.le_refl _) HQ2.out).mono ?_
      rintro e w3 ⟨rfl, hb3⟩
      have HB3 := Aside0.mk (below_step HB2.out hb3)
      clear hb3 HB2 HQ2
      go_wp2_with (fail)
      refine (sentrylaw10_known.calls k r _ HG.out).mono ?_
      rintro e w4 ⟨rfl, hb4⟩
      have HB4 := Aside0.mk (below_step HB3.out hb4)
      clear hb4 HB3 HG
      go_wp2
      go_ret
      exact ⟨rfl, HB4.out⟩
set_option maxHeartbeats 4000000 in
set_option maxRecDepth 100000 in
theorem sentrylaw10_RulesFirst.calls (k : Nat) (A0 : Option Addr) (c0 : Nat) (l0 : List Int) (a1 : Int) (r : Bool) (w : World) (hr0 : Kd.C (Kd.int .i64) w A0 l0.length l0) (hc0 : l0.length ≤ c0) (h : sentrylaw10_RulesFirst.f k l0 a1 = some r) :
    Calls Try.prog 5 #[.slice A0 l0.length c0, .int .i64 a1] w fun e w' => e = .returned (.bool r) ∧ Below w.heap.size w w' := by
  have HB := Aside0.mk (Below.refl w.heap.size w)
  unfold sentrylaw10_RulesFirst.f at h
  by_cases h1 : (l0.length : Int) > 50
  · rw [if_pos h1] at h
    obtain rfl := Option.some.inj h
    have c1 : decide (50 < (l0.length : Int)) = true := decide_eq_true h1
    have c1b : decide (50 < l0.length) = true := decide_eq_true (by omega)
    clear hr0 hc0 h
    go_enter Try.func5, Try.ntmps5
    go_wp2
    go_ret
    exact ⟨rfl, by repeat (first | exact HB.out | apply below_alloc)⟩
  rw [if_neg h1] at h
  by_cases h2 : a1 < 0
  · rw [if_pos h2] at h
    obtain rfl := Option.some.inj h
    have c1 : decide (50 < (l0.length : Int)) = false := decide_eq_false h1
    have c1b : decide (50 < l0.length) = false := decide_eq_false (by omega)
    have c2 : decide (a1 < 0) = true := decide_eq_true h2
    clear hr0 hc0 h
    go_enter Try.func5, Try.ntmps5
    go_wp2
    go_ret
    exact ⟨rfl, by repeat (first | exact HB.out | apply below_alloc)⟩
  rw [if_neg h2] at h
  by_cases h3 : a1 > 50
  · rw [if_pos h3] at h
    obtain rfl := Option.some.inj h
    have c1 : decide (50 < (l0.length : Int)) = false := decide_eq_false h1
    have c1b : decide (50 < l0.length) = false := decide_eq_false (by omega)
    have c2 : decide (a1 < 0) = false := decide_eq_false h2
    have c3 : decide (50 < a1) = true := decide_eq_true h3
    clear hr0 hc0 h
    go_enter Try.func5, Try.ntmps5
    go_wp2
    go_ret
    exact ⟨rfl, by repeat (first | exact HB.out | apply below_alloc)⟩
  rw [if_neg h3] at h
  exact first_walk k A0 c0 l0 a1 r w hr0 hc0 h1 h2 h3 h

end Go.Proofs.Ytknenadpkgajjaa.PA
