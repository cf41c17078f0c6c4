-- Printed by this session's gprint.py (over the kit's print.py) out of the translation.
import Derived.Test.YtlbcnklieefhmaaPAx0
import Derived.Test.YtlbcnklieefhmaaPAx16
namespace Go.Proofs.Ytlbcnklieefhmaa.PA
open Go.RowKit Go.Proofs.YtlbcnklieefhmaaW.PrintWords Go.Proofs.YtlbcnklieefhmaaW.PrintLast Go.Proofs.YtlbcnklieefhmaaW.PrintMore
attribute [local go_sem] max2_int min2_int max_two min_two max_three min_three max_four min_four   -- for this text's walks alone
set_option linter.unusedVariables false
set_option linter.unusedSimpArgs false

/-! ### space_declare: function 30 -/
open Go.Proofs.Ytlbcnklieefhmaa.GMap
abbrev Pairs := List (ByteArray × ByteArray)
/-- what declare says: does it fit; what is known behind it; the attributes that stay. -/
def declareF (K : Pairs) (L : List S35) (x : S35) : Option (Bool × Pairs × List S35) :=
  (name_Split.f x.f0).bind fun q =>
    if x.f1.size ≤ 4611686018427387904 ∧ q.2.size ≤ 4611686018427387904 ∧ K.length < 1000000000 ∧ L.length < 1000000000 then
      (if x.f0.toList = ([120, 109, 108, 110, 115] : List UInt8) then some (true, (⟨#[]⟩, x.f1) :: K, L)
       else if q.1.toList = ([] : List UInt8) then some (true, K, L ++ [x])
       else if q.1.toList = ([120, 109, 108, 110, 115] : List UInt8) ∧ ¬ x.f1.toList = ([] : List UInt8) ∧ ¬ q.2.toList = ([120, 109, 108] : List UInt8) ∧ ¬ q.2.toList = ([120, 109, 108, 110, 115] : List UInt8) then some (true, (q.2, x.f1) :: K, L)
       else some (false, K, L))
    else none
/-- what declare leaves of memory. -/
structure DeclPost (K' : Pairs) (L' : List S35) (b g base : Nat) (s0 s1 v v3 v4 : Value) (w w' : World) : Prop where
  mk :: (out : ∃ v', MapSS Try.prog 9 9 w' b K' ∧ w'.heap[g]? = some (.cells #[s0, s1, v', v3, v4] 26 (0, 0)) ∧ Kd.R k35 35 w' base (fun k => k ≠ g ∧ k ≠ b) v' L' ∧
    (v'.ownBlock = v.ownBlock ∨ ∃ q, v'.ownBlock = some q ∧ w.heap.size ≤ q) ∧ Kept w w' (fun k => k = g ∨ k = b ∨ some k = v.ownBlock) ∧ Below base w w')
section
variable {K K' : Pairs} {L L' : List S35} {b g base : Nat} {s0 s1 v v3 v4 : Value} {w W w1 : World}
theorem decl_same (hm : MapSS Try.prog 9 9 w b K) (hg : w.heap[g]? = some (.cells #[s0, s1, v, v3, v4] 26 (0, 0))) (hv : Kd.R k35 35 w base (fun k => k ≠ g ∧ k ≠ b) v L) (hb0 : base ≤ b)
    (hW : Below w.heap.size w W) : DeclPost K L b g base s0 s1 v v3 v4 w W :=
  ⟨⟨v, hm.below hW, (hW.block g (blk_lt hg)).trans hg, Kd.R_kept hv (Kept.of_below hW (fun _ => False)) (fun _ _ h => h), .inl rfl, Kept.of_below hW _, hW.mono (Nat.le_of_lt (Nat.lt_of_le_of_lt hb0 hm.lt))⟩⟩
theorem decl_map (hm : MapSS Try.prog 9 9 w b K) (hg : w.heap[g]? = some (.cells #[s0, s1, v, v3, v4] 26 (0, 0))) (hv : Kd.R k35 35 w base (fun k => k ≠ g ∧ k ≠ b) v L) (hb0 : base ≤ b)
    (hW : Below w.heap.size w W) (h1 : MapSS Try.prog 9 9 w1 b K') (h2 : W.grownBy w1 (some b)) : DeclPost K' L b g base s0 s1 v v3 v4 w w1 := by
  have hne := hm.ne hg
  have hle : base ≤ w.heap.size := Nat.le_of_lt (Nat.lt_of_le_of_lt hb0 hm.lt)
  have hg1 := (hW.block g (blk_lt hg)).trans hg
  have hv1 := Kd.R_kept hv (Kept.of_below hW (fun _ => False)) (fun _ _ h => h)
  refine ⟨⟨v, h1, blk_grown hg1 h2 (by simpa using hne), Kd.R_grown hv1 h2 (fun k hk => by simpa using hk.2), .inl rfl, Kept.of_grown h2 (Kept.of_below hW _) (fun k hk => .inl (.inr (.inl (by injection hk with hk; exact hk.symm)))), ?_⟩⟩
  exact pw_below_grown (hW.mono hle) (some b) (Nat.le_trans hle hW.size) h2 (fun k hk => by injection hk with hk; omega)
theorem decl_app {x : S35} {v1 : Value} {o : Obj} {n m : Nat} (hm : MapSS Try.prog 9 9 w b K) (hg : w.heap[g]? = some (.cells #[s0, s1, v, v3, v4] 26 (0, 0))) (hv : Kd.R k35 35 w base (fun k => k ≠ g ∧ k ≠ b) v L) (hb1 : base ≤ g)
    (h1 : Kd.R k35 35 w1 base (fun k => k ≠ g ∧ k ≠ b) v1 (L ++ [x])) (h2 : Below base w w1) (h3 : ((w.alloc o).drewN n).grownBy w1 v.ownBlock) (h4 : v1.ownBlock = v.ownBlock ∨ ∃ q, v1.ownBlock = some q ∧ ((w.alloc o).drewN n).heap.size ≤ q) :
    DeclPost K (L ++ [x]) b g base s0 s1 v v3 v4 w ((w1.setCell ⟨g, 2, none⟩ v1).drewN m) := by
  have hne := hm.ne hg
  have hW : Below w.heap.size w ((w.alloc o).drewN n) := pw_below_drewN (below_alloc (Below.refl _ _) _) _
  have hgv : some g ≠ v.ownBlock := Kd.R_away hv (fun _ hk => hk.1)
  have hbv : some b ≠ v.ownBlock := Kd.R_away hv (fun _ hk => hk.2)
  refine ⟨⟨v1, (((hm.below hW).kept h3 hbv).setCell (fun e => hne e.symm) _).drewN m, ?_, Kd.R_drewN (Kd.R_far h1 (fun k hk => hk.1) _) m, ?_, ?_, ?_⟩⟩
  · exact blk_drewN (blk_put (blk_grown ((hW.block g (blk_lt hg)).trans hg) h3 hgv) 2 _ rfl) m
  · rcases h4 with h4 | ⟨q, h4, h5⟩
    · exact .inl h4
    · exact .inr ⟨q, h4, Nat.le_trans hW.size h5⟩
  · exact Kept.drewN (Kept.setCell (Kept.of_grown h3 (Kept.of_below hW _) (fun k hk => .inl (.inr (.inr hk.symm)))) (.inl (.inl rfl)) _) m
  · exact pw_below_drewN (h2.setCell hb1 _) m
end
set_option maxHeartbeats 4000000 in
set_option maxRecDepth 100000 in
theorem declare_calls (K L : _) (b g base : Nat) (x : S35) (s0 s1 v v3 v4 : Value) (K' : Pairs) (L' : List S35) (r : Bool) (w : World)
    (hm : MapSS Try.prog 9 9 w b K) (hg : w.heap[g]? = some (.cells #[s0, s1, v, v3, v4] 26 (0, 0))) (hv : Kd.R k35 35 w base (fun k => k ≠ g ∧ k ≠ b) v L) (hb0 : base ≤ b) (hb1 : base ≤ g)
    (h : declareF K L x = some (r, K', L')) :
    Calls Try.prog 30 #[.map (some b), .agg #[.string x.f0, .string x.f1], .pointer (some ⟨g, 0, none⟩)] w fun e w' => e = .returned (.bool r) ∧ DeclPost K' L' b g base s0 s1 v v3 v4 w w' := by
  have hsz : base ≤ w.heap.size := Nat.le_of_lt (Nat.lt_of_le_of_lt hb0 hm.lt)
  obtain ⟨q, hq, h⟩ := Option.bind_eq_some_iff.mp h
  obtain ⟨q1, q2⟩ := q
  simp only at h
  have HQ := Aside0.mk hq
  clear hq
  by_cases hbd : x.f1.size ≤ 4611686018427387904 ∧ q2.size ≤ 4611686018427387904 ∧ K.length < 1000000000 ∧ L.length < 1000000000
  case neg => rw [if_neg hbd] at h; cases h
  rw [if_pos hbd] at h
  have HBD := Aside0.mk hbd
  clear hbd
  have hsp := fun W => name_Split.calls x.f0 q1 q2 W HQ.out
  have HSP := Aside0.mk hsp
  clear hsp
  have HM0 := Aside0.mk hm
  have HG0 := Aside0.mk hg
  have HV0 := Aside0.mk hv
  have HLT := Aside0.mk hm.lt
  clear hm hg hv
  by_cases h1 : x.f0.toList = ([120, 109, 108, 110, 115] : List UInt8)
  · rw [if_pos h1] at h
    have c1 : (x.f0.toList == ([120, 109, 108, 110, 115] : List UInt8)) = true := beq_iff_eq.mpr h1
    clear h1
    have h := Option.some.inj h
    injection h with e1 h
    injection h with e2 e3
    subst e1 e2 e3
    go_enter Try.func30, Try.ntmps30
    go_wp2_with (first | (go_at_call 31; refine (HSP.out _).mono ?_; rintro e w' ⟨rfl, ⟨nd, rfl⟩⟩) | (at_mapUpdate; refine wp_update rfl _ _ _ 52 rfl Try.underlying52 Try.underlying9 Try.underlying9 ((HM0.out.alloc _).drewN _) rfl _ _ rfl rfl (by decide) (by have := HBD.out.1; unfold maxLen; omega) (by have := HBD.out.2.2.1; unfold maxLen; omega) ?_; intro w1 hm1 hg1; have HM1 := Aside0.mk hm1; have HG1 := Aside0.mk hg1; clear hm1 hg1))
    go_ret
    exact ⟨rfl, decl_map HM0.out HG0.out HV0.out hb0 (pw_below_drewN (below_alloc (Below.refl _ _) _) _) HM1.out HG1.out⟩
  rw [if_neg h1] at h
  have c1 : (x.f0.toList == ([120, 109, 108, 110, 115] : List UInt8)) = false := beq_eq_false_iff_ne.mpr h1
  clear h1
  by_cases h2 : q1.toList = ([] : List UInt8)
  · rw [if_pos h2] at h
    have c2 : (q1.toList == ([] : List UInt8)) = true := beq_iff_eq.mpr h2
    have c2b := h2
    clear h2
    have h := Option.some.inj h
    injection h with e1 h
    injection h with e2 e3
    subst e1 e2 e3
    obtain ⟨Av, cv, rfl⟩ := Kd.R_slice HV0.out
    have kA : ∀ o, (w.alloc o).cell? ⟨g, 2, none⟩ = some (.slice Av L.length cv) := fun o => (blk_cell (blk_alloc HG0.out o) 2).trans rfl
    have kB : ∀ o o', ((w.alloc o).alloc o').cell? ⟨g, 2, none⟩ = some (.slice Av L.length cv) := fun o o' => (blk_cell (blk_alloc (blk_alloc HG0.out o) o') 2).trans rfl
    have kD : ∀ o n o', (((w.alloc o).drewN n).alloc o').cell? ⟨g, 2, none⟩ = some (.slice Av L.length cv) := fun o n o' => (blk_cell (blk_alloc (blk_drewN (blk_alloc HG0.out o) n) o') 2).trans rfl
    have HS := Aside0.mk (fun (n : Nat) (o : Obj) => Kd.R_drewN (Kd.R_alloc HV0.out o) n)
    have HB := Aside0.mk (fun (n : Nat) (o : Obj) => (pw_below_drewN (below_alloc (Below.refl w.heap.size w) o) n).mono hsz)
    have HZ := Aside0.mk (show ∀ (o : Obj) (n : Nat), ((w.alloc o).drewN n).heap.size = w.heap.size + 1 from fun _ _ => by simp [World.drewN])
    have HL := Aside0.mk (show (L.length + 1) * 32 ≤ 140737488355328 by have := HBD.out.2.2.2; omega)
    have HF := Aside0.mk (show ∀ k, w.heap.size < k → k ≠ g ∧ k ≠ b from fun k hk => ⟨by have := blk_lt HG0.out; omega, by have := HLT.out; omega⟩)
    go_enter Try.func30, Try.ntmps30
    go_wp2_with (first | (go_at_call 31; refine (HSP.out _).mono ?_; rintro e w' ⟨rfl, ⟨nd, rfl⟩⟩))
    go_region_law (refine Kd.R_append_step k35 (w0 := w) (W := (w.alloc (.cells #[.string x.f0, .string x.f1] 35)).drewN (nd + 1)) base (by rfl) (.tmp 33) (.tmp 35) 23 35 (.agg #[(.string ⟨#[]⟩), (.string ⟨#[]⟩)]) 32 rfl Try.underlying23 info35 rfl (by decide) (by omega) (.slice Av L.length cv) L x [.string x.f0, .string x.f1] (fun k => k ≠ g ∧ k ≠ b) (fun _ => False) rfl (by rw [HZ.out]; rfl) (k35_mkM _ _ _ x) (fun _ hk => hk.elim) (fun k hk => HF.out k (by rw [HZ.out] at hk; omega)) (HS.out _ _) (HB.out _ _) (by rw [HZ.out]; omega) HL.out ?_; intro v1 w1 ho hb hg hat; obtain ⟨Aw, cw, rfl⟩ := Kd.R_slice ho; (have el : (L ++ [x]).length = L.length + 1 := by simp); rw [el] at ho hat; clear el; have hcg : w1.cell? ⟨g, 2, none⟩ = some (.slice Av L.length cv) := (blk_cell (blk_grown (blk_drewN (blk_alloc HG0.out _) _) hg (Kd.R_away HV0.out (fun _ hk => hk.1))) 2).trans rfl; have hfg := blk_frozen (blk_grown (blk_drewN (blk_alloc HG0.out (.cells #[.string x.f0, .string x.f1] 35)) (nd + 1)) hg (Kd.R_away HV0.out (fun _ hk => hk.1))) 2; have HO := Aside0.mk ho; have HBB := Aside0.mk hb; have HGG := Aside0.mk hg; have HAT := Aside0.mk hat; clear ho hb hg hat)
    all_goals
      go_wp2
      go_ret
      exact ⟨rfl, decl_app (m := 0) HM0.out HG0.out HV0.out hb1 HO.out HBB.out HGG.out HAT.out⟩
  rw [if_neg h2] at h
  have c2 : (q1.toList == ([] : List UInt8)) = false := beq_eq_false_iff_ne.mpr h2
  clear h2
  by_cases h3 : q1.toList = ([120, 109, 108, 110, 115] : List UInt8) ∧ ¬ x.f1.toList = ([] : List UInt8) ∧ ¬ q2.toList = ([120, 109, 108] : List UInt8) ∧ ¬ q2.toList = ([120, 109, 108, 110, 115] : List UInt8)
  · rw [if_pos h3] at h
    obtain ⟨g1, g2, g3, g4⟩ := h3
    have c3 : (q1.toList == ([120, 109, 108, 110, 115] : List UInt8)) = true := beq_iff_eq.mpr g1
    have c3b : (q1.toList != ([120, 109, 108, 110, 115] : List UInt8)) = false := bne_eq_false_iff_eq.mpr g1
    have c4 : (x.f1.toList == ([] : List UInt8)) = false := beq_eq_false_iff_ne.mpr g2
    have c5 : (q2.toList == ([120, 109, 108] : List UInt8)) = false := beq_eq_false_iff_ne.mpr g3
    have c6 : (q2.toList == ([120, 109, 108, 110, 115] : List UInt8)) = false := beq_eq_false_iff_ne.mpr g4
    clear g1 g2 g3 g4
    have h := Option.some.inj h
    injection h with e1 h
    injection h with e2 e3
    subst e1 e2 e3
    go_enter Try.func30, Try.ntmps30
    go_wp2_with (first | (go_at_call 31; refine (HSP.out _).mono ?_; rintro e w' ⟨rfl, ⟨nd, rfl⟩⟩) | (at_mapUpdate; refine wp_update rfl _ _ _ 52 rfl Try.underlying52 Try.underlying9 Try.underlying9 ((HM0.out.alloc _).drewN _) rfl _ _ rfl rfl (by have := HBD.out.2.1; unfold maxLen; omega) (by have := HBD.out.1; unfold maxLen; omega) (by have := HBD.out.2.2.1; unfold maxLen; omega) ?_; intro w1 hm1 hg1; have HM1 := Aside0.mk hm1; have HG1 := Aside0.mk hg1; clear hm1 hg1))
    go_ret
    exact ⟨rfl, decl_map HM0.out HG0.out HV0.out hb0 (pw_below_drewN (below_alloc (Below.refl _ _) _) _) HM1.out HG1.out⟩
  · rw [if_neg h3] at h
    have h := Option.some.inj h
    injection h with e1 h
    injection h with e2 e3
    subst e1 e2 e3
    have hfin : ∀ n, DeclPost K L b g base s0 s1 v v3 v4 w ((w.alloc (.cells #[.string x.f0, .string x.f1] 35)).drewN n) := fun n => decl_same HM0.out HG0.out HV0.out hb0 (pw_below_drewN (below_alloc (Below.refl _ _) _) _)
    have HFIN := Aside0.mk hfin
    clear hfin
    by_cases g1 : q1.toList = ([120, 109, 108, 110, 115] : List UInt8)
    · have c3 : (q1.toList == ([120, 109, 108, 110, 115] : List UInt8)) = true := beq_iff_eq.mpr g1
      have c3b : (q1.toList != ([120, 109, 108, 110, 115] : List UInt8)) = false := bne_eq_false_iff_eq.mpr g1
      by_cases g2 : x.f1.toList = ([] : List UInt8)
      · have c4 : (x.f1.toList == ([] : List UInt8)) = true := beq_iff_eq.mpr g2
        clear h3 g1 g2
        go_enter Try.func30, Try.ntmps30
        go_wp2_with (first | (go_at_call 31; refine (HSP.out _).mono ?_; rintro e w' ⟨rfl, ⟨nd, rfl⟩⟩))
        go_ret
        exact ⟨rfl, HFIN.out _⟩
      · have c4 : (x.f1.toList == ([] : List UInt8)) = false := beq_eq_false_iff_ne.mpr g2
        by_cases g3 : q2.toList = ([120, 109, 108] : List UInt8)
        · have c5 : (q2.toList == ([120, 109, 108] : List UInt8)) = true := beq_iff_eq.mpr g3
          clear h3 g1 g2 g3
          go_enter Try.func30, Try.ntmps30
          go_wp2_with (first | (go_at_call 31; refine (HSP.out _).mono ?_; rintro e w' ⟨rfl, ⟨nd, rfl⟩⟩))
          go_ret
          exact ⟨rfl, HFIN.out _⟩
        · have c5 : (q2.toList == ([120, 109, 108] : List UInt8)) = false := beq_eq_false_iff_ne.mpr g3
          have g4 : q2.toList = ([120, 109, 108, 110, 115] : List UInt8) := by
            by_cases g4 : q2.toList = ([120, 109, 108, 110, 115] : List UInt8)
            · exact g4
            · exact absurd ⟨g1, g2, g3, g4⟩ h3
          have c6 : (q2.toList == ([120, 109, 108, 110, 115] : List UInt8)) = true := beq_iff_eq.mpr g4
          clear h3 g1 g2 g3 g4
          go_enter Try.func30, Try.ntmps30
          go_wp2_with (first | (go_at_call 31; refine (HSP.out _).mono ?_; rintro e w' ⟨rfl, ⟨nd, rfl⟩⟩))
          go_ret
          exact ⟨rfl, HFIN.out _⟩
    · have c3 : (q1.toList == ([120, 109, 108, 110, 115] : List UInt8)) = false := beq_eq_false_iff_ne.mpr g1
      have c3b : (q1.toList != ([120, 109, 108, 110, 115] : List UInt8)) = true := bne_iff_ne.mpr g1
      clear h3 g1
      go_enter Try.func30, Try.ntmps30
      go_wp2_with (first | (go_at_call 31; refine (HSP.out _).mono ?_; rintro e w' ⟨rfl, ⟨nd, rfl⟩⟩))
      go_ret
      exact ⟨rfl, HFIN.out _⟩

end Go.Proofs.Ytlbcnklieefhmaa.PA
