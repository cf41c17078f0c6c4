/- The evaluator's soundness, sixteenth part: regions that draw their order, whole; and what it all comes to. -/
import Derived.Test.YtknenadpkgajjaaGEvQ
namespace Go.Proofs.Ytknenadpkgajjaa.GEv
open Go
set_option linter.unusedSimpArgs false
set_option linter.unusedVariables false

section
variable {X : Ctx} (hX : X.OK) (hE : X.E.OK) (hS : Snd X.E X.n) {fuel : Nat} {listed : Array Bool} {a : Act} {w : World} {ρ : Ren} {G : Nat → Option AObj} {K : Act → World → Prop} {Q : Exit → Act → World → Prop}
theorem small_heap {ρ : Ren} {G : Nat → Option AObj} {w : World} {b0 : Nat} {obj : AObj} (hdom : ∀ b c s z, ρ b = some (c, s, z) → c < w.heap.size)
    (hok : ∀ b obj c s z, G b = some obj → ρ b = some (c, s, z) → ∃ o, w.heap[c]? = some o ∧ Match ρ obj o s z) (hG : G b0 = some obj) (hgl : GOK ρ w) :
    ∃ hb : H, hb.next = b0 + 1 ∧ hb.low = b0 + 1 ∧ (∀ b, hb.m.get b = if b = b0 then some obj else none) ∧ Rel ρ hb w := by
  have hbg : ∀ b, ((U.nil : U AObj).set b0 (some obj)).get b = if b = b0 then some obj else none := fun b => by rw [U.get_set, U.get_nil]
  refine ⟨{ m := (U.nil : U AObj).set b0 (some obj), next := b0 + 1, low := b0 + 1 }, rfl, rfl, hbg, fun b q => ?_, hdom, fun b obj' c s z q1 q2 => ?_, fun b b' c c' s s' z z' hne _ _ q1 q2 => ?_, hgl⟩
  · show ((U.nil : U AObj).set b0 (some obj)).get b = none
    rw [hbg, if_neg]
    have : b0 + 1 ≤ b := q
    omega
  · replace q1 : ((U.nil : U AObj).set b0 (some obj)).get b = some obj' := q1
    rw [hbg] at q1
    split at q1
    · rename_i q; subst q; cases q1; exact hok _ _ _ _ _ hG q2
    · cases q1
  · replace q1 : ((U.nil : U AObj).set b0 (some obj)).get b ≠ none := q1
    replace q2 : ((U.nil : U AObj).set b0 (some obj)).get b' ≠ none := q2
    rw [hbg] at q1 q2
    split at q1
    · rename_i q3
      split at q2
      · rename_i q4; exact absurd (q3.trans q4.symm) hne
      · exact absurd rfl q2
    · exact absurd rfl q1
include hX
/-- An operation that looks at nothing, or does not come up. -/
theorem Inv.idle (I : Inv X (fuel + 1) listed a w ρ G) {k : Nat} {o : Oper} (hk : X.ops[k]? = some o) (hun : listed.getD k true = false) (hrd : ∀ e ∈ o.after, Region.binds .any e = true → Lst listed e.on)
    (hF : X.F k = none ∨ (∃ b, X.F k = some (.rd b)) ∨ X.F k = some .own) {v' : Value} {w' : World} (hv : VR ρ (X.V k) v')
    (hsz : w.heap.size ≤ w'.heap.size) (hos : w'.os = w.os) (htp : w'.tape = w.tape) (hou : w'.output = w.output) (hsame : ∀ c, c < w.heap.size → w'.heap[c]? = w.heap[c]?) :
    Inv X fuel (listed.setIfInBounds k true) (a.put o.dst v') w' ρ G := by
  have hnt : ∀ b, ¬ touches X.F k b := by
    intro b hb
    rcases hF with e | ⟨b', e⟩ | e
    · rcases hb with q | ⟨m, m', q, _⟩ <;> rw [e] at q <;> cases q
    · rcases hb with q | ⟨m, m', q, _⟩ <;> rw [e] at q <;> cases q
    · rcases hb with q | ⟨m, m', q, _⟩ <;> rw [e] at q <;> cases q
  refine I.next hX hk hun hrd hv (Sub.refl ρ) (fun b c s z q => .inl q) hsz hos htp hou (fun c hc _ => hsame c (Nat.lt_of_lt_of_le hc I.wsize)) (fun b c s z q => Nat.lt_of_lt_of_le (I.dom b c s z q) hsz) ?_ I.inj ?_ I.gout ?_ (I.glob.heap hsz fun c hc => hsame c (Nat.lt_of_lt_of_le hc I.glob.size))
  · intro b obj c s z q1 q2
    obtain ⟨o', h1, h2⟩ := I.ok b obj c s z q1 q2
    exact ⟨o', by rw [hsame c (I.dom b c s z q2)]; exact h1, h2⟩
  · intro x hx b h1 h2 h3
    refine I.link x hx b h1 h2 fun j hj ht => ?_
    have := h3 j hj ht
    have hjk : j ≠ k := fun e => hnt b (e ▸ ht)
    simpa [hjk] using this
  · intro b q
    exact absurd (.inl q) (hnt b)
/-- The world is as the evaluator has it where all that wrote ahead has come up, and nothing behind. -/
theorem Inv.rel (I : Inv X fuel listed a w ρ G) {k : Nat} (hk : k ≤ X.ops.size) (hall : ∀ j b, j < X.ops.size → touches X.F j b → (j < k ↔ Lst listed j)) (n : Nat) : Rel ρ { (X.S k).h with low := n } w := by
  have hG : ∀ b, ρ b ≠ none → (X.S k).h.m.get b ≠ none → G b = (X.S k).h.m.get b := fun b h1 h2 =>
    I.link k hk b h1 (Ctx.live hX hk h2) fun j hj ht => hall j b hj ht
  refine ⟨Ctx.wfx hX hk, I.dom, ?_, ?_, I.glob⟩
  · intro b obj c s z q1 q2
    refine I.ok b obj c s z ?_ q2
    rw [hG b (by rw [q2]; simp) (by intro e; rw [show ({ (X.S k).h with low := n } : H).m = (X.S k).h.m from rfl, e] at q1; cases q1)]
    exact q1
  · intro b b' c c' s s' z z' hne q1 q2 q3 q4
    exact I.inj b b' c c' s s' z z' hne q1 q2 (by rw [hG b (by rw [q1]; simp) q3]; exact q3) (by rw [hG b' (by rw [q2]; simp) q4]; exact q4)
include hE hS
theorem Inv.step (I : Inv X (fuel + 1) listed a w ρ G) {k : Nat} {o : Oper} (hk : X.ops[k]? = some o) (hun : listed.getD k true = false) (hrd : ∀ e ∈ o.after, Region.binds .any e = true → Lst listed e.on)
    (hw : wanted X.ops (X.S k).tm o = true)
    (hK : ∀ a' w' ρ' G', Inv X fuel (listed.setIfInBounds k true) a' w' ρ' G' → K a' w') : o.wp X.E.P a w K Q := by
  obtain ⟨hlt, hget, hnl⟩ := unl hun
  have hkn : k < X.ops.size := (Array.getElem?_eq_some_iff.1 hk).1
  have hok := I.okops hX hk hun hrd
  obtain ⟨hnt, hput, q | ⟨_, hf, hs, hkind⟩⟩ := hX.step k o hk
  · rw [q.1] at hw; cases hw
  have hlowN : (X.S X.ops.size).h.low ≤ (X.Hh k).low := by
    have := (Ctx.gr hX (x := k + 1) (y := X.ops.size) (by omega) (Nat.le_refl _)).low
    rw [hs] at this
    refine Nat.le_trans this ?_
    show (if (X.Hh k).low < (X.S k).h.low then (X.Hh k).low else (X.S k).h.low) ≤ _
    split <;> omega
  have hnext1 : (X.S (k + 1)).h.next = (X.Hh k).next := by rw [hs]
  have hget1 : (X.S (k + 1)).h.m = (X.Hh k).m := by rw [hs]
  have hun2 : ∀ c, X.Old c → c < X.w0.heap.size → ¬ X.Hit c → False := fun c h1 h2 h3 => by
    rcases h1 with h1 | h1
    · omega
    · exact h3 h1
  rcases hkind with ⟨hp, hFk⟩ | ⟨hp, hFk⟩
  · -- it looks at no memory
    obtain ⟨_, hany⟩ := pure_full hp hf
    have hR0 : Rel ρ ({ m := .nil, next := 0, low := BIG } : H) w := ⟨fun b _ => U.get_nil b, I.dom, (fun b obj c s z q => by rw [U.get_nil] at q; cases q), fun b b' c c' s s' z z' _ _ _ q => absurd (U.get_nil _) q, I.glob⟩
    refine full_sound hE hS (hany { m := .nil, next := 0, low := BIG }) hok hR0 (fun b h1 h2 => by exact absurd h2 (Nat.not_lt_zero _)) fun v' w' ρ' hv hR' hX' => ?_
    have hback : Sub ρ' ρ := fun b x q => by
      obtain ⟨c, s, z⟩ := x
      rcases hX'.new b c s z q with q2 | ⟨_, q2, _⟩
      · exact q2
      · exact absurd q2 (Nat.not_lt_zero _)
    exact hK _ _ _ _ (I.idle hX hk hun hrd (.inl hFk) (hv.mono hback) hX'.size hX'.os hX'.tape hX'.output fun c hc => hX'.frame c hc fun b c' s z _ q => absurd q (Nat.not_lt_zero _))
  · rcases foot_cases (b := Nat.blt (X.Hh k).low (X.S k).h.next) (m := (X.S k).h.m) (m' := (X.Hh k).m) hp hf with ⟨t, x, ad, e1, e2, e3, e4, e5⟩ | ⟨t, x, y, ad, u, e1, e2, e3, e4, e5, e6⟩ | e | ⟨e, ob, e2, hany⟩
    · -- a load
      obtain ⟨ad', _, hA⟩ := inv_ptr (evA_sound e2 (hok x (by simp [e1, Op.operands])))
      obtain ⟨_, c0, s0, z0, hb0, _⟩ := hA
      cases hg : (X.S k).h.m.get ad.block with
      | none =>
        exfalso
        have : ({ (X.S k).h with low := top (X.S k).h.next } : H).load X.E.P t ad = some (X.V k) := e5
        simp only [H.load, H.read, hg] at this
        split at this
        · cases this
        · cases this
        · cases this
      | some obj =>
        have hG : G ad.block = some obj := by
          rw [← hg]
          refine I.link k (by omega) ad.block (by rw [hb0]; simp) (Ctx.live hX (by omega) (by rw [hg]; simp)) fun j hj ht => ?_
          by_cases hjk : j = k
          · subst hjk
            rcases ht with q | ⟨m, m', q, _⟩ <;> rw [hFk, e3] at q <;> cases q
          · rcases ht with q | ⟨m, m', q, hne⟩
            · exact I.clash hX hk hun hrd hj (hFk.trans (by rw [e3])) q hjk (by simp [GEv.clash]) (by simp [GEv.clash])
            · have hs : sameO (m.get ad.block) (m'.get ad.block) = false := by
                cases hq : sameO (m.get ad.block) (m'.get ad.block) with
                | false => rfl
                | true => exact absurd (sameO_eq hq) hne
              exact I.clash hX hk hun hrd hj (hFk.trans (by rw [e3])) q hjk (by simp [GEv.clash, hs]) (by simp [GEv.clash, hs])
        obtain ⟨hb, hbn, hbl, hbg, hRb⟩ := small_heap I.dom I.ok hG I.glob
        have hload : hb.load X.E.P t ad = some (X.V k) := by
          have : ({ (X.S k).h with low := top (X.S k).h.next } : H).load X.E.P t ad = some (X.V k) := e5
          simp only [H.load, H.read, hg] at this
          simp only [H.load, H.read, hbg, if_true]
          exact this
        have hfb : evFull X.E (ev X.E X.n) (X.S k).tm hb o = some (X.V k, hb) := by
          obtain ⟨dst, op, ty, pos, after, guard⟩ := o
          simp only at e1
          subst e1
          simp only [evFull, evOp, hLoad, e2, hload, valR]
        refine full_sound hE hS hfb hok hRb (fun b h1 h2 => by omega) fun v' w' ρ' hv hR' hX' => ?_
        have hback : Sub ρ' ρ := fun b x q => by
          obtain ⟨c, s, z⟩ := x
          rcases hX'.new b c s z q with q2 | ⟨q1, q2, _⟩
          · exact q2
          · omega
        refine hK _ _ _ _ (I.idle hX hk hun hrd (.inr (.inl ⟨_, hFk.trans (by rw [e3])⟩)) (hv.mono hback) hX'.size hX'.os hX'.tape hX'.output fun c hc => hX'.frame c hc fun b c' s z q1 q2 q3 => ?_)
        omega
    · -- a store
      obtain ⟨ad', _, hA⟩ := inv_ptr (evA_sound e2 (hok x (by simp [e1, Op.operands])))
      obtain ⟨_, c0, s0, z0, hb0, _⟩ := hA
      obtain ⟨obj, obj', hg, hput', hloc⟩ := store_get e5
      have hg : (X.S k).h.m.get ad.block = some obj := hg
      have hbn0 := Ctx.live hX (x := k) (b := ad.block) (by omega) (by rw [hg]; simp)
      have hFk' := hFk.trans (by rw [e4])
      have hcl : ∀ j, j < X.ops.size → touches X.F j ad.block → j ≠ k → (j < k ↔ Lst listed j) := fun j hj ht hjk => by
        rcases ht with q | ⟨m, m', q, _⟩
        · exact I.clash hX hk hun hrd hj hFk' q hjk (by simp [GEv.clash]) (by simp [GEv.clash])
        · exact I.clash hX hk hun hrd hj hFk' q hjk rfl rfl
      have hG : G ad.block = some obj := by
        rw [← hg]
        refine I.link k (by omega) ad.block (by rw [hb0]; simp) hbn0 fun j hj ht => ?_
        by_cases hjk : j = k
        · subst hjk
          exact ⟨fun h => absurd h (Nat.lt_irrefl _), fun h => absurd h hnl⟩
        · exact hcl j hj ht hjk
      obtain ⟨hb, hbn, hbl, hbg, hRb⟩ := small_heap I.dom I.ok hG I.glob
      have hfb : evFull X.E (ev X.E X.n) (X.S k).tm hb o = some (X.V k, hb.put ad.block (some obj')) := by
        obtain ⟨dst, op, ty, pos, after, guard⟩ := o
        simp only at e1
        subst e1
        have := hloc hb (by rw [hbg, if_pos rfl])
        simp only [evFull, evOp, hStore, e2, e3, this, skipR, e6]
      have hnx : (hb.put ad.block (some obj')).next = hb.next := rfl
      refine full_sound hE hS hfb hok hRb (fun b h1 h2 => by rw [hnx] at h2; omega) fun v' w' ρ' hv hR' hX' => ?_
      have hback : Sub ρ' ρ := fun b x q => by
        obtain ⟨c, s, z⟩ := x
        rcases hX'.new b c s z q with q2 | ⟨q1, q2, _⟩
        · exact q2
        · rw [hnx] at q2; omega
      have hframe : ∀ c, c < w.heap.size → c ≠ c0 → w'.heap[c]? = w.heap[c]? := fun c hc hne => hX'.frame c hc fun b c' s z q1 q2 q3 q4 => by
        rw [hbg] at q3
        split at q3
        · rename_i q5
          subst q5
          rw [hb0] at q4
          simp only [Option.some.injEq, Prod.mk.injEq] at q4
          rw [← q4.1]
          exact Ne.symm hne
        · exact absurd rfl q3
      have hlow0 : (X.S X.ops.size).h.low ≤ ad.block := Nat.le_trans hlowN (by rw [hput']; exact (put_low_le _ _ _).1)
      have hold0 : X.Old c0 := I.back hX (k := k) (by omega) hlow0 (by rw [hg]; simp) hb0
      have hS1 : (X.S (k + 1)).h.m.get ad.block = some obj' := by rw [hget1, hput', put_get, if_pos rfl]
      refine hK _ _ _ (fun b => if b = ad.block then some obj' else G b) (I.next hX hk hun hrd (hv.mono hback) (Sub.refl ρ) (fun b c s z q => .inl q) hX'.size hX'.os hX'.tape hX'.output ?_
        (fun b c s z q => Nat.lt_of_lt_of_le (I.dom b c s z q) hX'.size) ?_ ?_ ?_ ?_ ?_ (hR'.glob.sub hX'.sub))
      · intro c hc hh
        refine hframe c (Nat.lt_of_lt_of_le hc I.wsize) fun e => ?_
        subst e
        exact hun2 c hold0 hc hh
      · intro b ob c s z q1 q2
        split at q1
        · rename_i q3
          subst q3
          cases q1
          obtain ⟨o', h1, h2⟩ := hR'.ok ad.block obj' c s z (by rw [put_get, if_pos rfl]) (hX'.sub _ _ q2)
          exact ⟨o', h1, h2.mono hback⟩
        · rename_i q3
          obtain ⟨o', h1, h2⟩ := I.ok b ob c s z q1 q2
          have hne := I.inj b ad.block c c0 s s0 z z0 q3 q2 hb0 (by rw [q1]; simp) (by rw [hG]; simp)
          exact ⟨o', by rw [hframe c (I.dom b c s z q2) hne]; exact h1, h2⟩
      · intro b b' c c' s s' z z' hne q1 q2 q3 q4
        refine I.inj b b' c c' s s' z z' hne q1 q2 ?_ ?_
        · split at q3
          · rename_i q5; rw [q5, hG]; simp
          · exact q3
        · split at q4
          · rename_i q5; rw [q5, hG]; simp
          · exact q4
      · intro x' hx' b h1 h2 h3
        split
        · rename_i q
          subst q
          have hkx : k < x' := (h3 k hkn (.inl hFk')).2 (.inl rfl)
          rw [Ctx.get_stays hX (x := k + 1) (y := x') (by omega) hx' (Nat.lt_of_lt_of_le hbn0 (Ctx.gr1 hX hkn).next) fun j p q ht => ?_, hS1]
          have hj : j < X.ops.size := by omega
          have := (h3 j hj ht).1 q
          have := this.resolve_left (by omega)
          have := (hcl j hj ht (by omega)).2 this
          omega
        · rename_i q
          refine I.link x' hx' b h1 h2 fun j hj ht => ?_
          have hjk : j ≠ k := fun e => by
            subst e
            rcases ht with q2 | ⟨m, m', q2, _⟩
            · rw [hFk'] at q2
              simp only [Option.some.injEq, Foot.wr.injEq] at q2
              exact q q2.symm
            · rw [hFk'] at q2; cases q2
          simpa [hjk] using h3 j hj ht
      · intro b hb'
        split at hb'
        · rename_i q
          rw [q]
          exact Nat.lt_of_lt_of_le hbn0 (Ctx.gr hX (x := k) (by omega) (Nat.le_refl _)).next
        · exact I.gout b hb'
      · intro b q
        rw [hFk'] at q
        simp only [Option.some.injEq, Foot.wr.injEq] at q
        rw [← q, hb0]; simp
    · -- all else
      have hFk' := hFk.trans (by rw [e])
      have hcl : ∀ j b, j < X.ops.size → touches X.F j b → j ≠ k → (j < k ↔ Lst listed j) := fun j b hj ht hjk => by
        cases hbl : Nat.blt (X.Hh k).low (X.S k).h.next with
        | true =>
          rw [hbl] at hFk'
          rcases ht with q | ⟨m, m', q, _⟩
          · exact I.clash hX hk hun hrd hj hFk' q hjk rfl rfl
          · exact I.clash hX hk hun hrd hj hFk' q hjk rfl rfl
        | false =>
          rw [hbl] at hFk'
          rcases ht with q | ⟨m, m', q, _⟩
          · exact I.clash hX hk hun hrd hj hFk' q hjk rfl rfl
          · exact I.clash hX hk hun hrd hj hFk' q hjk rfl rfl
      have hall : ∀ j b, j < X.ops.size → touches X.F j b → (j < k ↔ Lst listed j) := fun j b hj ht => by
        by_cases hjk : j = k
        · subst hjk
          exact ⟨fun h => absurd h (Nat.lt_irrefl _), fun h => absurd h hnl⟩
        · exact hcl j b hj ht hjk
      have hR := I.rel hX (k := k) (by omega) hall (top (X.S k).h.next)
      have hfrk := I.fresh k hkn hnl
      rw [hnext1] at hfrk
      refine full_sound hE hS hf hok hR hfrk fun v' w' ρ' hv hR' hX' => ?_
      have hnk : (X.S k).h.next ≤ (X.Hh k).next := hX'.next
      have hG1 : ∀ b, ρ b ≠ none → b < (X.S k).h.next → G b = (X.S k).h.m.get b := fun b h1 h2 => I.link k (by omega) b h1 h2 fun j hj ht => hall j b hj ht
      have hold : ∀ b c s z, (X.Hh k).low ≤ b → (X.S k).h.m.get b ≠ none → ρ b = some (c, s, z) → X.Old c := fun b c s z h1 h2 h3 =>
        I.back hX (k := k) (by omega) (Nat.le_trans hlowN h1) h2 h3
      have hnew : ∀ b c s z, ρ' b = some (c, s, z) → ρ b = some (c, s, z) ∨ ((X.S k).h.next ≤ b ∧ b < (X.S (k + 1)).h.next ∧ X.Old c) := fun b c s z q => by
        rcases hX'.new b c s z q with q2 | ⟨q2, q3, q4⟩
        · exact .inl q2
        · refine .inr ⟨q2, by rw [hnext1]; exact q3, ?_⟩
          rcases q4 with q4 | ⟨b0, s0, z0, r1, r2, r3, r4⟩
          · exact .inl (Nat.le_trans I.wsize q4)
          · exact hold b0 c s0 z0 r1 r3 r4
      have hdead : ∀ b, b < (X.S k).h.next → (X.Hh k).m.get b ≠ none → (X.S k).h.m.get b ≠ none := fun b h1 h2 q => h2 (hX'.dead b h1 q)
      have hlt1 : ∀ b, b < (X.Hh k).next → b < (X.S X.ops.size).h.next := fun b hb => by
        have := (Ctx.gr hX (x := k + 1) (y := X.ops.size) (by omega) (Nat.le_refl _)).next
        rw [hnext1] at this
        omega
      refine hK _ _ _ (fun b => if b < (X.Hh k).next then (X.Hh k).m.get b else G b) (I.next hX hk hun hrd hv hX'.sub hnew hX'.size hX'.os hX'.tape hX'.output ?_ hR'.dom ?_ ?_ ?_ ?_ ?_ hR'.glob)
      · intro c hc hh
        refine hX'.frame c (Nat.lt_of_lt_of_le hc I.wsize) fun b c' s z q1 q2 q3 q4 e => ?_
        subst e
        exact hun2 c' (hold b c' s z q1 q3 q4) hc hh
      · intro b ob c s z q1 q2
        split at q1
        · exact hR'.ok b ob c s z q1 q2
        · rename_i hb
          rcases hnew b c s z q2 with q3 | ⟨_, q3, _⟩
          · obtain ⟨o', r1, r2⟩ := I.ok b ob c s z q1 q3
            refine ⟨o', ?_, r2.mono hX'.sub⟩
            rw [hX'.frame c (I.dom b c s z q3) fun b1 c1 s1 z1 p1 p2 p3 p4 => I.inj b1 b c1 c s1 s z1 z (by have : b1 < (X.S k).h.next := p2; omega) p4 q3 (by rw [hG1 b1 (by rw [p4]; simp) p2]; exact p3) (by rw [q1]; simp)]
            exact r1
          · rw [hnext1] at q3; exact absurd q3 hb
      · -- where blocks lie
        have mixed : ∀ b b' c c' s s' z z', b < (X.Hh k).next → ¬ b' < (X.Hh k).next → ρ' b = some (c, s, z) → ρ' b' = some (c', s', z') → (X.Hh k).m.get b ≠ none → G b' ≠ none → c ≠ c' := by
          intro b b' c c' s s' z z' h1 h2 q1 q2 q3 q4
          have q5 : ρ b' = some (c', s', z') := by
            rcases hnew b' c' s' z' q2 with q | ⟨_, q, _⟩
            · exact q
            · rw [hnext1] at q; exact absurd q h2
          rcases hX'.new b c s z q1 with q6 | ⟨_, _, q6⟩
          · have hlb : b < (X.S k).h.next := by
              rcases Nat.lt_or_ge b (X.S k).h.next with q | q
              · exact q
              · rw [hfrk b q h1] at q6; cases q6
            exact I.inj b b' c c' s s' z z' (by omega) q6 q5 (by rw [hG1 b (by rw [q6]; simp) hlb]; exact hdead b hlb q3) q4
          · rcases q6 with q6 | ⟨b0, s0, z0, r1, r2, r3, r4⟩
            · have := I.dom b' c' s' z' q5
              omega
            · have r2 : b0 < (X.S k).h.next := r2
              exact I.inj b0 b' c c' s0 s' z0 z' (by omega) r4 q5 (by rw [hG1 b0 (by rw [r4]; simp) r2]; exact r3) q4
        intro b b' c c' s s' z z' hne q1 q2 q3 q4
        by_cases h1 : b < (X.Hh k).next
        · rw [if_pos h1] at q3
          by_cases h2 : b' < (X.Hh k).next
          · rw [if_pos h2] at q4
            exact hR'.inj b b' c c' s s' z z' hne q1 q2 q3 q4
          · rw [if_neg h2] at q4
            exact mixed b b' c c' s s' z z' h1 h2 q1 q2 q3 q4
        · rw [if_neg h1] at q3
          by_cases h2 : b' < (X.Hh k).next
          · rw [if_pos h2] at q4
            exact Ne.symm (mixed b' b c' c s' s z' z h2 h1 q2 q1 q4 q3)
          · rw [if_neg h2] at q4
            have o1 : ρ b = some (c, s, z) := by
              rcases hnew b c s z q1 with q | ⟨_, q, _⟩
              · exact q
              · rw [hnext1] at q; exact absurd q h1
            have o2 : ρ b' = some (c', s', z') := by
              rcases hnew b' c' s' z' q2 with q | ⟨_, q, _⟩
              · exact q
              · rw [hnext1] at q; exact absurd q h2
            exact I.inj b b' c c' s s' z z' hne o1 o2 q3 q4
      · intro x hx b h1 h2 h3
        -- nothing behind has come up
        have hnone : ∀ j, k + 1 ≤ j → j < x → touches X.F j b → False := fun j q1 q2 ht => by
          have hj : j < X.ops.size := by omega
          have := ((h3 j hj ht).1 q2).resolve_left (by omega)
          have := (hcl j b hj ht (by omega)).2 this
          omega
        split
        · rename_i hb
          rw [← hget1]
          have hb1 : b < (X.S (k + 1)).h.next := by rw [hnext1]; exact hb
          rcases Nat.lt_or_ge k x with q | q
          · rw [Ctx.get_stays hX (x := k + 1) (y := x) (by omega) hx hb1 fun j p q ht => hnone j p q ht]
          · -- k comes behind x: it has not turned that block
            refine Ctx.get_stays hX (x := x) (y := k + 1) (by omega) (by omega) h2 fun j p q2 ht => ?_
            by_cases hjk : j = k
            · subst hjk
              have := (h3 j hkn ht).2 (.inl rfl)
              omega
            · have hj : j < X.ops.size := by omega
              have r1 := (hcl j b hj ht hjk).1 (by omega)
              have r2 := (h3 j hj ht).2 (.inr r1)
              omega
        · rename_i hb
          have hρ : ρ b ≠ none := by
            cases q : ρ' b with
            | none => exact absurd q h1
            | some y =>
              obtain ⟨c, s, z⟩ := y
              rcases hnew b c s z q with q2 | ⟨_, q2, _⟩
              · rw [q2]; simp
              · rw [hnext1] at q2; exact absurd q2 hb
          have hbN : b < (X.S X.ops.size).h.next := Nat.lt_of_lt_of_le h2 (Ctx.gr hX hx (Nat.le_refl _)).next
          refine I.link x hx b hρ h2 fun j hj ht => ?_
          have hjk : j ≠ k := fun e => by
            subst e
            rcases ht with q | ⟨mm, mm', q, hne⟩
            · rw [hFk'] at q
              split at q <;> cases q
            · rw [hFk'] at q
              split at q
              · cases q
                have h1 := Ctx.wfx hX (x := j) (by omega) b (by omega)
                have h2 := Ctx.wfx hX (x := j + 1) (by omega) b (by rw [hnext1]; omega)
                rw [hget1] at h2
                exact hne (h1.trans h2.symm)
              · cases q
          simpa [hjk] using h3 j hj ht
      · intro b hb
        split at hb
        · rename_i q; exact hlt1 b q
        · exact I.gout b hb
      · intro b q
        exfalso
        cases hbl : Nat.blt (X.Hh k).low (X.S k).h.next with
        | true => rw [hbl] at hFk'; rw [hFk'] at q; cases q
        | false => rw [hbl] at hFk'; rw [hFk'] at q; cases q
    · -- it looks at nothing, and may lay a block
      have hFk' := hFk.trans (by rw [e])
      have hR0 : Rel ρ ({ m := .nil, next := (X.S k).h.next, low := top (X.S k).h.next } : H) w := ⟨fun b _ => U.get_nil b, I.dom, (fun b obj c s z q => by rw [U.get_nil] at q; cases q), fun b b' c c' s s' z z' _ _ _ q => absurd (U.get_nil _) q, I.glob⟩
      have hgo := hany { m := .nil, next := (X.S k).h.next, low := top (X.S k).h.next } rfl
      cases ob with
      | none =>
        refine full_sound hE hS hgo hok hR0 (fun b h1 h2 => by exact absurd h2 (Nat.not_lt.2 h1)) fun v' w' ρ' hv hR' hX' => ?_
        have hback : Sub ρ' ρ := fun b x q => by
          obtain ⟨c, s, z⟩ := x
          rcases hX'.new b c s z q with q2 | ⟨q1, q2, _⟩
          · exact q2
          · exact absurd q2 (Nat.not_lt.2 q1)
        exact hK _ _ _ _ (I.idle hX hk hun hrd (.inr (.inr hFk')) (hv.mono hback) hX'.size hX'.os hX'.tape hX'.output fun c hc => hX'.frame c hc fun b c' s z _ q q3 => absurd (U.get_nil b) q3)
      | some obj =>
        have hnx : (X.Hh k).next = (X.S k).h.next + 1 := by rw [e2]; rfl
        have hfrk := I.fresh k hkn hnl
        rw [hnext1, hnx] at hfrk
        have hb0 : ρ (X.S k).h.next = none := hfrk _ (Nat.le_refl _) (Nat.lt_succ_self _)
        refine full_sound hE hS hgo hok hR0 hfrk fun v' w' ρ' hv hR' hX' => ?_
        have hquiet : ∀ c, c < w.heap.size → w'.heap[c]? = w.heap[c]? := fun c hc => hX'.frame c hc fun b c' s z q1 q2 q3 => absurd (U.get_nil b) q3
        have hnew : ∀ b c s z, ρ' b = some (c, s, z) → ρ b = some (c, s, z) ∨ (b = (X.S k).h.next ∧ w.heap.size ≤ c) := fun b c s z q => by
          rcases hX'.new b c s z q with q2 | ⟨q2, q3, q4⟩
          · exact .inl q2
          · have q2 : (X.S k).h.next ≤ b := q2
            have q3 : b < (X.S k).h.next + 1 := q3
            rcases q4 with q4 | ⟨b0, s0, z0, r1, r2, r3, r4⟩
            · exact .inr ⟨by omega, q4⟩
            · exact absurd (U.get_nil b0) r3
        have hold : ∀ b c s z, b ≠ (X.S k).h.next → ρ' b = some (c, s, z) → ρ b = some (c, s, z) := fun b c s z h1 h2 => (hnew b c s z h2).elim id fun q => absurd q.1 h1
        have hfar : ∀ c s z, ρ' (X.S k).h.next = some (c, s, z) → w.heap.size ≤ c := fun c s z q => (hnew _ c s z q).elim (fun q2 => by rw [hb0] at q2; cases q2) fun q2 => q2.2
        have hg1 : (X.S (k + 1)).h.m.get (X.S k).h.next = some obj := by
          rw [hget1, e2]
          show (((X.S k).h.m).set (X.S k).h.next (some obj)).get (X.S k).h.next = _
          rw [U.get_set, if_pos rfl]
        have hntk : ∀ b, ¬ touches X.F k b := fun b ht => by
          rcases ht with q | ⟨m, m', q, _⟩ <;> rw [hFk'] at q <;> cases q
        refine hK _ _ _ (fun b => if b = (X.S k).h.next then some obj else G b) (I.next hX hk hun hrd hv hX'.sub ?_ hX'.size hX'.os hX'.tape hX'.output (fun c hc _ => hquiet c (Nat.lt_of_lt_of_le hc I.wsize)) hR'.dom ?_ ?_ ?_ ?_ ?_ hR'.glob)
        · intro b c s z q
          rcases hnew b c s z q with q2 | ⟨q2, q3⟩
          · exact .inl q2
          · exact .inr ⟨by omega, by rw [hnext1, hnx]; omega, .inl (Nat.le_trans I.wsize q3)⟩
        · intro b ob c s z q1 q2
          split at q1
          · rename_i q3
            subst q3
            cases q1
            refine hR'.ok (X.S k).h.next obj c s z ?_ q2
            show ((U.nil : U AObj).set (X.S k).h.next (some obj)).get (X.S k).h.next = _
            rw [U.get_set, if_pos rfl]
          · rename_i q3
            have q4 := hold b c s z q3 q2
            obtain ⟨o', h1, h2⟩ := I.ok b ob c s z q1 q4
            exact ⟨o', by rw [hquiet c (I.dom b c s z q4)]; exact h1, h2.mono hX'.sub⟩
        · intro b b' c c' s s' z z' hne q1 q2 q3 q4
          by_cases h1 : b = (X.S k).h.next
          · subst h1
            have r1 := hfar c s z q1
            have r2 := I.dom b' c' s' z' (hold b' c' s' z' (Ne.symm hne) q2)
            omega
          · by_cases h2 : b' = (X.S k).h.next
            · subst h2
              have r1 := hfar c' s' z' q2
              have r2 := I.dom b c s z (hold b c s z h1 q1)
              omega
            · rw [if_neg h1] at q3
              rw [if_neg h2] at q4
              exact I.inj b b' c c' s s' z z' hne (hold b c s z h1 q1) (hold b' c' s' z' h2 q2) q3 q4
        · intro x hx b h1 h2 h3
          split
          · rename_i q
            subst q
            have hkx : k < x := by
              rcases Nat.lt_or_ge k x with q | q
              · exact q
              · have := (Ctx.gr hX (x := x) (y := k) q (by omega)).next
                omega
            rw [Ctx.get_stays hX (x := k + 1) (y := x) (by omega) hx (by rw [hnext1, hnx]; omega) fun j p q ht => ?_, hg1]
            have hj : j < X.ops.size := by omega
            have hL : Lst listed j := ((h3 j hj ht).1 q).resolve_left (by omega)
            rcases ht with q1 | ⟨m, m', q1, _⟩
            · exact I.stores j _ hj hL q1 hb0
            · exact hnl ((bef_closed (ops := X.ops) hX.lex (L := Lst listed) I.closed j k (hX.fits j _ k _ (by omega) hj q1 hFk' rfl)).1 hL)
          · rename_i q
            have hρ : ρ b ≠ none := fun q1 => by
              cases q2 : ρ' b with
              | none => exact h1 q2
              | some y =>
                obtain ⟨c, s, z⟩ := y
                rw [hold b c s z q q2] at q1
                cases q1
            refine I.link x hx b hρ h2 fun j hj ht => ?_
            have hjk : j ≠ k := fun e => by subst e; exact hntk b ht
            simpa [hjk] using h3 j hj ht
        · intro b hb
          split at hb
          · rename_i q
            rw [q]
            have := (Ctx.gr hX (x := k + 1) (y := X.ops.size) (by omega) (Nat.le_refl _)).next
            rw [hnext1, hnx] at this
            omega
          · exact I.gout b hb
        · intro b q
          exact absurd (.inl q) (hntk b)
end
end Go.Proofs.Ytknenadpkgajjaa.GEv
