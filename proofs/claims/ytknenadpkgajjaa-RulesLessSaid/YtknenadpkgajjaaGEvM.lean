/- The evaluator's soundness, twelfth part: code. -/
import Derived.Test.YtknenadpkgajjaaGEvL
namespace Go.Proofs.Ytknenadpkgajjaa.GEv
open Go
set_option linter.unusedSimpArgs false
set_option linter.unusedVariables false

/-- A loop whose rounds are numbered downwards. -/
theorem wp_loop_ind {P : Program} {c : Code} {Q : Exit → Act → World → Prop} (J : Nat → Act → World → Prop) (round : ∀ m a w, J m a w → c.wp P (Exit.then (fun a' w' => ∃ m', m' < m ∧ J m' a' w') Q) a w)
    {m : Nat} {a : Act} {w : World} (h0 : J m a w) : (Code.loop c).wp P Q a w := by
  intro b k cs
  have key : ∀ m a w, J m a w → ∃ e a' w', Q e a' w' ∧ Arrives P (lone (b.at a (.code c :: .inLoop c :: k)) cs w) b k cs e a' w' := by
    intro m
    induction m using Nat.strongRecOn with
    | _ m ih =>
      intro a w hJ
      obtain ⟨e, a₁, w₁, hq, harr⟩ := round m a w hJ b (.inLoop c :: k) cs
      cases e with
      | normal =>
        obtain ⟨m', hlt, hJ₁⟩ := hq
        obtain ⟨e₂, a₂, w₂, hq₂, harr₂⟩ := ih m' hlt a₁ w₁ hJ₁
        exact ⟨e₂, a₂, w₂, hq₂, .of_steps (Steps.trans harr (.one step_inLoop)) harr₂⟩
      | exit id => exact ⟨_, a₁, w₁, hq, .pass (x := .inLoop c) rfl (fun _ _ => .inl (by simp)) harr⟩
      | goto l => exact ⟨_, a₁, w₁, hq, .pass (x := .inLoop c) rfl (fun _ _ => .inl (by simp)) harr⟩
      | ret => exact ⟨_, a₁, w₁, hq, .pass (x := .inLoop c) rfl (fun _ _ => .inl (by simp)) harr⟩
      | panic ch => exact ⟨_, a₁, w₁, hq, .pass (x := .inLoop c) rfl (fun _ _ => .inl (by simp)) harr⟩
      | outgrown => exact ⟨_, a₁, w₁, hq, .pass (x := .inLoop c) rfl (fun _ _ => .inl (by simp)) harr⟩
  obtain ⟨e, a', w', hq, harr⟩ := key m a w h0
  exact ⟨e, a', w', hq, .of_steps (.one step_loop) harr⟩

def Drw (E : Env) (n : Nat) : Prop := ∀ (ops : Array Oper) (st st' : St) (ρ : Ren) (a : Act) (w : World) (Q : Exit → Act → World → Prop), Region.lexB .any ops = true →
  evDraw E (ev E n) ops (befL ops.toList []) ops.toList 0 [] st = some st' → TR ρ st.tm st.nt a → Rel ρ st.h w → Fr ρ st.h.next st'.h.next → a.defers = [] →
  (∀ a' w' ρ', TR ρ' st'.tm st'.nt a' → Rel ρ' st'.h w' → Ext ρ ρ' st.h st'.h w w' → a'.defers = [] → Q .normal a' w') → wpAny E.P .any ops Q ops.size (Array.replicate ops.size false) a w

theorem code_sound {E : Env} (hE : E.OK) (hD : ∀ n, Snd E n → Drw E n) : ∀ n m, m ≤ n → Snd E m := by
  intro n
  induction n with
  | zero =>
    intro m hm c st x st' ρ a w Q he
    obtain rfl : m = 0 := by omega
    cases he
  | succ n IH =>
    intro m hm
    rcases Nat.lt_or_ge m (n + 1) with hlt | hge
    · exact IH m (by omega)
    obtain rfl : m = n + 1 := by omega
    have ih := IH n (Nat.le_refl n)
    intro c st x st' ρ a w Q he hT hR hF hd hQ
    simp only [ev] at he
    cases c with
    | skip => cases he; exact wp_skip (hQ a w ρ hT hR (Ext.refl _ _ _) hd)
    | region id ops d =>
      cases d with
      | false =>
        simp only [step] at he
        cases q : evOps E (ev E n) ops ops.toList st with
        | none => rw [q] at he; cases he
        | some s =>
          rw [q] at he; cases he
          refine wp_region ?_
          have := ops_sound (Q := Q) hE ih ops.toList 0 st st' ρ a w (fun j => by simp) q hT hR hF hd hQ
          rw [List.range_eq_range']
          simpa using this
      | true =>
        simp only [step] at he
        split at he
        · rename_i hB
          cases q : evDraw E (ev E n) ops (befL ops.toList []) ops.toList 0 [] st with
          | none => rw [q] at he; cases he
          | some s =>
            rw [q] at he; cases he
            refine wp_region_any hE.mixed (hD n ih ops st st' ρ a { w with drawn := w.drawn + 1 } Q hB q hT (hR.world rfl) hF hd fun a' w' ρ' hT' hR' hX hd' => ?_)
            exact hQ a' w' ρ' hT' hR' (Ext.trans (w1 := { w with drawn := w.drawn + 1 }) hF (hR.world rfl) (Ext.world rfl rfl rfl rfl) hX) hd'
        · cases he
    | seq c1 c2 =>
      simp only [step] at he
      split at he
      · rename_i s hs
        refine wp_seq (ih c1 st .normal s ρ a w _ hs hT hR (hF.sub (Nat.le_refl _) (nm E n _ _ _ _ he).next) hd fun a1 w1 ρ1 hT1 hR1 hX1 hd1 => ?_)
        exact ih c2 s x st' ρ1 a1 w1 Q he hT1 hR1 (hX1.fr hF) hd1 fun a2 w2 ρ2 hT2 hR2 hX2 hd2 => hQ a2 w2 ρ2 hT2 hR2 (Ext.trans hF hR1 hX1 hX2) hd2
      · rename_i hne
        refine wp_seq (ih c1 st x st' ρ a w _ he hT hR hF hd fun a1 w1 ρ1 hT1 hR1 hX1 hd1 => ?_)
        have := hQ a1 w1 ρ1 hT1 hR1 hX1 hd1
        cases x with
        | normal => exact absurd he (hne st')
        | exit i => exact this
        | ret => exact this
    | cond c a1 a2 =>
      simp only [step] at he
      split at he
      · rename_i hc
        have := inv_bool (evA_sound hc (hT.ok c))
        exact wp_cond_true this (ih _ _ _ _ _ _ _ _ he hT hR hF hd hQ)
      · rename_i hc
        have := inv_bool (evA_sound hc (hT.ok c))
        exact wp_cond_false this (ih _ _ _ _ _ _ _ _ he hT hR hF hd hQ)
      · cases he
    | block id b =>
      simp only [step] at he
      split at he
      · rename_i i s hs
        split at he
        · rename_i hi
          cases he
          refine wp_block (ih b st (.exit i) st' ρ a w _ hs hT hR hF hd fun a1 w1 ρ1 hT1 hR1 hX1 hd1 => ?_)
          have := hQ a1 w1 ρ1 hT1 hR1 hX1 hd1
          simpa [X.toExit, Exit.inBlock, hi] using this
        · rename_i hi
          cases he
          refine wp_block (ih b st (.exit i) st' ρ a w _ hs hT hR hF hd fun a1 w1 ρ1 hT1 hR1 hX1 hd1 => ?_)
          have := hQ a1 w1 ρ1 hT1 hR1 hX1 hd1
          simpa [X.toExit, Exit.inBlock, hi] using this
      · rename_i hne
        refine wp_block (ih b st x st' ρ a w _ he hT hR hF hd fun a1 w1 ρ1 hT1 hR1 hX1 hd1 => ?_)
        have := hQ a1 w1 ρ1 hT1 hR1 hX1 hd1
        cases x with
        | normal => exact this
        | exit i => exact absurd he (hne i st')
        | ret => exact this
    | loop b =>
      refine wp_loop_ind (fun m a' w' => m ≤ n + 1 ∧ ∃ st1 ρ1, ev E m (.loop b) st1 = some (x, st') ∧ TR ρ1 st1.tm st1.nt a' ∧ Rel ρ1 st1.h w' ∧ Ext ρ ρ1 st.h st1.h w w' ∧ st1.h.next ≤ st'.h.next ∧ a'.defers = []) ?_
        (m := n + 1) ⟨Nat.le_refl _, st, ρ, he, hT, hR, Ext.refl _ _ _, (nm E (n + 1) _ _ _ _ he).next, hd⟩
      rintro m a' w' ⟨hm, st1, ρ1, e1, hT1, hR1, hX1, hn1, hd1⟩
      cases m with
      | zero => cases e1
      | succ m =>
        have ihm := IH m (by omega)
        simp only [ev, step] at e1
        split at e1
        · rename_i s hs
          have hns := (nm E m _ _ _ _ e1).next
          refine ihm b st1 .normal s ρ1 a' w' _ hs hT1 hR1 ((hX1.fr hF).sub (Nat.le_refl _) hns) hd1 fun a2 w2 ρ2 hT2 hR2 hX2 hd2 => ?_
          exact ⟨m, Nat.lt_succ_self m, by omega, s, ρ2, e1, hT2, hR2, Ext.trans (hF.sub (Nat.le_refl _) hns) hR1 hX1 hX2, hns, hd2⟩
        · rename_i hne
          refine ihm b st1 x st' ρ1 a' w' _ e1 hT1 hR1 (hX1.fr hF) hd1 fun a2 w2 ρ2 hT2 hR2 hX2 hd2 => ?_
          have := hQ a2 w2 ρ2 hT2 hR2 (Ext.trans hF hR1 hX1 hX2) hd2
          cases x with
          | normal => exact absurd e1 (hne st')
          | exit i => exact this
          | ret => exact this
    | rangeFunc f ps a b => cases he
    | exit id => cases he; exact wp_exit (hQ a w ρ hT hR (Ext.refl _ _ _) hd)
    | scope b => cases he
    | label l => cases he
    | goto l => cases he
    | ret => cases he; exact wp_ret (hQ a w ρ hT hR (Ext.refl _ _ _) hd)
    | refuse s => cases he
end Go.Proofs.Ytknenadpkgajjaa.GEv
