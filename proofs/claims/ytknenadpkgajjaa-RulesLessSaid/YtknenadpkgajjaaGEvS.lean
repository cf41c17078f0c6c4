/- The evaluator is sound: whatever it says of a call the call does, on every tape. -/
import Derived.Test.YtknenadpkgajjaaGEvR
namespace Go.Proofs.Ytknenadpkgajjaa.GEv
open Go
open Go.RowKit (Below)
set_option linter.unusedSimpArgs false
set_option linter.unusedVariables false

theorem draws {X : Ctx} (hX : X.OK) (hE : X.E.OK) (hS : Snd X.E X.n) {Q : Exit → Act → World → Prop}
    (hQ : ∀ a w ρ G listed fuel, Inv X fuel listed a w ρ G → (∀ i, i < X.ops.size → Lst listed i) → Q .normal a w) :
    ∀ (fuel : Nat) (listed : Array Bool) (a : Act) (w : World) (ρ : Ren) (G : Nat → Option AObj), Inv X fuel listed a w ρ G → wpAny X.E.P .any X.ops Q fuel listed a w := by
  have all_of : ∀ {fuel : Nat} {listed : Array Bool} {a : Act} {w : World} {ρ : Ren} {G : Nat → Option AObj}, Inv X fuel listed a w ρ G → Region.ready .any X.ops listed = [] → ∀ i, i < X.ops.size → Lst listed i := by
    intro fuel listed a w ρ G I hr i
    induction i using Nat.strongRecOn with
    | _ i ih =>
      intro hi
      obtain ⟨o, ho⟩ : ∃ o, X.ops[i]? = some o := ⟨_, Array.getElem?_eq_getElem hi⟩
      have hsz : i < listed.size := by rw [I.size]; exact hi
      cases hb : listed[i] with
      | true =>
        unfold Lst
        rw [Array.getD_eq_getD_getElem?, Array.getElem?_eq_getElem hsz, hb]
        rfl
      | false =>
        exfalso
        have : i ∈ Region.ready .any X.ops listed := mem_ready.2 ⟨by rw [Array.getD_eq_getD_getElem?, Array.getElem?_eq_getElem hsz, hb]; rfl, o, ho, fun e he hbd => by
          have hlt := hX.lex.back i o ho e he hbd
          exact ih e.on hlt (by omega)⟩
        rw [hr] at this
        cases this
  intro fuel
  induction fuel with
  | zero =>
    intro listed a w ρ G I
    have hall : ∀ i, i < X.ops.size → Lst listed i := by
      intro i hi
      have hsz : i < listed.size := by rw [I.size]; exact hi
      have hc := I.cnt
      rw [Array.count_eq_zero] at hc
      cases hb : listed[i] with
      | true =>
        unfold Lst
        rw [Array.getD_eq_getD_getElem?, Array.getElem?_eq_getElem hsz, hb]
        rfl
      | false => exact absurd (hb ▸ Array.getElem_mem hsz) hc
    refine ⟨?_, hQ a w ρ G listed 0 I hall⟩
    cases hr : Region.ready .any X.ops listed with
    | nil => rfl
    | cons i l =>
      exfalso
      have hi : i ∈ Region.ready .any X.ops listed := by rw [hr]; exact List.mem_cons_self ..
      obtain ⟨h1, o, ho, _⟩ := mem_ready.1 hi
      exact (unl h1).2.2 (hall i (Array.getElem?_eq_some_iff.1 ho).1)
  | succ fuel ih =>
    intro listed a w ρ G I
    refine ⟨fun hr => hQ a w ρ G listed _ I (all_of I hr), fun k hk => ?_⟩
    obtain ⟨hun, o, ho, hrd⟩ := mem_ready.1 hk
    unfold wpOp
    rw [ho]
    simp only
    have hw := I.wants hX ho hun hrd
    rw [hw]
    split
    · rename_i hwt
      left
      exact I.step hX hE hS ho hun hrd hwt fun a' w' ρ' G' I' => ih _ a' w' ρ' G' I'
    · rename_i hwt
      obtain ⟨_, _, q | q⟩ := hX.step k o ho
      · obtain ⟨_, hv, _, hF⟩ := q
        exact ih _ _ _ _ _ (I.idle hX ho hun hrd (.inl hF) (by rw [hv]; exact VR.undef ρ) (Nat.le_refl _) rfl rfl rfl fun c _ => rfl)
      · exact absurd q.1 hwt
theorem drw {E : Env} (hE : E.OK) {n : Nat} (hS : Snd E n) : Drw E n := by
  intro ops st st' ρ a w Q hB he hT hR hF hd hQ
  obtain ⟨S, V, Hh, F, e1, e2, tr⟩ := trace_of ops.toList 0 [] st st' (fun j => by simp) he
  rw [Nat.zero_add] at e2 tr
  have hlen : ops.toList.length = ops.size := by simp
  rw [hlen] at e2 tr
  let X : Ctx := ⟨E, n, ops, S, V, Hh, F, ρ, w⟩
  have hX : X.OK := ⟨lex_of hB, fun j o hj => tr.step j o (Nat.zero_le _) (Array.getElem?_eq_some_iff.1 hj).1 hj, fun j f k g h1 h2 h3 h4 h5 => tr.fits j f k g (Nat.zero_le _) h1 h2 h3 h4 h5,
    by show WF (S 0).h; rw [e1]; exact hR.wf, by show Fr ρ (S 0).h.next (S ops.size).h.next; rw [e1, e2]; exact hF⟩
  have hno : ∀ i, ¬ Lst (Array.replicate ops.size false) i := fun i h => by
    unfold Lst at h
    rw [Array.getD_eq_getD_getElem?, Array.getElem?_replicate] at h
    split at h <;> cases h
  have I : Inv X ops.size (Array.replicate ops.size false) a w ρ (fun b => (S 0).h.m.get b) := by
    refine ⟨by simp; rfl, by simp, fun i o _ h => absurd h (hno i), by show a.tmps.size = (S 0).nt; rw [e1]; exact hT.1, hd, ?_, ?_, ?_, hR.dom, ?_, ?_, ?_, ?_, fun j b _ h => absurd h (hno j), Sub.refl ρ, fun b c s z q => .inl q, Nat.le_refl _, rfl, rfl, rfl, fun _ _ _ => rfl, hR.glob⟩
    · intro x hx t ht
      have := Ctx.tm_stays hX (x := 0) (y := x) (t := t) (Nat.zero_le _) hx fun j o _ hjx hj hdst => hno j ((ht j o hj hdst).1 hjx)
      show VR ρ (((S x).tm.get t).getD undef) _
      rw [show (S x).tm.get t = (S 0).tm.get t from this, e1]
      exact hT.2 t
    · intro b obj c s z q1 q2
      exact hR.ok b obj c s z (by rw [← e1]; exact q1) q2
    · intro b b' c c' s s' z z' hne q1 q2 q3 q4
      exact hR.inj b b' c c' s s' z z' hne q1 q2 (by rw [← e1]; exact q3) (by rw [← e1]; exact q4)
    · intro x hx b h1 h2 h3
      have hb0 : b < (S 0).h.next := by
        rcases Nat.lt_or_ge b (S 0).h.next with q | q
        · exact q
        · have := (Ctx.gr hX (x := x) (y := ops.size) hx (Nat.le_refl _)).next
          have h2' : b < (S x).h.next := h2
          exact absurd (hX.fr b q (by
            show b < (S ops.size).h.next
            have this' : (S x).h.next ≤ (S ops.size).h.next := this
            omega)) h1
      exact (Ctx.get_stays hX (x := 0) (y := x) (Nat.zero_le _) hx hb0 fun j _ hjx ht => hno j ((h3 j (Nat.lt_of_lt_of_le hjx hx) ht).1 hjx)).symm
    · intro i hi _
      refine Fr.sub hX.fr (Ctx.gr hX (x := 0) (y := i) (Nat.zero_le _) (Nat.le_of_lt hi)).next (Ctx.gr hX (x := i + 1) (y := ops.size) hi (Nat.le_refl _)).next
    · intro b h
      exact .inl h
    · intro b h
      have hb0 : b < (S 0).h.next := by
        rcases Nat.lt_or_ge b (S 0).h.next with q | q
        · exact q
        · exact absurd (hX.wf b q) h
      exact Nat.lt_of_lt_of_le hb0 (Ctx.gr hX (x := 0) (y := ops.size) (Nat.zero_le _) (Nat.le_refl _)).next
  refine draws hX hE hS ?_ _ _ _ _ _ _ I
  intro a2 w2 ρ2 G2 listed fuel J hall
  have hall2 : ∀ j, j < ops.size → (j < ops.size ↔ Lst listed j) := fun j hj => ⟨fun _ => hall j hj, fun _ => hj⟩
  have hG : ∀ b, ρ2 b ≠ none → (S ops.size).h.m.get b ≠ none → G2 b = (S ops.size).h.m.get b := fun b h1 h2 =>
    J.link ops.size (Nat.le_refl _) b h1 (Ctx.live hX (Nat.le_refl _) h2) fun j hj _ => hall2 j hj
  have hgr := Ctx.gr hX (x := 0) (y := ops.size) (Nat.zero_le _) (Nat.le_refl _)
  have hgr' : Gr st.h st'.h := by rw [← e1, ← e2]; exact hgr
  refine hQ a2 w2 ρ2 ⟨?_, fun t => ?_⟩ ⟨?_, J.dom, ?_, ?_, J.glob⟩ ⟨J.sub, ?_, hgr'.next, hgr'.low, J.wsize, J.os, J.tape, J.output, ?_, hgr'.keep, fun b hb e => hgr'.dead hR.wf b hb e⟩ J.defers
  · have h1 : a2.tmps.size = (S 0).nt := J.nt
    have h2 : (S ops.size).nt = (S 0).nt := Ctx.nts hX (Nat.le_refl _)
    rw [h1, ← h2, e2]
  · rw [← e2]
    exact J.tm ops.size (Nat.le_refl _) t fun j o hj _ => hall2 j (Array.getElem?_eq_some_iff.1 hj).1
  · exact hgr'.wf hR.wf
  · intro b obj c s z q1 q2
    rw [← e2] at q1
    exact J.ok b obj c s z (by rw [hG b (by rw [q2]; simp) (by rw [q1]; simp)]; exact q1) q2
  · intro b b' c c' s s' z z' hne q1 q2 q3 q4
    rw [← e2] at q3 q4
    exact J.inj b b' c c' s s' z z' hne q1 q2 (by rw [hG b (by rw [q1]; simp) q3]; exact q3) (by rw [hG b' (by rw [q2]; simp) q4]; exact q4)
  · intro b c s z q
    rcases J.new b c s z q with q | ⟨h1, h2, h3⟩
    · exact .inl q
    · refine .inr ⟨by rw [← e1]; exact h1, by rw [← e2]; exact h2, ?_⟩
      rcases h3 with h3 | ⟨b0, s0, z0, r1, r2, r3, r4⟩
      · exact .inl h3
      · exact .inr ⟨b0, s0, z0, by rw [← e2]; exact r1, by rw [← e1]; exact r2, by rw [← e1]; exact r3, r4⟩
  · intro c hc hn
    refine J.frame c hc ?_
    rintro ⟨b, s, z, r1, r2, r3, r4⟩
    exact hn b c s z (by rw [← e2]; exact r1) (by rw [← e1]; exact r2) (by rw [← e1]; exact r3) r4 rfl
/-- **All code goes as the evaluator says.** -/
theorem snd {E : Env} (hE : E.OK) (n : Nat) : Snd E n := code_sound hE (fun _ hS => drw hE hS) n n (Nat.le_refl n)
/-- **A call goes as the evaluator says.** -/
theorem run_sound {E : Env} (hE : E.OK) {n : Nat} {f : FuncId} {args args' : List Value} {h h' : H} {v : Value} {ρ : Ren} {w : World} (he : run E n f args h = some (v, h')) (ha : VRL ρ args args') (hR : Rel ρ h w) (hF : Fr ρ h.next h'.next) :
    Calls E.P f args'.toArray w fun e w' => ∃ v' ρ', e = .returned v' ∧ VR ρ' v v' ∧ Rel ρ' h' w' ∧ Ext ρ ρ' h h' w w' := call_sound hE (snd hE n) he ha hR hF
theorem rel0 {w : World} (hw : WOK w) (hs : GN ≤ w.heap.size) : Rel (fun _ => none) h0 w := ⟨fun b _ => U.get_nil b, (fun b c s z q => by cases q), (fun b obj c s z q => by rw [show h0.m = U.nil from rfl, U.get_nil] at q; cases q), (fun b b' c c' s s' z z' _ q => by cases q), ⟨hw, hs, fun b c s z q => by cases q⟩⟩
/-- **A call upon values without blocks, that hands back such a value.** -/
theorem calls_flat {E : Env} (hE : E.OK) {n : Nat} {f : FuncId} {args : List Value} {v : Value} (he : result E n f args = some v) (hv : flat2 v = true) (ha : args.all flat2 = true) {w : World} (hw : WOK w) (hs : GN ≤ w.heap.size) :
    Calls E.P f args.toArray w fun e w' => e = .returned v ∧ Below w.heap.size w w' := by
  unfold result at he
  split at he
  · rename_i u h' hr
    cases he
    refine (run_sound hE hr (list_refl (fun v => VR.flat2 _) ha) (rel0 hw hs) (fun b _ _ => rfl)).mono ?_
    rintro e w' ⟨v', ρ', rfl, hvr, _, hx⟩
    refine ⟨by rw [flat2_eq hv hvr], hx.os, hx.tape, hx.output, hx.size, fun k hk => hx.frame k hk fun b c' s z _ _ _ q => by cases q⟩
  · cases he
/-- **A law of finite input.** -/
theorem calls_true {E : Env} (hE : E.OK) {n : Nat} {f : FuncId} {args : List Value} (he : isTrue (result E n f args) = true) (ha : args.all flat2 = true) {w : World} (hw : WOK w) (hs : GN ≤ w.heap.size) :
    Calls E.P f args.toArray w fun e w' => e = .returned (.bool true) ∧ Below w.heap.size w w' := by
  unfold isTrue at he
  split at he
  · rename_i hr
    exact calls_flat hE hr rfl ha hw hs
  · cases he
end Go.Proofs.Ytknenadpkgajjaa.GEv
