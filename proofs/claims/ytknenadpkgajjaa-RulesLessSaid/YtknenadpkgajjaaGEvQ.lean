/- The evaluator's soundness, fifteenth part: regions that draw their order: one operation more. -/
import Derived.Test.YtknenadpkgajjaaGEvP
namespace Go.Proofs.Ytknenadpkgajjaa.GEv
open Go
set_option linter.unusedSimpArgs false
set_option linter.unusedVariables false

theorem wanted_eq1 {ρ : Ren} {tm : TM} {a : Act} (ops : Array Oper) (o : Oper) (h : ∀ j want d, o.guard = some (j, want) → (ops[j]?).bind (·.dst) = some d → VR ρ ((tm.get d).getD undef) (a.tmps.getD d undef)) :
    Region.wanted o (yielded ops a.tmps) = wanted ops tm o := by
  unfold Region.wanted GEv.wanted
  cases hg : o.guard with
  | none => rfl
  | some g =>
    obtain ⟨j, want⟩ := g
    simp only [yielded]
    cases hd : (ops[j]?).bind (·.dst) with
    | none => simp
    | some d =>
      simp only [Option.bind_some]
      have ht := h j want d hg hd
      simp only [Array.getD_eq_getD_getElem?] at ht
      cases hx : a.tmps[d]? with
      | none =>
        rw [hx] at ht
        simp only [Option.getD_none] at ht
        generalize (tm.get d).getD undef = v at ht
        cases ht with
        | any h => cases h
        | tuple _ _ => simp
      | some u =>
        rw [hx] at ht
        simp only [Option.getD_some] at ht
        generalize (tm.get d).getD undef = v at ht
        cases ht with
        | any h => cases u <;> first | rfl | (cases h; done)
        | _ => simp

section
variable {X : Ctx} (hX : X.OK) {fuel : Nat} {listed : Array Bool} {a : Act} {w : World} {ρ : Ren} {G : Nat → Option AObj}
theorem unl {k : Nat} (h : listed.getD k true = false) : k < listed.size ∧ listed[k]? = some false ∧ ¬ Lst listed k := by
  rw [Array.getD_eq_getD_getElem?] at h
  cases q : listed[k]? with
  | none => rw [q] at h; cases h
  | some b =>
    rw [q] at h
    simp only [Option.getD_some] at h
    subst h
    refine ⟨(Array.getElem?_eq_some_iff.1 q).1, rfl, ?_⟩
    unfold Lst
    rw [Array.getD_eq_getD_getElem?, q]
    simp
include hX
/-- A temporary that an operation looks at is as the evaluator has it. -/
theorem Inv.looks (I : Inv X fuel listed a w ρ G) {k : Nat} {o : Oper} (hk : X.ops[k]? = some o) (hun : listed.getD k true = false) (hrd : ∀ e ∈ o.after, Region.binds .any e = true → Lst listed e.on)
    {t : Nat} (ht : t ∈ o.looksAt X.ops) : VR ρ (((X.S k).tm.get t).getD undef) (a.tmps.getD t undef) := by
  obtain ⟨hlt, _, hnl⟩ := unl hun
  have hkn : k < X.ops.size := (Array.getElem?_eq_some_iff.1 hk).1
  refine I.tm k (by omega) t fun j oj hj hd => ?_
  rcases Nat.lt_trichotomy j k with q | q | q
  · refine ⟨fun _ => ?_, fun _ => q⟩
    rcases hX.lex.pair j k oj o q hj hk with ⟨e, he, hb, rfl⟩ | hap
    · exact hrd e he hb
    · exact absurd ht ((Oper.apart_spec hap).1 t hd)
  · subst q
    exact ⟨fun h => absurd h (Nat.lt_irrefl _), fun h => absurd h hnl⟩
  · refine ⟨fun h => by omega, fun h => ?_⟩
    rcases hX.lex.pair k j o oj q hk hj with ⟨e, he, hb, rfl⟩ | hap
    · exact absurd (I.closed j oj hj h e he hb) hnl
    · exact absurd ht ((Oper.apart_spec hap).2.2 t hd)
theorem Inv.okops (I : Inv X fuel listed a w ρ G) {k : Nat} {o : Oper} (hk : X.ops[k]? = some o) (hun : listed.getD k true = false) (hrd : ∀ e ∈ o.after, Region.binds .any e = true → Lst listed e.on) :
    ∀ x ∈ o.op.operands.toList, OKo ρ (X.S k).tm a x := by
  intro x hx
  cases x with
  | tmp t =>
    refine I.looks hX hk hun hrd ?_
    unfold Oper.looksAt
    rw [List.mem_append]
    exact .inl (List.mem_filterMap.2 ⟨.tmp t, hx, rfl⟩)
  | _ => trivial
theorem Inv.wants (I : Inv X fuel listed a w ρ G) {k : Nat} {o : Oper} (hk : X.ops[k]? = some o) (hun : listed.getD k true = false) (hrd : ∀ e ∈ o.after, Region.binds .any e = true → Lst listed e.on) :
    Region.wanted o (yielded X.ops a.tmps) = wanted X.ops (X.S k).tm o := by
  refine wanted_eq1 (ρ := ρ) X.ops o fun j want d hg hd => I.looks hX hk hun hrd ?_
  unfold Oper.looksAt
  rw [List.mem_append]
  right
  simp only [hg, hd]
  simp
/-- What clashes and stands ahead has come up; what clashes and stands behind has not. -/
theorem Inv.clash (I : Inv X fuel listed a w ρ G) {k : Nat} {o : Oper} (hk : X.ops[k]? = some o) (hun : listed.getD k true = false) (hrd : ∀ e ∈ o.after, Region.binds .any e = true → Lst listed e.on)
    {f g : Foot} {j : Nat} (hj : j < X.ops.size) (hF : X.F k = some f) (hG : X.F j = some g) (hjk : j ≠ k) (h1 : clash f g = true) (h2 : clash g f = true) : (j < k ↔ Lst listed j) := by
  obtain ⟨hlt, _, hnl⟩ := unl hun
  have hkn : k < X.ops.size := (Array.getElem?_eq_some_iff.1 hk).1
  have hcl := bef_closed (ops := X.ops) hX.lex (L := Lst listed) I.closed
  rcases Nat.lt_or_gt_of_ne hjk with q | q
  · refine ⟨fun _ => ?_, fun _ => q⟩
    exact (hcl k j (hX.fits k f j g q hkn hF hG h1)).2 fun o' ho' e he hb => by
      rw [hk] at ho'; cases ho'
      exact hrd e he hb
  · refine ⟨fun h => by omega, fun h => ?_⟩
    exact absurd ((hcl j k (hX.fits j g k f q hj hG hF h2)).1 h) hnl
/-- One operation more. -/
theorem Inv.next (I : Inv X (fuel + 1) listed a w ρ G) {k : Nat} {o : Oper} (hk : X.ops[k]? = some o) (hun : listed.getD k true = false) (hrd : ∀ e ∈ o.after, Region.binds .any e = true → Lst listed e.on)
    {v' : Value} {w' : World} {ρ' : Ren} {G' : Nat → Option AObj} (hv : VR ρ' (X.V k) v') (hsub : Sub ρ ρ')
    (hnew : ∀ b c s z, ρ' b = some (c, s, z) → ρ b = some (c, s, z) ∨ ((X.S k).h.next ≤ b ∧ b < (X.S (k + 1)).h.next ∧ X.Old c))
    (hsz : w.heap.size ≤ w'.heap.size) (hos : w'.os = w.os) (htp : w'.tape = w.tape) (hou : w'.output = w.output)
    (hfr : ∀ c, c < X.w0.heap.size → ¬ X.Hit c → w'.heap[c]? = w.heap[c]?)
    (hdom : ∀ b c s z, ρ' b = some (c, s, z) → c < w'.heap.size)
    (hok : ∀ b obj c s z, G' b = some obj → ρ' b = some (c, s, z) → ∃ o, w'.heap[c]? = some o ∧ Match ρ' obj o s z)
    (hinj : ∀ b b' c c' s s' z z', b ≠ b' → ρ' b = some (c, s, z) → ρ' b' = some (c', s', z') → G' b ≠ none → G' b' ≠ none → c ≠ c')
    (hlink : ∀ x, x ≤ X.ops.size → ∀ b, ρ' b ≠ none → b < (X.S x).h.next → (∀ j, j < X.ops.size → touches X.F j b → (j < x ↔ (j = k ∨ Lst listed j))) → G' b = (X.S x).h.m.get b)
    (hgo : ∀ b, G' b ≠ none → b < (X.S X.ops.size).h.next) (hst : ∀ b, X.F k = some (.wr b) → ρ' b ≠ none) (hgl : GOK ρ' w') :
    Inv X fuel (listed.setIfInBounds k true) (a.put o.dst v') w' ρ' G' := by
  obtain ⟨hlt, hget, hnl⟩ := unl hun
  have hkn : k < X.ops.size := (Array.getElem?_eq_some_iff.1 hk).1
  have hL : ∀ i, Lst (listed.setIfInBounds k true) i ↔ (i = k ∨ Lst listed i) := fun i => lst_set hlt
  obtain ⟨hnt, hput, _⟩ := hX.step k o hk
  refine ⟨by simp [I.size], ?_, ?_, ?_, ?_, ?_, hok, hinj, hdom, ?_, ?_, ?_, hgo, ?_, I.sub.trans hsub, ?_, Nat.le_trans I.wsize hsz, hos.trans I.os, htp.trans I.tape, hou.trans I.output, ?_, hgl⟩
  · have hs : listed.setIfInBounds k true = listed.set k true hlt := by simp [Array.setIfInBounds, hlt]
    have hgk : listed[k] = false := by rw [Array.getElem?_eq_getElem hlt] at hget; exact Option.some.inj hget
    rw [hs, Array.count_set, I.cnt, hgk]
    simp
  · intro i oi hi h e he hb
    rw [hL] at h ⊢
    rcases h with rfl | h
    · rw [hk] at hi; cases hi
      exact .inr (hrd e he hb)
    · exact .inr (I.closed i oi hi h e he hb)
  · cases o.dst <;> simp [Act.put, I.nt]
  · cases o.dst <;> exact I.defers
  · intro x hx t hw
    simp only [hL] at hw
    by_cases ht : o.dst = some t
    · have hkx : k < x := (hw k o hk ht).2 (.inl rfl)
      have hno : ∀ j oj, k + 1 ≤ j → j < x → X.ops[j]? = some oj → oj.dst ≠ some t := by
        intro j oj h1 h2 hj hd
        have hl := (hw j oj hj hd).1 h2
        have hl2 : Lst listed j := hl.resolve_left (by omega)
        rcases hX.lex.pair k j o oj (by omega) hk hj with ⟨e, he, hb, rfl⟩ | hap
        · exact hnl (I.closed j oj hj hl2 e he hb)
        · exact (Oper.apart_spec hap).2.1 t ht hd
      rw [Ctx.tm_stays hX (by omega) hx hno]
      rw [ht] at hput ⊢
      simp only [putT] at hput
      split at hput
      · rename_i hlt2
        rw [blt_spec] at hlt2
        have hlt2 := of_decide_eq_true hlt2
        simp only [Option.some.injEq] at hput
        rw [← hput, T.get_set, if_pos rfl]
        have hts : t < a.tmps.size := by rw [I.nt, ← Ctx.nts hX (Nat.le_of_lt hkn)]; exact hlt2
        simpa [Act.put, Array.getD, hts] using hv
      · cases hput
    · have hold := I.tm x hx t fun j oj hj hd => by
        have := hw j oj hj hd
        have hjk : j ≠ k := fun e => by subst e; rw [hk] at hj; cases hj; exact ht hd
        simpa [hjk] using this
      have hsame : (a.put o.dst v').tmps.getD t undef = a.tmps.getD t undef := by
        cases hd : o.dst with
        | none => rfl
        | some d =>
          have hne : d ≠ t := fun e => ht (by rw [hd, e])
          simp only [Act.put, Array.getD_eq_getD_getElem?]
          rw [Array.getElem?_setIfInBounds_ne hne]
      rw [hsame]
      exact hold.mono hsub
  · intro x hx b hb hbx ht
    simp only [hL] at ht
    exact hlink x hx b hb hbx ht
  · intro i hi hni
    rw [hL] at hni
    have hne : i ≠ k := fun e => hni (.inl e)
    have hnl2 : ¬ Lst listed i := fun e => hni (.inr e)
    intro b h1 h2
    cases q : ρ' b with
    | none => rfl
    | some x =>
      obtain ⟨c, s, z⟩ := x
      rcases hnew b c s z q with q2 | ⟨q2, q3, _⟩
      · rw [I.fresh i hi hnl2 b h1 h2] at q2; cases q2
      · rcases Nat.lt_or_gt_of_ne hne with q4 | q4
        · have := (Ctx.gr hX (x := i + 1) (y := k) (by omega) (by omega)).next
          omega
        · have := (Ctx.gr hX (x := k + 1) (y := i) (by omega) (by omega)).next
          omega
  · intro b hb
    cases q : ρ' b with
    | none => exact absurd q hb
    | some x =>
      obtain ⟨c, s, z⟩ := x
      rcases hnew b c s z q with q2 | ⟨q2, q3, _⟩
      · rcases I.rdom b (by rw [q2]; simp) with q4 | ⟨i, h1, h2, h3⟩
        · exact .inl q4
        · exact .inr ⟨i, h1, (hL i).2 (.inr h2), h3⟩
      · exact .inr ⟨k, hkn, (hL k).2 (.inl rfl), q2, q3⟩
  · intro j b hj hl hF
    rw [hL] at hl
    rcases hl with rfl | hl
    · exact hst b hF
    · have := I.stores j b hj hl hF
      intro e
      cases q : ρ b with
      | none => exact this q
      | some x => rw [hsub b x q] at e; cases e
  · intro b c s z q
    rcases hnew b c s z q with q2 | ⟨q2, q3, q4⟩
    · exact I.new b c s z q2
    · refine .inr ⟨?_, ?_, q4⟩
      · have := (Ctx.gr hX (x := 0) (y := k) (by omega) (by omega)).next
        omega
      · have := (Ctx.gr hX (x := k + 1) (y := X.ops.size) (by omega) (by omega)).next
        omega
  · intro c hc hh
    rw [hfr c hc hh]
    exact I.frame c hc hh
/-- A block that was there and lives: where it lies was there ahead of the region too, or is new. -/
theorem Inv.back (I : Inv X fuel listed a w ρ G) {k b c s z : Nat} (hk : k ≤ X.ops.size) (hlow : (X.S X.ops.size).h.low ≤ b) (hl : (X.S k).h.m.get b ≠ none) (hb : ρ b = some (c, s, z)) : X.Old c := by
  rcases I.new b c s z hb with q | ⟨_, _, q⟩
  · right
    have hlt := Ctx.live hX hk hl
    have hn := (Ctx.gr hX hk (Nat.le_refl _)).next
    have h0 : b < (X.S 0).h.next := by
      rcases Nat.lt_or_ge b (X.S 0).h.next with q2 | q2
      · exact q2
      · rw [hX.fr b q2 (by omega)] at q; cases q
    exact ⟨b, s, z, hlow, h0, fun e => hl ((Ctx.gr hX (Nat.zero_le k) hk).dead hX.wf b h0 e), q⟩
  · exact q
end
end Go.Proofs.Ytknenadpkgajjaa.GEv
