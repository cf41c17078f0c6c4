/- The evaluator's soundness, eleventh part: temporaries, calls, regions in order. -/
import Derived.Test.YtknenadpkgajjaaGEvN
namespace Go.Proofs.Ytknenadpkgajjaa.GEv
open Go
set_option linter.unusedSimpArgs false
set_option linter.unusedVariables false

def TR (ρ : Ren) (tm : TM) (nt : Nat) (a : Act) : Prop := a.tmps.size = nt ∧ ∀ t, VR ρ ((tm.get t).getD undef) (a.tmps.getD t undef)
theorem TR.mono {ρ ρ' : Ren} (hs : Sub ρ ρ') {tm : TM} {nt : Nat} {a : Act} (h : TR ρ tm nt a) : TR ρ' tm nt a := ⟨h.1, fun t => (h.2 t).mono hs⟩
theorem TR.ok {ρ : Ren} {tm : TM} {nt : Nat} {a : Act} (h : TR ρ tm nt a) (x : Operand) : OKo ρ tm a x := by
  cases x with
  | tmp t => exact h.2 t
  | _ => trivial
theorem TR.put {ρ : Ren} {tm tm' : TM} {nt : Nat} {a : Act} {dst : Option Tmp} {v v' : Value} (h : TR ρ tm nt a) (hp : putT tm nt dst v = some tm') (hv : VR ρ v v') : TR ρ tm' nt (a.put dst v') := by
  cases dst with
  | none => cases hp; exact h
  | some d =>
    simp only [putT] at hp
    split at hp
    · rename_i hd
      rw [blt_spec] at hd
      have hd := of_decide_eq_true hd
      cases hp
      refine ⟨by simp [Act.put, h.1], fun t => ?_⟩
      rw [T.get_set]
      have := h.2 t
      have hsz := h.1
      by_cases e : t = d
      · subst e
        have hlt : t < a.tmps.size := by rw [hsz]; exact hd
        simpa [Act.put, Array.getD, hlt] using hv
      · rw [if_neg e]
        simp only [Array.getD_eq_getD_getElem?, Act.put] at this ⊢
        rw [Array.getElem?_setIfInBounds_ne (Ne.symm e)]
        exact this
    · cases hp
theorem bool_of {ρ : Ren} {v : Value} {b : Bool} (h : VR ρ v (.bool b)) : v = .bool b := by
  cases h with
  | any h => cases h
  | bool => rfl
theorem wanted_eq {ρ : Ren} {tm : TM} {nt : Nat} {a : Act} (h : TR ρ tm nt a) (ops : Array Oper) (o : Oper) : Region.wanted o (yielded ops a.tmps) = wanted ops tm o := by
  unfold Region.wanted GEv.wanted
  cases hg : o.guard with
  | none => rfl
  | some g =>
    obtain ⟨j, want⟩ := g
    simp only [yielded]
    cases hd : (ops[j]?).bind (·.dst) with
    | none => simp
    | some d =>
      simp only [Option.bind_some]
      have ht := h.2 d
      simp only [Array.getD_eq_getD_getElem?] at ht
      cases hx : a.tmps[d]? with
      | none =>
        rw [hx] at ht
        simp only [Option.getD_none] at ht
        generalize (tm.get d).getD undef = v at ht
        cases ht with
        | any h => cases h
        | tuple _ _ => simp
      | some u =>
        rw [hx] at ht
        simp only [Option.getD_some] at ht
        generalize (tm.get d).getD undef = v at ht
        cases ht with
        | any h => cases u <;> first | rfl | (cases h; done)
        | _ => simp

/-- What is known of code: whatever it does goes as the evaluator says. -/
def X.toExit : X → Exit
  | .normal => .normal
  | .exit id => .exit id
  | .ret => .ret
def Snd (E : Env) (n : Nat) : Prop := ∀ (c : Code) (st : St) (x : X) (st' : St) (ρ : Ren) (a : Act) (w : World) (Q : Exit → Act → World → Prop), ev E n c st = some (x, st') →
  TR ρ st.tm st.nt a → Rel ρ st.h w → Fr ρ st.h.next st'.h.next → a.defers = [] →
  (∀ a' w' ρ', TR ρ' st'.tm st'.nt a' → Rel ρ' st'.h w' → Ext ρ ρ' st.h st'.h w w' → a'.defers = [] → Q x.toExit a' w') → c.wp E.P Q a w

section
variable {E : Env} {ρ : Ren} {w : World} {n : Nat}
theorem bindArgs_get : ∀ (args : List Value) (i : Nat) (tm : TM) (t : Nat), (bindArgs i args tm).get t = if i ≤ t ∧ t < i + args.length then args[t - i]? else tm.get t
  | [], i, tm, t => by
    simp only [bindArgs, List.length_nil, Nat.add_zero]
    rw [if_neg (by omega)]
  | v :: r, i, tm, t => by
    simp only [bindArgs, List.length_cons]
    rw [bindArgs_get r (i + 1), T.get_set]
    by_cases h1 : t = i
    · subst h1
      rw [if_neg (by omega), if_pos rfl, if_pos (by omega)]
      simp
    · by_cases h2 : i + 1 ≤ t ∧ t < i + 1 + r.length
      · rw [if_pos h2, if_pos (by omega)]
        rw [show t - i = (t - (i + 1)) + 1 by omega, List.getElem?_cons_succ]
      · rw [if_neg h2, if_neg h1, if_neg (by omega)]
theorem TR.start {args args' : List Value} {nt : Nat} (h : VRL ρ args args') (hl : args.length ≤ nt) :
    TR ρ (bindArgs 0 args .nil) nt { tmps := args'.toArray ++ Array.replicate (nt - args'.toArray.size) undef, defers := [] } := by
  have hlen := h.1
  refine ⟨by simp; omega, fun t => ?_⟩
  rw [bindArgs_get]
  simp only [Nat.zero_le, true_and, Nat.zero_add, Nat.sub_zero, Array.getD_eq_getD_getElem?]
  by_cases ht : t < args.length
  · rw [if_pos ht, Array.getElem?_append_left (by simp; omega)]
    obtain ⟨v', h1, h2⟩ := h.get (List.getElem?_eq_getElem ht)
    simp only [List.getElem?_toArray, h1, List.getElem?_eq_getElem ht, Option.getD_some]
    exact h2
  · rw [if_neg ht, Array.getElem?_append_right (by simp; omega)]
    simp only [T.get_nil, Option.getD_none, Array.getElem?_replicate]
    split <;> exact VR.undef ρ
theorem run_results {P : Program} {h : H} {tm : TM} {nt : Nat} {a : Act} (hR : Rel ρ h w) (hT : TR ρ tm nt a) : ∀ {l : List ResultVar} {vs : List Value}, evResults P tm h l = some vs →
    ∃ vs', (l.mapM (fun (x : ResultVar) => match x with
      | .tmp t => (pure (a.tmps.getD t undef) : Sem Value)
      | .cell c t => do loadVar t (← asAddr (a.tmps.getD c undef)))).run P w = .ok vs' w ∧ VRL ρ vs vs'
  | [], vs, h => by cases h; exact ⟨[], rfl, VRL.nil ρ⟩
  | .tmp t :: l, vs, he => by
    simp only [evResults] at he
    split at he
    · rename_i l' hl
      cases he
      obtain ⟨vs', h1, h2⟩ := run_results hR hT hl
      exact ⟨a.tmps.getD t undef :: vs', by simp only [List.mapM_cons, Sem.run_bind, Sem.run_pure, Result.andThen_ok, h1], h2.cons (hT.2 t)⟩
    · cases he
  | .cell c t :: l, vs, he => by
    simp only [evResults] at he
    split at he
    · rename_i b hb
      split at he
      · rename_i v l' hv hl
        cases he
        obtain ⟨vs', h1, h2⟩ := run_results hR hT hl
        have hp := hT.2 c
        rw [hb] at hp
        obtain ⟨b', e, hA⟩ := inv_ptr hp
        obtain ⟨v', q1, q2⟩ := load_sound hR hv hA
        have hA' : (asAddr (a.tmps.getD c undef)).run P w = .ok b' w := by rw [e]; rfl
        exact ⟨v' :: vs', by simp only [List.mapM_cons, Sem.run_bind, Sem.run_pure, Result.andThen_ok, h1, hA', q1], h2.cons q2⟩
      · cases he
    · cases he
def tup : List Value → Value
  | [v] => v
  | l => .tuple l.toArray
theorem results_sound {P : Program} {fn : Func} {h : H} {tm : TM} {nt : Nat} {a : Act} {vs : List Value} (hR : Rel ρ h w) (hT : TR ρ tm nt a) (he : evResults P tm h fn.results.toList = some vs) :
    ∃ v', (results fn a.tmps).run P w = .ok v' w ∧ VR ρ (tup vs) v' := by
  obtain ⟨vs', h1, h2⟩ := run_results hR hT he
  have hrun : (results fn a.tmps).run P w = .ok (if h : vs'.toArray.size = 1 then vs'.toArray[0] else .tuple vs'.toArray) w := by
    unfold results
    rw [Array.mapM_eq_mapM_toList]
    simp only [Sem.run_bind, Sem.run_map]
    erw [h1]
    simp only [Result.andThen_ok, Sem.run_pure]
  refine ⟨_, hrun, ?_⟩
  have hl := h2.1
  match vs, vs', h2 with
  | [], [], h2 => exact h2.tuple
  | [v], [v'], h2 => exact h2.2 0 v v' rfl rfl
  | v :: u :: l, v' :: u' :: l', h2 =>
    rw [dif_neg (by simp)]
    exact h2.tuple
  | [], _ :: _, h2 => have q := h2.1; simp at q
  | [_], [], h2 => have q := h2.1; simp at q
  | [_], _ :: _ :: _, h2 => have q := h2.1; simp at q
  | _ :: _ :: _, [], h2 => have q := h2.1; simp at q
  | _ :: _ :: _, [_], h2 => have q := h2.1; simp at q
/-- A call. -/
theorem memo_mem : ∀ {l : List (FuncId × Prim)} {f : FuncId} {p : Prim}, primOf l f = some p → (f, p) ∈ l
  | [], f, p, h => by cases h
  | (g, u) :: r, f, p, h => by
    simp only [primOf] at h
    split at h
    · rename_i q
      cases h
      rw [Nat.eq_of_beq_eq_true q]
      exact List.mem_cons_self ..
    · exact List.mem_cons_of_mem _ (memo_mem h)
theorem memo_of {l : List (FuncId × Prim)} {f : FuncId} {args : List Value} {v : Value} (h : memoOf l f args = some v) : ∃ p, (f, p) ∈ l ∧ p args = some v := by
  unfold memoOf at h
  split at h
  · rename_i p q; exact ⟨p, memo_mem q, h⟩
  · cases h
theorem mprim_mem : ∀ {l : List (FuncId × MPrim)} {f : FuncId} {p : MPrim}, mprimOf l f = some p → (f, p) ∈ l
  | [], f, p, h => by cases h
  | (g, u) :: r, f, p, h => by
    simp only [mprimOf] at h
    split at h
    · rename_i q
      cases h
      rw [Nat.eq_of_beq_eq_true q]
      exact List.mem_cons_self ..
    · exact List.mem_cons_of_mem _ (mprim_mem h)
theorem call_sound (hE : E.OK) (hS : Snd E n) {f : FuncId} {args args' : List Value} {h h' : H} {v : Value} (he : evFun E (ev E n) f args h = some (v, h')) (ha : VRL ρ args args') (hR : Rel ρ h w) (hF : Fr ρ h.next h'.next) :
    Calls E.P f args'.toArray w fun e w' => ∃ v' ρ', e = .returned v' ∧ VR ρ' v v' ∧ Rel ρ' h' w' ∧ Ext ρ ρ' h h' w w' := by
  unfold evFun at he
  split at he
  · rename_i u hq
    cases he
    unfold memOf at hq
    split at hq
    rotate_left
    · unfold mpOf at hq
      (repeat' split at hq) <;> first | (cases hq; done) | skip
      rename_i p hp _ r hr
      exact hE.mem f p args h r v h' (mprim_mem hp) hr hq ρ args' w ha hR hF
    rename_i u hm
    cases hq
    obtain ⟨p, hmem, hp⟩ := memo_of hm
    obtain ⟨hfl, hv, hc⟩ := hE.memo f p args v hmem hp
    have := list_eq (fun v v' => flat2_eq) hfl ha
    subst this
    refine (hc w hR.glob.wok hR.glob.size).mono ?_
    rintro e w' ⟨rfl, hb⟩
    have hsame : ∀ c, c < w.heap.size → w'.heap[c]? = w.heap[c]? := fun c hc => hb.block c hc
    refine ⟨v, ρ, rfl, VR.flat2 ρ hv, ⟨hR.wf, fun b c s z e => Nat.lt_of_lt_of_le (hR.dom b c s z e) hb.size, fun b obj c s z e1 e2 => ?_, hR.inj, hR.glob.heap hb.size fun c hc => hsame c (Nat.lt_of_lt_of_le hc hR.glob.size)⟩,
      ⟨Sub.refl ρ, fun _ _ _ _ e => .inl e, Nat.le_refl _, Nat.le_refl _, hb.size, hb.os, hb.tape, hb.output, fun c hc _ => hsame c hc, fun _ _ _ => rfl, fun _ _ e => e⟩⟩
    obtain ⟨o, h1, h2⟩ := hR.ok b obj c s z e1 e2
    exact ⟨o, by rw [hsame c (hR.dom b c s z e2)]; exact h1, h2⟩
  split at he
  · rename_i fn hf
    split at he
    · rename_i c hb
      split at he
      · rename_i hl
        have fin : ∀ (x : X) (st : St), ev E n c { tm := bindArgs 0 args .nil, nt := fn.ntmps, h := h } = some (x, st) → (x = .normal ∨ x = .ret) →
            (match evResults E.P st.tm st.h fn.results.toList with
              | some [v] => some (v, st.h)
              | some l => some (.tuple l.toArray, st.h)
              | none => none) = some (v, h') →
            Calls E.P f args'.toArray w fun e w' => ∃ v' ρ', e = .returned v' ∧ VR ρ' v v' ∧ Rel ρ' h' w' ∧ Ext ρ ρ' h h' w w' := by
          intro x st hev hx hr
          have hfin : ∃ vs, evResults E.P st.tm st.h fn.results.toList = some vs ∧ v = tup vs ∧ h' = st.h := by
            split at hr
            · rename_i u hu; cases hr; exact ⟨[v], hu, rfl, rfl⟩
            · rename_i l hne hu
              cases hr
              refine ⟨l, hu, ?_, rfl⟩
              match l, hne with
              | [], _ => rfl
              | [u], hne => exact absurd rfl (hne u)
              | _ :: _ :: _, _ => rfl
            · cases hr
          obtain ⟨vs, e1, rfl, rfl⟩ := hfin
          refine calls_of_wp hf hb (hS c _ x st ρ _ w _ hev (TR.start ha hl) hR hF rfl fun a' w' ρ' hT hR' hX hd => ?_)
          obtain ⟨v', r1, r2⟩ := results_sound hR' hT e1
          rcases hx with rfl | rfl
          · exact ⟨hd, v', r1, v', ρ', rfl, r2, hR', hX⟩
          · exact ⟨hd, v', r1, v', ρ', rfl, r2, hR', hX⟩
        split at he
        · rename_i st hst; exact fin _ _ hst (.inl rfl) he
        · rename_i st hst; exact fin _ _ hst (.inr rfl) he
        · cases he
      · cases he
    · cases he
  · cases he
/-- An operation, a call carried out. -/
theorem full_sound (hE : E.OK) (hS : Snd E n) {o : Oper} {tm : TM} {h h' : H} {a : Act} {v : Value} {K : Act → World → Prop} {Q : Exit → Act → World → Prop} (he : evFull E (ev E n) tm h o = some (v, h'))
    (hx : ∀ x ∈ o.op.operands.toList, OKo ρ tm a x) (hR : Rel ρ h w) (hF : Fr ρ h.next h'.next) (hK : ∀ v' w' ρ', VR ρ' v v' → Rel ρ' h' w' → Ext ρ ρ' h h' w w' → K (a.put o.dst v') w') : o.wp E.P a w K Q := by
  unfold evFull at he
  unfold Oper.wp
  split at he
  · rename_i u h1 hev
    cases he
    obtain ⟨v', w', ρ', e1, r1, r2, r3⟩ := evOp_sound hE hev hx hR hF
    rw [e1, Oper.upon_value]
    exact hK v' w' ρ' r1 r2 r3
  · rename_i h1 hev
    cases he
    obtain ⟨w', ρ', e1, r2, r3⟩ := evOp_sound hE hev hx hR hF
    rw [e1, Oper.upon_skip]
    exact hK undef w' ρ' (VR.undef ρ') r2 r3
  · rename_i f args h1 hev
    have q := evOp_sound hE hev hx hR
    have hh : h1 = h := by
      have q2 := evOp_enter hev
      exact q2
    obtain ⟨args', e1, r1, rfl⟩ := q (by rw [show (resH (Res.enter f args h1)) = h1 from rfl, hh]; exact fun b p q => by omega)
    rw [e1, Oper.upon_enter]
    refine (call_sound hE hS he r1 hR hF).mono ?_
    rintro e w' ⟨v', ρ', rfl, q1, q2, q3⟩
    exact hK v' w' ρ' q1 q2 q3
  · cases he
/-- A region in order. -/
theorem ops_sound (hE : E.OK) (hS : Snd E n) {ops : Array Oper} {Q : Exit → Act → World → Prop} : ∀ (l : List Oper) (k : Nat) (st st' : St) (ρ : Ren) (a : Act) (w : World), (∀ j, l[j]? = ops[k + j]?) → evOps E (ev E n) ops l st = some st' →
    TR ρ st.tm st.nt a → Rel ρ st.h w → Fr ρ st.h.next st'.h.next → a.defers = [] → (∀ a' w' ρ', TR ρ' st'.tm st'.nt a' → Rel ρ' st'.h w' → Ext ρ ρ' st.h st'.h w w' → a'.defers = [] → Q .normal a' w') → wpOps E.P ops Q (List.range' k l.length) a w
  | [], k, st, st', ρ, a, w, _, he, hT, hR, hF, hd, hQ => by
    cases he
    exact hQ a w ρ hT hR (Ext.refl _ _ _) hd
  | o :: l, k, st, st', ρ, a, w, hl, he, hT, hR, hF, hd, hQ => by
    have h0 : ops[k]? = some o := by simpa using (hl 0).symm
    have hl' : ∀ j, l[j]? = ops[k + 1 + j]? := fun j => by have := hl (j + 1); simpa [Nat.add_assoc, Nat.add_comm 1 j] using this
    rw [List.length_cons, List.range'_succ]
    simp only [wpOps, h0]
    rw [wanted_eq hT]
    simp only [evOps] at he
    split at he
    · rename_i hw
      rw [if_pos hw]
      left
      split at he
      · rename_i v h1 hf
        split at he
        · rename_i tm hp
          refine full_sound hE hS hf (fun x _ => hT.ok x) hR (hF.sub (Nat.le_refl _) (evOps_next (nm E n) he).next) fun v' w' ρ' hv hR' hX => ?_
          exact ops_sound hE hS l (k + 1) _ st' ρ' _ w' hl' he ((hT.mono hX.sub).put hp hv) hR' (hX.fr hF) (by cases o.dst <;> exact hd) fun a2 w2 ρ2 hT2 hR2 hX2 hd2 => hQ a2 w2 ρ2 hT2 hR2 (Ext.trans hF hR' hX hX2) hd2
        · cases he
      · cases he
    · rename_i hw
      rw [if_neg hw]
      split at he
      · rename_i tm hp
        exact ops_sound hE hS l (k + 1) _ st' ρ _ w hl' he (hT.put hp (VR.undef ρ)) hR hF (by cases o.dst <;> exact hd) hQ
      · cases he
end
end Go.Proofs.Ytknenadpkgajjaa.GEv
