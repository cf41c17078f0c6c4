/- The evaluator's soundness, tenth part: calls; every operation. -/
import Derived.Test.YtdgnemgbfgiccaaGreatGEvJ
namespace Go.Proofs.YtdgnemgbfgiccaaGreat.GEv
open Go
set_option linter.unusedSimpArgs false
set_option linter.unusedVariables false

section
variable {E : Env} {ρ : Ren} {tm : TM} {h : H} {a : Act} {w : World} {r : Res} {dst : Option Tmp} {ty : TypeId} {pos : String} {after : Array Edge} {guard : Option (Nat × Bool)}
theorem args1 {v : Value} {xs : Array Operand} (hv : VRL ρ [v] (xs.toList.map a.eval)) : ∃ v', xs.map a.eval = #[v'] ∧ VR ρ v v' := by
  obtain ⟨v', l', e, h1, h2⟩ := hv.uncons
  have := h2.eq_nil
  subst this
  exact ⟨v', Array.ext' (by simp [e]), h1⟩
theorem args2 {v u : Value} {xs : Array Operand} (hv : VRL ρ [v, u] (xs.toList.map a.eval)) : ∃ v' u', xs.map a.eval = #[v', u'] ∧ VR ρ v v' ∧ VR ρ u u' := by
  obtain ⟨v', l', e, h1, h2⟩ := hv.uncons
  obtain ⟨u', l'', rfl, h3, h4⟩ := h2.uncons
  have := h4.eq_nil
  subst this
  exact ⟨v', u', Array.ext' (by simp [e]), h1, h3⟩
theorem s_builtin {b : Builtin} {xs : Array Operand} {argTypes : Array TypeId} {args : List Value} (hev : evBuiltin E.P tm h ⟨dst, .call ⟨.builtin b, xs, argTypes⟩, ty, pos, after, guard⟩ ⟨.builtin b, xs, argTypes⟩ b args = some r)
    (ha : evList tm xs.toList = some args) (hx : ∀ x ∈ xs.toList, OKo ρ tm a x) (hR : Rel ρ h w) :
    Good E.P ρ h w ((execOp a.eval ⟨dst, .call ⟨.builtin b, xs, argTypes⟩, ty, pos, after, guard⟩).run E.P w) r := by
  have hv := evList_sound ha hx
  unfold evBuiltin at hev
  split at hev
  · rename_i b' n c
    split at hev
    · rename_i e he
      cases hev
      obtain ⟨v', e1, h1⟩ := args1 hv
      cases ht : argTypes[0]? with
      | none => simp only [ht] at he; cases he
      | some t =>
        simp only [ht, Option.bind_some] at he
        have g0 : (#[v'] : Array Value)[0]? = some v' := rfl
        refine Good.same hR (v' := goI n) ?_ (.int _ _)
        simp only [execOp, resolve, Sem.run_bind, Sem.run_pure, Result.andThen_ok, invoke, builtin, e1, Builtin.len_, ht, g0, run_und he]
        cases h1 <;> rfl
    · cases hev
  · rename_i rr
    split at hev
    · rename_i kt e he
      split at hev
      · rename_i es clock hg
        cases hev
        obtain ⟨v', e1, h1⟩ := args1 hv
        cases ht : argTypes[0]? with
        | none => simp only [ht] at he; cases he
        | some t =>
          simp only [ht, Option.bind_some] at he
          have g0 : (#[v'] : Array Value)[0]? = some v' := rfl
          obtain ⟨c, s, z, rfl, e2⟩ := inv_map h1
          obtain ⟨o, ho, es', rfl, hE⟩ := hR.ok rr _ c s z hg e2
          refine Good.same hR (v' := goI es.length) ?_ (.int _ _)
          have hsz : es'.size = es.length := by have := hE.1; simpa using this.symm
          simp only [execOp, resolve, Sem.run_bind, Sem.run_pure, Result.andThen_ok, invoke, builtin, e1, Builtin.len_, ht, g0, run_und he, run_getObj ho, hsz]
          rfl
      · cases hev
    · cases hev
  · rename_i s x
    split at hev
    · rename_i sT xT h0 h1
      split at hev
      · cases hev
      · rename_i d hni hd
        cases hap : append E.P h sT false s x with
        | none => rw [hap] at hev; cases hev
        | some vh =>
          obtain ⟨v, h'⟩ := vh
          rw [hap] at hev
          cases hev
          obtain ⟨s', x', e1, g1, g2⟩ := args2 hv
          intro hF
          obtain ⟨v', w', ρ', q1, q2⟩ := append_sound (ty := ty) h0 h1 hd (fun k q => by subst q; exact hni k rfl) hap g1 g2 hR hF
          exact ⟨v', w', ρ', by simp only [execOp, resolve, Sem.run_bind, Sem.run_pure, Result.andThen_ok, invoke, builtin, e1, q1], q2⟩
      · cases hev
    · cases hev
  · rename_i b n c
    split at hev
    · rename_i e he
      split at hev
      · rename_i z size hz hsz
        split at hev
        · rename_i hc
          obtain ⟨hc1, hc2, hc3⟩ := hc
          obtain ⟨v', e1, h1⟩ := args1 hv
          obtain ⟨b', c', rfl, hS⟩ := inv_slice h1
          cases ht : argTypes[0]? with
          | none => simp only [ht] at he; cases he
          | some t =>
            simp only [ht, Option.bind_some] at he
            have g0 : (#[Value.slice (some b') n c'] : Array Value)[0]? = some (.slice (some b') n c') := rfl
            split at hev
            · rename_i hn
              cases hev
              subst hn
              refine Good.same hR (v' := .tuple #[]) ?_ (VR.undef ρ)
              simp only [execOp, resolve, Sem.run_bind, Sem.run_pure, Result.andThen_ok, invoke, builtin, e1, Builtin.clear_, ht, g0, run_und he]
            · rename_i hn
              split at hev
              · rename_i h' hw
                cases hev
                rcases hS.addr with ⟨c2, s2, z2, q1, rfl, _⟩ | ⟨q1, q2⟩
                · have hzs : z.cells.size = size := by simpa using hc1
                  have hzv : VRL ρ (rep z.cells.toList n) (Builtin.zeroCells z.cells n).toList := by
                    have : (Builtin.zeroCells z.cells n).toList = rep z.cells.toList n := range_rep z.cells n (by omega)
                    rw [this]
                    exact (VR.flat1 ρ (zero_eq hz).1).cells.rep n
                  obtain ⟨w', r1, r2⟩ := write_sound hR hw q1 hzv
                  refine fun _ => ⟨.tuple #[], w', ρ, ?_, VR.undef ρ, r2⟩
                  obtain ⟨m, rfl⟩ : ∃ m, n = m + 1 := ⟨n - 1, by omega⟩
                  simp only [execOp, resolve, Sem.run_bind, Sem.run_pure, Result.andThen_ok, invoke, builtin, e1, Builtin.clear_, ht, g0, run_und he, run_zero hz, r1 E.P]
                · exact absurd q1 hn
              · cases hev
        · cases hev
      · cases hev
    · cases hev
  · exact s_pure hev (fun x hx' => hx x (by simpa [Op.operands, Call.operands] using hx')) (fun cs b q => by cases q) hR

theorem run_callFunc {P : Program} {f : FuncId} {fn : Func} {c : Code} (hf : P.funcs[f]? = some fn) (hn : (fn.name == "runtime.NumGoroutine") = false) (hb : fn.body = some c) (args : Array Value) :
    (callFunc f args).run P w = .ok (.enter f args) w := by
  have hn' : fn.name ≠ "runtime.NumGoroutine" := by simpa using hn
  simp [callFunc, hf, hn', hb]
theorem run_clone {P : Program} {t : TypeId} {c clock : Nat} {es : Array MapEntry} (h : w.heap[c]? = some (.map es clock)) :
    (Extern.MapsClone.clone #[.iface t (.map (some c))]).run P w = .ok (.iface t (.map (some w.heap.size))) { w with heap := w.heap.push (.map es clock) } := by
  change ((getObj c >>= fun o => match o with
    | .map entries clock => (newObj (.map entries clock) >>= fun r => pure (.iface t (.map (some r))) : Sem Value)
    | _ => stuck "maps.clone: a map expected") : Sem Value).run P w = _
  simp only [Sem.run_bind, run_getObj h, Result.andThen_ok, run_newObj, Sem.run_pure]
theorem s_callV (hE : E.OK) {x : Operand} {xs : Array Operand} {argTypes : Array TypeId} {fv : Value} {args : List Value} (hev : evCall E tm h ⟨dst, .call ⟨.value x, xs, argTypes⟩, ty, pos, after, guard⟩ fv args = some r)
    (hfv : evA tm x = some fv) (ha : evList tm xs.toList = some args) (hx0 : OKo ρ tm a x) (hx : ∀ x ∈ xs.toList, OKo ρ tm a x) (hR : Rel ρ h w) :
    Good E.P ρ h w ((execOp a.eval ⟨dst, .call ⟨.value x, xs, argTypes⟩, ty, pos, after, guard⟩).run E.P w) r := by
  have hv := evList_sound ha hx
  unfold evCall at hev
  split at hev
  · rename_i f first captured
    obtain ⟨first', captured', ef, hfi, hca⟩ := inv_func (evA_sound hfv hx0)
    have hargs : VRL ρ (first.toList ++ args ++ captured.toList) (first'.toList ++ xs.toList.map a.eval ++ captured'.toList) := (hfi.append hv).append hca
    have harr : first' ++ xs.map a.eval ++ captured' = (first'.toList ++ xs.toList.map a.eval ++ captured'.toList).toArray := Array.ext' (by simp)
    split at hev
    · rename_i fn hf
      split at hev
      · rename_i c hb
        cases hev
        refine fun _ => ⟨first'.toList ++ xs.toList.map a.eval ++ captured'.toList, ?_, hargs, rfl⟩
        simp only [execOp, resolve, Deferred.ofValue, ef, Sem.run_bind, Sem.run_pure, Result.andThen_ok, invoke, run_callFunc hf (hE.names f fn hf) hb, harr]
      · split at hev
        · rename_i hcl
          unfold evClone at hev
          split at hev
          · rename_i t rr heq
            split at hev
            · rename_i es clock hg
              cases hev
              rw [heq] at hargs
              obtain ⟨v', l', e1, q1, q2⟩ := hargs.uncons
              have := q2.eq_nil
              subst this
              obtain ⟨m', rfl, q3⟩ := inv_iface q1
              obtain ⟨c, s, z, rfl, e2⟩ := inv_map q3
              obtain ⟨o, ho, es', rfl, hEr⟩ := hR.ok rr _ c s z hg e2
              intro hF
              have := hR.push (w' := { w with heap := w.heap.push (.map es' clock) }) (hF _ (Nat.le_refl _) (Nat.lt_succ_self _)) (.map es clock) (.map es' clock) 0 0 ⟨es', rfl, hEr⟩ rfl rfl rfl rfl
              refine ⟨.iface t (.map (some w.heap.size)), _, _, ?_, .iface (.map (rput_self _ _ _)), this⟩
              simp only [execOp, resolve, Deferred.ofValue, ef, Sem.run_bind, Sem.run_pure, Result.andThen_ok, invoke, harr, e1, hE.clone f hcl, run_clone ho]
            · cases hev
          · cases hev
        · exact s_pure hev (fun y hy => by
            simp only [Op.operands, Call.operands, Array.toList_append, List.mem_append] at hy
            rcases hy with hy | hy
            · simp at hy; subst hy; exact hx0
            · exact hx y hy) (fun cs b q => by cases q) hR
    · cases hev
  · cases hev

/-- **Every operation.** -/
theorem evOp_sound (hE : E.OK) {o : Oper} (hev : evOp E tm h o = some r) (hx : ∀ x ∈ o.op.operands.toList, OKo ρ tm a x) (hR : Rel ρ h w) : Good E.P ρ h w ((execOp a.eval o).run E.P w) r := by
  obtain ⟨dst, op, ty, pos, after, guard⟩ := o
  cases op with
  | move x => exact s_move hev (hx x (by simp [Op.operands])) hR
  | assign x => exact s_assign hev (hx x (by simp [Op.operands])) hR
  | pick c x y => exact s_pick hev (hx c (by simp [Op.operands])) (hx x (by simp [Op.operands])) (hx y (by simp [Op.operands])) hR
  | alloc e => exact s_alloc hev hR
  | box e x => exact s_box hev (hx x (by simp [Op.operands])) hR
  | build t ps => exact s_build hev (fun x hx' => hx x.2 (by simp only [Op.operands, List.mem_map]; exact ⟨x, hx', rfl⟩)) hR
  | buildSlice t len ps => exact s_buildSlice hev (fun x hx' => hx x.2 (by simp only [Op.operands, List.mem_map]; exact ⟨x, hx', rfl⟩)) hR
  | insert t x k v => exact s_insert hev (hx x (by simp [Op.operands])) (hx k (by simp [Op.operands])) (hx v (by simp [Op.operands])) hR
  | load t x => exact s_load hev (hx x (by simp [Op.operands])) hR
  | store t x y => exact s_store hev (hx x (by simp [Op.operands])) (hx y (by simp [Op.operands])) hR
  | ready g => cases hev
  | waits g => cases hev
  | nilCheck x => exact s_nilCheck hev (hx x (by simp [Op.operands])) hR
  | binOp op t x y yt => exact s_binOp hev (hx x (by simp [Op.operands])) (hx y (by simp [Op.operands])) hR
  | unOp op t x => exact s_unOp hev (hx x (by simp [Op.operands])) hR
  | convert s t x => exact s_pure hev hx (fun cs b q => by cases q) hR
  | sliceToArrayPointer t x => cases hev
  | makeInterface t x => exact s_makeInterface hev (hx x (by simp [Op.operands])) hR
  | makeFunc fn f c => exact s_makeFunc hev (fun x hx' => hx x (by simp [Op.operands]; exact .inl (by simpa using hx'))) (fun x hx' => hx x (by simp [Op.operands]; exact .inr (by simpa using hx'))) hR
  | makeMap t o => cases o with
    | none => exact s_makeMap hev hR
    | some o => cases hev
  | makeChan t x => cases hev
  | makeSlice t l c => exact s_makeSlice hev (hx l (by simp [Op.operands])) (hx c (by simp [Op.operands])) hR
  | slice t x lo hi mx => exact s_slice hev hx hR
  | fieldAddr s x i => exact s_fieldAddr hev (hx x (by simp [Op.operands])) hR
  | field t x i => exact s_field hev (hx x (by simp [Op.operands])) hR
  | indexAddr t x i => exact s_indexAddr hev (hx x (by simp [Op.operands])) (hx i (by simp [Op.operands])) hR
  | index t x i => exact s_pure hev hx (fun cs b q => by cases q) hR
  | lookup t x k ok => exact s_lookup hev (hx x (by simp [Op.operands])) (hx k (by simp [Op.operands])) hR
  | mapUpdate t x k v => exact s_mapUpdate hev (hx x (by simp [Op.operands])) (hx k (by simp [Op.operands])) (hx v (by simp [Op.operands])) hR
  | mapEntry t x k => cases hev
  | entryStore t x k v => cases hev
  | range t x => cases hev
  | next x s => cases hev
  | entry x => cases hev
  | typeAssert x t u ok => exact s_typeAssert hev (hx x (by simp [Op.operands])) hR
  | extract x i => exact s_extract hev (hx x (by simp [Op.operands])) hR
  | call c =>
    obtain ⟨callee, xs, argTypes⟩ := c
    cases callee with
    | value x =>
      simp only [evOp, hCall, hCallV] at hev
      split at hev
      · rename_i fv args hfv ha
        exact s_callV hE hev hfv ha (hx x (by simp [Op.operands, Call.operands])) (fun y hy => hx y (by simp only [Op.operands, Call.operands, Array.toList_append, List.mem_append]; exact .inr hy)) hR
      · cases hev
    | invoke x m => cases hev
    | builtin b =>
      simp only [evOp, hCall, hCallB] at hev
      split at hev
      · rename_i args ha
        exact s_builtin hev ha (fun y hy => hx y (by simpa [Op.operands, Call.operands] using hy)) hR
      · cases hev
  | go c => cases hev
  | defer c => cases hev
  | panic x => cases hev
  | send c x => cases hev
  | recv t c ok => cases hev
  | select cs b => cases hev
end
end Go.Proofs.YtdgnemgbfgiccaaGreat.GEv
