/- What the evaluator does to its own memory: numbers only grow, what is not written stays, what is gone stays gone. -/
import Derived.Test.YtknenadpkgajjaaGEvK
namespace Go.Proofs.Ytknenadpkgajjaa.GEv
open Go
set_option linter.unusedSimpArgs false
set_option linter.unusedVariables false
def WF (h : H) : Prop := ∀ b, h.next ≤ b → h.m.get b = none
structure Gr (h h' : H) : Prop where
  next : h.next ≤ h'.next
  low : h'.low ≤ h.low
  wf : WF h → WF h'
  keep : ∀ b, b < h.next → b < h'.low → h'.m.get b = h.m.get b
  dead : WF h → ∀ b, b < h.next → h.m.get b = none → h'.m.get b = none
theorem Gr.refl (h : H) : Gr h h := ⟨Nat.le_refl _, Nat.le_refl _, fun q => q, fun _ _ _ => rfl, fun _ _ _ e => e⟩
theorem Gr.trans {a b c : H} (x : Gr a b) (y : Gr b c) : Gr a c :=
  ⟨Nat.le_trans x.next y.next, Nat.le_trans y.low x.low, fun q => y.wf (x.wf q), fun k p q => by
    rw [y.keep k (Nat.lt_of_lt_of_le p x.next) q, x.keep k p (Nat.lt_of_lt_of_le q y.low)], fun q k p e => y.dead (x.wf q) k (Nat.lt_of_lt_of_le p x.next) (x.dead q k p e)⟩
theorem Gr.push (h : H) (o : AObj) : Gr h (h.push o) := by
  refine ⟨Nat.le_succ _, Nat.le_refl _, fun q b hb => ?_, fun b p _ => ?_, fun _ b p e => ?_⟩
  · rw [push_next] at hb
    rw [push_get, if_neg (by omega)]
    exact q b (by omega)
  · rw [push_get, if_neg (by omega)]
  · rw [push_get, if_neg (by omega)]; exact e
theorem Gr.put (h : H) (b : Nat) (o : Option AObj) (hl : h.m.get b ≠ none ∨ o = none) : Gr h (h.put b o) := by
  refine ⟨Nat.le_refl _, (put_low_le h b o).2, fun q k hk => ?_, fun k p q => ?_, fun _ k p e => ?_⟩
  · rw [put_next] at hk
    rw [put_get]
    split
    · rename_i e
      subst e
      rcases hl with hl | hl
      · exact absurd (q k hk) hl
      · exact hl
    · exact q k hk
  · rw [put_get, if_neg (by have := (put_low_le h b o).1; omega)]
  · rw [put_get]
    split
    · rename_i q
      subst q
      rcases hl with hl | hl
      · exact absurd e hl
      · exact hl
    · exact e
theorem Gr.relow {h h1 : H} {n : Nat} (g : Gr { h with low := n } h1) : Gr h { h1 with low := if h1.low < h.low then h1.low else h.low } := by
  refine ⟨g.next, ?_, fun q => g.wf q, fun b p q => g.keep b p ?_, fun q b p e => g.dead q b p e⟩
  · show (if h1.low < h.low then h1.low else h.low) ≤ h.low
    split <;> omega
  · replace q : b < (if h1.low < h.low then h1.low else h.low) := q
    split at q <;> omega
section
variable {E : Env} {P : Program} {tm : TM} {h h' : H} {o : Oper} {r : Res}
theorem valR_next {v : Option Value} (e : valR h v = some r) : Gr h (resH r) := by
  cases v with
  | none => cases e
  | some v => cases e; exact Gr.refl _
theorem evPure_next (e : evPure P tm h o = some r) : Gr h (resH r) := by
  unfold evPure at e
  split at e
  · split at e
    · split at e
      · cases e; exact Gr.refl _
      · cases e
    · cases e
  · cases e
theorem write_gr {b off : Nat} {new : List Value} (e : h.write b off new = some h') : Gr h h' := by
  unfold H.write at e
  split at e
  · rename_i hg
    split at e
    · split at e
      · cases e; exact Gr.put _ _ _ (.inl (by rw [hg]; simp))
      · cases e
    · cases e
  · cases e
theorem store_next {t : TypeId} {a : Addr} {v : Value} (e : skipR (h.store P t a v) = some r) : Gr h (resH r) := by
  cases q : h.store P t a v with
  | none => rw [q] at e; cases e
  | some h1 =>
    rw [q] at e; cases e
    unfold H.store at q
    split at q
    · split at q
      · exact write_gr q
      · cases q
    · cases q
theorem append_next {sT : TypeId} {b : Bool} {s x : Value} (e : pairR (append P h sT b s x) = some r) : Gr h (resH r) := by
  cases q : append P h sT b s x with
  | none => rw [q] at e; cases e
  | some vh =>
    obtain ⟨v, h1⟩ := vh
    rw [q] at e; cases e
    unfold append at q
    split at q
    · split at q
      · split at q
        · split at q
          · split at q
            · split at q
              · unfold appendKnown at q
                split at q
                · split at q
                  · cases q; exact Gr.refl _
                  · split at q
                    · cases q; exact Gr.refl _
                    · split at q
                      · rename_i hw; cases q; exact write_gr hw
                      · cases q
                · split at q
                  · cases q; exact Gr.push _ _
                  · cases q
              · split at q
                · cases q
                · split at q
                  · unfold appendUnk at q
                    split at q
                    · cases q; exact Gr.refl _
                    · split at q
                      · split at q
                        · split at q
                          · split at q
                            · cases q; exact Gr.trans (Gr.put _ _ _ (.inr rfl)) (Gr.push _ _)
                            · cases q
                          · cases q
                        · cases q
                      · cases q
                  · cases q
            · cases q
          · cases q
        · cases q
      · cases q
    · cases q
theorem evUStr_next {pt : TypeId} {b : Addr} {n : Nat} (e : evUStr P h pt b n = some r) : Gr h (resH r) := by
  unfold evUStr at e
  (repeat' split at e) <;> first | (cases e; done) | (cases e; exact Gr.refl _) | (cases e; exact Gr.put _ _ _ (.inr rfl))
theorem evCopy_next {dT : TypeId} {d : Addr} {dn n c : Nat} {x : Option Addr} (e : evCopy P h dT d dn x n c = some r) : Gr h (resH r) := by
  unfold evCopy at e
  (repeat' split at e) <;> first | (cases e; done) | (cases e; exact Gr.refl _) | (rename_i hw; cases e; exact write_gr hw)
theorem evBuiltin_next {c : Call} {b : Builtin} {args : List Value} (e : evBuiltin P tm h o c b args = some r) : Gr h (resH r) := by
  unfold evBuiltin at e
  split at e
  · split at e
    · cases e; exact Gr.refl _
    · cases e
  · split at e
    · cases e; exact Gr.refl _
    · cases e
  · split at e
    · split at e
      · cases e; exact Gr.refl _
      · cases e
    · cases e
  · split at e
    · split at e
      · cases e
      · exact append_next e
      · cases e
    · cases e
  · split at e
    · split at e
      · split at e
        · split at e
          · cases e; exact Gr.refl _
          · split at e
            · rename_i hw; cases e; exact write_gr hw
            · cases e
        · cases e
      · cases e
    · cases e
  · split at e
    · cases e
    · cases e; exact Gr.refl _
  · split at e
    · exact evUStr_next e
    · cases e
  · split at e
    · exact evCopy_next e
    · cases e
  · exact evPure_next e
theorem evCall_next {f : Value} {args : List Value} (e : evCall E tm h o f args = some r) : Gr h (resH r) := by
  unfold evCall at e
  split at e
  · split at e
    · split at e
      · cases e; exact Gr.refl _
      · split at e
        · unfold evClone at e
          split at e
          · split at e
            · cases e; exact Gr.push _ _
            · cases e
          · cases e
        · split at e
          · unfold evSame at e
            split at e
            · cases e; exact Gr.refl _
            · cases e
          · split at e
            · unfold evRoom at e
              (repeat' split at e) <;> first | (cases e; done) | (cases e; exact Gr.push _ _)
            · exact evPure_next e
    · cases e
  · cases e
theorem evOp_next (e : evOp E tm h o = some r) : Gr h (resH r) := by
  obtain ⟨dst, op, ty, pos, after, guard⟩ := o
  cases op with
  | call c =>
    obtain ⟨callee, xs, argTypes⟩ := c
    cases callee with
    | value x =>
      simp only [evOp, hCall, hCallV, hCallB, hPick, hAlloc, hBox, hLoad, hStore, hNil, hFieldAddr, hField, hMakeFunc, hIface, hMakeMap, hExtract, hBuild, hBuildSlice, hIndexAddr, hMakeSlice, hSlice, hLookup, hMapUpd, hAssert, hConv, hOfBytes, hRange, hNext, hIdx, hGlob, hBin, hUn, hInt, hNilEq] at e
      split at e
      · exact evCall_next e
      · cases e
    | invoke x m => cases e
    | builtin b =>
      simp only [evOp, hCall, hCallV, hCallB, hPick, hAlloc, hBox, hLoad, hStore, hNil, hFieldAddr, hField, hMakeFunc, hIface, hMakeMap, hExtract, hBuild, hBuildSlice, hIndexAddr, hMakeSlice, hSlice, hLookup, hMapUpd, hAssert, hConv, hOfBytes, hRange, hNext, hIdx, hGlob, hBin, hUn, hInt, hNilEq] at e
      split at e
      · exact evBuiltin_next e
      · cases e
  | makeMap t o => cases o with
    | none => cases e; exact Gr.push _ _
    | some o => cases e
  | _ =>
    simp only [evOp, hCall, hCallV, hCallB, hPick, hAlloc, hBox, hLoad, hStore, hNil, hFieldAddr, hField, hMakeFunc, hIface, hMakeMap, hExtract, hBuild, hBuildSlice, hIndexAddr, hMakeSlice, hSlice, hLookup, hMapUpd, hAssert, hConv, hOfBytes, hRange, hNext, hIdx, hGlob, hBin, hUn, hInt, hNilEq] at e
    first
      | (cases e; done)
      | exact valR_next e
      | exact evPure_next e
      | (repeat' split at e) <;> first | (cases e; done) | exact valR_next e | exact evPure_next e | exact store_next e | (cases e; exact Gr.push _ _) | (cases e; exact Gr.refl _) | (cases e; exact Gr.put _ _ _ (.inl (by simp [*])))
theorem evPure_enter {f : FuncId} {args : List Value} (e : evPure P tm h o = some (.enter f args h')) : h' = h := by
  unfold evPure at e
  split at e
  · split at e
    · split at e <;> cases e
    · cases e
  · cases e
theorem evOp_enter {f : FuncId} {args : List Value} (e : evOp E tm h o = some (.enter f args h')) : h' = h := by
  obtain ⟨dst, op, ty, pos, after, guard⟩ := o
  cases op with
  | call c =>
    obtain ⟨callee, xs, argTypes⟩ := c
    cases callee with
    | value x =>
      simp only [evOp, hCall, hCallV, hCallB, hPick, hAlloc, hBox, hLoad, hStore, hNil, hFieldAddr, hField, hMakeFunc, hIface, hMakeMap, hExtract, hBuild, hBuildSlice, hIndexAddr, hMakeSlice, hSlice, hLookup, hMapUpd, hAssert, hConv, hOfBytes, hRange, hNext, hIdx, hGlob, hBin, hUn, hInt, hNilEq] at e
      split at e
      · unfold evCall at e
        split at e
        · split at e
          · split at e
            · cases e; rfl
            · split at e
              · unfold evClone at e
                split at e
                · split at e <;> cases e
                · cases e
              · split at e
                · unfold evSame at e
                  split at e <;> cases e
                · split at e
                  · unfold evRoom at e
                    (repeat' split at e) <;> cases e
                  · exact evPure_enter e
          · cases e
        · cases e
      · cases e
    | invoke x m => cases e
    | builtin b =>
      simp only [evOp, hCall, hCallV, hCallB, hPick, hAlloc, hBox, hLoad, hStore, hNil, hFieldAddr, hField, hMakeFunc, hIface, hMakeMap, hExtract, hBuild, hBuildSlice, hIndexAddr, hMakeSlice, hSlice, hLookup, hMapUpd, hAssert, hConv, hOfBytes, hRange, hNext, hIdx, hGlob, hBin, hUn, hInt, hNilEq] at e
      split at e
      · unfold evBuiltin at e
        split at e
        · split at e <;> cases e
        · split at e <;> cases e
        · split at e
          · split at e <;> cases e
          · cases e
        · split at e
          · split at e
            · cases e
            · unfold pairR at e; split at e <;> cases e
            · cases e
          · cases e
        · split at e
          · split at e
            · split at e
              · split at e
                · cases e
                · split at e <;> cases e
              · cases e
            · cases e
          · cases e
        · split at e <;> cases e
        · split at e
          · unfold evUStr at e
            (repeat' split at e) <;> cases e
          · cases e
        · split at e
          · unfold evCopy at e
            (repeat' split at e) <;> cases e
          · cases e
        · exact evPure_enter e
      · cases e
  | makeMap t o => cases o <;> cases e
  | _ =>
    simp only [evOp, hCall, hCallV, hCallB, hPick, hAlloc, hBox, hLoad, hStore, hNil, hFieldAddr, hField, hMakeFunc, hIface, hMakeMap, hExtract, hBuild, hBuildSlice, hIndexAddr, hMakeSlice, hSlice, hLookup, hMapUpd, hAssert, hConv, hOfBytes, hRange, hNext, hIdx, hGlob, hBin, hUn, hInt, hNilEq] at e
    first
      | (cases e; done)
      | exact evPure_enter e
      | (obtain ⟨v, _, q⟩ := valR_some e; cases q; done)
      | (repeat' split at e) <;> first | (cases e; done) | exact evPure_enter e | (obtain ⟨v, _, q⟩ := valR_some e; cases q; done) | (unfold skipR at e; split at e <;> cases e)
def NM (E : Env) (n : Nat) : Prop := ∀ (c : Code) (st : St) (x : X) (st' : St), ev E n c st = some (x, st') → Gr st.h st'.h
theorem puts_next : ∀ {l : List (Nat × AObj)} {h h' : H}, h.puts l = some h' → Gr h h'
  | [], h, h', e => by cases e; exact Gr.refl _
  | (b, o) :: r, h, h', e => by
    simp only [H.puts] at e
    split at e
    · rename_i q; exact Gr.trans (Gr.put _ _ _ (.inl (by rw [q]; simp))) (puts_next e)
    · cases e
theorem news_next : ∀ (l : List AObj) (h : H), Gr h (h.news l)
  | [], h => Gr.refl _
  | o :: r, h => Gr.trans (Gr.push _ _) (news_next r _)
theorem mOn_next {h h' : H} {r : MOut} {v : Value} (e : mOn h r = some (v, h')) : Gr h h' := by
  unfold mOn at e
  split at e
  · rename_i q; cases e; exact Gr.trans (puts_next q) (news_next _ _)
  · cases e
theorem memOf_next {E : Env} {f : FuncId} {args : List Value} {h : H} {r : Value × H} (e : memOf E f args h = some r) : Gr h r.2 := by
  unfold memOf mpOf at e
  (repeat' split at e) <;> first | (cases e; exact Gr.refl _) | exact mOn_next e | cases e
theorem evFun_next {n : Nat} (hN : NM E n) {f : FuncId} {args : List Value} {v : Value} (e : evFun E (ev E n) f args h = some (v, h')) : Gr h h' := by
  unfold evFun at e
  split at e
  · rename_i q; cases e; exact memOf_next q
  split at e
  · split at e
    · split at e
      · split at e
        · rename_i st hst
          have := hN _ _ _ _ hst
          split at e
          · cases e; exact this
          · cases e; exact this
          · cases e
        · rename_i st hst
          have := hN _ _ _ _ hst
          split at e
          · cases e; exact this
          · cases e; exact this
          · cases e
        · cases e
      · cases e
    · cases e
  · cases e
theorem evFull_next {n : Nat} (hN : NM E n) {v : Value} (e : evFull E (ev E n) tm h o = some (v, h')) : Gr h h' := by
  unfold evFull at e
  split at e
  · rename_i q; cases e; exact evOp_next q
  · rename_i q; cases e; exact evOp_next q
  · rename_i q; exact Gr.trans (evOp_next q) (evFun_next hN e)
  · cases e
theorem evOps_next {n : Nat} (hN : NM E n) {ops : Array Oper} : ∀ {l : List Oper} {st st' : St}, evOps E (ev E n) ops l st = some st' → Gr st.h st'.h
  | [], st, st', e => by cases e; exact Gr.refl _
  | o :: l, st, st', e => by
    simp only [evOps] at e
    split at e
    · split at e
      · rename_i hf
        split at e
        · exact Gr.trans (evFull_next hN hf) (evOps_next hN e)
        · cases e
      · cases e
    · split at e
      · have := evOps_next hN e; exact this
      · cases e
theorem evDraw_next {n : Nat} (hN : NM E n) {ops : Array Oper} {bef : List Nat} : ∀ {l : List Oper} {i : Nat} {seen : List (Nat × Foot)} {st st' : St}, evDraw E (ev E n) ops bef l i seen st = some st' → Gr st.h st'.h
  | [], i, seen, st, st', e => by cases e; exact Gr.refl _
  | o :: l, i, seen, st, st', e => by
    simp only [evDraw] at e
    split at e
    · split at e
      · rename_i hf
        have h1 := evFull_next hN hf
        split at e
        · split at e
          · exact Gr.trans h1.relow (evDraw_next hN e)
          · split at e
            · exact Gr.trans h1.relow (evDraw_next hN e)
            · cases e
        · cases e
      · cases e
    · split at e
      · have := evDraw_next hN e; exact this
      · cases e
theorem nm (E : Env) : ∀ n, NM E n
  | 0, c, st, x, st', e => by cases e
  | n + 1, c, st, x, st', e => by
    have ih := nm E n
    simp only [ev, step] at e
    split at e
    · cases e; exact Gr.refl _
    · cases q : evOps E (ev E n) _ _ st with
      | none => rw [q] at e; cases e
      | some s => rw [q] at e; cases e; exact evOps_next ih q
    · split at e
      · cases q : evDraw E (ev E n) _ _ _ 0 [] st with
        | none => rw [q] at e; cases e
        | some s => rw [q] at e; cases e; exact evDraw_next ih q
      · cases e
    · split at e
      · rename_i q; exact Gr.trans (ih _ _ _ _ q) (ih _ _ _ _ e)
      · exact ih _ _ _ _ e
    · split at e
      · exact ih _ _ _ _ e
      · exact ih _ _ _ _ e
      · cases e
    · split at e
      · rename_i q
        split at e
        · cases e; exact ih _ _ _ _ q
        · cases e; exact ih _ _ _ _ q
      · exact ih _ _ _ _ e
    · split at e
      · rename_i q; exact Gr.trans (ih _ _ _ _ q) (ih _ _ _ _ e)
      · exact ih _ _ _ _ e
    · cases e; exact Gr.refl _
    · cases e; exact Gr.refl _
    · cases e
end
end Go.Proofs.Ytknenadpkgajjaa.GEv
