/- The evaluator's soundness, fourth part: operations that build, load and store. -/
import Derived.Test.YtknenadpkgajjaaGEvD
namespace Go.Proofs.Ytknenadpkgajjaa.GEv
open Go
set_option linter.unusedSimpArgs false
set_option linter.unusedVariables false

def OKo (ρ : Ren) (tm : TM) (a : Act) : Operand → Prop
  | .tmp t => VR ρ ((tm.get t).getD undef) (a.tmps.getD t undef)
  | _ => True
theorem evA_sound {ρ : Ren} {tm : TM} {a : Act} {x : Operand} {v : Value} (h : evA tm x = some v) (hx : OKo ρ tm a x) : VR ρ v (a.eval x) := by
  cases x with
  | tmp t => simp only [evA, Option.some.injEq] at h; subst h; exact hx
  | const c =>
    simp only [evA] at h
    split at h
    · rename_i hf; cases h; exact VR.flat2 ρ hf
    · cases h
  | global g => cases h
  | func f => cases h; exact VR.flat2 ρ rfl
theorem evA'_sound {ρ : Ren} {tm : TM} {a : Act} {x : Operand} {v : Value} (h : evA tm x = some v) (hx : OKo ρ tm a x) : evA' tm x = v := by simp [evA', h]
theorem evList_sound {ρ : Ren} {tm : TM} {a : Act} : ∀ {l : List Operand} {vs : List Value}, evList tm l = some vs → (∀ x ∈ l, OKo ρ tm a x) → VRL ρ vs (l.map a.eval)
  | [], vs, h, _ => by cases h; exact VRL.nil ρ
  | x :: l, vs, h, hx => by
    simp only [evList] at h
    split at h
    · rename_i v l' hv hl
      cases h
      exact (evList_sound hl fun y hy => hx y (List.mem_cons_of_mem _ hy)).cons (evA_sound hv (hx x (List.mem_cons_self ..)))
    · cases h
def PRL (ρ : Ren) : List (Nat × Value) → List (Nat × Value) → Prop
  | [], [] => True
  | (i, v) :: l, (j, v') :: l' => i = j ∧ VR ρ v v' ∧ PRL ρ l l'
  | _, _ => False
theorem evParts_sound {ρ : Ren} {tm : TM} {a : Act} : ∀ {l : List (Nat × Operand)} {vs : List (Nat × Value)}, evParts tm l = some vs → (∀ x ∈ l, OKo ρ tm a x.2) →
    PRL ρ vs (l.map fun p => (p.1, a.eval p.2))
  | [], vs, h, _ => by cases h; trivial
  | (i, x) :: l, vs, h, hx => by
    simp only [evParts] at h
    split at h
    · rename_i v l' hv hl
      cases h
      exact ⟨rfl, evA_sound hv (hx (i, x) (List.mem_cons_self ..)), evParts_sound hl fun y hy => hx y (List.mem_cons_of_mem _ hy)⟩
    · cases h

/-! ### a row that is filled -/
theorem fold_over (off : Nat) : ∀ (vs : List Value) (k : Nat) (cs : Array Value), off + k + vs.length ≤ cs.size →
    ((vs.zipIdx k).foldl (fun cs (x : Value × Nat) => cs.setIfInBounds (off + x.2) x.1) cs).toList = over cs.toList (off + k) vs
  | [], k, cs, _ => by rw [over_nil]; rfl
  | v :: vs, k, cs, h => by
    simp only [List.length_cons] at h
    rw [List.zipIdx_cons, List.foldl_cons, fold_over off vs (k + 1) _ (by simp; omega)]
    apply List.ext_getElem?
    intro i
    rw [over_get (l := (cs.setIfInBounds (off + k) v).toList) (new := vs) (off := off + (k + 1)) (by simp only [Array.toList_setIfInBounds, List.length_set, Array.length_toList]; omega) i,
      over_get (l := cs.toList) (new := v :: vs) (off := off + k) (by simp only [Array.length_toList]; omega) i]
    simp only [List.length_cons, Array.toList_setIfInBounds, List.getElem?_set]
    by_cases a : i < off + k
    · rw [if_pos (show i < off + (k + 1) by omega), if_pos a, if_neg (show ¬ off + k = i by omega)]
    · by_cases b : i = off + k
      · subst b
        rw [if_pos (show off + k < off + (k + 1) by omega), if_neg (Nat.lt_irrefl (off + k)), if_pos (show off + k < off + k + (vs.length + 1) by omega)]
        have : off + k < cs.size := by omega
        simp [this]
      · rw [if_neg (show ¬ i < off + (k + 1) by omega), if_neg a]
        by_cases d : i < off + (k + 1) + vs.length
        · rw [if_pos d, if_pos (show i < off + k + (vs.length + 1) by omega)]
          obtain ⟨q, hq⟩ : ∃ q, i - (off + k) = q + 1 := ⟨i - (off + k) - 1, by omega⟩
          rw [hq, List.getElem?_cons_succ]
          congr 1; omega
        · rw [if_neg d, if_neg (show ¬ i < off + k + (vs.length + 1) by omega), if_neg (show ¬ off + k = i by omega)]
theorem fill_sound {ρ : Ren} (place : Nat → Option (Nat × Nat)) : ∀ {parts parts' : List (Nat × Value)} {cl r : List Value} {c' : Array Value}, fillL place cl parts = some r →
    PRL ρ parts parts' → VRL ρ cl c'.toList → ∃ r', Instr.fill place c' parts' = some r' ∧ VRL ρ r r'.toList
  | [], [], cl, r, c', h, _, hc => by cases h; exact ⟨c', rfl, hc⟩
  | (i, v) :: ps, (j, v') :: ps', cl, r, c', h, ⟨hij, hv, hp⟩, hc => by
    subst hij
    simp only [fillL] at h
    cases hpl : place i with
    | none => rw [hpl] at h; cases h
    | some x =>
      obtain ⟨off, size⟩ := x
      rw [hpl] at h
      simp only at h
      split at h
      · rename_i hb
        have hcs := hv.cells
        have hl : v'.cells.size = v.cells.toList.length := by have := hcs.1; simp only [Array.length_toList] at this ⊢; omega
        have hcl : c'.size = cl.length := by have := hc.1; simpa using this.symm
        simp only [Instr.fill, hpl]
        rw [if_neg (by simp only [hl, hcl, ne_eq, gt_iff_lt, Bool.or_eq_true, decide_eq_true_eq, not_or]; omega)]
        refine fill_sound place h hp ?_
        have := fold_over off v'.cells.toList 0 c' (by simp only [Array.length_toList]; omega)
        rw [← Array.foldl_toList, Array.toList_zipIdx, this]
        exact hc.over hcs off
      · cases h
  | [], _ :: _, _, _, _, _, h, _ => h.elim
  | _ :: _, [], _, _, _, _, h, _ => h.elim

/-! ### what is to be shown of an operation -/
def resH : Res → H
  | .val _ h => h
  | .skip h => h
  | .enter _ _ h => h
def Good (P : Program) (ρ : Ren) (h : H) (w : World) (run : Result Next) (r : Res) : Prop := Fr ρ h.next (resH r).next → match r with
  | .val v h' => ∃ v' w' ρ', run = .ok (.value v') w' ∧ VR ρ' v v' ∧ Rel ρ' h' w' ∧ Ext ρ ρ' h h' w w'
  | .skip h' => ∃ w' ρ', run = .ok .skip w' ∧ Rel ρ' h' w' ∧ Ext ρ ρ' h h' w w'
  | .enter f args h' => ∃ args' : List Value, run = .ok (.enter f args'.toArray) w ∧ VRL ρ args args' ∧ h' = h
structure Env.OK (E : Env) : Prop where
  memo : ∀ (f : FuncId) (p : Prim) (args : List Value) (v : Value), (f, p) ∈ E.memo → p args = some v → args.all flat2 = true ∧ flat2 v = true ∧ ∀ w, WOK w → GN ≤ w.heap.size → Calls E.P f args.toArray w fun e w' => e = .returned v ∧ Go.RowKit.Below w.heap.size w w'
  mem : ∀ (f : FuncId) (p : MPrim) (args : List Value) (h : H) (r : MOut) (v : Value) (h' : H), (f, p) ∈ E.mem → p args h = some r → mOn h r = some (v, h') → ∀ (ρ : Ren) (args' : List Value) (w : World), VRL ρ args args' → Rel ρ h w → Fr ρ h.next h'.next →
    Calls E.P f args'.toArray w fun e w' => ∃ v' ρ', e = .returned v' ∧ VR ρ' v v' ∧ Rel ρ' h' w' ∧ Ext ρ ρ' h h' w w'
  mixed : E.P.follows .mixedOrders = true
  names : ∀ (f : FuncId) (fn : Func), E.P.funcs[f]? = some fn → (fn.name == "runtime.NumGoroutine") = false
  clone : ∀ (f : FuncId), E.clone = some f → ∀ (args : Array Value) (w : World), (callFunc f args).run E.P w = ((Extern.MapsClone.clone args).run E.P w).andThen fun v w' => .ok (.value v) w'
  same : ∀ (f : FuncId), E.same = some f → ∀ (args : Array Value) (w : World), (callFunc f args).run E.P w = ((Extern.AbiNoEscape.same args).run E.P w).andThen fun v w' => .ok (.value v) w'
  room : ∀ (f : FuncId) (fn : Func), E.room = some f → E.P.funcs[f]? = some fn → ∀ (args : Array Value) (w : World), (callFunc f args).run E.P w = ((Extern.BytealgMakeNoZero.makeNoZero fn.params fn.resultTypes args).run E.P w).andThen fun v w' => .ok (.value v) w'

section
variable {E : Env} {ρ : Ren} {tm : TM} {h : H} {a : Act} {w : World} {r : Res} {dst : Option Tmp} {ty : TypeId} {pos : String} {after : Array Edge} {guard : Option (Nat × Bool)}
theorem Good.same (hR : Rel ρ h w) {v v' : Value} {run : Result Next} (hr : run = .ok (.value v') w) (hv : VR ρ v v') : Good E.P ρ h w run (.val v h) := fun _ => ⟨v', w, ρ, hr, hv, hR, Ext.refl ρ h w⟩
theorem valR_some {o : Option Value} {r : Res} (h' : valR h o = some r) : ∃ v, o = some v ∧ r = .val v h := by
  cases o with
  | none => cases h'
  | some v => cases h'; exact ⟨v, rfl, rfl⟩

theorem s_move {x : Operand} (hev : evOp E tm h ⟨dst, .move x, ty, pos, after, guard⟩ = some r) (hx : OKo ρ tm a x) (hR : Rel ρ h w) :
    Good E.P ρ h w ((execOp a.eval ⟨dst, .move x, ty, pos, after, guard⟩).run E.P w) r := by
  simp only [evOp] at hev
  obtain ⟨v, hv, rfl⟩ := valR_some hev
  exact Good.same hR (by simp [execOp]) (evA_sound hv hx)
theorem s_assign {x : Operand} (hev : evOp E tm h ⟨dst, .assign x, ty, pos, after, guard⟩ = some r) (hx : OKo ρ tm a x) (hR : Rel ρ h w) :
    Good E.P ρ h w ((execOp a.eval ⟨dst, .assign x, ty, pos, after, guard⟩).run E.P w) r := by
  simp only [evOp] at hev
  obtain ⟨v, hv, rfl⟩ := valR_some hev
  exact Good.same hR (by simp [execOp]) (evA_sound hv hx)
theorem inv_bool {b : Bool} {u : Value} (h : VR ρ (.bool b) u) : u = .bool b := by cases h; rfl
theorem inv_int {k : IntKind} {n : Int} {u : Value} (h : VR ρ (.int k n) u) : u = .int k n := by cases h; rfl
theorem inv_ptr {x : Addr} {u : Value} (h : VR ρ (.pointer (some x)) u) : ∃ x', u = .pointer (some x') ∧ AR ρ x x' := by cases h; exact ⟨_, rfl, ‹_›⟩
theorem inv_slice {x : Addr} {l c : Nat} {u : Value} (h : VR ρ (.slice (some x) l c) u) : ∃ x' c', u = .slice (some x') l c' ∧ SR ρ x l c x' c' := by cases h; exact ⟨_, _, rfl, ‹_›⟩
theorem inv_snil {l c : Nat} {u : Value} (h : VR ρ (.slice none l c) u) : u = .slice none l c := by cases h; rfl
theorem inv_agg {cs : Array Value} {u : Value} (h : VR ρ (.agg cs) u) : ∃ cs', u = .agg cs' ∧ VRL ρ cs.toList cs'.toList := by
  cases h with
  | agg a b => exact ⟨_, rfl, VRL.ofA a b⟩
theorem inv_tuple {cs : Array Value} {u : Value} (h : VR ρ (.tuple cs) u) : ∃ cs', u = .tuple cs' ∧ VRL ρ cs.toList cs'.toList := by
  cases h with
  | tuple a b => exact ⟨_, rfl, VRL.ofA a b⟩
theorem inv_func {fn : Fn} {f c : Array Value} {u : Value} (h : VR ρ (.func fn f c) u) : ∃ f' c', u = .func fn f' c' ∧ VRL ρ f.toList f'.toList ∧ VRL ρ c.toList c'.toList := by
  cases h with
  | func a b c d => exact ⟨_, _, rfl, VRL.ofA a c, VRL.ofA b d⟩

theorem s_pick {c x y : Operand} (hev : evOp E tm h ⟨dst, .pick c x y, ty, pos, after, guard⟩ = some r) (hc : OKo ρ tm a c) (hx : OKo ρ tm a x) (hy : OKo ρ tm a y) (hR : Rel ρ h w) :
    Good E.P ρ h w ((execOp a.eval ⟨dst, .pick c x y, ty, pos, after, guard⟩).run E.P w) r := by
  simp only [evOp, hPick] at hev
  split at hev
  · rename_i t ht
    obtain ⟨v, hv, rfl⟩ := valR_some hev
    have hb := inv_bool (evA_sound ht hc)
    cases t with
    | true => exact Good.same hR (by simp [execOp, hb, asBool]) (evA_sound (by simpa using hv) hx)
    | false => exact Good.same hR (by simp [execOp, hb, asBool]) (evA_sound (by simpa using hv) hy)
  · cases hev

/-- A new row of cells. -/
theorem new_sound (hR : Rel ρ h w) (hf : ρ h.next = none) {cl : List Value} {c' : Array Value} (hc : VRL ρ cl c'.toList) (e : TypeId) :
    Rel (rput ρ h.next (w.heap.size, 0, c'.size)) (h.push (.cells cl (some e) true 0)) { w with heap := w.heap.push (.cells c' e) } ∧
    Ext ρ (rput ρ h.next (w.heap.size, 0, c'.size)) h (h.push (.cells cl (some e) true 0)) w { w with heap := w.heap.push (.cells c' e) } := by
  have hl : cl.length = c'.size := by have := hc.1; simpa using this
  refine hR.push hf _ _ _ _ ⟨c', e, (0, 0), rfl, rfl, fun e' q => by cases q; rfl, by omega, fun _ => ⟨rfl, hl⟩, fun i _ q => by simp at q, ?_⟩ rfl rfl rfl rfl
  rw [List.drop_zero, hl, List.take_of_length_le (by simp)]
  exact hc
theorem new_ptr (ρ : Ren) (b c z : Nat) : VR (rput ρ b (c, 0, z)) (.pointer (some ⟨b, 0, none⟩)) (.pointer (some ⟨c, 0, none⟩)) :=
  .ptr ⟨rfl, c, 0, z, rput_self _ _ _, rfl⟩
theorem new_slice (ρ : Ren) (b c z l k : Nat) (hl : l ≤ k) (hk : k < UNK) : VR (rput ρ b (c, 0, z)) (.slice (some ⟨b, 0, none⟩) l k) (.slice (some ⟨c, 0, none⟩) l k) :=
  .slice ⟨rfl, .inr rfl, hl, fun _ => rfl, .inl ⟨c, 0, z, rput_self _ _ _, rfl, rfl, fun h => absurd hk (Nat.not_lt.2 h)⟩⟩

theorem s_alloc {e : TypeId} (hev : evOp E tm h ⟨dst, .alloc e, ty, pos, after, guard⟩ = some r) (hR : Rel ρ h w) :
    Good E.P ρ h w ((execOp a.eval ⟨dst, .alloc e, ty, pos, after, guard⟩).run E.P w) r := by
  simp only [evOp, hAlloc] at hev
  split at hev
  · rename_i z hz
    cases hev
    intro hF
    have hf := VR.flat1 ρ (zero_eq hz).1
    have := new_sound hR (hF _ (Nat.le_refl _) (Nat.lt_succ_self _)) hf.cells e
    exact ⟨_, _, _, by simp [execOp, Instr.alloc, run_zero hz, newVar, newRow], new_ptr _ _ _ _, this⟩
  · cases hev
theorem s_box {e : TypeId} {x : Operand} (hev : evOp E tm h ⟨dst, .box e x, ty, pos, after, guard⟩ = some r) (hx : OKo ρ tm a x) (hR : Rel ρ h w) :
    Good E.P ρ h w ((execOp a.eval ⟨dst, .box e x, ty, pos, after, guard⟩).run E.P w) r := by
  simp only [evOp, hBox] at hev
  split at hev
  · rename_i v hv
    cases hev
    intro hF
    have hf := evA_sound hv hx
    have := new_sound hR (hF _ (Nat.le_refl _) (Nat.lt_succ_self _)) hf.cells e
    exact ⟨_, _, _, by simp [execOp, Instr.box, newVar, newRow], new_ptr _ _ _ _, this⟩
  · cases hev
theorem s_load {t : TypeId} {x : Operand} (hev : evOp E tm h ⟨dst, .load t x, ty, pos, after, guard⟩ = some r) (hx : OKo ρ tm a x) (hR : Rel ρ h w) :
    Good E.P ρ h w ((execOp a.eval ⟨dst, .load t x, ty, pos, after, guard⟩).run E.P w) r := by
  simp only [evOp, hLoad] at hev
  split at hev
  · rename_i b hb
    obtain ⟨v, hv, rfl⟩ := valR_some hev
    obtain ⟨b', e, hA⟩ := inv_ptr (evA_sound hb hx)
    obtain ⟨v', h1, h2⟩ := load_sound hR hv hA
    exact Good.same hR (by simp [execOp, Instr.loadAt, e, Instr.sureAddr, h1]) h2
  · rename_i hne
    unfold hGlob at hev
    clear hne
    split at hev
    · rename_i g
      split at hev
      · rename_i hg ht
        cases hev
        obtain ⟨v', hc, ho⟩ := hR.glob.wok.cell hg
        have hrun : (loadVar t ⟨g, 0, none⟩).run E.P w = .ok v' w := by
          simp only [loadVar, Sem.run_bind, run_agg ht, Result.andThen_ok, Bool.false_eq_true, if_false]
          simp [load, Sem.run, hc]
        have e : a.eval (.global g) = .pointer (some ⟨g, 0, none⟩) := rfl
        exact Good.same hR (by simp [execOp, Instr.loadAt, e, Instr.sureAddr, hrun]) (.any ho)
      · cases hev
    · cases hev
theorem s_store {t : TypeId} {x y : Operand} (hev : evOp E tm h ⟨dst, .store t x y, ty, pos, after, guard⟩ = some r) (hx : OKo ρ tm a x) (hy : OKo ρ tm a y) (hR : Rel ρ h w) :
    Good E.P ρ h w ((execOp a.eval ⟨dst, .store t x y, ty, pos, after, guard⟩).run E.P w) r := by
  simp only [evOp, hStore] at hev
  split at hev
  · rename_i b v hb hv
    cases hs : h.store E.P t b v with
    | none => rw [hs] at hev; cases hev
    | some h' =>
      rw [hs] at hev; cases hev
      obtain ⟨b', e, hA⟩ := inv_ptr (evA_sound hb hx)
      obtain ⟨w', h1, h2⟩ := store_sound hR hs hA (evA_sound hv hy)
      exact fun _ => ⟨w', ρ, by simp [execOp, Instr.storeAt, e, Instr.sureAddr, h1], h2⟩
  · cases hev
theorem s_nilCheck {x : Operand} (hev : evOp E tm h ⟨dst, .nilCheck x, ty, pos, after, guard⟩ = some r) (hx : OKo ρ tm a x) (hR : Rel ρ h w) :
    Good E.P ρ h w ((execOp a.eval ⟨dst, .nilCheck x, ty, pos, after, guard⟩).run E.P w) r := by
  simp only [evOp, hNil] at hev
  split at hev
  · rename_i b hb
    cases hev
    obtain ⟨b', e, hA⟩ := inv_ptr (evA_sound hb hx)
    exact Good.same hR (by simp [execOp, e]) (.ptr hA)
  · rename_i f b c hb
    cases hev
    have hv := evA_sound hb hx
    obtain ⟨f', c', e, _⟩ := inv_func hv
    rw [e] at hv
    exact Good.same hR (by simp [execOp, e]) hv
  · cases hev
theorem s_fieldAddr {s : TypeId} {x : Operand} {i : Nat} (hev : evOp E tm h ⟨dst, .fieldAddr s x i, ty, pos, after, guard⟩ = some r) (hx : OKo ρ tm a x) (hR : Rel ρ h w) :
    Good E.P ρ h w ((execOp a.eval ⟨dst, .fieldAddr s x i, ty, pos, after, guard⟩).run E.P w) r := by
  simp only [evOp, hFieldAddr] at hev
  split at hev
  · rename_i fs b hs hb
    split at hev
    · rename_i f hf
      split at hev
      · rename_i n hn
        cases hev
        obtain ⟨b', e, hA⟩ := inv_ptr (evA_sound hb hx)
        exact Good.same hR (by simp [execOp, Instr.fieldAt, run_und hs, hf, e, Instr.sureAddr, fieldPlace, run_size hn]) (.ptr (hA.add _))
      · cases hev
    · cases hev
  · cases hev
theorem s_field {t : TypeId} {x : Operand} {i : Nat} (hev : evOp E tm h ⟨dst, .field t x i, ty, pos, after, guard⟩ = some r) (hx : OKo ρ tm a x) (hR : Rel ρ h w) :
    Good E.P ρ h w ((execOp a.eval ⟨dst, .field t x i, ty, pos, after, guard⟩).run E.P w) r := by
  simp only [evOp, hField] at hev
  split at hev
  · rename_i fs cs hs hb
    obtain ⟨cs', e, hv⟩ := inv_agg (evA_sound hb hx)
    split at hev
    · rename_i f hf
      split at hev
      · rename_i n hg hn
        split at hev
        · rename_i l hl
          cases hev
          obtain ⟨l', hl', hvl⟩ := hv.cut hl
          obtain ⟨_, rfl⟩ := cut_eq hl'
          refine Good.same hR (v' := .agg (cs'.extract f.offset (f.offset + n))) (by simp [execOp, Instr.field, run_und hs, hf, e, asAgg, part, run_agg hg, run_size hn]) ?_
          have := hvl.agg
          have hx2 : cs'.extract f.offset (f.offset + n) = ((cs'.toList.drop f.offset).take n).toArray := by
            apply Array.ext'
            simp [Array.toList_extract, List.extract_eq_take_drop]
          rw [hx2]; exact this
        · cases hev
      · rename_i n hg hn
        obtain ⟨v, hv0, rfl⟩ := valR_some hev
        obtain ⟨v', h1, h2⟩ := hv.get hv0
        refine Good.same hR (v' := v') (by simp only [Array.getElem?_toList] at h1; simp [execOp, Instr.field, run_und hs, hf, e, asAgg, part, run_agg hg, h1]) h2
      · cases hev
    · cases hev
  · cases hev
theorem s_makeFunc {fn : Fn} {f c : Array Operand} (hev : evOp E tm h ⟨dst, .makeFunc fn f c, ty, pos, after, guard⟩ = some r) (hx : ∀ x ∈ f.toList, OKo ρ tm a x) (hy : ∀ x ∈ c.toList, OKo ρ tm a x)
    (hR : Rel ρ h w) : Good E.P ρ h w ((execOp a.eval ⟨dst, .makeFunc fn f c, ty, pos, after, guard⟩).run E.P w) r := by
  simp only [evOp, hMakeFunc] at hev
  split at hev
  · rename_i f' c' hf hc
    cases hev
    have h1 := evList_sound hf hx
    have h2 := evList_sound hc hy
    have h3 := VRL.toA (ρ := ρ) (a := f'.toArray) (a' := f.map a.eval) (by simpa using h1)
    have h4 := VRL.toA (ρ := ρ) (a := c'.toArray) (a' := c.map a.eval) (by simpa using h2)
    exact Good.same hR (by simp [execOp, Instr.makeFunc]) (.func h3.1 h4.1 h3.2 h4.2)
  · cases hev
theorem s_makeInterface {t : TypeId} {x : Operand} (hev : evOp E tm h ⟨dst, .makeInterface t x, ty, pos, after, guard⟩ = some r) (hx : OKo ρ tm a x) (hR : Rel ρ h w) :
    Good E.P ρ h w ((execOp a.eval ⟨dst, .makeInterface t x, ty, pos, after, guard⟩).run E.P w) r := by
  simp only [evOp, hIface] at hev
  split at hev
  · cases hev
  · rename_i d v hne hs hb
    cases hev
    refine Good.same hR (v' := .iface t (a.eval x)) ?_ (.iface (evA_sound hb hx))
    simp only [execOp, Instr.makeInterface, Sem.run_bind, run_und hs, Result.andThen_ok]
    cases d <;> first | rfl | (exact absurd rfl (hne _ _ · rfl))
  · cases hev
theorem s_makeMap {t : TypeId} (hev : evOp E tm h ⟨dst, .makeMap t none, ty, pos, after, guard⟩ = some r) (hR : Rel ρ h w) :
    Good E.P ρ h w ((execOp a.eval ⟨dst, .makeMap t none, ty, pos, after, guard⟩).run E.P w) r := by
  simp only [evOp, hMakeMap] at hev
  cases hev
  intro hF
  have := hR.push (w' := { w with heap := w.heap.push (.map #[] 0) }) (hF _ (Nat.le_refl _) (Nat.lt_succ_self _)) (.map [] 0) (.map #[] 0) 0 0 ⟨#[], rfl, ERL.nil ρ⟩ rfl rfl rfl rfl
  exact ⟨_, _, _, by simp [execOp, Instr.makeMap], .map (rput_self _ _ _), this⟩
theorem s_extract {x : Operand} {i : Nat} (hev : evOp E tm h ⟨dst, .extract x i, ty, pos, after, guard⟩ = some r) (hx : OKo ρ tm a x) (hR : Rel ρ h w) :
    Good E.P ρ h w ((execOp a.eval ⟨dst, .extract x i, ty, pos, after, guard⟩).run E.P w) r := by
  simp only [evOp, hExtract] at hev
  split at hev
  · rename_i vs hb
    obtain ⟨v, hv, rfl⟩ := valR_some hev
    obtain ⟨vs', e, hvs⟩ := inv_tuple (evA_sound hb hx)
    obtain ⟨v', h1, h2⟩ := hvs.get hv
    exact Good.same hR (v' := v') (by simp only [Array.getElem?_toList] at h1; simp [execOp, Instr.extract, e, h1]) h2
  · cases hev
end
end Go.Proofs.Ytknenadpkgajjaa.GEv
