/- RulesSame, part 3: the words, the walks and the plain laws that the proof rests on. -/
import Derived.Test.YtknenadpkgajjaaQRulesSame2
import Derived.RowKit
import Derived.WalkKit
import Derived.ProofKit
import Derived.WideLaws
section
/- Rows of one's own whose elements are what stood there before (their inner rows are shared, and only read). No program's number stands here. -/
namespace Go.Proofs.Ytknenadpkgajjaa.GShare
open Go.RowKit Go.Proofs.YtknenadpkgajjaaW.PrintWords
/-- a walk stands still here. -/
structure Stop (P : Prop) : Prop where
  out : P
section
variable {α : Type} {d : Kd α} {e : Nat} {w0 w W : World} {base : Nat} {v : Value} {xs ys : List α}
def OwnW (d : Kd α) (e : Nat) (w0 w : World) (base : Nat) (v : Value) (xs : List α) : Prop := ∃ inner, w.ownsRow base e d.sz v xs.length inner ∧ Reps (fun x c => d.K w0 x c) d.sz xs inner
theorem OwnW.toC (h : OwnW d e w0 w base v xs) (hb : Below w0.heap.size w0 w) : ∃ A c, v = .slice A xs.length c ∧ xs.length ≤ c ∧ d.C w A xs.length xs := by
  obtain ⟨inner, ho, hr⟩ := h
  rcases ho.2 with ⟨rfl, hn⟩ | ⟨g, cap, cur, rfl, _, hg, hn, hcap, hcur, htake⟩
  · have hx : xs = [] := List.eq_nil_of_length_eq_zero hn
    subst hx
    exact ⟨none, 0, rfl, Nat.le_refl _, Kd.C_nil _ _⟩
  · refine ⟨_, cap, rfl, hn, rfl, Nat.le_trans hn hcap, fun _ => ⟨⟨g, 0, none⟩, rfl, fun j p hj => ?_⟩⟩
    have hk := d.K_below hb (hr.2 j p hj)
    have hl := d.K_len hk
    refine ⟨_, hl, hk, fun i u hi => ?_⟩
    have hjl : j < xs.length := (List.getElem?_eq_some_iff.mp hj).1
    have hil : i < d.sz := by
      by_cases hh : i < d.sz
      · exact hh
      · rw [List.getElem?_eq_none (by omega)] at hi; cases hi
    rw [List.getElem?_take_of_lt hil, List.getElem?_drop] at hi
    have hlt : j * d.sz + i < xs.length * d.sz := by
      have : (j + 1) * d.sz ≤ xs.length * d.sz := Nat.mul_le_mul_right _ hjl
      rw [Nat.add_mul, Nat.one_mul] at this
      omega
    have h5 : (⟨g, 0, none⟩ : Addr).add (j * d.sz + i) = ⟨g, j * d.sz + i, none⟩ := by
      generalize j * d.sz = q
      simp [Addr.add]
      omega
    rw [h5, ho.cellAt _ hlt]
    exact hi
theorem OwnW.below (h : OwnW d e w0 w base v xs) (hb : Below w.heap.size w W) : OwnW d e w0 W base v xs := by
  obtain ⟨inner, ⟨h1, h2⟩, hr⟩ := h
  refine ⟨inner, ⟨h1, ?_⟩, hr⟩
  rcases h2 with h2 | ⟨g, cap, cur, hv, hbs, hg, hrest⟩
  · exact .inl h2
  · exact .inr ⟨g, cap, cur, hv, hbs, (hb.block _ (blk_lt hg)).trans hg, hrest⟩
theorem OwnW.far (h : OwnW d e w0 w base v xs) {q i : Nat} (hq : some q ≠ v.ownBlock) (u : Value) : OwnW d e w0 (w.setCell ⟨q, i, none⟩ u) base v xs := by
  obtain ⟨inner, ⟨h1, h2⟩, hr⟩ := h
  refine ⟨inner, ⟨h1, ?_⟩, hr⟩
  rcases h2 with h2 | ⟨g, cap, cur, rfl, hbs, hg, hrest⟩
  · exact .inl h2
  · exact .inr ⟨g, cap, cur, rfl, hbs, blk_far hg (fun hh => hq (by rw [hh]; rfl)) u, hrest⟩
theorem OwnW.ne (h : OwnW d e w0 w base v xs) {g t : Nat} {cs : Array Value} (hg : w.heap[g]? = some (.cells cs t (0, 0))) (hne : e ≠ t) : some g ≠ v.ownBlock := by
  obtain ⟨inner, ho, _⟩ := h
  exact own_ne ho hg hne
theorem OwnW.fresh {g t : Nat} (hbase : base ≤ g) (hg : w.heap[g]? = some (.cells #[] t (0, 0))) : OwnW d t w0 w base (.slice (some ⟨g, 0, none⟩) 0 0) ([] : List α) :=
  ⟨[], ⟨by simp, .inr ⟨g, 0, #[], rfl, hbase, hg, Nat.le_refl _, Nat.zero_le _, by simp, by simp⟩⟩, Reps.none _ _⟩
end
section
variable {P : Program} {ops : Array Oper} {rest : List Oper} {o : Oper} {a : Act} {Q : Exit → Act → World → Prop} {α : Type} {d : Kd α} {w0 W : World}
theorem append_rows (d : Kd α) (hgd : o.guard = none) (s x : Operand) (t e : TypeId) (z : Value) (bytes : Nat)
    (ho : o.op = .call { callee := .builtin .append, args := #[s, x], argTypes := #[t, t] })
    (ht : P.underlying t = some (.slice e)) (hinfo : (P.info? e).map (fun i => (i.zero, i.size, i.bytes)) = some (some z, d.sz, bytes)) (hz : z.cells.size = d.sz) (hs0 : 0 < d.sz) (hb0 : 0 < bytes)
    (v : Value) (xs ys : List α) (A : Option Addr) (m c : Nat) (hs : a.eval s = v) (hx : a.eval x = .slice A m c)
    (HO : OwnW d e w0 W w0.heap.size v xs) (HR : d.C w0 A m ys) (HB : Below w0.heap.size w0 W) (hl : (xs.length + m) * bytes ≤ 140737488355328)
    (h : ∀ v1 w1, OwnW d e w0 w1 w0.heap.size v1 (xs ++ ys) → Below w0.heap.size w0 w1 → W.grownBy w1 v.ownBlock → wpList P ops Q rest (a.put o.dst v1) w1) :
    wpList P ops Q (o :: rest) a W := by
  obtain ⟨i0, hi, hzz⟩ := Option.map_eq_some_iff.1 hinfo
  simp only [Prod.mk.injEq] at hzz
  obtain ⟨hz0, hz1, hz2⟩ := hzz
  have hm : ys.length = m := HR.1
  have hlen : xs.length + m ≤ 140737488355328 := Nat.le_trans (Nat.le_mul_of_pos_right _ hb0) hl
  obtain ⟨inner, hown, hr⟩ := HO
  have hrun : ∃ v1 w1, (Builtin.append_ #[t, t] o.type #[v, .slice A m c]).run P W = .ok v1 w1 ∧ OwnW d e w0 w1 w0.heap.size v1 (xs ++ ys) ∧ W.grownBy w1 v.ownBlock := by
    rcases A with _ | ad
    · have h0 : m = 0 := by
        rcases Nat.eq_zero_or_pos m with h0 | h0
        · exact h0
        · obtain ⟨ad, h, _⟩ := HR.2.2 h0
          cases h
      subst h0
      obtain rfl : ys = [] := List.eq_nil_of_length_eq_zero hm
      refine ⟨v, W, ?_, by rw [List.append_nil]; exact ⟨inner, hown, hr⟩, World.grownBy.refl W _⟩
      rcases hown.2 with ⟨rfl, hn⟩ | ⟨g, cap, cur, rfl, _, _, hnc, _⟩
      · simp [Builtin.append_, run_underlying ht, sizeOf, typeInfo, hi, Builtin.lenOf, Builtin.firstCells]
      · simp [Builtin.append_, run_underlying ht, sizeOf, typeInfo, hi, Builtin.lenOf, Builtin.firstCells, hnc, storeCells]
    · obtain ⟨news, hnM, hnc⟩ := ReadsRow.inner_ HR
      have hone : ∀ u ∈ news, u.oneCell' = true := by
        intro u hu
        obtain ⟨q, hq, rfl⟩ := List.mem_iff_getElem.1 hu
        have hql : q / d.sz < ys.length := by
          rw [Nat.div_lt_iff_lt_mul hs0]
          rw [← hnM.1]
          exact hq
        have hc := hnM.2 (q / d.sz) _ (List.getElem?_eq_getElem hql)
        refine d.K_one hc _ ?_
        rw [List.mem_iff_getElem?]
        refine ⟨q % d.sz, ?_⟩
        rw [List.getElem?_take, if_pos (Nat.mod_lt _ hs0), List.getElem?_drop, Nat.mul_comm, Nat.div_add_mod, List.getElem?_eq_getElem hq]
      obtain ⟨v1, w1, hrun, h2, hg, _, hat⟩ := run_append_own_at (P := P) W w0.heap.size t o.type e i0 z d.sz bytes ht hi hz0 hz1 hz2 hz hs0 v xs.length inner hown ad m c news (by rw [hnM.1, hm]) (fun j u hj => pw_cell_below HB (hnc j u hj)) hone (by simp only [maxLen]; omega) hl HB.size
      exact ⟨v1, w1, hrun, ⟨inner ++ news, by rw [List.length_append, hm]; exact h2, Kd.reps_append hr hnM⟩, hg⟩
  obtain ⟨v1, w1, hr1, h1, hg⟩ := hrun
  refine wpList_plain hgd fun K hK => ?_
  unfold Oper.wp execOp
  simp only [ho, resolve, invoke, builtin, Sem.run_bind, Sem.run_pure, Result.andThen_ok, List.map_toArray, List.map_cons, List.map_nil, hs, hx, hr1]
  exact hK _ _ (h v1 w1 h1 (HB.grown hg HB.size (own_base hown)) hg)
theorem append_one (d : Kd α) (hgd : o.guard = none) (s x : Operand) (t e : TypeId) (z : Value) (bytes : Nat)
    (ho : o.op = .call { callee := .builtin .append, args := #[s, x], argTypes := #[t, t] })
    (ht : P.underlying t = some (.slice e)) (hinfo : (P.info? e).map (fun i => (i.zero, i.size, i.bytes)) = some (some z, d.sz, bytes)) (hz : z.cells.size = d.sz) (hs0 : 0 < d.sz) (hb0 : 0 < bytes)
    (v : Value) (xs : List α) (p : α) (cs : List Value) (hs : a.eval s = v) (hx : a.eval x = .slice (some ⟨W.heap.size, 0, none⟩) 1 1) (hp : d.K w0 p cs)
    (HO : OwnW d e w0 W w0.heap.size v xs) (HB : Below w0.heap.size w0 W) (hl : (xs.length + 1) * bytes ≤ 140737488355328)
    (h : ∀ v1 w1, OwnW d e w0 w1 w0.heap.size v1 (xs ++ [p]) → Below w0.heap.size w0 w1 → W.grownBy w1 v.ownBlock → wpList P ops Q rest (a.put o.dst v1) w1) :
    wpList P ops Q (o :: rest) a (W.alloc (.cells cs.toArray e)) := by
  obtain ⟨inner, hown, hr⟩ := HO
  refine print_append_cells w0.heap.size hgd s x t e z d.sz bytes ho ht hinfo hz hs0 hb0 v xs.length inner cs hs hx (d.K_len hp) (d.K_one hp) hown HB HB.size hl ?_
  intro v1 w1 hown1 hb1 hg1 _
  exact h v1 w1 ⟨inner ++ cs, by rw [List.length_append, List.length_singleton]; exact hown1, Reps.snoc hr hp (d.K_len hp)⟩ hb1 hg1
end
end Go.Proofs.Ytknenadpkgajjaa.GShare
end
section
/- Where a function first holds along a row: plain Lean, no program's number stands here. -/
namespace Go.Proofs.Ytknenadpkgajjaa.GFunc
open Go.RowKit
/-- the first place from i on at which p holds; -1: none. -/
def idx {α : Type} (p : α → Bool) : List α → Nat → Int
  | [], _ => -1
  | x :: r, i => if p x = true then (i : Int) else idx p r (i + 1)
theorem idx_any {α : Type} (p : α → Bool) : ∀ (l : List α) (i : Nat), decide (0 ≤ idx p l i) = l.any p
  | [], i => by simp [idx]
  | x :: r, i => by
    unfold idx
    by_cases h : p x = true
    · rw [if_pos h]; simp [h]
    · rw [if_neg h, idx_any p r (i + 1)]; simp [h]
/-- two rows, element by element. -/
def eqL {α : Type} (p : α → α → Option Bool) : List α → List α → Option Bool
  | x :: xs, y :: ys => (p x y).bind fun b => if b = true then eqL p xs ys else some false
  | _, _ => some true
def eqF {α : Type} (p : α → α → Option Bool) (xs ys : List α) : Option Bool := if xs.length = ys.length then eqL p xs ys else some false
theorem eqL_mono {α : Type} {p q : α → α → Option Bool} (h : ∀ x y r, p x y = some r → q x y = some r) : ∀ (xs ys : List α) r, eqL p xs ys = some r → eqL q xs ys = some r
  | x :: xs, y :: ys, r, hr => by
    unfold eqL at hr
    unfold eqL
    obtain ⟨b, h1, h2⟩ := Option.bind_eq_some_iff.mp hr
    rw [h x y b h1]
    simp only [Option.bind_some]
    cases b with
    | true =>
      rw [if_pos rfl] at h2
      rw [if_pos rfl]
      exact eqL_mono h xs ys r h2
    | false => exact h2
  | [], _, r, hr => by unfold eqL at hr; unfold eqL; exact hr
  | _ :: _, [], r, hr => by unfold eqL at hr; unfold eqL; exact hr
theorem eqF_mono {α : Type} {p q : α → α → Option Bool} (h : ∀ x y r, p x y = some r → q x y = some r) (xs ys : List α) (r : Bool) (hr : eqF p xs ys = some r) : eqF q xs ys = some r := by
  unfold eqF at hr
  unfold eqF
  by_cases c : xs.length = ys.length
  · rw [if_pos c] at hr
    rw [if_pos c]
    exact eqL_mono h xs ys r hr
  · rw [if_neg c] at hr
    rw [if_neg c]
    exact hr
/-- a function that has a Go body. -/
def HasBody (P : Program) (f : FuncId) : Prop := (match P.funcs[f]? with | some fn => !(fn.name == "runtime.NumGoroutine") && fn.body.isSome | none => false) = true
theorem run_enter {P : Program} {f : FuncId} (h : HasBody P f) (args : Array Value) (w : World) : (callFunc f args).run P w = .ok (.enter f args) w := by
  unfold HasBody at h
  cases hf : P.funcs[f]? with
  | none => rw [hf] at h; simp at h
  | some fn =>
    rw [hf] at h
    simp only [Bool.and_eq_true] at h
    obtain ⟨h1, h2⟩ := h
    obtain ⟨c, hb⟩ := Option.isSome_iff_exists.mp h2
    have hn : fn.name ≠ "runtime.NumGoroutine" := by simpa using h1
    simp [callFunc, hf, hn, hb]
theorem run_store_func (P : Program) (w : World) (a : Addr) (m : Mode) (fn : Fn) (first cap : Array Value) : (store a (.func fn first cap) m).run P w = stored P w a (.func fn first cap) m := run_store P w a _ m rfl
theorem hmf (P : Program) : ∀ (fn : Fn) (first cap : Array Value) (w : World), (Instr.makeFunc fn first cap).run P w = .ok (.func fn first cap) w := fun _ _ _ _ => rfl
end Go.Proofs.Ytknenadpkgajjaa.GFunc
end
