/- Arguments with blocks: the world's own memory stands in the run's memory, block by block; memories that grow. -/
import Derived.Test.YtknenadpkgajjaaGSyC
namespace Go.Proofs.Ytknenadpkgajjaa.GEv
open Go
open Go.RowKit (Below)
set_option linter.unusedSimpArgs false
set_option linter.unusedVariables false
/-! ### memories that grow -/
/-- What stood is as it was. -/
structure Grows (h h' : H) : Prop where
  next : h.next ≤ h'.next
  keep : ∀ b, b < h.next → h'.m.get b = h.m.get b
  low : ∀ k, k ≤ h.next → k ≤ h.low → k ≤ h'.low
theorem Grows.refl (h : H) : Grows h h := ⟨Nat.le_refl _, fun _ _ => rfl, fun _ _ q => q⟩
theorem Grows.trans {a b c : H} (h : Grows a b) (k : Grows b c) : Grows a c :=
  ⟨Nat.le_trans h.next k.next, fun x hx => (k.keep x (Nat.lt_of_lt_of_le hx h.next)).trans (h.keep x hx), fun x h1 h2 => k.low x (Nat.le_trans h1 h.next) (h.low x h1 h2)⟩
theorem Grows.push {h h' : H} (g : Grows h h') (o : AObj) : Grows h (h'.push o) :=
  ⟨Nat.le_succ_of_le g.next, fun b hb => by rw [push_get, if_neg (by have := g.next; omega)]; exact g.keep b hb, fun k h1 h2 => g.low k h1 h2⟩
theorem Grows.put {h h' : H} (g : Grows h h') {b : Nat} (hb : h.next ≤ b) (o : Option AObj) : Grows h (h'.put b o) :=
  ⟨g.next, fun c hc => by rw [put_get, if_neg (by omega)]; exact g.keep c hc, fun k h1 h2 => by
    rw [put_low]
    split
    · omega
    · exact g.low k h1 h2⟩
theorem Grows.dip {h h' : H} (g : Grows h h') : Grows h h'.dip :=
  ⟨g.next, g.keep, fun k h1 h2 => by
    show k ≤ (if top h'.next < h'.low then top h'.next else h'.low)
    have := (top_ge h'.next).2
    have := g.next
    split
    · omega
    · exact g.low k h1 h2⟩
/-- Another mark. -/
theorem Grows.mark {h h' : H} (g : Grows h h') : Grows h ⟨h'.m, h'.next, top h'.next⟩ :=
  ⟨g.next, g.keep, fun k h1 h2 => by
    have := (top_ge h'.next).2
    have := g.next
    show k ≤ top h'.next
    omega⟩
theorem Grows.read {h h' : H} (g : Grows h h') {b off n : Nat} {l : List Value} (hr : h.read b off n = some l) (hb : b < h.next) : h'.read b off n = some l := by
  unfold H.read at hr ⊢
  rw [g.keep b hb]
  exact hr

/-! ### the world's memory, as the run's -/
theorem vr_list (ρ : Ren) : ∀ l : List Value, (∀ x ∈ l, ∃ v, VR ρ v x) → ∃ m : List Value, m.length = l.length ∧ ∀ (i : Nat) (v v' : Value), m[i]? = some v → l[i]? = some v' → VR ρ v v'
  | [], _ => ⟨[], rfl, fun i v v' h => by simp at h⟩
  | x :: l, h => by
    obtain ⟨m, h1, h2⟩ := vr_list ρ l (fun y hy => h y (List.mem_cons_of_mem _ hy))
    obtain ⟨v, hv⟩ := h x (List.mem_cons_self ..)
    refine ⟨v :: m, by simp [h1], fun i a b q1 q2 => ?_⟩
    cases i with
    | zero => simp at q1 q2; subst q1 q2; exact hv
    | succ i => exact h2 i a b (by simpa using q1) (by simpa using q2)
theorem vr_arr (ρ : Ren) (a : Array Value) (h : ∀ x ∈ a, ∃ v, VR ρ v x) : ∃ m : Array Value, m.size = a.size ∧ ∀ (i : Nat) (v v' : Value), m[i]? = some v → a[i]? = some v' → VR ρ v v' := by
  obtain ⟨m, h1, h2⟩ := vr_list ρ a.toList (fun x hx => h x (Array.mem_toList_iff.1 hx))
  exact ⟨m.toArray, by simpa using h1, fun i v v' q1 q2 => h2 i v v' (by simpa using q1) (by simpa using q2)⟩
theorem vr_ex (ρ : Ren) : ∀ (n : Nat) (x : Value), SizeOf.sizeOf x ≤ n → ∃ v, VR ρ v x := by
  intro n
  induction n with
  | zero => intro x hx; cases x <;> simp at hx
  | succ n ih =>
    intro x hx
    by_cases ho : odd x = true
    · exact ⟨_, .any ho⟩
    cases x with
    | bool b => exact ⟨_, .bool b⟩
    | agg a =>
      obtain ⟨m, h1, h2⟩ := vr_arr ρ a (fun y hy => ih y (by have := Array.sizeOf_lt_of_mem hy; simp at hx; omega))
      exact ⟨_, .agg h1 h2⟩
    | tuple a =>
      obtain ⟨m, h1, h2⟩ := vr_arr ρ a (fun y hy => ih y (by have := Array.sizeOf_lt_of_mem hy; simp at hx; omega))
      exact ⟨_, .tuple h1 h2⟩
    | _ => exact absurd rfl ho
def rowSz (w : World) (b : Nat) : Nat := match w.heap[b]? with
  | some (.cells c _ _) => c.size
  | _ => 0
def embR (w : World) : Ren := fun b => if GN ≤ b ∧ b < w.heap.size then some (b, 0, rowSz w b) else none
/-- A value of one cell: as it is, or as one of which nothing is known. -/
noncomputable def absV (w : World) (v : Value) : Value := match v with
  | .bool b => .bool b
  | .int k n => .int k n
  | .string s => .string s
  | .slice none l c => .slice none l c
  | .slice (some _) 0 0 => .slice (some ⟨0, 0, none⟩) 0 0
  | .slice (some a) l c => if a.spot = none ∧ l ≤ c ∧ c < UNK ∧ GN ≤ a.block ∧ a.block < w.heap.size then .slice (some a) l c else junk
  | v => Classical.choose (vr_ex (embR w) _ v (Nat.le_refl _))
noncomputable def absO (w : World) (o : Obj) : Option AObj := match o with
  | .cells c e f => some (.cells (c.toList.map (absV w)) (some e) true (max f.2 c.size))
  | _ => none
noncomputable def embU (w : World) : Nat → U AObj
  | 0 => .nil
  | n + 1 => (embU w n).set n (if GN ≤ n then (w.heap[n]?).bind (absO w) else none)
theorem embU_get (w : World) : ∀ n b, (embU w n).get b = if b < n ∧ GN ≤ b then (w.heap[b]?).bind (absO w) else none
  | 0, b => by
    rw [if_neg (by omega)]
    exact U.get_nil b
  | n + 1, b => by
    unfold embU
    rw [U.get_set, embU_get w n b]
    by_cases e : b = n
    · subst e
      rw [if_pos rfl]
      by_cases hg : GN ≤ b
      · rw [if_pos hg, if_pos ⟨Nat.lt_succ_self _, hg⟩]
      · rw [if_neg hg, if_neg (fun q => hg q.2)]
    · rw [if_neg e]
      by_cases hq : b < n ∧ GN ≤ b
      · rw [if_pos hq, if_pos ⟨by omega, hq.2⟩]
      · rw [if_neg hq, if_neg (fun q => hq ⟨by omega, q.2⟩)]
/-- **The world's memory, as the run's**: a block has its own number; nothing of it may be written. -/
noncomputable def emb (w : World) : H := ⟨embU w w.heap.size, w.heap.size, top w.heap.size⟩
theorem embR_some {w : World} {b : Nat} (h : GN ≤ b ∧ b < w.heap.size) : embR w b = some (b, 0, rowSz w b) := if_pos h
theorem emb_get (w : World) (b : Nat) : (emb w).m.get b = if GN ≤ b then (w.heap[b]?).bind (absO w) else none := by
  show (embU w w.heap.size).get b = _
  rw [embU_get]
  by_cases hb : b < w.heap.size
  · by_cases hg : GN ≤ b
    · rw [if_pos ⟨hb, hg⟩, if_pos hg]
    · rw [if_neg (fun q => hg q.2), if_neg hg]
  · rw [if_neg (fun q => hb q.1), Array.getElem?_eq_none (by omega)]
    split <;> rfl
theorem absV_ok (w : World) (v : Value) : VR (embR w) (absV w v) v := by
  cases v with
  | bool b => exact .bool b
  | int k n => exact .int k n
  | string s => exact .string s
  | slice a l c =>
    cases a with
    | none => exact .snil l c
    | some a =>
      by_cases hz : l = 0 ∧ c = 0
      · obtain ⟨rfl, rfl⟩ := hz
        exact .slice ⟨rfl, .inl ⟨rfl, rfl⟩, Nat.le_refl _, fun _ => rfl, .inr ⟨rfl, rfl⟩⟩
      have e : absV w (.slice (some a) l c) = if a.spot = none ∧ l ≤ c ∧ c < UNK ∧ GN ≤ a.block ∧ a.block < w.heap.size then .slice (some a) l c else junk := by
        cases l <;> cases c <;> first
          | (exact absurd ⟨rfl, rfl⟩ hz)
          | rfl
      rw [e]
      split
      · rename_i q
        refine .slice ⟨q.1, .inr q.1, q.2.1, fun _ => rfl, .inl ⟨a.block, 0, rowSz w a.block, embR_some q.2.2.2, rfl, (Nat.zero_add _).symm, fun h => absurd h (by have := q.2.2.1; omega)⟩⟩
      · exact .any rfl
  | _ => exact Classical.choose_spec (vr_ex (embR w) _ _ (Nat.le_refl _))
theorem absO_some {w : World} {o : Obj} {obj : AObj} (h : absO w o = some obj) : ∃ c e f, o = .cells c e f ∧ obj = .cells (c.toList.map (absV w)) (some e) true (max f.2 c.size) := by
  unfold absO at h
  split at h
  · rename_i c e f
    exact ⟨c, e, f, rfl, (Option.some.inj h).symm⟩
  · cases h
theorem emb_rel {w : World} (hw : WOK w) (hs : GN ≤ w.heap.size) : Rel (embR w) (emb w) w := by
  refine ⟨fun b hb => ?_, fun b c s z e => ?_, fun b obj c s z q e => ?_, fun b b' c c' s s' z z' hne e e' _ _ => ?_, ⟨hw, hs, fun b c s z e => ?_⟩⟩
  · rw [emb_get, Array.getElem?_eq_none hb]
    split <;> rfl
  · unfold embR at e
    split at e
    · rename_i q; cases e; exact q.2
    · cases e
  · unfold embR at e
    split at e
    · rename_i hq
      simp only [Option.some.injEq, Prod.mk.injEq] at e
      obtain ⟨rfl, rfl, rfl⟩ := e
      rw [emb_get, if_pos hq.1] at q
      obtain ⟨o, ho, ha⟩ := Option.bind_eq_some_iff.1 q
      obtain ⟨c', t, f, rfl, rfl⟩ := absO_some ha
      refine ⟨_, ho, ?_⟩
      unfold rowSz
      rw [ho]
      refine ⟨c', t, f, rfl, rfl, fun e' h => by cases h; rfl, by simp, fun _ => ⟨rfl, by simp⟩, fun i _ h2 _ => by omega, ?_⟩
      rw [List.drop_zero, List.take_of_length_le (by simp)]
      refine ⟨by simp, fun i v v' h1 h2 => ?_⟩
      rw [List.getElem?_map, h2] at h1
      cases h1
      exact absV_ok w _
    · cases e
  · unfold embR at e e'
    split at e
    · split at e'
      · cases e; cases e'; exact hne
      · cases e'
    · cases e
  · unfold embR at e
    split at e
    · rename_i q; cases e; exact q.1
    · cases e
/-- **A call upon arguments with blocks, that hands back a value without any.** -/
theorem calls_emb {E : Env} (hOK : E.OK) {f : FuncId} {args args' : List Value} {v : Value} {W : World} (hr : CallP E f args (emb W) fun u h' => u = v ∧ Grows (emb W) h') (ha : VRL (embR W) args args') (hv : flat2 v = true) (hw : WOK W) (hs : GN ≤ W.heap.size) :
    Calls E.P f args'.toArray W fun e W' => e = .returned v ∧ Below W.heap.size W W' := by
  obtain ⟨n, u, h', he, rfl, hg⟩ := hr.ex
  refine (run_sound hOK he ha (emb_rel hw hs) (fun b h1 h2 => ?_)).mono ?_
  · show (if _ then _ else none) = none
    rw [if_neg (fun q => by have h1 : W.heap.size ≤ b := h1; omega)]
  · rintro e w' ⟨v', ρ', rfl, hvr, _, hx⟩
    refine ⟨by rw [flat2_eq hv hvr], hx.os, hx.tape, hx.output, hx.size, fun k hk => hx.frame k hk fun b c' s z h1 h2 _ q => ?_⟩
    have := hg.low W.heap.size (Nat.le_refl _) (top_ge _).2
    have h2 : b < W.heap.size := h2
    omega
end Go.Proofs.Ytknenadpkgajjaa.GEv
