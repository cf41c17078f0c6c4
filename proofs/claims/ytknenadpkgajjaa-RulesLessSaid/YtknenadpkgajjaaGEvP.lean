/- The evaluator's soundness, fourteenth part: regions that draw their order: what holds whatever has come up so far. -/
import Derived.Test.YtknenadpkgajjaaGEvO
namespace Go.Proofs.Ytknenadpkgajjaa.GEv
open Go
set_option linter.unusedSimpArgs false
set_option linter.unusedVariables false

/-- It turns a block. -/
def touches (F : Nat → Option Foot) (j b : Nat) : Prop := F j = some (.wr b) ∨ ∃ m m' : U AObj, F j = some (.gen m m') ∧ m.get b ≠ m'.get b
theorem sameO_eq {x y : Option AObj} (h : sameO x y = true) : x = y := by
  unfold sameO at h
  split at h
  · rfl
  · rename_i c el full fz c' el' full' fz'
    simp only [Bool.and_eq_true] at h
    have h1 := sameVs_eq h.1.1.1
    have h2 : el = el' := by
      have q := h.1.1.2
      unfold sameEl at q
      split at q
      · rfl
      · rw [Nat.eq_of_beq_eq_true q]
      · cases q
    have h3 := eq_of_beq h.1.2
    have h4 := Nat.eq_of_beq_eq_true h.2
    rw [h1, h2, h3, h4]
  · cases h
def Lst (listed : Array Bool) (i : Nat) : Prop := listed.getD i false = true
theorem lst_set {listed : Array Bool} {k i : Nat} (hk : k < listed.size) : Lst (listed.setIfInBounds k true) i ↔ (i = k ∨ Lst listed i) := by
  unfold Lst
  by_cases e : k = i
  · subst e
    simp [hk]
  · rw [getD_set_ne false e]
    constructor
    · exact .inr
    · rintro (q | q)
      · exact absurd q.symm e
      · exact q
/-- A region's run, as the evaluator has seen it. -/
structure Ctx where
  E : Env
  n : Nat
  ops : Array Oper
  S : Nat → St
  V : Nat → Value
  Hh : Nat → H
  F : Nat → Option Foot
  ρ0 : Ren
  w0 : World
structure Ctx.OK (X : Ctx) : Prop where
  lex : Lex X.ops
  step : ∀ j o, X.ops[j]? = some o → StepOk X.E X.n X.ops X.F j o (X.S j) (X.S (j + 1)) (X.V j) (X.Hh j)
  fits : ∀ j f k g, k < j → j < X.ops.size → X.F j = some f → X.F k = some g → clash f g = true → Nat.testBit ((befL X.ops.toList []).getD j 0) k = true
  wf : WF (X.S 0).h
  fr : Fr X.ρ0 (X.S 0).h.next (X.S X.ops.size).h.next
def Ctx.Hit (X : Ctx) (c : Nat) : Prop := ∃ b s z, (X.S X.ops.size).h.low ≤ b ∧ b < (X.S 0).h.next ∧ (X.S 0).h.m.get b ≠ none ∧ X.ρ0 b = some (c, s, z)
def Ctx.Old (X : Ctx) (c : Nat) : Prop := X.w0.heap.size ≤ c ∨ X.Hit c
structure Inv (X : Ctx) (fuel : Nat) (listed : Array Bool) (a : Act) (w : World) (ρ : Ren) (G : Nat → Option AObj) : Prop where
  size : listed.size = X.ops.size
  cnt : listed.count false = fuel
  closed : ∀ i o, X.ops[i]? = some o → Lst listed i → ∀ e ∈ o.after, Region.binds .any e = true → Lst listed e.on
  nt : a.tmps.size = (X.S 0).nt
  defers : a.defers = []
  tm : ∀ x, x ≤ X.ops.size → ∀ t, (∀ j o, X.ops[j]? = some o → o.dst = some t → (j < x ↔ Lst listed j)) → VR ρ (((X.S x).tm.get t).getD undef) (a.tmps.getD t undef)
  ok : ∀ b obj c s z, G b = some obj → ρ b = some (c, s, z) → ∃ o, w.heap[c]? = some o ∧ Match ρ obj o s z
  inj : ∀ b b' c c' s s' z z', b ≠ b' → ρ b = some (c, s, z) → ρ b' = some (c', s', z') → G b ≠ none → G b' ≠ none → c ≠ c'
  dom : ∀ b c s z, ρ b = some (c, s, z) → c < w.heap.size
  link : ∀ x, x ≤ X.ops.size → ∀ b, ρ b ≠ none → b < (X.S x).h.next → (∀ j, j < X.ops.size → touches X.F j b → (j < x ↔ Lst listed j)) → G b = (X.S x).h.m.get b
  fresh : ∀ i, i < X.ops.size → ¬ Lst listed i → Fr ρ (X.S i).h.next (X.S (i + 1)).h.next
  rdom : ∀ b, ρ b ≠ none → X.ρ0 b ≠ none ∨ ∃ i, i < X.ops.size ∧ Lst listed i ∧ (X.S i).h.next ≤ b ∧ b < (X.S (i + 1)).h.next
  gout : ∀ b, G b ≠ none → b < (X.S X.ops.size).h.next
  stores : ∀ j b, j < X.ops.size → Lst listed j → X.F j = some (.wr b) → ρ b ≠ none
  sub : Sub X.ρ0 ρ
  new : ∀ b c s z, ρ b = some (c, s, z) → X.ρ0 b = some (c, s, z) ∨ ((X.S 0).h.next ≤ b ∧ b < (X.S X.ops.size).h.next ∧ X.Old c)
  wsize : X.w0.heap.size ≤ w.heap.size
  os : w.os = X.w0.os
  tape : w.tape = X.w0.tape
  output : w.output = X.w0.output
  frame : ∀ c, c < X.w0.heap.size → ¬ X.Hit c → w.heap[c]? = X.w0.heap[c]?
  glob : GOK ρ w

/-! ### operations that look at no memory; loads and stores; the others -/
section
variable {E : Env} {tm : TM} {n : Nat}
theorem evPure_any (P : Program) (tm : TM) (o : Oper) : ∃ ov : Option Value, ∀ h, evPure P tm h o = valR h ov := by
  unfold evPure
  by_cases hf : allFlat tm o.op.operands.toList = true
  · simp only [hf, if_true]
    cases hp : pureRun P (execOp (evA' tm) o) with
    | none => exact ⟨none, fun h => rfl⟩
    | some nx =>
      cases nx with
      | value v =>
        simp only
        by_cases hv : flat2 v = true
        · exact ⟨some v, fun h => by simp [hv, valR]⟩
        · exact ⟨none, fun h => by simp [hv, valR]⟩
      | _ => exact ⟨none, fun h => rfl⟩
  · exact ⟨none, fun h => by simp [hf, valR]⟩
theorem pure_op {o : Oper} (hp : pureOp o.op = true) : ∃ ov : Option Value, ∀ h, evOp E tm h o = valR h ov := by
  obtain ⟨dst, op, ty, pos, after, guard⟩ := o
  cases op with
  | move x => exact ⟨evA tm x, fun h => rfl⟩
  | assign x => exact ⟨evA tm x, fun h => rfl⟩
  | pick c x y =>
    simp only [evOp, hCall, hCallV, hCallB, hPick, hAlloc, hBox, hLoad, hStore, hNil, hFieldAddr, hField, hMakeFunc, hIface, hMakeMap, hExtract, hBuild, hBuildSlice, hIndexAddr, hMakeSlice, hSlice, hLookup, hMapUpd, hAssert, hBin, hUn, hInt, hNilEq]
    split
    · exact ⟨_, fun h => rfl⟩
    · exact ⟨none, fun h => rfl⟩
  | fieldAddr s x i =>
    simp only [evOp, hCall, hCallV, hCallB, hPick, hAlloc, hBox, hLoad, hStore, hNil, hFieldAddr, hField, hMakeFunc, hIface, hMakeMap, hExtract, hBuild, hBuildSlice, hIndexAddr, hMakeSlice, hSlice, hLookup, hMapUpd, hAssert, hBin, hUn, hInt, hNilEq]
    split
    · split
      · split
        · exact ⟨some _, fun h => rfl⟩
        · exact ⟨none, fun h => rfl⟩
      · exact ⟨none, fun h => rfl⟩
    · exact ⟨none, fun h => rfl⟩
  | field t x i =>
    simp only [evOp, hCall, hCallV, hCallB, hPick, hAlloc, hBox, hLoad, hStore, hNil, hFieldAddr, hField, hMakeFunc, hIface, hMakeMap, hExtract, hBuild, hBuildSlice, hIndexAddr, hMakeSlice, hSlice, hLookup, hMapUpd, hAssert, hBin, hUn, hInt, hNilEq]
    split
    · split
      · split
        · split
          · exact ⟨some _, fun h => rfl⟩
          · exact ⟨none, fun h => rfl⟩
        · exact ⟨_, fun h => rfl⟩
        · exact ⟨none, fun h => rfl⟩
      · exact ⟨none, fun h => rfl⟩
    · exact ⟨none, fun h => rfl⟩
  | unOp op t x =>
    simp only [evOp, hUn]
    split
    · exact ⟨some _, fun h => rfl⟩
    · exact evPure_any _ _ _
  | makeInterface t x =>
    simp only [evOp, hCall, hCallV, hCallB, hPick, hAlloc, hBox, hLoad, hStore, hNil, hFieldAddr, hField, hMakeFunc, hIface, hMakeMap, hExtract, hBuild, hBuildSlice, hIndexAddr, hMakeSlice, hSlice, hLookup, hMapUpd, hAssert, hBin, hUn, hInt, hNilEq]
    split
    · exact ⟨none, fun h => rfl⟩
    · exact ⟨some _, fun h => rfl⟩
    · exact ⟨none, fun h => rfl⟩
  | makeFunc fn f c =>
    simp only [evOp, hCall, hCallV, hCallB, hPick, hAlloc, hBox, hLoad, hStore, hNil, hFieldAddr, hField, hMakeFunc, hIface, hMakeMap, hExtract, hBuild, hBuildSlice, hIndexAddr, hMakeSlice, hSlice, hLookup, hMapUpd, hAssert, hBin, hUn, hInt, hNilEq]
    split
    · exact ⟨some _, fun h => rfl⟩
    · exact ⟨none, fun h => rfl⟩
  | extract x i =>
    simp only [evOp, hCall, hCallV, hCallB, hPick, hAlloc, hBox, hLoad, hStore, hNil, hFieldAddr, hField, hMakeFunc, hIface, hMakeMap, hExtract, hBuild, hBuildSlice, hIndexAddr, hMakeSlice, hSlice, hLookup, hMapUpd, hAssert, hBin, hUn, hInt, hNilEq]
    split
    · exact ⟨_, fun h => rfl⟩
    · exact ⟨none, fun h => rfl⟩
  | nilCheck x =>
    simp only [evOp, hCall, hCallV, hCallB, hPick, hAlloc, hBox, hLoad, hStore, hNil, hFieldAddr, hField, hMakeFunc, hIface, hMakeMap, hExtract, hBuild, hBuildSlice, hIndexAddr, hMakeSlice, hSlice, hLookup, hMapUpd, hAssert, hBin, hUn, hInt, hNilEq]
    split
    · exact ⟨some _, fun h => rfl⟩
    · exact ⟨some _, fun h => rfl⟩
    · exact ⟨none, fun h => rfl⟩
  | indexAddr t x i =>
    simp only [evOp, hCall, hCallV, hCallB, hPick, hAlloc, hBox, hLoad, hStore, hNil, hFieldAddr, hField, hMakeFunc, hIface, hMakeMap, hExtract, hBuild, hBuildSlice, hIndexAddr, hMakeSlice, hSlice, hLookup, hMapUpd, hAssert, hBin, hUn, hInt, hNilEq]
    split
    · split
      · split
        · exact ⟨some _, fun h => rfl⟩
        · exact ⟨none, fun h => rfl⟩
      · exact ⟨none, fun h => rfl⟩
    · split
      · split
        · exact ⟨some _, fun h => rfl⟩
        · exact ⟨none, fun h => rfl⟩
      · exact ⟨none, fun h => rfl⟩
    · exact ⟨none, fun h => rfl⟩
  | index t x i =>
    simp only [evOp, hIdx]
    split
    · split
      · exact ⟨some _, fun h => rfl⟩
      · exact ⟨none, fun h => rfl⟩
    · exact evPure_any _ _ _
  | slice t x lo hi mx =>
    simp only [evOp, hCall, hCallV, hCallB, hPick, hAlloc, hBox, hLoad, hStore, hNil, hFieldAddr, hField, hMakeFunc, hIface, hMakeMap, hExtract, hBuild, hBuildSlice, hIndexAddr, hMakeSlice, hSlice, hLookup, hMapUpd, hAssert, hBin, hUn, hInt, hNilEq]
    split
    · exact ⟨_, fun h => rfl⟩
    · split
      · exact ⟨_, fun h => rfl⟩
      · exact ⟨none, fun h => rfl⟩
    · exact evPure_any _ _ _
  | binOp op t x y yt =>
    simp only [evOp, hBin]
    split
    · split
      · simp only [hInt]
        split
        · exact ⟨some _, fun h => rfl⟩
        · split
          · exact ⟨some _, fun h => rfl⟩
          · exact evPure_any _ _ _
      · exact evPure_any _ _ _
    · split
      · exact ⟨some _, fun h => rfl⟩
      · exact evPure_any _ _ _
    · split
      · exact evPure_any _ _ _
      · simp only [hNilEq]
        split
        · exact ⟨_, fun h => rfl⟩
        · exact ⟨_, fun h => rfl⟩
        · exact ⟨none, fun h => rfl⟩
    · exact ⟨none, fun h => rfl⟩
  | _ => cases hp
theorem pure_full {o : Oper} (hp : pureOp o.op = true) {self : Code → St → Option (X × St)} {h h' : H} {v : Value} (he : evFull E self tm h o = some (v, h')) :
    h' = h ∧ ∀ h2, evFull E self tm h2 o = some (v, h2) := by
  obtain ⟨ov, hov⟩ := pure_op (E := E) (tm := tm) hp
  unfold evFull at he ⊢
  rw [hov] at he
  cases ov with
  | none => cases he
  | some u =>
    simp only [valR] at he
    cases he
    exact ⟨rfl, fun h2 => by rw [hov]; rfl⟩
/-- A block laid, or none. -/
def layO (h : H) : Option AObj → H
  | none => h
  | some x => h.push x
theorem foot_cases {o : Oper} (hp : pureOp o.op = false) {self : Code → St → Option (X × St)} {h h' : H} {v : Value} {b : Bool} {m m' : U AObj} (he : evFull E self tm h o = some (v, h')) :
    (∃ t x a, o.op = .load t x ∧ evA tm x = some (.pointer (some a)) ∧ foot tm o b m m' = .rd (some a.block) ∧ h' = h ∧ h.load E.P t a = some v) ∨
    (∃ t x y a u, o.op = .store t x y ∧ evA tm x = some (.pointer (some a)) ∧ evA tm y = some u ∧ foot tm o b m m' = .wr a.block ∧ h.store E.P t a u = some h' ∧ v = undef) ∨
    foot tm o b m m' = (if b then .gen m m' else .rd none) ∨
    (foot tm o b m m' = .own ∧ ∃ ob : Option AObj, h' = layO h ob ∧ ∀ h2 : H, h2.next = h.next → evFull E self tm h2 o = some (v, layO h2 ob)) := by
  obtain ⟨dst, op, ty, pos, after, guard⟩ := o
  cases op with
  | buildSlice t l ps =>
    right; right; right
    refine ⟨rfl, ?_⟩
    unfold evFull at he
    simp only [evOp, hBuildSlice] at he
    cases e1 : evParts tm ps.toList with
    | none => rw [e1] at he; cases he
    | some parts =>
    rw [e1] at he
    split at he
    · rename_i q
      split at q
      · rename_i parts2 e hq hu
        cases hq
        split at q
        · rename_i z s hz hs
          split at q
          · rename_i hc
            split at q
            · rename_i c hfl
              simp only [Option.some.injEq, Res.val.injEq] at q
              obtain ⟨q1, q2⟩ := q
              simp only [Option.some.injEq, Prod.mk.injEq] at he
              obtain ⟨he1, he2⟩ := he
              refine ⟨some (.cells c (some e) true 0), by rw [← he2, ← q2]; rfl, fun h2 hn => ?_⟩
              unfold evFull
              simp only [evOp, hBuildSlice, e1, hu, hz, hs, if_pos hc, hfl]
              rw [← he1, ← q1, hn]
              rfl
            · cases q
          · cases q
        · cases q
      · cases q
    · rename_i q
      exfalso
      split at q <;> try cases q
      split at q <;> try cases q
      split at q <;> try cases q
      split at q <;> cases q
    · rename_i q
      exfalso
      split at q <;> try cases q
      split at q <;> try cases q
      split at q <;> try cases q
      split at q <;> cases q
    · cases he
  | call c =>
    by_cases hl : lenS tm c = true
    · right; right; right
      have hft : foot tm ⟨dst, .call c, ty, pos, after, guard⟩ b m m' = .own := by simp only [foot, hl, if_true]
      refine ⟨hft, none, ?_⟩
      unfold lenS at hl
      split at hl
      · rename_i x e1 e2
        split at hl
        · rename_i sa sn sc e3
          obtain ⟨cl, ar, ts⟩ := c
          simp only at e1 e2
          subst e1
          have key : ∀ h2 : H, evOp E tm h2 ⟨dst, .call ⟨.builtin .len, ar, ts⟩, ty, pos, after, guard⟩ = (match (ts[0]?).bind E.P.underlying with
              | some (.slice _) => some (.val (goI sn) h2)
              | _ => none) := fun h2 => by
            simp only [evOp, hCall, hCallB, e2, evList, e3, evBuiltin]
            cases (ts[0]?).bind E.P.underlying with
            | none => rfl
            | some d => cases d <;> rfl
          unfold evFull at he ⊢
          rw [key] at he
          split at he
          · rename_i q
            split at q
            · rename_i e hu
              cases q
              cases he
              exact ⟨rfl, fun h2 _ => by rw [key, hu]; rfl⟩
            · cases q
          · rename_i q; split at q <;> cases q
          · rename_i q; split at q <;> cases q
          · cases he
        · cases hl
      · cases hl
    · right; right; left
      simp only [foot, hl, Bool.false_eq_true, if_false]
  | load t x =>
    have other : (∀ a, evA tm x ≠ some (.pointer (some a))) → foot tm ⟨dst, .load t x, ty, pos, after, guard⟩ b m m' = (if b then .gen m m' else .rd none) := fun hne => by
      show (match evA tm x with
        | some (.pointer (some a)) => Foot.rd (some a.block)
        | _ => if b then .gen m m' else .rd none) = _
      split
      · rename_i a ha; exact absurd ha (hne a)
      · rfl
    by_cases hp : ∃ a, evA tm x = some (.pointer (some a))
    · left
      obtain ⟨a, ha⟩ := hp
      unfold evFull at he
      simp only [evOp, hLoad, ha] at he
      cases hv : h.load E.P t a with
      | none => rw [hv] at he; cases he
      | some u =>
        rw [hv] at he
        cases he
        exact ⟨t, x, a, rfl, ha, by simp [foot, ha], rfl, hv⟩
    · right; right; left
      exact other fun a ha => hp ⟨a, ha⟩
  | store t x y =>
    right; left
    unfold evFull at he
    simp only [evOp, hLoad, hStore] at he
    have key : ∀ r, (match evA tm x, evA tm y with
        | some (.pointer (some a)), some v => skipR (h.store E.P t a v)
        | _, _ => none) = some r → ∃ a u h1, evA tm x = some (.pointer (some a)) ∧ evA tm y = some u ∧ h.store E.P t a u = some h1 ∧ r = .skip h1 := by
      intro r q
      split at q
      · rename_i a u ha hu
        cases q3 : h.store E.P t a u with
        | none => rw [q3] at q; cases q
        | some h1 => rw [q3] at q; cases q; exact ⟨a, u, h1, ha, hu, q3, rfl⟩
      · cases q
    split at he
    · rename_i q; obtain ⟨a, u, h1, _, _, _, e⟩ := key _ q; cases e
    · rename_i q
      obtain ⟨a, u, h1, e1, e2, e3, e⟩ := key _ q
      cases e; cases he
      exact ⟨t, x, y, a, u, rfl, e1, e2, by simp [foot, e1], e3, rfl⟩
    · rename_i q; obtain ⟨a, u, h1, _, _, _, e⟩ := key _ q; cases e
    · cases he
  | _ => right; right; left; rfl
theorem store_get {P : Program} {h h' : H} {t : TypeId} {a : Addr} {u : Value} (he : h.store P t a u = some h') :
    ∃ obj obj', h.m.get a.block = some obj ∧ h' = h.put a.block (some obj') ∧ ∀ h2 : H, h2.m.get a.block = some obj → h2.store P t a u = some (h2.put a.block (some obj')) := by
  unfold H.store at he
  split at he
  · rename_i n hn
    split at he
    · rename_i hl
      unfold H.write at he
      split at he
      · rename_i hg
        split at he
        · rename_i hc
          split at he
          · rename_i h1
            cases he
            exact ⟨_, _, hg, rfl, fun h2 hg2 => by
              unfold H.store
              rw [hn]
              simp only
              rw [if_pos hl]
              unfold H.write
              rw [hg2]
              simp only
              rw [if_pos hc, if_pos h1]⟩
          · cases he
        · cases he
      · cases he
    · cases he
  · cases he
end

section
variable {X : Ctx} (hX : X.OK)
include hX
theorem Ctx.gr1 {j : Nat} (hj : j < X.ops.size) : Gr (X.S j).h (X.S (j + 1)).h := by
  obtain ⟨o, ho⟩ : ∃ o, X.ops[j]? = some o := ⟨_, Array.getElem?_eq_getElem hj⟩
  obtain ⟨_, _, q | q⟩ := hX.step j o ho
  · rw [q.2.2.1]; exact Gr.refl _
  · rw [q.2.2.1]; exact (evFull_next (nm X.E X.n) q.2.1).relow
theorem Ctx.gr {x y : Nat} (h : x ≤ y) (hy : y ≤ X.ops.size) : Gr (X.S x).h (X.S y).h := by
  induction y with
  | zero =>
    obtain rfl : x = 0 := by omega
    exact Gr.refl _
  | succ y ih =>
    rcases Nat.lt_or_ge x (y + 1) with q | q
    · exact (ih (by omega) (by omega)).trans (Ctx.gr1 hX (by omega))
    · have e : x = y + 1 := by omega
      rw [e]; exact Gr.refl _
theorem Ctx.nts {x : Nat} (h : x ≤ X.ops.size) : (X.S x).nt = (X.S 0).nt := by
  induction x with
  | zero => rfl
  | succ x ih =>
    obtain ⟨o, ho⟩ : ∃ o, X.ops[x]? = some o := ⟨_, Array.getElem?_eq_getElem (by omega)⟩
    rw [(hX.step x o ho).1]; exact ih (by omega)
theorem Ctx.wfx {x : Nat} (h : x ≤ X.ops.size) : WF (X.S x).h := (Ctx.gr hX (Nat.zero_le x) h).wf hX.wf
theorem Ctx.live {x b : Nat} (h : x ≤ X.ops.size) (hl : (X.S x).h.m.get b ≠ none) : b < (X.S x).h.next := by
  rcases Nat.lt_or_ge b (X.S x).h.next with q | q
  · exact q
  · exact absurd (Ctx.wfx hX h b q) hl
/-- A temporary that is not written stays. -/
theorem Ctx.tm_stays {x y t : Nat} (h : x ≤ y) (hy : y ≤ X.ops.size) (hno : ∀ j o, x ≤ j → j < y → X.ops[j]? = some o → o.dst ≠ some t) : (X.S y).tm.get t = (X.S x).tm.get t := by
  induction y with
  | zero =>
    obtain rfl : x = 0 := by omega
    rfl
  | succ y ih =>
    rcases Nat.lt_or_ge x (y + 1) with q | q
    · obtain ⟨o, ho⟩ : ∃ o, X.ops[y]? = some o := ⟨_, Array.getElem?_eq_getElem (by omega)⟩
      rw [← ih (by omega) (by omega) fun j o p q => hno j o p (by omega)]
      obtain ⟨_, hp, _⟩ := hX.step y o ho
      have hne := hno y o (by omega) (by omega) ho
      cases hd : o.dst with
      | none =>
        rw [hd] at hp
        simp only [putT, Option.some.injEq] at hp
        rw [← hp]
      | some d =>
        rw [hd] at hp hne
        simp only [putT] at hp
        split at hp
        · simp only [Option.some.injEq] at hp
          rw [← hp, T.get_set, if_neg (by intro e; exact hne (by rw [e]))]
        · cases hp
    · have e : x = y + 1 := by omega
      rw [e]
/-- A block that is not written stays. -/
theorem Ctx.get_stays {x y b : Nat} (h : x ≤ y) (hy : y ≤ X.ops.size) (hb : b < (X.S x).h.next) (hno : ∀ j, x ≤ j → j < y → ¬ touches X.F j b) : (X.S y).h.m.get b = (X.S x).h.m.get b := by
  induction y with
  | zero =>
    obtain rfl : x = 0 := by omega
    rfl
  | succ y ih =>
    rcases Nat.lt_or_ge x (y + 1) with q | q
    · obtain ⟨o, ho⟩ : ∃ o, X.ops[y]? = some o := ⟨_, Array.getElem?_eq_getElem (by omega)⟩
      rw [← ih (by omega) (by omega) fun j p q => hno j p (by omega)]
      have hby : b < (X.S y).h.next := Nat.lt_of_lt_of_le hb (Ctx.gr hX (by omega) (by omega)).next
      have hn := hno y (by omega) (by omega)
      obtain ⟨_, _, q | q⟩ := hX.step y o ho
      · rw [q.2.2.1]
      · obtain ⟨_, hf, hs, hk⟩ := q
        rw [hs]
        show (X.Hh y).m.get b = _
        have hgr := evFull_next (nm X.E X.n) hf
        rcases hk with ⟨hp, _⟩ | ⟨hp, hk⟩
        · rw [(pure_full hp hf).1]
        · rcases foot_cases (b := Nat.blt (X.Hh y).low (X.S y).h.next) (m := (X.S y).h.m) (m' := (X.Hh y).m) hp hf with ⟨t, x', a, e1, e2, e3, e4, _⟩ | ⟨t, x', y', a, u, e1, e2, e3, e4, e5, _⟩ | e | ⟨_, ob, e, _⟩
          · rw [e4]
          · obtain ⟨obj, obj', q1, q2, _⟩ := store_get e5
            rw [q2, put_get, if_neg]
            intro e
            subst e
            exact hn (.inl (by rw [hk, e4]))
          · cases q : Nat.blt (X.Hh y).low (X.S y).h.next with
            | false =>
              have hlow : (X.S y).h.next ≤ (X.Hh y).low := by
                rcases Nat.lt_or_ge (X.Hh y).low (X.S y).h.next with q2 | q2
                · rw [← Nat.blt_eq, q] at q2; cases q2
                · exact q2
              exact hgr.keep b hby (Nat.lt_of_lt_of_le hby hlow)
            | true =>
              rw [q] at e hk
              refine Classical.byContradiction fun hne => hn (.inr ⟨(X.S y).h.m, (X.Hh y).m, by rw [hk, e]; rfl, fun h => hne h.symm⟩)
          · rw [e]
            cases ob with
            | none => rfl
            | some ob =>
              show (((X.S y).h.m).set (X.S y).h.next (some ob)).get b = _
              rw [U.get_set, if_neg (by omega)]
    · have e : x = y + 1 := by omega
      rw [e]
end
end Go.Proofs.Ytknenadpkgajjaa.GEv
