/- The same evaluator: stores, calls and the nesting prepared, too. -/
import Derived.Test.YtfgemjpoiconbaaGreatDoorGEvV
namespace Go.Proofs.YtfgemjpoiconbaaGreatDoor.GEv
open Go
open Go.RowKit (Below)
set_option linter.unusedVariables false
set_option linter.unusedSimpArgs false

/-! ### stores -/
def consO (v : Value) (o : Option (List Value)) : Option (List Value) :=
  match o with
  | some r => some (v :: r)
  | none => none
noncomputable def ovr0 (new : List Value) : List Value → Option (List Value) :=
  List.rec (motive := fun _ => List Value → Option (List Value)) (fun c => some c)
    (fun v _ ih c => match c with
      | [] => none
      | _ :: r => consO v (ih r)) new
noncomputable def ovr (c : List Value) : Nat → List Value → Option (List Value) :=
  List.rec (motive := fun _ => Nat → List Value → Option (List Value))
    (fun n new => match n with
      | 0 => ovr0 new []
      | _ + 1 => none)
    (fun x r ih n new => match n with
      | 0 => ovr0 new (x :: r)
      | m + 1 => consO x (ih m new)) c
theorem ovr0_eq : ∀ (new c : List Value), ovr0 new c = if new.length ≤ c.length then some (new ++ c.drop new.length) else none
  | [], c => by simp [ovr0]
  | v :: l, [] => by simp [ovr0]
  | v :: l, x :: r => by
    show consO v (ovr0 l r) = _
    rw [ovr0_eq l r]
    by_cases h : l.length ≤ r.length
    · simp [h, consO]
    · simp [h, consO]
theorem ovr_eq : ∀ (c : List Value) (off : Nat) (new : List Value), ovr c off new = if off + new.length ≤ c.length then some (over c off new) else none
  | [], 0, new => by
    show ovr0 new [] = _
    rw [ovr0_eq]
    cases new <;> simp [over]
  | [], n + 1, new => by
    show none = _
    rw [if_neg (by simp)]
  | x :: r, 0, new => by
    show ovr0 new (x :: r) = _
    rw [ovr0_eq]
    simp [over]
  | x :: r, m + 1, new => by
    show consO x (ovr r m new) = _
    rw [ovr_eq r m new]
    by_cases h : m + new.length ≤ r.length
    · have h' : m + 1 + new.length ≤ (x :: r).length := by simp only [List.length_cons]; omega
      rw [if_pos h, if_pos h']
      simp only [consO, over, List.take_succ_cons, List.cons_append, Nat.add_right_comm m 1, List.drop_succ_cons]
    · have h' : ¬ m + 1 + new.length ≤ (x :: r).length := by simp only [List.length_cons]; omega
      rw [if_neg h, if_neg h']
      rfl
noncomputable def wrL (c : List Value) (off : Nat) (l : List Value) (b : Nat) (el : Option TypeId) (full : Bool) (fz : Nat) (h : H) : Option Res :=
  match ovr c off l with
  | some c' => some (.skip ⟨h.m.set b (some (.cells c' el full fz)), h.next, cond (Nat.blt b h.low) b h.low⟩)
  | none => none
noncomputable def hStoreL (n : Nat) (a : Addr) (l : List Value) (h : H) : Option Res :=
  match Nat.beq l.length n with
  | true => match l.all one with
    | true => match h.m.get a.block with
      | some (.cells c el full fz) => match Nat.ble fz a.off with
        | true => wrL c a.off l a.block el full fz h
        | false => none
      | _ => none
    | false => none
  | false => none
theorem hStoreL_eq (P : Program) (t : TypeId) (n : Nat) (hn : sizeOf P t = some n) (a : Addr) (v : Value) (h : H) : hStoreL n a v.cells.toList h = skipR (h.store P t a v) := by
  unfold hStoreL H.store
  simp only [hn]
  by_cases hl : v.cells.toList.length = n
  · have h1 : Nat.beq v.cells.toList.length n = true := by rw [hl]; exact Nat.beq_refl n
    rw [h1, if_pos hl]
    simp only [H.write]
    cases hm : h.m.get a.block with
    | none => cases v.cells.toList.all one <;> rfl
    | some o =>
      cases o with
      | cells c el full fz =>
        simp only
        by_cases hf : fz ≤ a.off
        · have h2 : Nat.ble fz a.off = true := Nat.ble_eq_true_of_le hf
          rw [h2]
          simp only [wrL, ovr_eq]
          by_cases ho : a.off + v.cells.toList.length ≤ c.length
          · rw [if_pos ho, if_pos ⟨hf, ho⟩]
            cases v.cells.toList.all one with
            | true =>
              simp only [if_true, skipR, H.put]
              rw [cond_blt]
            | false => rfl
          · rw [if_neg ho, if_neg (fun z => ho z.2)]
            cases v.cells.toList.all one <;> rfl
        · have h2 : Nat.ble fz a.off = false := by
            cases hb : Nat.ble fz a.off with
            | true => exact absurd (Nat.le_of_ble_eq_true hb) hf
            | false => rfl
          rw [h2, if_neg (fun z => hf z.1)]
          cases v.cells.toList.all one <;> rfl
      | map es cl => cases v.cells.toList.all one <;> rfl
      | iter s p => cases v.cells.toList.all one <;> rfl
  · have h1 : Nat.beq v.cells.toList.length n = false := by
      cases hb : Nat.beq v.cells.toList.length n with
      | true => exact absurd (Nat.eq_of_beq_eq_true hb) hl
      | false => rfl
    rw [h1, if_neg hl]
    rfl
noncomputable def hStoreC (n : Nat) (x y : OpdC) (tm : TM) (h : H) : Option Res :=
  match x.e tm with
  | some (.pointer (some a)) => match y.e tm with
    | some v => hStoreL n a v.cells.toList h
    | none => none
  | _ => none

/-! ### calls -/
structure LC where
  l : TM → Option (List Value)
def lCons (x : OpdC) (r : LC) (tm : TM) : Option (List Value) :=
  match x.e tm with
  | some v => match r.l tm with
    | some l => some (v :: l)
    | none => none
  | none => none
def lC : List Operand → LC
  | [] => ⟨fun _ => some []⟩
  | x :: r => ⟨lCons (aC x) (lC r)⟩
theorem lC_eq : ∀ (l : List Operand) (tm : TM), (lC l).l tm = evList tm l
  | [], tm => rfl
  | x :: r, tm => by
    simp only [lC, lCons, evList, aC_eq, lC_eq r tm]
    cases evA tm x <;> cases evList tm r <;> rfl
def hEnter (f : FuncId) (r : LC) (tm : TM) (h : H) : Option Res :=
  match r.l tm with
  | some args => some (.enter f args h)
  | none => none
noncomputable def op2 (E : Env) (o : Oper) : FC :=
  match o.op with
  | .store t x y => match sizeOf E.P t with
    | some n => ⟨hStoreC n (aC x) (aC y)⟩
    | none => ⟨fun tm h => hStore E.P tm h t x y⟩
  | .call c => match c.callee with
    | .value (.func f) => match E.P.funcs[f]? with
      | some fn => match fn.body with
        | some _ => ⟨hEnter f (lC c.args.toList)⟩
        | none => opC E o
      | none => opC E o
    | .builtin .len => match c.args.toList, (c.argTypes[0]?).bind E.P.underlying with
      | [x], some (.slice _) => ⟨hLen (aC x) (fun tm h => hCall E tm h o c)⟩
      | _, _ => opC E o
    | _ => opC E o
  | _ => opC E o
theorem op2_eq (E : Env) (o : Oper) (tm : TM) (h : H) : (op2 E o).f tm h = evOp E tm h o := by
  obtain ⟨dst, op, ty, pos, after, guard⟩ := o
  cases op with
  | store t x y =>
    simp only [op2, evOp]
    split
    · rename_i n hn
      simp only [hStoreC, hStore, aC_eq]
      cases hv : evA tm x with
      | none => cases evA tm y <;> rfl
      | some v => cases v with
        | pointer a => cases a with
          | none => cases evA tm y <;> rfl
          | some a => cases hu : evA tm y with
            | none => rfl
            | some u => exact hStoreL_eq E.P t n hn a u h
        | _ => cases evA tm y <;> rfl
    · rfl
  | call c =>
    simp only [op2]
    split
    · rename_i f hc
      split
      · rename_i fn hf
        split
        · rename_i b hb
          simp only [hEnter, lC_eq, evOp, hCall, hc, hCallV, evA, evCall, hf, hb]
          cases evList tm c.args.toList with
          | none => rfl
          | some l => simp [hf, hb]
        · exact opC_eq E _ tm h
      · exact opC_eq E _ tm h
    · rename_i hc
      split
      · rename_i x e ha ht
        simp only [evOp, hLen, aC_eq]
        cases hv : evA tm x with
        | none => rfl
        | some v => cases v with
          | slice a n cap => simp only [hCall, hc, hCallB, ha, evList, hv, evBuiltin, ht]
          | _ => rfl
      · exact opC_eq E _ tm h
    · exact opC_eq E _ tm h
  | _ =>
    simp only [op2]
    exact opC_eq E _ tm h

structure RC where
  r : TM → H → Option Value
def rGen (P : Program) (l : List ResultVar) (tm : TM) (h : H) : Option Value :=
  match evResults P tm h l with
  | some [v] => some v
  | some l => some (.tuple l.toArray)
  | none => none
structure FunC where
  r : (Code → St → Option (X × St)) → List Value → H → Option (Value × H)
def fin (rs : RC) (o : Option (X × St)) : Option (Value × H) :=
  match o with
  | some (x, st) => match x with
    | .exit _ => none
    | _ => match rs.r st.tm st.h with
      | some v => some (v, st.h)
      | none => none
  | none => none
structure BC where
  b : List Nat
end Go.Proofs.YtfgemjpoiconbaaGreatDoor.GEv
