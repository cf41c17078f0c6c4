/- The same evaluator: stores, calls and the nesting prepared, too. -/
import Derived.Test.YtknenadpkgajjaaGEvV
namespace Go.Proofs.Ytknenadpkgajjaa.GEv
open Go
open Go.RowKit (Below)
set_option linter.unusedVariables false
set_option linter.unusedSimpArgs false

/-! ### stores -/
def consO (v : Value) (o : Option (List Value)) : Option (List Value) :=
  match o with
  | some r => some (v :: r)
  | none => none
noncomputable def ovr0 (new : List Value) : List Value → Option (List Value) :=
  List.rec (motive := fun _ => List Value → Option (List Value)) (fun c => some c)
    (fun v _ ih c => match c with
      | [] => none
      | _ :: r => consO v (ih r)) new
noncomputable def ovr (c : List Value) : Nat → List Value → Option (List Value) :=
  List.rec (motive := fun _ => Nat → List Value → Option (List Value))
    (fun n new => match n with
      | 0 => ovr0 new []
      | _ + 1 => none)
    (fun x r ih n new => match n with
      | 0 => ovr0 new (x :: r)
      | m + 1 => consO x (ih m new)) c
theorem ovr0_eq : ∀ (new c : List Value), ovr0 new c = if new.length ≤ c.length then some (new ++ c.drop new.length) else none
  | [], c => by simp [ovr0]
  | v :: l, [] => by simp [ovr0]
  | v :: l, x :: r => by
    show consO v (ovr0 l r) = _
    rw [ovr0_eq l r]
    by_cases h : l.length ≤ r.length
    · simp [h, consO]
    · simp [h, consO]
theorem ovr_eq : ∀ (c : List Value) (off : Nat) (new : List Value), ovr c off new = if off + new.length ≤ c.length then some (over c off new) else none
  | [], 0, new => by
    show ovr0 new [] = _
    rw [ovr0_eq]
    cases new <;> simp [over]
  | [], n + 1, new => by
    show none = _
    rw [if_neg (by simp)]
  | x :: r, 0, new => by
    show ovr0 new (x :: r) = _
    rw [ovr0_eq]
    simp [over]
  | x :: r, m + 1, new => by
    show consO x (ovr r m new) = _
    rw [ovr_eq r m new]
    by_cases h : m + new.length ≤ r.length
    · have h' : m + 1 + new.length ≤ (x :: r).length := by simp only [List.length_cons]; omega
      rw [if_pos h, if_pos h']
      simp only [consO, over, List.take_succ_cons, List.cons_append, Nat.add_right_comm m 1, List.drop_succ_cons]
    · have h' : ¬ m + 1 + new.length ≤ (x :: r).length := by simp only [List.length_cons]; omega
      rw [if_neg h, if_neg h']
      rfl
noncomputable def wrL (c : List Value) (off : Nat) (l : List Value) (b : Nat) (el : Option TypeId) (full : Bool) (fz : Nat) (h : H) : Option Res :=
  match ovr c off l with
  | some c' => some (.skip ⟨h.m.set b (some (.cells c' el full fz)), h.next, cond (Nat.blt b h.low) b h.low⟩)
  | none => none
noncomputable def hStoreL (n : Nat) (a : Addr) (l : List Value) (h : H) : Option Res :=
  match Nat.beq l.length n with
  | true => match l.all one with
    | true => match h.m.get a.block with
      | some (.cells c el full fz) => match Nat.ble fz a.off with
        | true => wrL c a.off l a.block el full fz h
        | false => none
      | _ => none
    | false => none
  | false => none
theorem hStoreL_eq (P : Program) (t : TypeId) (n : Nat) (hn : sizeOf P t = some n) (a : Addr) (v : Value) (h : H) : hStoreL n a v.cells.toList h = skipR (h.store P t a v) := by
  unfold hStoreL H.store
  simp only [hn]
  by_cases hl : v.cells.toList.length = n
  · have h1 : Nat.beq v.cells.toList.length n = true := by rw [hl]; exact Nat.beq_refl n
    rw [h1, if_pos hl]
    simp only [H.write]
    cases hm : h.m.get a.block with
    | none => cases v.cells.toList.all one <;> rfl
    | some o =>
      cases o with
      | cells c el full fz =>
        simp only
        by_cases hf : fz ≤ a.off
        · have h2 : Nat.ble fz a.off = true := Nat.ble_eq_true_of_le hf
          rw [h2]
          simp only [wrL, ovr_eq]
          by_cases ho : a.off + v.cells.toList.length ≤ c.length
          · rw [if_pos ho, if_pos ⟨hf, ho⟩]
            cases v.cells.toList.all one with
            | true =>
              simp only [if_true, skipR, H.put]
              rw [cond_blt]
            | false => rfl
          · rw [if_neg ho, if_neg (fun z => ho z.2)]
            cases v.cells.toList.all one <;> rfl
        · have h2 : Nat.ble fz a.off = false := by
            cases hb : Nat.ble fz a.off with
            | true => exact absurd (Nat.le_of_ble_eq_true hb) hf
            | false => rfl
          rw [h2, if_neg (fun z => hf z.1)]
          cases v.cells.toList.all one <;> rfl
      | map es cl => cases v.cells.toList.all one <;> rfl
      | iter s p => cases v.cells.toList.all one <;> rfl
  · have h1 : Nat.beq v.cells.toList.length n = false := by
      cases hb : Nat.beq v.cells.toList.length n with
      | true => exact absurd (Nat.eq_of_beq_eq_true hb) hl
      | false => rfl
    rw [h1, if_neg hl]
    rfl
noncomputable def hStoreC (n : Nat) (x y : OpdC) (tm : TM) (h : H) : Option Res :=
  match x.e tm with
  | some (.pointer (some a)) => match y.e tm with
    | some v => hStoreL n a v.cells.toList h
    | none => none
  | _ => none

/-! ### calls -/
structure LC where
  l : TM → Option (List Value)
def lCons (x : OpdC) (r : LC) (tm : TM) : Option (List Value) :=
  match x.e tm with
  | some v => match r.l tm with
    | some l => some (v :: l)
    | none => none
  | none => none
def lC : List Operand → LC
  | [] => ⟨fun _ => some []⟩
  | x :: r => ⟨lCons (aC x) (lC r)⟩
theorem lC_eq : ∀ (l : List Operand) (tm : TM), (lC l).l tm = evList tm l
  | [], tm => rfl
  | x :: r, tm => by
    simp only [lC, lCons, evList, aC_eq, lC_eq r tm]
    cases evA tm x <;> cases evList tm r <;> rfl
def hEnter (f : FuncId) (r : LC) (tm : TM) (h : H) : Option Res :=
  match r.l tm with
  | some args => some (.enter f args h)
  | none => none
noncomputable def op2 (E : Env) (o : Oper) : FC :=
  match o.op with
  | .store t x y => match sizeOf E.P t with
    | some n => ⟨hStoreC n (aC x) (aC y)⟩
    | none => ⟨fun tm h => hStore E.P tm h t x y⟩
  | .call c => match c.callee with
    | .value (.func f) => match E.P.funcs[f]? with
      | some fn => match fn.body with
        | some _ => ⟨hEnter f (lC c.args.toList)⟩
        | none => opC E o
      | none => opC E o
    | .builtin .len => match c.args.toList, (c.argTypes[0]?).bind E.P.underlying with
      | [x], some (.slice _) => ⟨hLen (aC x) (fun tm h => hCall E tm h o c)⟩
      | _, _ => opC E o
    | _ => opC E o
  | _ => opC E o
theorem op2_eq (E : Env) (o : Oper) (tm : TM) (h : H) : (op2 E o).f tm h = evOp E tm h o := by
  obtain ⟨dst, op, ty, pos, after, guard⟩ := o
  cases op with
  | store t x y =>
    simp only [op2, evOp]
    split
    · rename_i n hn
      simp only [hStoreC, hStore, aC_eq]
      cases hv : evA tm x with
      | none => cases evA tm y <;> rfl
      | some v => cases v with
        | pointer a => cases a with
          | none => cases evA tm y <;> rfl
          | some a => cases hu : evA tm y with
            | none => rfl
            | some u => exact hStoreL_eq E.P t n hn a u h
        | _ => cases evA tm y <;> rfl
    · rfl
  | call c =>
    simp only [op2]
    split
    · rename_i f hc
      split
      · rename_i fn hf
        split
        · rename_i b hb
          simp only [hEnter, lC_eq, evOp, hCall, hc, hCallV, evA, evCall, hf, hb]
          cases evList tm c.args.toList with
          | none => rfl
          | some l => simp [hf, hb]
        · exact opC_eq E _ tm h
      · exact opC_eq E _ tm h
    · rename_i hc
      split
      · rename_i x e ha ht
        simp only [evOp, hLen, aC_eq]
        cases hv : evA tm x with
        | none => rfl
        | some v => cases v with
          | slice a n cap => simp only [hCall, hc, hCallB, ha, evList, hv, evBuiltin, ht]
          | _ => rfl
      · exact opC_eq E _ tm h
    · exact opC_eq E _ tm h
  | _ =>
    simp only [op2]
    exact opC_eq E _ tm h

structure RC where
  r : TM → H → Option Value
def rGen (P : Program) (l : List ResultVar) (tm : TM) (h : H) : Option Value :=
  match evResults P tm h l with
  | some [v] => some v
  | some l => some (.tuple l.toArray)
  | none => none
def rC (P : Program) (l : List ResultVar) : RC :=
  match l with
  | [.tmp t] => ⟨fun tm _ => some ((gC t).g tm)⟩
  | l => ⟨rGen P l⟩
theorem rC_eq (P : Program) (l : List ResultVar) (tm : TM) (h : H) : (rC P l).r tm h = rGen P l tm h := by
  unfold rC
  split
  · rename_i t
    simp only [gC_eq, rGen, evResults]
  · rfl
structure FunC where
  r : (Code → St → Option (X × St)) → List Value → H → Option (Value × H)
def fin (rs : RC) (o : Option (X × St)) : Option (Value × H) :=
  match o with
  | some (x, st) => match x with
    | .exit _ => none
    | _ => match rs.r st.tm st.h with
      | some v => some (v, st.h)
      | none => none
  | none => none
def fBody (E : Env) (f : FuncId) (c : Code) (nt : Nat) (rs : RC) (self : Code → St → Option (X × St)) (args : List Value) (h : H) : Option (Value × H) :=
  match memOf E f args h with
  | some r => some r
  | none => match Nat.ble args.length nt with
    | true => fin rs (self c ⟨bindArgs 0 args .nil, nt, h⟩)
    | false => none
def funC (E : Env) (f : FuncId) : FunC :=
  match E.P.funcs[f]? with
  | some fn => match fn.body with
    | some c => ⟨fBody E f c fn.ntmps (rC E.P fn.results.toList)⟩
    | none => ⟨fun self args h => evFun E self f args h⟩
  | none => ⟨fun self args h => evFun E self f args h⟩
theorem funC_eq (E : Env) (f : FuncId) (self : Code → St → Option (X × St)) (args : List Value) (h : H) : (funC E f).r self args h = evFun E self f args h := by
  unfold funC
  split
  · rename_i fn hf
    split
    · rename_i c hc
      simp only [fBody, evFun, hf, hc]
      cases memOf E f args h with
      | some r => rfl
      | none =>
        simp only
        by_cases hl : args.length ≤ fn.ntmps
        · rw [Nat.ble_eq_true_of_le hl, if_pos hl]
          simp only
          cases self c ⟨bindArgs 0 args .nil, fn.ntmps, h⟩ with
          | none => rfl
          | some r =>
            obtain ⟨x, st⟩ := r
            cases x with
            | exit i => rfl
            | normal =>
              simp only [fin, rC_eq, rGen]
              cases evResults E.P st.tm st.h fn.results.toList with
              | none => rfl
              | some l => match l with
                | [] => rfl
                | [v] => rfl
                | v :: u :: r => rfl
            | ret =>
              simp only [fin, rC_eq, rGen]
              cases evResults E.P st.tm st.h fn.results.toList with
              | none => rfl
              | some l => match l with
                | [] => rfl
                | [v] => rfl
                | v :: u :: r => rfl
        · have hb : Nat.ble args.length fn.ntmps = false := by
            cases hb : Nat.ble args.length fn.ntmps with
            | true => exact absurd (Nat.le_of_ble_eq_true hb) hl
            | false => rfl
          rw [hb, if_neg hl]
    · rfl
  · rfl
noncomputable def gFull (E : Env) (self : Code → St → Option (X × St)) (f : FC) (tm : TM) (h : H) : Option (Value × H) :=
  match f.f tm h with
  | some (.val v h) => some (v, h)
  | some (.skip h) => some (undef, h)
  | some (.enter f args h) => (funC E f).r self args h
  | none => none
theorem gFull_eq (E : Env) (self : Code → St → Option (X × St)) (o : Oper) (tm : TM) (h : H) : gFull E self (op2 E o) tm h = fFull E self (opC E o) tm h := by
  unfold gFull fFull
  rw [op2_eq, opC_eq]
  cases evOp E tm h o with
  | none => rfl
  | some r => cases r <;> first | rfl | exact funC_eq E _ self _ _
noncomputable def gOps (E : Env) (self : Code → St → Option (X × St)) (ops : Array Oper) (nt : Nat) (l : List Oper) : TM → H → Option St :=
  List.rec (motive := fun _ => TM → H → Option St) (fun tm h => some ⟨tm, nt, h⟩)
    (fun o _ ih tm h => match (wC ops o).w tm with
      | true => match gFull E self (op2 E o) tm h with
        | some (v, h) => match (dC o.dst).d tm nt v with
          | some tm => ih tm h
          | none => none
        | none => none
      | false => match (dC o.dst).d tm nt undef with
        | some tm => ih tm h
        | none => none) l
theorem gOps_eq (E : Env) (self : Code → St → Option (X × St)) (ops : Array Oper) (nt : Nat) : ∀ (l : List Oper) (tm : TM) (h : H), gOps E self ops nt l tm h = fOps E self ops nt l tm h
  | [], tm, h => rfl
  | o :: rest, tm, h => by
    have e : gOps E self ops nt (o :: rest) tm h = (match (wC ops o).w tm with
      | true => match gFull E self (op2 E o) tm h with
        | some (v, h) => match (dC o.dst).d tm nt v with
          | some tm => gOps E self ops nt rest tm h
          | none => none
        | none => none
      | false => match (dC o.dst).d tm nt undef with
        | some tm => gOps E self ops nt rest tm h
        | none => none) := rfl
    rw [e, fOps]
    simp only [gFull_eq, gOps_eq E self ops nt rest]
    rfl
noncomputable def gDraw (E : Env) (self : Code → St → Option (X × St)) (ops : Array Oper) (bef : List Nat) (nt : Nat) (l : List Oper) : Nat → List (Nat × Foot) → TM → H → Option St :=
  List.rec (motive := fun _ => Nat → List (Nat × Foot) → TM → H → Option St) (fun _ _ tm h => some ⟨tm, nt, h⟩)
    (fun o _ ih i seen tm h => match (wC ops o).w tm with
    | true => match gFull E self (op2 E o) tm ⟨h.m, h.next, top h.next⟩ with
      | some (v, h1) => match (dC o.dst).d tm nt v with
        | some tm1 => match pureOp o.op with
          | true => ih (Nat.succ i) seen tm1 h
          | false => match fits (bef.getD i 0) ((kC o).k tm (Nat.blt h1.low h.next) h.m h1.m) seen with
            | true => ih (Nat.succ i) ((i, (kC o).k tm (Nat.blt h1.low h.next) h.m h1.m) :: seen) tm1 ⟨h1.m, h1.next, cond (Nat.blt h1.low h.low) h1.low h.low⟩
            | false => none
        | none => none
      | none => none
    | false => match (dC o.dst).d tm nt undef with
      | some tm => ih (Nat.succ i) seen tm h
      | none => none) l
theorem gDraw_eq (E : Env) (self : Code → St → Option (X × St)) (ops : Array Oper) (bef : List Nat) (nt : Nat) : ∀ (l : List Oper) (i : Nat) (seen : List (Nat × Foot)) (tm : TM) (h : H), gDraw E self ops bef nt l i seen tm h = fDraw E self ops bef nt l i seen tm h
  | [], i, seen, tm, h => rfl
  | o :: rest, i, seen, tm, h => by
    have e : gDraw E self ops bef nt (o :: rest) i seen tm h = (match (wC ops o).w tm with
    | true => match gFull E self (op2 E o) tm ⟨h.m, h.next, top h.next⟩ with
      | some (v, h1) => match (dC o.dst).d tm nt v with
        | some tm1 => match pureOp o.op with
          | true => gDraw E self ops bef nt rest (Nat.succ i) seen tm1 h
          | false => match fits (bef.getD i 0) ((kC o).k tm (Nat.blt h1.low h.next) h.m h1.m) seen with
            | true => gDraw E self ops bef nt rest (Nat.succ i) ((i, (kC o).k tm (Nat.blt h1.low h.next) h.m h1.m) :: seen) tm1 ⟨h1.m, h1.next, cond (Nat.blt h1.low h.low) h1.low h.low⟩
            | false => none
        | none => none
      | none => none
    | false => match (dC o.dst).d tm nt undef with
      | some tm => gDraw E self ops bef nt rest (Nat.succ i) seen tm h
      | none => none) := rfl
    rw [e, fDraw]
    simp only [gFull_eq, gDraw_eq E self ops bef nt rest]
    rfl
noncomputable def gReg (E : Env) (ops : Array Oper) (self : Code → St → Option (X × St)) (st : St) : Option (X × St) := norm (gOps E self ops st.nt ops.toList st.tm st.h)
structure BC where
  b : List Nat
noncomputable def gDrawR (E : Env) (ops : Array Oper) (bef : List Nat) (self : Code → St → Option (X × St)) (st : St) : Option (X × St) :=
  match Nat.ble st.h.low BIG with
  | true => norm (gDraw E self ops bef st.nt ops.toList 0 [] st.tm st.h)
  | false => norm (evDraw E self ops bef ops.toList 0 [] st)
noncomputable def code2 (E : Env) (c : Code) : CC :=
  match c with
  | .region _ ops false => ⟨gReg E ops⟩
  | .region _ ops true => match Region.lexB .any ops with
    | true => ⟨gDrawR E ops (befL ops.toList [])⟩
    | false => ⟨fun _ _ => none⟩
  | c => codeC E c
theorem code2_eq (E : Env) (self : Code → St → Option (X × St)) (c : Code) (st : St) : (code2 E c).c self st = (codeC E c).c self st := by
  cases c with
  | region id ops d =>
    cases d with
    | false => simp only [code2, codeC, cReg, gReg, gOps_eq]
    | true =>
      simp only [code2, codeC]
      cases Region.lexB .any ops with
      | true =>
        simp only [cDraw, gDrawR, gDraw_eq]
        rfl
      | false => rfl
  | _ => rfl
noncomputable def gev (E : Env) (n : Nat) : Code → St → Option (X × St) :=
  Nat.rec (motive := fun _ => Code → St → Option (X × St)) (fun _ _ => none) (fun _ ih c st => (code2 E c).c ih st) n
theorem gev_eq (E : Env) : ∀ n, gev E n = ev E n
  | 0 => rfl
  | n + 1 => by
    have e : gev E (n + 1) = fun c st => (code2 E c).c (gev E n) st := rfl
    rw [e, gev_eq E n, ← fev_eq]
    funext c st
    rw [code2_eq, codeC_eq, fev_eq]
    rfl
noncomputable def gresult (E : Env) (n : Nat) (f : FuncId) (args : List Value) : Option Value :=
  match (funC E f).r (gev E n) args h0 with
  | some (v, _) => some v
  | none => none
theorem gresult_eq (E : Env) (n : Nat) (f : FuncId) (args : List Value) : gresult E n f args = result E n f args := by
  unfold gresult result run
  rw [gev_eq, funC_eq]
  cases evFun E (ev E n) f args h0 <;> rfl
theorem gcalls_true {E : Env} (hE : E.OK) {n : Nat} {f : FuncId} {args : List Value} (he : isTrue (gresult E n f args) = true) (ha : args.all flat2 = true) {w : World} (hw : WOK w) (hs : GN ≤ w.heap.size) :
    Calls E.P f args.toArray w fun e w' => e = .returned (.bool true) ∧ Below w.heap.size w w' := calls_true hE (by rw [← gresult_eq]; exact he) ha hw hs
end Go.Proofs.Ytknenadpkgajjaa.GEv
