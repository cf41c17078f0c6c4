/- The same evaluator, prepared, whole: it says what the plain one says. -/
import Derived.Test.YtknenadpkgajjaaGEvU
namespace Go.Proofs.Ytknenadpkgajjaa.GEv
open Go
open Go.RowKit (Below)
set_option linter.unusedVariables false
set_option linter.unusedSimpArgs false

structure WC where
  w : TM → Bool
def bEq (a b : Bool) : Bool := match a with
  | true => b
  | false => not b
def wG (d : Nat) (want : Bool) (tm : TM) : Bool :=
  match (gC d).g tm with
  | .bool b => bEq b want
  | _ => false
def wC (ops : Array Oper) (o : Oper) : WC :=
  match o.guard with
  | none => ⟨fun _ => true⟩
  | some (j, want) => match (ops[j]?).bind (·.dst) with
    | none => ⟨fun _ => false⟩
    | some d => ⟨wG d want⟩
theorem wC_eq (ops : Array Oper) (o : Oper) (tm : TM) : (wC ops o).w tm = wanted ops tm o := by
  unfold wC wanted
  cases o.guard with
  | none => rfl
  | some g =>
    obtain ⟨j, want⟩ := g
    simp only
    cases (ops[j]?).bind (·.dst) with
    | none => rfl
    | some d =>
      simp only [wG, gC_eq]
      cases (tm.get d).getD undef <;> first | rfl | (rename_i b; cases b <;> cases want <;> rfl)
structure DC where
  d : TM → Nat → Value → Option TM
def dS (d : Nat) (s : SetC) (tm : TM) (nt : Nat) (v : Value) : Option TM :=
  match Nat.blt d nt with
  | true => some (s.s tm v)
  | false => none
def dC (dst : Option Tmp) : DC :=
  match dst with
  | none => ⟨fun tm _ _ => some tm⟩
  | some d => ⟨dS d (tC d)⟩
theorem dC_eq (dst : Option Tmp) (tm : TM) (nt : Nat) (v : Value) : (dC dst).d tm nt v = putT tm nt dst v := by
  cases dst with
  | none => rfl
  | some d =>
    simp only [dC, dS, putT, tC_eq]
    cases Nat.blt d nt <;> rfl
structure KC where
  k : TM → Bool → U AObj → U AObj → Foot
def kC (o : Oper) : KC :=
  match o.op with
  | .load _ x => ⟨fun tm wrote m m' => match (aC x).e tm with
    | some (.pointer (some a)) => .rd (some a.block)
    | _ => if wrote then .gen m m' else .rd none⟩
  | .store _ x _ => ⟨fun tm _ m m' => match (aC x).e tm with
    | some (.pointer (some a)) => .wr a.block
    | _ => .gen m m'⟩
  | .buildSlice _ _ _ => ⟨fun _ _ _ _ => .own⟩
  | .call c => match c.callee, c.args.toList with
    | .builtin .len, [x] => ⟨fun tm wrote m m' => match (aC x).e tm with
      | some (.slice _ _ _) => .own
      | _ => if wrote then .gen m m' else .rd none⟩
    | _, _ => ⟨fun _ wrote m m' => match wrote with
      | true => .gen m m'
      | false => .rd none⟩
  | _ => ⟨fun _ wrote m m' => match wrote with
    | true => .gen m m'
    | false => .rd none⟩
theorem kC_eq (o : Oper) (tm : TM) (b : Bool) (m m' : U AObj) : (kC o).k tm b m m' = foot tm o b m m' := by
  obtain ⟨dst, op, ty, pos, after, guard⟩ := o
  cases op with
  | load t x =>
    simp only [kC, foot, aC_eq]
    cases evA tm x with
    | none => rfl
    | some v => cases v <;> first | rfl | (rename_i a; cases a <;> rfl)
  | store t x y =>
    simp only [kC, foot, aC_eq]
    cases evA tm x with
    | none => rfl
    | some v => cases v <;> first | rfl | (rename_i a; cases a <;> rfl)
  | buildSlice t l ps => rfl
  | call c =>
    obtain ⟨cl, ar, ts⟩ := c
    have other : lenS tm ⟨cl, ar, ts⟩ = false → (match b with | true => Foot.gen m m' | false => .rd none) = foot tm ⟨dst, .call ⟨cl, ar, ts⟩, ty, pos, after, guard⟩ b m m' := fun q => by
      simp only [foot, q]
      cases b <;> rfl
    simp only [kC]
    split
    · rename_i x e2
      cases hx : evA tm x with
      | none =>
        rw [← other (by simp only [lenS, e2, hx])]
        simp only [aC_eq, hx]
        cases b <;> rfl
      | some v =>
        cases v with
        | slice a n k => simp only [foot, lenS, e2, aC_eq, hx, if_true]
        | _ =>
          rw [← other (by simp only [lenS, e2, hx])]
          simp only [aC_eq, hx]
          cases b <;> rfl
    · rename_i hne
      refine other ?_
      unfold lenS
      split
      · rename_i x e1 e2
        exact (hne x e1 e2).elim
      · rfl
  | _ => cases b <;> rfl

def Slf := Code → St → Option (X × St)
def fFull (E : Env) (self : Code → St → Option (X × St)) (f : FC) (tm : TM) (h : H) : Option (Value × H) :=
  match f.f tm h with
  | some (.val v h) => some (v, h)
  | some (.skip h) => some (undef, h)
  | some (.enter f args h) => evFun E self f args h
  | none => none
theorem fFull_eq (E : Env) (self : Code → St → Option (X × St)) (o : Oper) (tm : TM) (h : H) : fFull E self (opC E o) tm h = evFull E self tm h o := by
  unfold fFull evFull
  rw [opC_eq]
  cases evOp E tm h o with
  | none => rfl
  | some r => cases r <;> rfl
def fOps (E : Env) (self : Code → St → Option (X × St)) (ops : Array Oper) (nt : Nat) : List Oper → TM → H → Option St
  | [], tm, h => some ⟨tm, nt, h⟩
  | o :: rest, tm, h =>
    match (wC ops o).w tm with
    | true => match fFull E self (opC E o) tm h with
      | some (v, h) => match (dC o.dst).d tm nt v with
        | some tm => fOps E self ops nt rest tm h
        | none => none
      | none => none
    | false => match (dC o.dst).d tm nt undef with
      | some tm => fOps E self ops nt rest tm h
      | none => none
theorem fOps_eq (E : Env) (self : Code → St → Option (X × St)) (ops : Array Oper) (nt : Nat) : ∀ (l : List Oper) (tm : TM) (h : H), fOps E self ops nt l tm h = evOps E self ops l ⟨tm, nt, h⟩
  | [], tm, h => rfl
  | o :: rest, tm, h => by
    simp only [fOps, evOps, wC_eq, fFull_eq, dC_eq]
    cases wanted ops tm o with
    | true =>
      simp only [if_true]
      cases evFull E self tm h o with
      | none => rfl
      | some vh =>
        obtain ⟨v, h1⟩ := vh
        simp only
        cases putT tm nt o.dst v with
        | none => rfl
        | some tm1 => exact fOps_eq E self ops nt rest tm1 h1
    | false =>
      simp only [Bool.false_eq_true, if_false]
      cases putT tm nt o.dst undef with
      | none => rfl
      | some tm1 => exact fOps_eq E self ops nt rest tm1 h
def fDraw (E : Env) (self : Code → St → Option (X × St)) (ops : Array Oper) (bef : List Nat) (nt : Nat) : List Oper → (i : Nat) → (seen : List (Nat × Foot)) → TM → H → Option St
  | [], _, _, tm, h => some ⟨tm, nt, h⟩
  | o :: rest, i, seen, tm, h =>
    match (wC ops o).w tm with
    | true => match fFull E self (opC E o) tm ⟨h.m, h.next, top h.next⟩ with
      | some (v, h1) => match (dC o.dst).d tm nt v with
        | some tm1 => match pureOp o.op with
          | true => fDraw E self ops bef nt rest (Nat.succ i) seen tm1 h
          | false => match fits (bef.getD i 0) ((kC o).k tm (Nat.blt h1.low h.next) h.m h1.m) seen with
            | true => fDraw E self ops bef nt rest (Nat.succ i) ((i, (kC o).k tm (Nat.blt h1.low h.next) h.m h1.m) :: seen) tm1 ⟨h1.m, h1.next, cond (Nat.blt h1.low h.low) h1.low h.low⟩
            | false => none
        | none => none
      | none => none
    | false => match (dC o.dst).d tm nt undef with
      | some tm => fDraw E self ops bef nt rest (Nat.succ i) seen tm h
      | none => none
theorem cond_blt (a b : Nat) : cond (Nat.blt a b) a b = if a < b then a else b := by
  rw [blt_spec]
  by_cases h : a < b <;> simp [h]
theorem fDraw_eq (E : Env) (self : Code → St → Option (X × St)) (ops : Array Oper) (bef : List Nat) (nt : Nat) : ∀ (l : List Oper) (i : Nat) (seen : List (Nat × Foot)) (tm : TM) (h : H), h.low ≤ BIG →
    fDraw E self ops bef nt l i seen tm h = evDraw E self ops bef l i seen ⟨tm, nt, h⟩
  | [], i, seen, tm, h, _ => rfl
  | o :: rest, i, seen, tm, h, hb => by
    simp only [fDraw, evDraw, wC_eq, fFull_eq, dC_eq, kC_eq]
    cases wanted ops tm o with
    | true =>
      simp only [if_true]
      cases hf : evFull E self tm ⟨h.m, h.next, top h.next⟩ o with
      | none => rfl
      | some vh =>
        obtain ⟨v, h1⟩ := vh
        simp only
        cases putT tm nt o.dst v with
        | none => rfl
        | some tm1 =>
          simp only
          cases hp : pureOp o.op with
          | true =>
            simp only [if_true]
            obtain ⟨e, _⟩ := pure_full hp hf
            subst e
            rw [fDraw_eq E self ops bef nt rest (Nat.succ i) seen tm1 h hb]
            have : (if top h.next < h.low then top h.next else h.low) = h.low := by rw [if_neg (by have := (top_ge h.next).1; omega)]
            simp only [this]
          | false =>
            simp only [Bool.false_eq_true, if_false]
            cases fits (bef.getD i 0) (foot tm o (Nat.blt h1.low h.next) h.m h1.m) seen with
            | true =>
              simp only [if_true]
              rw [cond_blt]
              exact fDraw_eq E self ops bef nt rest (Nat.succ i) _ tm1 _ (by show (if h1.low < h.low then h1.low else h.low) ≤ BIG; split <;> omega)
            | false => rfl
    | false =>
      simp only [Bool.false_eq_true, if_false]
      cases putT tm nt o.dst undef with
      | none => rfl
      | some tm1 => exact fDraw_eq E self ops bef nt rest (Nat.succ i) seen tm1 h hb
structure CC where
  c : (Code → St → Option (X × St)) → St → Option (X × St)
def cSeq (a b : Code) (self : Code → St → Option (X × St)) (st : St) : Option (X × St) :=
  match self a st with
  | some (.normal, st) => self b st
  | r => r
def cCond (x : OpdC) (a b : Code) (self : Code → St → Option (X × St)) (st : St) : Option (X × St) :=
  match x.e st.tm with
  | some (.bool t) => match t with
    | true => self a st
    | false => self b st
  | _ => none
def cBlock (id : Nat) (a : Code) (self : Code → St → Option (X × St)) (st : St) : Option (X × St) :=
  match self a st with
  | some (.exit i, st) => match Nat.beq i id with
    | true => some (.normal, st)
    | false => some (.exit i, st)
  | r => r
def cLoop (l a : Code) (self : Code → St → Option (X × St)) (st : St) : Option (X × St) :=
  match self a st with
  | some (.normal, st) => self l st
  | r => r
def cReg (E : Env) (ops : Array Oper) (self : Code → St → Option (X × St)) (st : St) : Option (X × St) := norm (fOps E self ops st.nt ops.toList st.tm st.h)
def cDraw (E : Env) (ops : Array Oper) (self : Code → St → Option (X × St)) (st : St) : Option (X × St) :=
  match Nat.ble st.h.low BIG with
  | true => norm (fDraw E self ops (befL ops.toList []) st.nt ops.toList 0 [] st.tm st.h)
  | false => norm (evDraw E self ops (befL ops.toList []) ops.toList 0 [] st)
def codeC (E : Env) (c : Code) : CC :=
  match c with
  | .skip => ⟨fun _ st => some (.normal, st)⟩
  | .region _ ops false => ⟨cReg E ops⟩
  | .region _ ops true => match Region.lexB .any ops with
    | true => ⟨cDraw E ops⟩
    | false => ⟨fun _ _ => none⟩
  | .seq a b => ⟨cSeq a b⟩
  | .cond c a b => ⟨cCond (aC c) a b⟩
  | .block id a => ⟨cBlock id a⟩
  | .loop a => ⟨cLoop (.loop a) a⟩
  | .exit i => ⟨fun _ st => some (.exit i, st)⟩
  | .ret => ⟨fun _ st => some (.ret, st)⟩
  | _ => ⟨fun _ _ => none⟩
theorem codeC_eq (E : Env) (self : Code → St → Option (X × St)) (c : Code) (st : St) : (codeC E c).c self st = step E self c st := by
  cases c with
  | region id ops d =>
    cases d with
    | false => simp only [codeC, cReg, step, fOps_eq]
    | true =>
      simp only [codeC, step]
      cases Region.lexB .any ops with
      | true =>
        simp only [cDraw, if_true]
        split
        · rename_i h
          rw [fDraw_eq _ _ _ _ _ _ _ _ _ _ (Nat.le_of_ble_eq_true h)]
        · rfl
      | false => rfl
  | cond x a b =>
    simp only [codeC, cCond, step, aC_eq]
    cases evA st.tm x with
    | none => rfl
    | some v => cases v <;> first | rfl | (rename_i t; cases t <;> rfl)
  | block id a =>
    simp only [codeC, cBlock, step]
    cases self a st with
    | none => rfl
    | some r =>
      obtain ⟨x, s⟩ := r
      cases x with
      | exit i =>
        simp only
        by_cases hi : i = id
        · subst hi; simp
        · have : Nat.beq i id = false := by
            cases h : Nat.beq i id with
            | true => exact absurd (Nat.eq_of_beq_eq_true h) hi
            | false => rfl
          simp only [this, hi, if_false]
      | normal => rfl
      | ret => rfl
  | seq a b =>
    simp only [codeC, cSeq, step]
    cases self a st with
    | none => rfl
    | some r => obtain ⟨x, s⟩ := r; cases x <;> rfl
  | loop a =>
    simp only [codeC, cLoop, step]
    cases self a st with
    | none => rfl
    | some r => obtain ⟨x, s⟩ := r; cases x <;> rfl
  | _ => rfl
def fev (E : Env) : Nat → Code → St → Option (X × St)
  | 0 => fun _ _ => none
  | n + 1 => fun c st => (codeC E c).c (fev E n) st
theorem fev_eq (E : Env) : ∀ n, fev E n = ev E n
  | 0 => rfl
  | n + 1 => by
    funext c st
    simp only [fev, ev, fev_eq E n, codeC_eq]
def fresult (E : Env) (n : Nat) (f : FuncId) (args : List Value) : Option Value :=
  match evFun E (fev E n) f args h0 with
  | some (v, _) => some v
  | none => none
theorem fresult_eq (E : Env) (n : Nat) (f : FuncId) (args : List Value) : fresult E n f args = result E n f args := by
  unfold fresult result run
  rw [fev_eq]
  cases evFun E (ev E n) f args h0 <;> rfl
theorem fcalls_true {E : Env} (hE : E.OK) {n : Nat} {f : FuncId} {args : List Value} (he : isTrue (fresult E n f args) = true) (ha : args.all flat2 = true) {w : World} (hw : WOK w) (hs : GN ≤ w.heap.size) :
    Calls E.P f args.toArray w fun e w' => e = .returned (.bool true) ∧ Below w.heap.size w w' := calls_true hE (by rw [← fresult_eq]; exact he) ha hw hs
end Go.Proofs.Ytknenadpkgajjaa.GEv
