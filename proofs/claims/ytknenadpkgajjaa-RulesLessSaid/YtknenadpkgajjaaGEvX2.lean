/- The same evaluator once more, told for the kernel: what follows is handed on (no answer is wrapped and unwrapped), and what is done often is a recursor. It is only shown that it is right where it says true. -/
import Derived.Test.YtknenadpkgajjaaGEvW
namespace Go.Proofs.Ytknenadpkgajjaa.GEv
open Go
open Go.RowKit (Below)
set_option linter.unusedVariables false
set_option linter.unusedSimpArgs false
noncomputable section

/-! ### tables -/
def selR {β : Type} (t : N4 β) (d : Nat) : β :=
  Bool.rec (motive := fun _ => β) (Bool.rec (motive := fun _ => β) t.f0 t.f1 (Nat.ble 1 d)) (Bool.rec (motive := fun _ => β) t.f2 t.f3 (Nat.ble 3 d)) (Nat.ble 2 d)
theorem selR_eq {β : Type} (t : N4 β) (d : Nat) : selR t d = N4.sel t d := by
  unfold selR N4.sel
  cases Nat.ble 2 d <;> cases Nat.ble 3 d <;> cases Nat.ble 1 d <;> rfl
def putR {β : Type} (t : N4 β) (d : Nat) (v : β) : N4 β :=
  N4.rec (motive := fun _ => N4 β) (fun a b c e => Bool.rec (motive := fun _ => N4 β) (Bool.rec (motive := fun _ => N4 β) ⟨v, b, c, e⟩ ⟨a, v, c, e⟩ (Nat.ble 1 d)) (Bool.rec (motive := fun _ => N4 β) ⟨a, b, v, e⟩ ⟨a, b, c, v⟩ (Nat.ble 3 d)) (Nat.ble 2 d)) t
theorem putR_eq {β : Type} (t : N4 β) (d : Nat) (v : β) : putR t d v = N4.put t d v := by
  unfold putR N4.put
  cases t
  cases Nat.ble 2 d <;> cases Nat.ble 3 d <;> cases Nat.ble 1 d <;> rfl
def g1R {α : Type} (t : N4.M1 α) (n : Nat) : Option α := selR t n
def g2R {α : Type} (t : N4.M2 α) (n : Nat) : Option α := g1R (selR t (Nat.div n 4)) (Nat.mod n 4)
def g3R {α : Type} (t : N4.M3 α) (n : Nat) : Option α := g2R (selR t (Nat.div n 16)) (Nat.mod n 16)
def g4R {α : Type} (t : N4.M4 α) (n : Nat) : Option α := g3R (selR t (Nat.div n 64)) (Nat.mod n 64)
def g5R {α : Type} (t : N4.M5 α) (n : Nat) : Option α := g4R (selR t (Nat.div n 256)) (Nat.mod n 256)
def g6R {α : Type} (t : N4.M6 α) (n : Nat) : Option α := g5R (selR t (Nat.div n 1024)) (Nat.mod n 1024)
def g7R {α : Type} (t : N4.M7 α) (n : Nat) : Option α := g6R (selR t (Nat.div n 4096)) (Nat.mod n 4096)
def s1R {α : Type} (t : N4.M1 α) (n : Nat) (x : Option α) : N4.M1 α := putR t n x
def s2R {α : Type} (t : N4.M2 α) (n : Nat) (x : Option α) : N4.M2 α := putR t (Nat.div n 4) (s1R (selR t (Nat.div n 4)) (Nat.mod n 4) x)
def s3R {α : Type} (t : N4.M3 α) (n : Nat) (x : Option α) : N4.M3 α := putR t (Nat.div n 16) (s2R (selR t (Nat.div n 16)) (Nat.mod n 16) x)
def s4R {α : Type} (t : N4.M4 α) (n : Nat) (x : Option α) : N4.M4 α := putR t (Nat.div n 64) (s3R (selR t (Nat.div n 64)) (Nat.mod n 64) x)
def s5R {α : Type} (t : N4.M5 α) (n : Nat) (x : Option α) : N4.M5 α := putR t (Nat.div n 256) (s4R (selR t (Nat.div n 256)) (Nat.mod n 256) x)
def s6R {α : Type} (t : N4.M6 α) (n : Nat) (x : Option α) : N4.M6 α := putR t (Nat.div n 1024) (s5R (selR t (Nat.div n 1024)) (Nat.mod n 1024) x)
def s7R {α : Type} (t : N4.M7 α) (n : Nat) (x : Option α) : N4.M7 α := putR t (Nat.div n 4096) (s6R (selR t (Nat.div n 4096)) (Nat.mod n 4096) x)
def uGet {α : Type} (t : U α) (n : Nat) : Option α := Bool.rec (motive := fun _ => Option α) (g7R t.s n) (t.b.get n) (Nat.ble 16384 n)
def uSet {α : Type} (t : U α) (n : Nat) (x : Option α) : U α := Bool.rec (motive := fun _ => U α) ⟨s7R t.s n x, t.b⟩ ⟨t.s, t.b.set n x⟩ (Nat.ble 16384 n)
theorem ble_blt (n m : Nat) : Nat.ble m n = !Nat.blt n m := by
  rw [blt_spec]
  by_cases h : n < m
  · have : Nat.ble m n = false := by
      cases hb : Nat.ble m n with
      | true => exact absurd (Nat.le_of_ble_eq_true hb) (by omega)
      | false => rfl
    simp [h, this]
  · simp [h, Nat.ble_eq_true_of_le (by omega : m ≤ n)]
theorem uGet_eq {α : Type} (t : U α) (n : Nat) : uGet t n = t.get n := by
  unfold uGet U.get
  rw [ble_blt]
  cases Nat.blt n 16384 with
  | true => simp only [Bool.not_true, cond_true, g7R, g6R, g5R, g4R, g3R, g2R, g1R, selR_eq]; rfl
  | false => rfl
theorem uSet_eq {α : Type} (t : U α) (n : Nat) (x : Option α) : uSet t n x = t.set n x := by
  unfold uSet U.set
  rw [ble_blt]
  cases Nat.blt n 16384 with
  | true => simp only [Bool.not_true, cond_true, s7R, s6R, s5R, s4R, s3R, s2R, s1R, selR_eq, putR_eq]; rfl
  | false => rfl

/-! ### values -/
abbrev KV := Value → H → Bool
abbrev KT := TM → H → Bool
abbrev KCo := Nat → Code → TM → H → KT → KT → (Nat → KT) → Bool
def ptrK (v : Value) (k : Addr → Bool) (d : Bool) : Bool :=
  Value.casesOn (motive_1 := fun _ => Bool) v (fun _ => d) (fun _ _ => d) (fun _ _ => d) (fun _ _ _ => d) (fun _ => d)
    (fun a => Option.rec (motive := fun _ => Bool) d k a) (fun _ _ _ => d) (fun _ => d) (fun _ => d) (fun _ _ _ => d) d (fun _ _ => d) d (fun _ => d) (fun _ => d)
theorem ptrK_ok {v : Value} {k : Addr → Bool} (h : ptrK v k false = true) : ∃ a, v = .pointer (some a) ∧ k a = true := by
  cases v <;> first | (cases h; done) | skip
  rename_i a
  cases a with
  | none => cases h
  | some a => exact ⟨a, rfl, h⟩
theorem ptrK_ok' {v : Value} {k : Addr → Bool} {d : Bool} (h : ptrK v k d = true) : (∃ a, v = .pointer (some a) ∧ k a = true) ∨ d = true := by
  cases v <;> first | exact Or.inr h | skip
  rename_i a
  cases a with
  | none => exact Or.inr h
  | some a => exact Or.inl ⟨a, rfl, h⟩
def intK (v : Value) (k : IntKind → Int → Bool) (d : Bool) : Bool :=
  Value.casesOn (motive_1 := fun _ => Bool) v (fun _ => d) k (fun _ _ => d) (fun _ _ _ => d) (fun _ => d)
    (fun _ => d) (fun _ _ _ => d) (fun _ => d) (fun _ => d) (fun _ _ _ => d) d (fun _ _ => d) d (fun _ => d) (fun _ => d)
theorem intK_ok {v : Value} {k : IntKind → Int → Bool} {d : Bool} (h : intK v k d = true) : (∃ t n, v = .int t n ∧ k t n = true) ∨ d = true := by
  cases v <;> first | exact Or.inr h | exact Or.inl ⟨_, _, rfl, h⟩
def sliK (v : Value) (k : Option Addr → Nat → Nat → Bool) (d : Bool) : Bool :=
  Value.casesOn (motive_1 := fun _ => Bool) v (fun _ => d) (fun _ _ => d) (fun _ _ => d) (fun _ _ _ => d) (fun _ => d)
    (fun _ => d) k (fun _ => d) (fun _ => d) (fun _ _ _ => d) d (fun _ _ => d) d (fun _ => d) (fun _ => d)
theorem sliK_ok {v : Value} {k : Option Addr → Nat → Nat → Bool} {d : Bool} (h : sliK v k d = true) : (∃ a n c, v = .slice a n c ∧ k a n c = true) ∨ d = true := by
  cases v <;> first | exact Or.inr h | exact Or.inl ⟨_, _, _, rfl, h⟩
def bolK (v : Value) (k : Bool → Bool) : Bool :=
  Value.casesOn (motive_1 := fun _ => Bool) v k (fun _ _ => false) (fun _ _ => false) (fun _ _ _ => false) (fun _ => false)
    (fun _ => false) (fun _ _ _ => false) (fun _ => false) (fun _ => false) (fun _ _ _ => false) false (fun _ _ => false) false (fun _ => false) (fun _ => false)
theorem bolK_ok {v : Value} {k : Bool → Bool} (h : bolK v k = true) : ∃ b, v = .bool b ∧ k b = true := by
  cases v <;> first | (cases h; done) | exact ⟨_, rfl, h⟩
def iteK (b : Bool) (x y : Bool) : Bool := Bool.rec (motive := fun _ => Bool) y x b
theorem iteK_ok {b x : Bool} (h : iteK b x false = true) : b = true ∧ x = true := by
  cases b <;> first | (cases h; done) | exact ⟨rfl, h⟩

/-! ### operands -/
def un' (o : Option Value) : Value := Option.rec (motive := fun _ => Value) undef (fun v => v) o
theorem un'_eq (o : Option Value) : un' o = un o := by cases o <;> rfl
def pK (β : Type) (d : Nat) : PutC β :=
  Bool.rec (motive := fun _ => PutC β)
    (Bool.rec (motive := fun _ => PutC β) ⟨fun t v => N4.rec (motive := fun _ => N4 β) (fun _ b c e => ⟨v, b, c, e⟩) t⟩ ⟨fun t v => N4.rec (motive := fun _ => N4 β) (fun a _ c e => ⟨a, v, c, e⟩) t⟩ (Nat.ble 1 d))
    (Bool.rec (motive := fun _ => PutC β) ⟨fun t v => N4.rec (motive := fun _ => N4 β) (fun a b _ e => ⟨a, b, v, e⟩) t⟩ ⟨fun t v => N4.rec (motive := fun _ => N4 β) (fun a b c _ => ⟨a, b, c, v⟩) t⟩ (Nat.ble 3 d))
    (Nat.ble 2 d)
theorem pK_eq {β : Type} (d : Nat) (t : N4 β) (v : β) : (pK β d).f t v = N4.put t d v := by
  unfold pK N4.put
  cases t
  cases Nat.ble 2 d <;> cases Nat.ble 3 d <;> cases Nat.ble 1 d <;> rfl
def gK (n : Nat) : GetC :=
  match Nat.blt n 256 with
  | true => ⟨fun tm => un' ((sC (Option Value) (Nat.mod (Nat.mod (Nat.mod n 64) 16) 4)).f ((sC (N4.M1 Value) (Nat.div (Nat.mod (Nat.mod n 64) 16) 4)).f ((sC (N4.M2 Value) (Nat.div (Nat.mod n 64) 16)).f ((sC (N4.M3 Value) (Nat.div n 64)).f tm.s))))⟩
  | false => ⟨fun tm => (tm.get n).getD undef⟩
theorem gK_eq (n : Nat) (tm : TM) : (gK n).g tm = (tm.get n).getD undef := by
  rw [← gC_eq]
  unfold gK gC
  cases Nat.blt n 256 with
  | true => simp only [cond_true, un'_eq]
  | false => rfl
def tK (n : Nat) : SetC :=
  match Nat.blt n 256 with
  | true => ⟨fun tm v => ⟨(pK (N4.M3 Value) (Nat.div n 64)).f tm.s ((pK (N4.M2 Value) (Nat.div (Nat.mod n 64) 16)).f ((sC (N4.M3 Value) (Nat.div n 64)).f tm.s)
      ((pK (N4.M1 Value) (Nat.div (Nat.mod (Nat.mod n 64) 16) 4)).f ((sC (N4.M2 Value) (Nat.div (Nat.mod n 64) 16)).f ((sC (N4.M3 Value) (Nat.div n 64)).f tm.s))
        ((pK (Option Value) (Nat.mod (Nat.mod (Nat.mod n 64) 16) 4)).f ((sC (N4.M1 Value) (Nat.div (Nat.mod (Nat.mod n 64) 16) 4)).f ((sC (N4.M2 Value) (Nat.div (Nat.mod n 64) 16)).f ((sC (N4.M3 Value) (Nat.div n 64)).f tm.s))) (some v)))), tm.b⟩⟩
  | false => ⟨fun tm v => tm.set n (some v)⟩
theorem tK_eq (n : Nat) (tm : TM) (v : Value) : (tK n).s tm v = tm.set n (some v) := by
  unfold tK T.set
  cases Nat.blt n 256 with
  | true => simp only [cond_true, pK_eq, sC_eq, N4.s4, N4.s3, N4.s2, N4.s1]
  | false => rfl
structure AK where
  a : TM → (Value → Bool) → Bool
def aKt (g : GetC) (tm : TM) (k : Value → Bool) : Bool := k (g.g tm)
def aK (x : Operand) : AK :=
  match x with
  | .tmp t => ⟨aKt (gK t)⟩
  | .const v => match flat2 v with
    | true => ⟨fun _ k => k v⟩
    | false => ⟨fun _ _ => false⟩
  | .global _ => ⟨fun _ _ => false⟩
  | .func f => ⟨fun _ k => k (.func (.func f) #[] #[])⟩
theorem aK_ok {x : Operand} {tm : TM} {k : Value → Bool} (h : (aK x).a tm k = true) : ∃ v, evA tm x = some v ∧ k v = true := by
  cases x with
  | tmp t => exact ⟨_, rfl, by rw [← gK_eq]; exact h⟩
  | const v =>
    simp only [aK] at h
    cases hf : flat2 v with
    | true => rw [hf] at h; exact ⟨v, by simp only [evA, hf, if_true], h⟩
    | false => rw [hf] at h; cases h
  | global g => cases h
  | func f => exact ⟨_, rfl, h⟩
structure LK where
  l : TM → (List Value → Bool) → Bool
def lKc (x : AK) (r : LK) (tm : TM) (k : List Value → Bool) : Bool := x.a tm fun v => r.l tm fun l => k (v :: l)
def lK : List Operand → LK
  | [] => ⟨fun _ k => k []⟩
  | x :: r => ⟨lKc (aK x) (lK r)⟩
theorem lK_ok : ∀ {l : List Operand} {tm : TM} {k : List Value → Bool}, (lK l).l tm k = true → ∃ vs, evList tm l = some vs ∧ k vs = true
  | [], tm, k, h => ⟨[], rfl, h⟩
  | x :: r, tm, k, h => by
    obtain ⟨v, hv, h⟩ := aK_ok (x := x) h
    obtain ⟨vs, hvs, h⟩ := lK_ok (l := r) h
    exact ⟨v :: vs, by simp only [evList, hv, hvs], h⟩

/-! ### what is to be shown -/
def onP (r : Option (Value × H)) (k : KV) : Bool :=
  match r with
  | some (v, h) => k v h
  | none => false
def contX (x : X) (kn kr : KT) (ke : Nat → KT) (tm : TM) (h : H) : Bool :=
  match x with
  | .normal => kn tm h
  | .ret => kr tm h
  | .exit i => ke i tm h
def OnX (r : Option (X × St)) (nt : Nat) (kn kr : KT) (ke : Nat → KT) : Prop := ∃ x tm h, r = some (x, ⟨tm, nt, h⟩) ∧ contX x kn kr ke tm h = true
structure Agree (sk : KCo) (sf : Code → St → Option (X × St)) : Prop where
  imp : ∀ nt c tm h kn kr ke, sk nt c tm h kn kr ke = true → OnX (sf c ⟨tm, nt, h⟩) nt kn kr ke

/-! ### calls -/
structure RK where
  r : TM → H → KV → Bool
def rKt (g : GetC) (tm : TM) (h : H) (k : KV) : Bool := k (g.g tm) h
def rKg (P : Program) (l : List ResultVar) (tm : TM) (h : H) (k : KV) : Bool :=
  match rGen P l tm h with
  | some v => k v h
  | none => false
def rK (P : Program) (l : List ResultVar) : RK :=
  match l with
  | [.tmp t] => ⟨rKt (gK t)⟩
  | l => ⟨rKg P l⟩
theorem rK_ok {P : Program} {l : List ResultVar} {tm : TM} {h : H} {k : KV} (hr : (rK P l).r tm h k = true) : ∃ v, rGen P l tm h = some v ∧ k v h = true := by
  unfold rK at hr
  split at hr
  · rename_i t
    exact ⟨_, rfl, by rw [← gK_eq]; exact hr⟩
  · simp only [rKg] at hr
    cases hg : rGen P l tm h with
    | none => rw [hg] at hr; cases hr
    | some v => rw [hg] at hr; exact ⟨v, rfl, hr⟩
structure FunK where
  r : KCo → List Value → H → KV → Bool
def kBody (E : Env) (f : FuncId) (c : Code) (nt : Nat) (rs : RK) (sk : KCo) (args : List Value) (h : H) (k : KV) : Bool :=
  match memOf E f args h with
  | some r => k r.1 r.2
  | none => iteK (Nat.ble args.length nt) (sk nt c (bindArgs 0 args .nil) h (fun tm h => rs.r tm h k) (fun tm h => rs.r tm h k) (fun _ _ _ => false)) false
def funK (E : Env) (f : FuncId) : FunK :=
  match E.P.funcs[f]? with
  | some fn => match fn.body with
    | some c => ⟨kBody E f c fn.ntmps (rK E.P fn.results.toList)⟩
    | none => ⟨fun _ _ _ _ => false⟩
  | none => ⟨fun _ _ _ _ => false⟩
theorem funK_ok {E : Env} {sk : KCo} {self : Code → St → Option (X × St)} (ag : Agree sk self) {f : FuncId} {args : List Value} {h : H} {k : KV} (hr : (funK E f).r sk args h k = true) :
    onP (evFun E self f args h) k = true := by
  unfold funK at hr
  split at hr
  · rename_i fn hf
    split at hr
    · rename_i c hc
      simp only [kBody] at hr
      simp only [evFun, hf, hc]
      cases hm : memOf E f args h with
      | some r => rw [hm] at hr; exact hr
      | none =>
        rw [hm] at hr
        obtain ⟨hb, hr⟩ := iteK_ok hr
        simp only
        rw [if_pos (Nat.le_of_ble_eq_true hb)]
        obtain ⟨x, tm1, h1, hs, hk⟩ := ag.imp _ _ _ _ _ _ _ hr
        rw [hs]
        cases x with
        | exit i => cases hk
        | normal =>
          obtain ⟨v, hv, hk⟩ := rK_ok (show (rK E.P fn.results.toList).r tm1 h1 k = true from hk)
          simp only [rGen] at hv
          simp only
          cases he : evResults E.P tm1 h1 fn.results.toList with
          | none => rw [he] at hv; cases hv
          | some l =>
            rw [he] at hv
            match l with
            | [] => cases hv; exact hk
            | [u] => cases hv; exact hk
            | u :: w :: r => cases hv; exact hk
        | ret =>
          obtain ⟨v, hv, hk⟩ := rK_ok (show (rK E.P fn.results.toList).r tm1 h1 k = true from hk)
          simp only [rGen] at hv
          simp only
          cases he : evResults E.P tm1 h1 fn.results.toList with
          | none => rw [he] at hv; cases hv
          | some l =>
            rw [he] at hv
            match l with
            | [] => cases hv; exact hk
            | [u] => cases hv; exact hk
            | u :: w :: r => cases hv; exact hk
    · cases hr
  · cases hr

/-! ### operations -/
structure FK where
  f : KCo → TM → H → KV → Bool
def resK (E : Env) (sk : KCo) (r : Res) (k : KV) : Bool :=
  match r with
  | .val v h => k v h
  | .skip h => k undef h
  | .enter f args h => (funK E f).r sk args h k
def genF (E : Env) (f : FC) (sk : KCo) (tm : TM) (h : H) (k : KV) : Bool :=
  match f.f tm h with
  | some r => resK E sk r k
  | none => false
def genK (E : Env) (o : Oper) : FK := ⟨genF E (opC E o)⟩
theorem genK_ok {E : Env} {sk : KCo} {self : Code → St → Option (X × St)} (ag : Agree sk self) {o : Oper} {tm : TM} {h : H} {k : KV} (hr : (genK E o).f sk tm h k = true) :
    onP (evFull E self tm h o) k = true := by
  simp only [genK, genF, opC_eq] at hr
  simp only [evFull]
  cases he : evOp E tm h o with
  | none => rw [he] at hr; cases hr
  | some r =>
    rw [he] at hr
    cases r with
    | val v h1 => exact hr
    | skip h1 => exact hr
    | enter f args h1 => exact funK_ok ag hr
theorem ofVal {E : Env} {self : Code → St → Option (X × St)} {o : Oper} {tm : TM} {h h1 : H} {v : Value} {k : KV} (he : evOp E tm h o = some (.val v h1)) (hk : k v h1 = true) :
    onP (evFull E self tm h o) k = true := by simp only [evFull, he]; exact hk
theorem ofSkip {E : Env} {self : Code → St → Option (X × St)} {o : Oper} {tm : TM} {h h1 : H} {k : KV} (he : evOp E tm h o = some (.skip h1)) (hk : k undef h1 = true) :
    onP (evFull E self tm h o) k = true := by simp only [evFull, he]; exact hk
def kMove (x : AK) (sk : KCo) (tm : TM) (h : H) (k : KV) : Bool := x.a tm fun v => k v h
def nthK (l : List Value) : Nat → (Value → Bool) → Bool :=
  List.rec (motive := fun _ => Nat → (Value → Bool) → Bool) (fun _ _ => false) (fun v _ ih n k => Nat.rec (motive := fun _ => Bool) (k v) (fun m _ => ih m k) n) l
theorem nthK_ok : ∀ {l : List Value} {n : Nat} {k : Value → Bool}, nthK l n k = true → ∃ v, nth l n = some v ∧ k v = true
  | [], n, k, h => by cases h
  | v :: r, 0, k, h => ⟨v, rfl, h⟩
  | v :: r, n + 1, k, h => nthK_ok (l := r) (n := n) h
def cellK (h : H) (b : Nat) (k : List Value → Option TypeId → Bool → Nat → Bool) : Bool :=
  Option.rec (motive := fun _ => Bool) false (fun o => AObj.rec (motive := fun _ => Bool) k (fun _ _ => false) (fun _ _ => false) o) (uGet h.m b)
theorem cellK_ok {h : H} {b : Nat} {k : List Value → Option TypeId → Bool → Nat → Bool} (hr : cellK h b k = true) : ∃ c el full fz, h.m.get b = some (.cells c el full fz) ∧ k c el full fz = true := by
  unfold cellK at hr
  rw [uGet_eq] at hr
  cases hm : h.m.get b with
  | none => rw [hm] at hr; cases hr
  | some o =>
    rw [hm] at hr
    cases o with
    | cells c el full fz => exact ⟨c, el, full, fz, rfl, hr⟩
    | map es cl => cases hr
    | iter s p => cases hr
def kLoad (x : AK) (sk : KCo) (tm : TM) (h : H) (k : KV) : Bool :=
  x.a tm fun p => ptrK p (fun a => cellK h a.block fun c _ _ _ => nthK c a.off fun v => k v h) false
def kFA0 (x : AK) (sk : KCo) (tm : TM) (h : H) (k : KV) : Bool := x.a tm fun p => ptrK p (fun _ => k p h) false
def kFA1 (x : AK) (n : Nat) (sk : KCo) (tm : TM) (h : H) (k : KV) : Bool :=
  x.a tm fun p => ptrK p (fun a => k (.pointer (some ⟨a.block, Nat.add a.off (Nat.succ n), none⟩)) h) false
def natK (i : Int) (k : Nat → Bool) : Bool := Int.rec (motive := fun _ => Bool) k (fun _ => false) i
def kIA (s : Nat) (x i : AK) (sk : KCo) (tm : TM) (h : H) (k : KV) : Bool :=
  x.a tm fun p => i.a tm fun j => sliK p (fun a len _ => Option.rec (motive := fun _ => Bool) false (fun a => intK j (fun _ j => natK j fun j =>
    iteK (Nat.ble (Nat.succ j) len) (k (.pointer (some (addK a (Nat.mul j s)))) h) false) false) a) false
def kCmp (E : Env) (o : Oper) (c : Int → Int → Bool) (x y : AK) (sk : KCo) (tm : TM) (h : H) (k : KV) : Bool :=
  x.a tm fun v => y.a tm fun u => intK v (fun t m => intK u (fun t' n => iteK (kEq t t') (k (.bool (c m n)) h) false) ((genK E o).f sk tm h k)) ((genK E o).f sk tm h k)
def kAri (E : Env) (o : Oper) (op : BinOp) (x y : AK) (sk : KCo) (tm : TM) (h : H) (k : KV) : Bool :=
  x.a tm fun v => y.a tm fun u => intK v (fun t m => intK u (fun t' n => iteK (kEq t t') (Option.rec (motive := fun _ => Bool) ((genK E o).f sk tm h k) (fun r => k (.int t r) h) (iar t op m n)) false) ((genK E o).f sk tm h k)) ((genK E o).f sk tm h k)
def kBox (e : TypeId) (x : AK) (sk : KCo) (tm : TM) (h : H) (k : KV) : Bool :=
  x.a tm fun v => k (.pointer (some ⟨h.next, 0, none⟩)) ⟨uSet h.m h.next (some (.cells v.cells.toList (some e) true 0)), Nat.succ h.next, h.low⟩
def kPick (c a b : AK) (sk : KCo) (tm : TM) (h : H) (k : KV) : Bool :=
  c.a tm fun v => bolK v fun t => Bool.rec (motive := fun _ => Bool) (b.a tm fun v => k v h) (a.a tm fun v => k v h) t
def kNil (E : Env) (o : Oper) (x : AK) (sk : KCo) (tm : TM) (h : H) (k : KV) : Bool :=
  x.a tm fun p => ptrK p (fun _ => k p h) ((genK E o).f sk tm h k)
def ovr0K (new : List Value) : List Value → (List Value → Bool) → Bool :=
  List.rec (motive := fun _ => List Value → (List Value → Bool) → Bool) (fun c k => k c)
    (fun v _ ih c k => List.rec (motive := fun _ => Bool) false (fun _ r _ => ih r fun l => k (v :: l)) c) new
def ovrK (c : List Value) : Nat → List Value → (List Value → Bool) → Bool :=
  List.rec (motive := fun _ => Nat → List Value → (List Value → Bool) → Bool)
    (fun n new k => Nat.rec (motive := fun _ => Bool) (ovr0K new [] k) (fun _ _ => false) n)
    (fun x r ih n new k => Nat.rec (motive := fun _ => Bool) (ovr0K new (x :: r) k) (fun m _ => ih m new fun l => k (x :: l)) n) c
theorem ovr0K_ok : ∀ {new c : List Value} {k : List Value → Bool}, ovr0K new c k = true → ∃ l, ovr0 new c = some l ∧ k l = true
  | [], c, k, h => ⟨c, rfl, h⟩
  | v :: n, [], k, h => by cases h
  | v :: n, x :: r, k, h => by
    obtain ⟨l, hl, hk⟩ := ovr0K_ok (new := n) (c := r) (k := fun l => k (v :: l)) h
    exact ⟨v :: l, by show consO v (ovr0 n r) = _; rw [hl]; rfl, hk⟩
theorem ovrK_ok : ∀ {c : List Value} {n : Nat} {new : List Value} {k : List Value → Bool}, ovrK c n new k = true → ∃ l, ovr c n new = some l ∧ k l = true
  | [], 0, new, k, h => ovr0K_ok h
  | [], n + 1, new, k, h => by cases h
  | x :: r, 0, new, k, h => ovr0K_ok h
  | x :: r, n + 1, new, k, h => by
    obtain ⟨l, hl, hk⟩ := ovrK_ok (c := r) (n := n) (new := new) (k := fun l => k (x :: l)) h
    exact ⟨x :: l, by show consO x (ovr r n new) = _; rw [hl]; rfl, hk⟩
def minR (a b : Nat) : Nat := Bool.rec (motive := fun _ => Nat) a b (Nat.ble b a)
theorem minR_eq (b low : Nat) : minR b low = cond (Nat.blt b low) b low := by
  unfold minR
  rw [ble_blt]
  cases Nat.blt b low <;> rfl
def kStoreL (n : Nat) (a : Addr) (l : List Value) (h : H) (k : KV) : Bool :=
  iteK (Nat.beq l.length n) (iteK (l.all one) (cellK h a.block fun c el full fz => iteK (Nat.ble fz a.off) (ovrK c a.off l fun c' =>
    k undef ⟨uSet h.m a.block (some (.cells c' el full fz)), h.next, minR a.block h.low⟩) false) false) false
theorem kStoreL_ok {n : Nat} {a : Addr} {l : List Value} {h : H} {k : KV} (hr : kStoreL n a l h k = true) : ∃ h1, hStoreL n a l h = some (.skip h1) ∧ k undef h1 = true := by
  obtain ⟨h1, hr⟩ := iteK_ok hr
  obtain ⟨h2, hr⟩ := iteK_ok hr
  obtain ⟨c, el, full, fz, hm, hr⟩ := cellK_ok hr
  obtain ⟨h3, hr⟩ := iteK_ok hr
  obtain ⟨c', hc, hr⟩ := ovrK_ok hr
  rw [uSet_eq, minR_eq] at hr
  exact ⟨_, by simp only [hStoreL, h1, h2, hm, h3, wrL, hc], hr⟩
def kStore (n : Nat) (x y : AK) (sk : KCo) (tm : TM) (h : H) (k : KV) : Bool :=
  x.a tm fun p => y.a tm fun v => ptrK p (fun a => kStoreL n a v.cells.toList h k) false
def kEnter (E : Env) (f : FuncId) (fk : FunK) (r : LK) (sk : KCo) (tm : TM) (h : H) (k : KV) : Bool := r.l tm fun args => fk.r sk args h k
def kLen (E : Env) (o : Oper) (x : AK) (sk : KCo) (tm : TM) (h : H) (k : KV) : Bool :=
  x.a tm fun v => sliK v (fun _ n _ => k (goI n) h) ((genK E o).f sk tm h k)
/-- Sums and comparisons of numbers that are not known: a comparison must do with both answers. Which they are: by the temporaries that they write (and by what they are: 1000 for each operator ahead of it). -/
def splitO (sp : List Nat) (o : Oper) : Bool :=
  match o.dst, o.op with
  | some d, .binOp op _ _ _ _ => sp.any (Nat.beq (Nat.add d (Nat.mul 1000 op.ctorIdx)))
  | _, _ => false
def pickI (o : Option Int) (d : Int) : Int :=
  match o with
  | some r => r
  | none => d
def kSum (op : BinOp) (x y : AK) (sk : KCo) (tm : TM) (h : H) (k : KV) : Bool :=
  x.a tm fun v => y.a tm fun u => intK v (fun t m => intK u (fun t' n => iteK (kEq t t') (k (.int t (pickI (iar t op m n) (t.wrap (m + n)))) h) false) false) false
def kBoth (x y : AK) (sk : KCo) (tm : TM) (h : H) (k : KV) : Bool :=
  x.a tm fun v => y.a tm fun u => intK v (fun t m => intK u (fun t' n => iteK (kEq t t') (iteK (k (.bool true) h) (k (.bool false) h) false) false) false) false
def binK (E : Env) (sp : List Nat) (o : Oper) (op : BinOp) (x y : Operand) (gen : FK) : FK :=
  match splitO sp o with
  | false => gen
  | true => match op with
    | .add => ⟨kSum .add (aK x) (aK y)⟩
    | .eql | .neq | .leq | .geq | .lss | .gtr => ⟨kBoth (aK x) (aK y)⟩
    | _ => gen
def opK (E : Env) (sp : List Nat) (o : Oper) : FK :=
  match o.op with
  | .move x => ⟨kMove (aK x)⟩
  | .assign x => ⟨kMove (aK x)⟩
  | .load t x => match isAgg E.P t, sizeOf E.P t, gOp x with
    | some false, some _, false => ⟨kLoad (aK x)⟩
    | _, _, _ => genK E o
  | .store t x y => match sizeOf E.P t with
    | some n => ⟨kStore n (aK x) (aK y)⟩
    | none => genK E o
  | .fieldAddr s x i => match E.P.underlying s with
    | some (.struct fs) => match fs[i]? with
      | some f => match sizeOf E.P f.type with
        | some (_ + 1) => match f.offset with
          | 0 => ⟨kFA0 (aK x)⟩
          | n + 1 => ⟨kFA1 (aK x) n⟩
        | _ => genK E o
      | none => genK E o
    | _ => genK E o
  | .indexAddr t x i => match E.P.underlying t with
    | some (.slice e) => match sizeOf E.P e with
      | some s => ⟨kIA s (aK x) (aK i)⟩
      | none => genK E o
    | _ => genK E o
  | .binOp op t x y _ => binK E sp o op x y <| match op with
    | .eql => ⟨kCmp E o ieq (aK x) (aK y)⟩
    | .neq => ⟨kCmp E o (fun a b => not (ieq a b)) (aK x) (aK y)⟩
    | .leq => ⟨kCmp E o ile (aK x) (aK y)⟩
    | .geq => ⟨kCmp E o (fun a b => ile b a) (aK x) (aK y)⟩
    | .lss => ⟨kCmp E o (fun a b => not (ile b a)) (aK x) (aK y)⟩
    | .gtr => ⟨kCmp E o (fun a b => not (ile a b)) (aK x) (aK y)⟩
    | .add => ⟨kAri E o .add (aK x) (aK y)⟩
    | .sub => ⟨kAri E o .sub (aK x) (aK y)⟩
    | _ => genK E o
  | .box e x => ⟨kBox e (aK x)⟩
  | .pick c a b => ⟨kPick (aK c) (aK a) (aK b)⟩
  | .nilCheck x => ⟨kNil E o (aK x)⟩
  | .call c => match c.callee with
    | .value (.func f) => match E.P.funcs[f]? with
      | some fn => match fn.body with
        | some _ => ⟨kEnter E f (funK E f) (lK c.args.toList)⟩
        | none => genK E o
      | none => genK E o
    | .builtin .len => match c.args.toList, (c.argTypes[0]?).bind E.P.underlying with
      | [x], some (.slice _) => ⟨kLen E o (aK x)⟩
      | _, _ => genK E o
    | _ => genK E o
  | _ => genK E o
theorem kCmp_ok {E : Env} {sk : KCo} {sf : Code → St → Option (X × St)} (ag : Agree sk sf) {dst ty pos after guard op t x y yt} {c : Int → Int → Bool} (hc : ∀ a b, icmp op a b = some (c a b)) {tm : TM} {h : H} {k : KV}
    (hr : kCmp E ⟨dst, .binOp op t x y yt, ty, pos, after, guard⟩ c (aK x) (aK y) sk tm h k = true) : onP (evFull E sf tm h ⟨dst, .binOp op t x y yt, ty, pos, after, guard⟩) k = true := by
  obtain ⟨v, hv, hr⟩ := aK_ok hr
  obtain ⟨u, hu, hr⟩ := aK_ok hr
  rcases intK_ok (v := v) hr with ⟨k1, m, rfl, hr⟩ | hr
  · rcases intK_ok (v := u) hr with ⟨k2, n, rfl, hr⟩ | hr
    · obtain ⟨he, hr⟩ := iteK_ok hr
      exact ofVal (by simp only [evOp, hBin, hv, hu, he, hInt, hc]) hr
    · exact genK_ok ag hr
  · exact genK_ok ag hr
theorem kBoth_ok {E : Env} {sk : KCo} {sf : Code → St → Option (X × St)} {dst ty pos after guard op t x y yt} (hc : ∀ a b, ∃ c, icmp op a b = some c) {tm : TM} {h : H} {k : KV}
    (hr : kBoth (aK x) (aK y) sk tm h k = true) : onP (evFull E sf tm h ⟨dst, .binOp op t x y yt, ty, pos, after, guard⟩) k = true := by
  obtain ⟨v, hv, hr⟩ := aK_ok hr
  obtain ⟨u, hu, hr⟩ := aK_ok hr
  rcases intK_ok (v := v) hr with ⟨k1, m, rfl, hr⟩ | hr
  · rcases intK_ok (v := u) hr with ⟨k2, n, rfl, hr⟩ | hr
    · obtain ⟨he, hr⟩ := iteK_ok hr
      obtain ⟨h1, h2⟩ := iteK_ok hr
      obtain ⟨c, hc⟩ := hc m n
      refine ofVal (v := .bool c) (h1 := h) (by simp only [evOp, hBin, hv, hu, he, hInt, hc]) ?_
      cases c
      · exact h2
      · exact h1
    · cases hr
  · cases hr
theorem add_pure {P : Program} {tm : TM} {h : H} {dst ty pos after guard t x y yt} {k : IntKind} {m n : Int} (hv : evA tm x = some (.int k m)) (hu : evA tm y = some (.int k n)) :
    evPure P tm h ⟨dst, .binOp .add t x y yt, ty, pos, after, guard⟩ = some (.val (.int k (k.wrap (m + n))) h) := by
  have h1 : evA' tm x = .int k m := by simp only [evA', hv, Option.getD]
  have h2 : evA' tm y = .int k n := by simp only [evA', hu, Option.getD]
  unfold evPure
  have hf : allFlat tm (Op.binOp .add t x y yt).operands.toList = true := by
    simp [Op.operands, allFlat, hv, hu, flat1, flat]
    exact ⟨rfl, rfl⟩
  rw [if_pos hf]
  simp [execOp, h1, h2, eqGuard, Go.binOp, Op.intArith, pureRun, flat2, flat1, flat]
  rfl
theorem kSum_ok {E : Env} {sk : KCo} {sf : Code → St → Option (X × St)} {dst ty pos after guard t x y yt} {tm : TM} {h : H} {k : KV}
    (hr : kSum .add (aK x) (aK y) sk tm h k = true) : onP (evFull E sf tm h ⟨dst, .binOp .add t x y yt, ty, pos, after, guard⟩) k = true := by
  obtain ⟨v, hv, hr⟩ := aK_ok hr
  obtain ⟨u, hu, hr⟩ := aK_ok hr
  rcases intK_ok (v := v) hr with ⟨k1, m, rfl, hr⟩ | hr
  · rcases intK_ok (v := u) hr with ⟨k2, n, rfl, hr⟩ | hr
    · obtain ⟨he, hz⟩ := iteK_ok hr
      clear hr
      have hk := kEq_eq he
      subst hk
      cases hi : iar k1 .add m n with
      | none =>
        rw [hi] at hz
        exact ofVal (by simp only [evOp, hBin, hv, hu, he, hInt, icmp, hi]; exact add_pure hv hu) hz
      | some r => rw [hi] at hz; exact ofVal (by simp only [evOp, hBin, hv, hu, he, hInt, icmp, hi, pickI]) hz
    · cases hr
  · cases hr
theorem kAri_ok {E : Env} {sk : KCo} {sf : Code → St → Option (X × St)} (ag : Agree sk sf) {dst ty pos after guard op t x y yt} (hc : ∀ a b, icmp op a b = none) {tm : TM} {h : H} {k : KV}
    (hr : kAri E ⟨dst, .binOp op t x y yt, ty, pos, after, guard⟩ op (aK x) (aK y) sk tm h k = true) : onP (evFull E sf tm h ⟨dst, .binOp op t x y yt, ty, pos, after, guard⟩) k = true := by
  obtain ⟨v, hv, hr⟩ := aK_ok hr
  obtain ⟨u, hu, hr⟩ := aK_ok hr
  rcases intK_ok (v := v) hr with ⟨k1, m, rfl, hr⟩ | hr
  · rcases intK_ok (v := u) hr with ⟨k2, n, rfl, hr⟩ | hr
    · obtain ⟨he, hr⟩ := iteK_ok hr
      cases hi : iar k1 op m n with
      | none => rw [hi] at hr; exact genK_ok ag hr
      | some r => rw [hi] at hr; exact ofVal (by simp only [evOp, hBin, hv, hu, he, hInt, hc, hi]) hr
    · exact genK_ok ag hr
  · exact genK_ok ag hr
theorem opK_ok {E : Env} {sp : List Nat} {sk : KCo} {sf : Code → St → Option (X × St)} (ag : Agree sk sf) {o : Oper} {tm : TM} {h : H} {k : KV} (hr : (opK E sp o).f sk tm h k = true) :
    onP (evFull E sf tm h o) k = true := by
  obtain ⟨dst, op, ty, pos, after, guard⟩ := o
  cases op with
  | move x =>
    obtain ⟨v, hv, hr⟩ := aK_ok (x := x) hr
    exact ofVal (by simp only [evOp, hv, valR]) hr
  | assign x =>
    obtain ⟨v, hv, hr⟩ := aK_ok (x := x) hr
    exact ofVal (by simp only [evOp, hv, valR]) hr
  | load t x =>
    simp only [opK] at hr
    split at hr
    · rename_i n ha hs hgo
      obtain ⟨v, hv, hr⟩ := aK_ok (x := x) hr
      obtain ⟨a, rfl, hr⟩ := ptrK_ok hr
      obtain ⟨c, el, full, fz, hm, hr⟩ := cellK_ok hr
      obtain ⟨w, hw, hr⟩ := nthK_ok hr
      refine ofVal (v := w) (h1 := h) ?_ hr
      rw [← opC_eq]
      simp only [opC, ha, hs, hgo, hLoad1, aC_eq, hv, load1, hm, hw, valR]
    · exact genK_ok ag hr
  | store t x y =>
    simp only [opK] at hr
    split at hr
    · rename_i n hn
      obtain ⟨p, hp, hr⟩ := aK_ok (x := x) hr
      obtain ⟨v, hv, hr⟩ := aK_ok (x := y) hr
      obtain ⟨a, rfl, hr⟩ := ptrK_ok hr
      obtain ⟨h1, he, hr⟩ := kStoreL_ok hr
      refine ofSkip (h1 := h1) ?_ hr
      rw [← op2_eq]
      simp only [op2, hn, hStoreC, aC_eq, hp, hv, he]
    · exact genK_ok ag hr
  | fieldAddr s x i =>
    simp only [opK] at hr
    split at hr
    · rename_i fs hs
      split at hr
      · rename_i f hf
        split at hr
        · rename_i n hn
          split at hr
          · rename_i ho
            obtain ⟨p, hp, hr⟩ := aK_ok (x := x) hr
            obtain ⟨a, rfl, hr⟩ := ptrK_ok hr
            refine ofVal ?_ hr
            rw [← opC_eq]
            simp only [opC, hs, hf, hn, ho, hFA0, aC_eq, hp]
          · rename_i m ho
            obtain ⟨p, hp, hr⟩ := aK_ok (x := x) hr
            obtain ⟨a, rfl, hr⟩ := ptrK_ok hr
            refine ofVal ?_ hr
            rw [← opC_eq]
            simp only [opC, hs, hf, hn, ho, hFA1, aC_eq, hp]
        · exact genK_ok ag hr
      · exact genK_ok ag hr
    · exact genK_ok ag hr
  | indexAddr t x i =>
    simp only [opK] at hr
    split at hr
    · rename_i e hs
      split at hr
      · rename_i s hn
        obtain ⟨p, hp, hr⟩ := aK_ok (x := x) hr
        obtain ⟨j, hj, hr⟩ := aK_ok (x := i) hr
        rcases sliK_ok hr with ⟨a, len, c, rfl, hr⟩ | hr
        · cases a with
          | none => cases hr
          | some a =>
            rcases intK_ok hr with ⟨k1, m, rfl, hr⟩ | hr
            · cases m with
              | negSucc m => cases hr
              | ofNat m =>
                obtain ⟨hb, hr⟩ := iteK_ok (show iteK (Nat.ble (Nat.succ m) len) _ false = true from hr)
                refine ofVal ?_ hr
                rw [← opC_eq]
                have hb' : Nat.blt m len = true := hb
                simp only [opC, hs, hn, hIA, aC_eq, hp, hj, hb']
            · cases hr
        · cases hr
      · exact genK_ok ag hr
    · exact genK_ok ag hr
  | binOp op t x y yt =>
    have gen : ∀ {hr : (match op with
    | .eql => (⟨kCmp E ⟨dst, .binOp op t x y yt, ty, pos, after, guard⟩ ieq (aK x) (aK y)⟩ : FK)
    | .neq => ⟨kCmp E ⟨dst, .binOp op t x y yt, ty, pos, after, guard⟩ (fun a b => not (ieq a b)) (aK x) (aK y)⟩
    | .leq => ⟨kCmp E ⟨dst, .binOp op t x y yt, ty, pos, after, guard⟩ ile (aK x) (aK y)⟩
    | .geq => ⟨kCmp E ⟨dst, .binOp op t x y yt, ty, pos, after, guard⟩ (fun a b => ile b a) (aK x) (aK y)⟩
    | .lss => ⟨kCmp E ⟨dst, .binOp op t x y yt, ty, pos, after, guard⟩ (fun a b => not (ile b a)) (aK x) (aK y)⟩
    | .gtr => ⟨kCmp E ⟨dst, .binOp op t x y yt, ty, pos, after, guard⟩ (fun a b => not (ile a b)) (aK x) (aK y)⟩
    | .add => ⟨kAri E ⟨dst, .binOp op t x y yt, ty, pos, after, guard⟩ .add (aK x) (aK y)⟩
    | .sub => ⟨kAri E ⟨dst, .binOp op t x y yt, ty, pos, after, guard⟩ .sub (aK x) (aK y)⟩
    | _ => genK E ⟨dst, .binOp op t x y yt, ty, pos, after, guard⟩).f sk tm h k = true}, onP (evFull E sf tm h ⟨dst, .binOp op t x y yt, ty, pos, after, guard⟩) k = true := by
      intro hr
      split at hr
      · exact kCmp_ok ag (fun _ _ => rfl) hr
      · exact kCmp_ok ag (fun _ _ => rfl) hr
      · exact kCmp_ok ag (fun _ _ => rfl) hr
      · exact kCmp_ok ag (fun _ _ => rfl) hr
      · exact kCmp_ok ag (fun _ _ => rfl) hr
      · exact kCmp_ok ag (fun _ _ => rfl) hr
      · exact kAri_ok ag (fun _ _ => rfl) hr
      · exact kAri_ok ag (fun _ _ => rfl) hr
      · exact genK_ok ag hr
    simp only [opK, binK] at hr
    split at hr
    · exact gen (hr := hr)
    · split at hr
      · exact kSum_ok (sk := sk) hr
      · exact kBoth_ok (sk := sk) (fun _ _ => ⟨_, rfl⟩) hr
      · exact kBoth_ok (sk := sk) (fun _ _ => ⟨_, rfl⟩) hr
      · exact kBoth_ok (sk := sk) (fun _ _ => ⟨_, rfl⟩) hr
      · exact kBoth_ok (sk := sk) (fun _ _ => ⟨_, rfl⟩) hr
      · exact kBoth_ok (sk := sk) (fun _ _ => ⟨_, rfl⟩) hr
      · exact kBoth_ok (sk := sk) (fun _ _ => ⟨_, rfl⟩) hr
      · exact gen (hr := hr)
  | box e x =>
    obtain ⟨v, hv, hr⟩ := aK_ok (x := x) hr
    rw [uSet_eq] at hr
    exact ofVal (by simp only [evOp, hBox, hv]; rfl) hr
  | pick c a b =>
    obtain ⟨v, hv, hr⟩ := aK_ok (x := c) hr
    obtain ⟨t, rfl, hr⟩ := bolK_ok hr
    cases t with
    | true =>
      obtain ⟨u, hu, hr⟩ := aK_ok (x := a) hr
      exact ofVal (by simp only [evOp, hPick, hv, if_true, hu, valR]) hr
    | false =>
      obtain ⟨u, hu, hr⟩ := aK_ok (x := b) hr
      exact ofVal (by simp only [evOp, hPick, hv, Bool.false_eq_true, if_false, hu, valR]) hr
  | nilCheck x =>
    obtain ⟨p, hp, hr⟩ := aK_ok (x := x) hr
    rcases ptrK_ok' hr with ⟨a, rfl, hr⟩ | hr
    · exact ofVal (by simp only [evOp, hNil, hp]) hr
    · exact genK_ok ag hr
  | call c =>
    simp only [opK] at hr
    split at hr
    · rename_i f hc
      split at hr
      · rename_i fn hf
        split at hr
        · rename_i b hb
          obtain ⟨args, ha, hr⟩ := lK_ok hr
          have he : evOp E tm h ⟨dst, .call c, ty, pos, after, guard⟩ = some (.enter f args h) := by
            rw [← op2_eq]
            simp only [op2, hc, hf, hb, hEnter, lC_eq, ha]
          simp only [evFull, he]
          exact funK_ok ag hr
        · exact genK_ok ag hr
      · exact genK_ok ag hr
    · rename_i hc
      split at hr
      · rename_i x e ha ht
        obtain ⟨v, hv, hr⟩ := aK_ok (x := x) hr
        rcases sliK_ok hr with ⟨a, n, cp, rfl, hr⟩ | hr
        · refine ofVal ?_ hr
          rw [← op2_eq]
          simp only [op2, hc, ha, ht, hLen, aC_eq, hv]
        · exact genK_ok ag hr
      · exact genK_ok ag hr
    · exact genK_ok ag hr
  | _ =>
    simp only [opK] at hr
    exact genK_ok ag hr
end
end Go.Proofs.Ytknenadpkgajjaa.GEv
