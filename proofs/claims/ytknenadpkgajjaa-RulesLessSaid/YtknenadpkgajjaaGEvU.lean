/- The same evaluator, its text prepared: what hangs on an operation's text alone is reckoned once. -/
import Derived.Test.YtknenadpkgajjaaGEvS
namespace Go.Proofs.Ytknenadpkgajjaa.GEv
open Go
set_option linter.unusedVariables false
set_option linter.unusedSimpArgs false

/-! ### temporaries -/
structure SelC (β : Type) where
  f : N4 β → β
structure PutC (β : Type) where
  f : N4 β → β → N4 β
def sC (β : Type) (d : Nat) : SelC β := cond (Nat.ble 2 d) (cond (Nat.ble 3 d) ⟨fun t => t.f3⟩ ⟨fun t => t.f2⟩) (cond (Nat.ble 1 d) ⟨fun t => t.f1⟩ ⟨fun t => t.f0⟩)
def pC (β : Type) (d : Nat) : PutC β :=
  cond (Nat.ble 2 d) (cond (Nat.ble 3 d) ⟨fun t v => match t with | ⟨a, b, c, _⟩ => ⟨a, b, c, v⟩⟩ ⟨fun t v => match t with | ⟨a, b, _, e⟩ => ⟨a, b, v, e⟩⟩)
    (cond (Nat.ble 1 d) ⟨fun t v => match t with | ⟨a, _, c, e⟩ => ⟨a, v, c, e⟩⟩ ⟨fun t v => match t with | ⟨_, b, c, e⟩ => ⟨v, b, c, e⟩⟩)
theorem sC_eq {β : Type} (d : Nat) (t : N4 β) : (sC β d).f t = N4.sel t d := by
  unfold sC N4.sel
  cases Nat.ble 2 d <;> cases Nat.ble 3 d <;> cases Nat.ble 1 d <;> rfl
theorem pC_eq {β : Type} (d : Nat) (t : N4 β) (v : β) : (pC β d).f t v = N4.put t d v := by
  unfold pC N4.put
  cases Nat.ble 2 d <;> cases Nat.ble 3 d <;> cases Nat.ble 1 d <;> rfl
structure GetC where
  g : TM → Value
def un : Option Value → Value
  | some v => v
  | none => undef
theorem un_eq (o : Option Value) : un o = o.getD undef := by cases o <;> rfl
def gC (n : Nat) : GetC :=
  cond (Nat.blt n 256)
    ⟨fun tm => un ((sC (Option Value) (Nat.mod (Nat.mod (Nat.mod n 64) 16) 4)).f ((sC (N4.M1 Value) (Nat.div (Nat.mod (Nat.mod n 64) 16) 4)).f ((sC (N4.M2 Value) (Nat.div (Nat.mod n 64) 16)).f ((sC (N4.M3 Value) (Nat.div n 64)).f tm.s))))⟩
    ⟨fun tm => (tm.get n).getD undef⟩
theorem gC_eq (n : Nat) (tm : TM) : (gC n).g tm = (tm.get n).getD undef := by
  unfold gC T.get
  cases Nat.blt n 256 with
  | true => simp only [cond_true, un_eq, sC_eq, N4.g4, N4.g3, N4.g2, N4.g1]
  | false => rfl
structure SetC where
  s : TM → Value → TM
def s1C (n : Nat) : PutC (Option Value) := pC (Option Value) n
def tC (n : Nat) : SetC :=
  cond (Nat.blt n 256)
    ⟨fun tm v => ⟨(pC (N4.M3 Value) (Nat.div n 64)).f tm.s ((pC (N4.M2 Value) (Nat.div (Nat.mod n 64) 16)).f ((sC (N4.M3 Value) (Nat.div n 64)).f tm.s)
      ((pC (N4.M1 Value) (Nat.div (Nat.mod (Nat.mod n 64) 16) 4)).f ((sC (N4.M2 Value) (Nat.div (Nat.mod n 64) 16)).f ((sC (N4.M3 Value) (Nat.div n 64)).f tm.s))
        ((pC (Option Value) (Nat.mod (Nat.mod (Nat.mod n 64) 16) 4)).f ((sC (N4.M1 Value) (Nat.div (Nat.mod (Nat.mod n 64) 16) 4)).f ((sC (N4.M2 Value) (Nat.div (Nat.mod n 64) 16)).f ((sC (N4.M3 Value) (Nat.div n 64)).f tm.s))) (some v)))), tm.b⟩⟩
    ⟨fun tm v => tm.set n (some v)⟩
theorem tC_eq (n : Nat) (tm : TM) (v : Value) : (tC n).s tm v = tm.set n (some v) := by
  unfold tC T.set
  cases Nat.blt n 256 with
  | true => simp only [cond_true, pC_eq, sC_eq, N4.s4, N4.s3, N4.s2, N4.s1]
  | false => rfl

/-! ### operands -/
structure OpdC where
  e : TM → Option Value
def aC (x : Operand) : OpdC :=
  match x with
  | .tmp t => ⟨fun tm => some ((gC t).g tm)⟩
  | .const v => cond (flat2 v) ⟨fun _ => some v⟩ ⟨fun _ => none⟩
  | .global _ => ⟨fun _ => none⟩
  | .func f => ⟨fun _ => some (.func (.func f) #[] #[])⟩
theorem aC_eq (x : Operand) (tm : TM) : (aC x).e tm = evA tm x := by
  cases x with
  | tmp t => simp only [aC, evA, gC_eq]
  | const v =>
    simp only [aC, evA]
    cases flat2 v <;> rfl
  | global g => rfl
  | func f => rfl

/-! ### operations -/
structure FC where
  f : TM → H → Option Res
def nth : List Value → Nat → Option Value
  | [], _ => none
  | v :: r, n => match n with
    | 0 => some v
    | m + 1 => nth r m
def load1 (h : H) (a : Addr) : Option Value :=
  match h.m.get a.block with
  | some (.cells c _ _ _) => nth c a.off
  | _ => none
theorem nth_eq : ∀ (l : List Value) (n : Nat), nth l n = l[n]?
  | [], n => rfl
  | v :: r, 0 => rfl
  | v :: r, n + 1 => by simp only [nth, List.getElem?_cons_succ]; exact nth_eq r n
theorem load1_eq (h : H) (a : Addr) : load1 h a = (match h.read a.block a.off 1 with | some [v] => some v | _ => none) := by
  unfold load1 H.read
  cases h.m.get a.block with
  | none => rfl
  | some o =>
    cases o with
    | cells c el full fz =>
      simp only [nth_eq, cut]
      by_cases hl : a.off + 1 ≤ c.length
      · rw [if_pos hl]
        have h1 : a.off < c.length := by omega
        have h2 : (c.drop a.off).take 1 = [c[a.off]] := by
          rw [List.drop_eq_getElem_cons h1]; rfl
        rw [h2, List.getElem?_eq_getElem h1]
      · rw [if_neg hl, List.getElem?_eq_none (by omega)]
    | map es cl => rfl
    | iter s p => rfl
def hLoad1 (x : OpdC) (tm : TM) (h : H) : Option Res :=
  match x.e tm with
  | some (.pointer (some a)) => valR h (load1 h a)
  | _ => none
def hMove (x : OpdC) (tm : TM) (h : H) : Option Res := valR h (x.e tm)
def hFA0 (x : OpdC) (tm : TM) (h : H) : Option Res :=
  match x.e tm with
  | some (.pointer (some a)) => some (.val (.pointer (some a)) h)
  | _ => none
def hFA1 (x : OpdC) (n : Nat) (tm : TM) (h : H) : Option Res :=
  match x.e tm with
  | some (.pointer (some a)) => some (.val (.pointer (some ⟨a.block, Nat.add a.off (Nat.succ n), none⟩)) h)
  | _ => none
def addK (a : Addr) (n : Nat) : Addr :=
  match n with
  | 0 => a
  | m + 1 => ⟨a.block, Nat.add a.off (Nat.succ m), none⟩
theorem addK_eq (a : Addr) (n : Nat) : addK a n = a.add n := by
  cases n with
  | zero => simp [addK, Addr.add]
  | succ m => simp only [addK, Addr.add]; rfl
def hIA (s : Nat) (x i : OpdC) (tm : TM) (h : H) : Option Res :=
  match x.e tm, i.e tm with
  | some (.slice (some a) len _), some (.int _ (.ofNat k)) => match Nat.blt k len with
    | true => some (.val (.pointer (some (addK a (Nat.mul k s)))) h)
    | false => none
  | _, _ => none
structure CmpC where
  c : Int → Int → Option Bool
def cC (op : BinOp) : CmpC :=
  match op with
  | .eql => ⟨fun a b => some (ieq a b)⟩
  | .neq => ⟨fun a b => some (not (ieq a b))⟩
  | .leq => ⟨fun a b => some (ile a b)⟩
  | .geq => ⟨fun a b => some (ile b a)⟩
  | .lss => ⟨fun a b => some (not (ile b a))⟩
  | .gtr => ⟨fun a b => some (not (ile a b))⟩
  | _ => ⟨fun _ _ => none⟩
theorem cC_eq (op : BinOp) (a b : Int) : (cC op).c a b = icmp op a b := by cases op <;> rfl
def hIntC (P : Program) (o : Oper) (c : CmpC) (op : BinOp) (k : IntKind) (m n : Int) (tm : TM) (h : H) : Option Res :=
  match c.c m n with
  | some c => some (.val (.bool c) h)
  | none => match iar k op m n with
    | some r => some (.val (.int k r) h)
    | none => evPure P tm h o
def hBinC (P : Program) (o : Oper) (c : CmpC) (op : BinOp) (t : TypeId) (x y : OpdC) (tm : TM) (h : H) : Option Res :=
  match x.e tm, y.e tm with
  | some (.int k m), some (.int k' n) => match kEq k k' with
    | true => hIntC P o c op k m n tm h
    | false => evPure P tm h o
  | some (.string s), some (.string u) => match hStr op s u with
    | some r => some (.val r h)
    | none => evPure P tm h o
  | some v, some u => match flat1 v && flat1 u with
    | true => evPure P tm h o
    | false => hNilEq P h op t v u
  | _, _ => none
def hBoxC (e : TypeId) (x : OpdC) (tm : TM) (h : H) : Option Res :=
  match x.e tm with
  | some v => some (.val (.pointer (some ⟨h.next, 0, none⟩)) (h.push (.cells v.cells.toList (some e) true 0)))
  | none => none
def hLen (x : OpdC) (gen : TM → H → Option Res) (tm : TM) (h : H) : Option Res :=
  match x.e tm with
  | some (.slice _ n _) => some (.val (goI n) h)
  | _ => gen tm h
def hPickC (c a b : OpdC) (tm : TM) (h : H) : Option Res :=
  match c.e tm with
  | some (.bool t) => match t with
    | true => valR h (a.e tm)
    | false => valR h (b.e tm)
  | _ => none
/-- What an operation does, by its text. -/
def opC (E : Env) (o : Oper) : FC :=
  match o.op with
  | .move x | .assign x => ⟨hMove (aC x)⟩
  | .pick c a b => ⟨hPickC (aC c) (aC a) (aC b)⟩
  | .box e x => ⟨hBoxC e (aC x)⟩
  | .load t x => match isAgg E.P t, sizeOf E.P t, gOp x with
    | some false, some _, false => ⟨hLoad1 (aC x)⟩
    | _, _, _ => ⟨fun tm h => hLoad E.P tm h t x⟩
  | .store t x y => ⟨fun tm h => hStore E.P tm h t x y⟩
  | .fieldAddr s x i => match E.P.underlying s with
    | some (.struct fs) => match fs[i]? with
      | some f => match sizeOf E.P f.type with
        | some (_ + 1) => match f.offset with
          | 0 => ⟨hFA0 (aC x)⟩
          | n + 1 => ⟨hFA1 (aC x) n⟩
        | _ => ⟨fun tm h => hFieldAddr E.P tm h s x i⟩
      | none => ⟨fun tm h => hFieldAddr E.P tm h s x i⟩
    | _ => ⟨fun tm h => hFieldAddr E.P tm h s x i⟩
  | .indexAddr t x i => match E.P.underlying t with
    | some (.slice e) => match sizeOf E.P e with
      | some s => ⟨hIA s (aC x) (aC i)⟩
      | none => ⟨fun tm h => hIndexAddr E.P tm h t x i⟩
    | _ => ⟨fun tm h => hIndexAddr E.P tm h t x i⟩
  | .binOp op t x y _ => ⟨hBinC E.P o (cC op) op t (aC x) (aC y)⟩
  | .unOp op _ x => ⟨fun tm h => hUn E.P tm h o op x⟩
  | .call c => ⟨fun tm h => hCall E tm h o c⟩
  | .nilCheck x => ⟨fun tm h => hNil E.P tm h x⟩
  | .alloc e => ⟨fun tm h => hAlloc E.P tm h e⟩
  | .slice t x lo hi mx => ⟨fun tm h => hSlice E.P tm h o t x lo hi mx⟩
  | .makeFunc fn a c => ⟨fun tm h => hMakeFunc E.P tm h fn a c⟩
  | _ => ⟨fun tm h => evOp E tm h o⟩
theorem opC_eq (E : Env) (o : Oper) (tm : TM) (h : H) : (opC E o).f tm h = evOp E tm h o := by
  obtain ⟨dst, op, ty, pos, after, guard⟩ := o
  cases op with
  | move x => simp only [opC, evOp, hMove, aC_eq]
  | assign x => simp only [opC, evOp, hMove, aC_eq]
  | pick c a b =>
    simp only [opC, evOp, hPickC, hPick, aC_eq]
    split
    · rename_i t ht
      cases t <;> simp [ht]
    · rename_i hne
      split
      · rename_i t ht; exact absurd ht (hne t)
      · rfl
  | box e x =>
    simp only [opC, evOp, hBoxC, hBox, aC_eq]
    cases evA tm x <;> rfl
  | load t x =>
    simp only [opC, evOp]
    split
    · rename_i n ha hs hg
      cases hv : evA tm x with
      | none => simp only [hLoad1, hLoad, hGlob_no hg, aC_eq, hv]
      | some v => cases v with
        | pointer a => cases a with
          | none => simp only [hLoad1, hLoad, hGlob_no hg, aC_eq, hv]
          | some a =>
            simp only [hLoad1, hLoad, hGlob_no hg, aC_eq, hv, H.load, ha, hs, load1_eq]
            rfl
        | _ => simp only [hLoad1, hLoad, hGlob_no hg, aC_eq, hv]
    · rfl
  | fieldAddr s x i =>
    simp only [opC, evOp]
    split
    · rename_i fs hs
      split
      · rename_i f hf
        split
        · rename_i n hn
          split
          · rename_i ho
            cases hv : evA tm x with
            | none => simp only [hFA0, hFieldAddr, aC_eq, hs, hv]
            | some v => cases v with
              | pointer a => cases a with
                | none => simp only [hFA0, hFieldAddr, aC_eq, hs, hv]
                | some a => simp only [hFA0, hFieldAddr, aC_eq, hs, hv, hf, hn, ho, Addr.add, if_true]
              | _ => simp only [hFA0, hFieldAddr, aC_eq, hs, hv]
          · rename_i m ho
            cases hv : evA tm x with
            | none => simp only [hFA1, hFieldAddr, aC_eq, hs, hv]
            | some v => cases v with
              | pointer a => cases a with
                | none => simp only [hFA1, hFieldAddr, aC_eq, hs, hv]
                | some a =>
                  simp only [hFA1, hFieldAddr, aC_eq, hs, hv, hf, hn, ho]
                  rfl
              | _ => simp only [hFA1, hFieldAddr, aC_eq, hs, hv]
        · rfl
      · rfl
    · rfl
  | indexAddr t x i =>
    simp only [opC, evOp]
    split
    · rename_i e hs
      split
      · rename_i s hn
        cases hv : evA tm x with
        | none => simp only [hIA, hIndexAddr, aC_eq, hs, hv]
        | some v => cases v with
          | slice a len cap => cases a with
            | none => simp only [hIA, hIndexAddr, aC_eq, hs, hv]
            | some a => cases hi : evA tm i with
              | none => simp only [hIA, hIndexAddr, aC_eq, hs, hv, hi]
              | some u => cases u with
                | int k n => cases n with
                  | ofNat m =>
                    simp only [hIA, hIndexAddr, aC_eq, hs, hv, hi, hn, addK_eq, blt_spec]
                    by_cases hm : m < len
                    · simp only [hm, decide_true, if_true]; rfl
                    · simp only [hm, decide_false, if_false]
                  | negSucc m => simp only [hIA, hIndexAddr, aC_eq, hs, hv, hi]
                | _ => simp only [hIA, hIndexAddr, aC_eq, hs, hv, hi]
          | _ => simp only [hIA, hIndexAddr, aC_eq, hs, hv]
      · rfl
    · rfl
  | binOp op t x y yt =>
    simp only [opC, evOp, hBinC, hBin, aC_eq]
    have hi : ∀ k m n, hIntC E.P ⟨dst, .binOp op t x y yt, ty, pos, after, guard⟩ (cC op) op k m n tm h = hInt E.P tm h ⟨dst, .binOp op t x y yt, ty, pos, after, guard⟩ op k m n := fun k m n => by
      unfold hIntC hInt
      rw [cC_eq]
      cases icmp op m n with
      | some c => rfl
      | none => cases iar k op m n <;> rfl
    cases evA tm x with
    | none => cases evA tm y <;> rfl
    | some v => cases evA tm y with
      | none => cases v <;> rfl
      | some u => cases v <;> cases u <;> first | rfl | (simp only [hi]; rfl)
  | _ => rfl
end Go.Proofs.Ytknenadpkgajjaa.GEv
