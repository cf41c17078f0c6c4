/- Symbolic runs, second part: operations, regions; the whole of it, to be reckoned by the elaborator. -/
import Derived.Test.YtknenadpkgajjaaGSyA
namespace Go.Proofs.Ytknenadpkgajjaa.GEv
open Go
set_option linter.unusedSimpArgs false
set_option linter.unusedVariables false

def evL (l : L) : Operand → Option Value
  | .tmp t => look l t
  | .const v => match flat2 v with
    | true => some v
    | false => none
  | .func f => some (.func (.func f) #[] #[])
  | .global _ => none
def evsL (l : L) : List Operand → Option (List Value)
  | [] => some []
  | x :: r => match evL l x with
    | some v => match evsL l r with
      | some vs => some (v :: vs)
      | none => none
    | none => none
theorem evL_ok {l : L} {tm : TM} (hv : View l tm) {x : Operand} {v : Value} (h : evL l x = some v) : evA tm x = some v := by
  cases x with
  | tmp t => simp only [evL] at h; simp only [evA]; rw [hv t v h]
  | const c =>
    simp only [evL] at h
    simp only [evA]
    split at h
    · rename_i q; rw [if_pos q]; exact h
    · cases h
  | global g => cases h
  | func f => exact h
theorem evL_ok' {l : L} {tm : TM} (hv : View l tm) {x : Operand} {v : Value} (h : evL l x = some v) : evA' tm x = v := by simp [evA', evL_ok hv h]
theorem evsL_ok {l : L} {tm : TM} (hv : View l tm) : ∀ {xs : List Operand} {vs : List Value}, evsL l xs = some vs → evList tm xs = some vs
  | [], vs, h => h
  | x :: r, vs, h => by
    simp only [evsL] at h
    split at h
    · rename_i v hx
      split at h
      · rename_i us hr
        simp only [evList, evL_ok hv hx, evsL_ok hv hr]
        exact h
      · cases h
    · cases h
/-- What an operation does, whatever it is. -/
structure RawP (E : Env) (l : L) (h : H) (o : Oper) (K : Value → H → Prop) : Prop where
  ok : ∀ tm, View l tm → OpP E o tm h K
def onS (o : Option Value) (K : Value → Prop) : Prop := match o with
  | some v => K v
  | none => False
/-- Both answers of a comparison. -/
def cmpN (op : BinOp) (a b : Nat) (K : Bool → Prop) (d : Prop) : Prop :=
  match op with
  | .eql => (a = b → K true) ∧ (a ≠ b → K false)
  | .neq => (a = b → K false) ∧ (a ≠ b → K true)
  | .lss => (a < b → K true) ∧ (b ≤ a → K false)
  | .leq => (a ≤ b → K true) ∧ (b < a → K false)
  | .gtr => (b < a → K true) ∧ (a ≤ b → K false)
  | .geq => (b ≤ a → K true) ∧ (a < b → K false)
  | _ => d
def cmpI (op : BinOp) (a b : Int) (K : Bool → Prop) (d : Prop) : Prop :=
  match op with
  | .eql => (a = b → K true) ∧ (a ≠ b → K false)
  | .neq => (a = b → K false) ∧ (a ≠ b → K true)
  | .lss => (a < b → K true) ∧ (b ≤ a → K false)
  | .leq => (a ≤ b → K true) ∧ (b < a → K false)
  | .gtr => (b < a → K true) ∧ (a ≤ b → K false)
  | .geq => (b ≤ a → K true) ∧ (a < b → K false)
  | _ => d
def cmpJ (op : BinOp) (a b : Int) (K : Bool → Prop) (d : Prop) : Prop :=
  match a, b with
  | .ofNat x, .ofNat y => cmpN op x y K d
  | _, _ => cmpI op a b K d
def ariJ (op : BinOp) (k : IntKind) (a b : Int) (K : Value → Prop) (d : Prop) : Prop :=
  match op, k, a, b with
  | .add, .i64, .ofNat x, .ofNat y => x + y ≤ 4611686018427387904 ∧ K (.int .i64 (.ofNat (x + y)))
  | .sub, .i64, .ofNat x, .ofNat y => (y ≤ x ∧ x ≤ 4611686018427387904 ∧ K (.int .i64 (.ofNat (x - y)))) ∨ ((x < y ∨ 4611686018427387904 < x) ∧ K (.int .i64 (IntKind.i64.wrap (.ofNat x - .ofNat y))))
  | _, _, _, _ => d
def strJ (op : BinOp) (a b : ByteArray) (K : Value → Prop) (d : Prop) : Prop :=
  match op with
  | .eql => (sL a = sL b → K (.bool true)) ∧ (sL a ≠ sL b → K (.bool false))
  | .neq => (sL a = sL b → K (.bool false)) ∧ (sL a ≠ sL b → K (.bool true))
  | .add => (sL a).length + (sL b).length ≤ 4611686018427387904 ∧ K (.string ⟨⟨sL a ++ sL b⟩⟩)
  | _ => d
def Bool.notB : Bool → Bool
  | true => false
  | false => true
def Bool.beqB (a b : Bool) : Bool := match a with
  | true => b
  | false => Bool.notB b
def isBoolT (P : Program) (t : TypeId) : Bool := match P.underlying t with
  | some .bool => true
  | _ => false
theorem isBoolT_ok {P : Program} {t : TypeId} (h : isBoolT P t = true) : P.underlying t = some .bool := by
  unfold isBoolT at h
  split at h
  · assumption
  · cases h
def binJ (E : Env) (l : L) (h : H) (o : Oper) (op : BinOp) (t : TypeId) (v u : Value) (K : Value → H → Prop) : Prop :=
  match v, u with
  | .int k a, .int k' b => match kEq k k' with
    | true => cmpJ op a b (fun c => K (.bool c) h) (ariJ op k a b (fun r => K r h) (RawP E l h o K))
    | false => False
  | .string a, .string b => strJ op a b (fun r => K r h) (RawP E l h o K)
  | .bool a, .bool b => match op with
    | .eql => isBoolT E.P t = true ∧ K (.bool (Bool.beqB a b)) h
    | .neq => isBoolT E.P t = true ∧ K (.bool (Bool.beqB a (Bool.notB b))) h
    | _ => RawP E l h o K
  | v, u => match op, flat1 v && flat1 u with
    | .eql, false => ∃ b, eqNil E.P t v u = some b ∧ K (.bool b) h
    | .neq, false => ∃ b, eqNil E.P t v u = some b ∧ K (.bool !b) h
    | _, _ => RawP E l h o K
def fOff (P : Program) (s : TypeId) (i : Nat) : Option Nat :=
  match P.underlying s with
  | some (.struct fs) => match fs[i]? with
    | some f => match sizeOf P f.type with
      | some (_ + 1) => some f.offset
      | _ => none
    | none => none
  | _ => none
def iSize (P : Program) (t : TypeId) : Option Nat :=
  match P.underlying t with
  | some (.slice e) => sizeOf P e
  | _ => none
/-- A bound of a slice: not said, or a number. -/
def bndJ (l : L) (o : Option Operand) (d : Nat) : Option Nat :=
  match o with
  | none => some d
  | some x => match evL l x with
    | some (.int _ (.ofNat k)) => some k
    | _ => none
def subJ (s : ByteArray) (lo hi : Option Nat) (K : Value → Prop) : Prop :=
  match lo, hi with
  | some i, some j => i ≤ j ∧ j ≤ (sL s).length ∧ K (.string ⟨⟨((sL s).drop i).take (j - i)⟩⟩)
  | _, _ => False
def isString (P : Program) (t : TypeId) : Bool := match P.underlying t with
  | some .string => true
  | _ => false
def isSlice (P : Program) (t : Option TypeId) : Bool := match t.bind P.underlying with
  | some (.slice _) => true
  | _ => false
def syCall (E : Env) (l : L) (h : H) (o : Oper) (c : Call) (K : Value → H → Prop) : Prop :=
  match c.callee with
  | .value f => match evL l f, evsL l c.args.toList with
    | some (.func (.func f) first captured), some args => CallP E f (first.toList ++ args ++ captured.toList) h K ∨ RawP E l h o K
    | _, _ => False
  | .builtin .len => match evsL l c.args.toList with
    | some [.string s] => (c.argTypes[0]?).elim False (fun t => isString E.P t = true) ∧ K (.int .i64 (.ofNat (sL s).length)) h
    | some [.slice _ n _] => isSlice E.P c.argTypes[0]? = true ∧ K (.int .i64 (.ofNat n)) h
    | _ => RawP E l h o K
  | _ => RawP E l h o K
/-- **An operation: what must hold so that whatever follows holds.** -/
def syOp (E : Env) (l : L) (h : H) (o : Oper) (K : Value → H → Prop) : Prop :=
  match o.op with
  | .move x => onS (evL l x) fun v => K v h
  | .assign x => onS (evL l x) fun v => K v h
  | .pick c a b => match evL l c with
    | some (.bool true) => onS (evL l a) fun v => K v h
    | some (.bool false) => onS (evL l b) fun v => K v h
    | _ => False
  | .binOp op t x y _ => onS (evL l x) fun v => onS (evL l y) fun u => binJ E l h o op t v u K
  | .unOp op _ x => match op, evL l x with
    | .not, some (.bool true) => K (.bool false) h
    | .not, some (.bool false) => K (.bool true) h
    | _, _ => RawP E l h o K
  | .index t x i => match evL l x, evL l i with
    | some (.string s), some (.int _ (.ofNat k)) => isString E.P t = true ∧ k < (sL s).length ∧ K (.int .u8 (.ofNat ((sL s).getD k 0).toNat)) h
    | _, _ => RawP E l h o K
  | .slice t x lo hi mx => match evL l x, mx with
    | some (.string s), none => isString E.P t = true ∧ subJ s (bndJ l lo 0) (bndJ l hi (sL s).length) fun v => K v h
    | _, _ => RawP E l h o K
  | .load t x => match evL l x with
    | some (.pointer (some a)) => ∃ v, h.load E.P t a = some v ∧ K v h
    | _ => RawP E l h o K
  | .store t x y => match evL l x, evL l y with
    | some (.pointer (some a)), some v => ∃ h1, h.store E.P t a v = some h1 ∧ K undef h1
    | _, _ => False
  | .alloc e => ∃ z, zero E.P e = some z ∧ K (.pointer (some ⟨h.next, 0, none⟩)) (h.push (.cells z.cells.toList (some e) true 0))
  | .box e x => onS (evL l x) fun v => K (.pointer (some ⟨h.next, 0, none⟩)) (h.push (.cells v.cells.toList (some e) true 0))
  | .nilCheck x => match evL l x with
    | some (.pointer (some a)) => K (.pointer (some a)) h
    | some (.func (.func f) a c) => K (.func (.func f) a c) h
    | _ => False
  | .fieldAddr s x i => match evL l x with
    | some (.pointer (some a)) => ∃ n, fOff E.P s i = some n ∧ K (.pointer (some (a.add n))) h
    | _ => False
  | .indexAddr t x i => match evL l x, evL l i with
    | some (.slice (some a) len _), some (.int _ (.ofNat k)) => ∃ s, iSize E.P t = some s ∧ k < len ∧ K (.pointer (some (a.add (k * s)))) h
    | _, _ => RawP E l h o K
  | .makeFunc fn a c => match evsL l a.toList, evsL l c.toList with
    | some a, some c => K (.func fn a.toArray c.toArray) h
    | _, _ => False
  | .extract x i => match evL l x with
    | some (.tuple vs) => onS (vs.toList[i]?) fun v => K v h
    | _ => False
  | .call c => syCall E l h o c K
  | _ => RawP E l h o K

/-! ### that it is so -/
section
variable {E : Env} {l : L} {tm : TM} {h : H} {o : Oper} {K : Value → H → Prop}
theorem OpP.val {v : Value} {h1 : H} (he : evOp E tm h o = some (.val v h1)) (hk : K v h1) : OpP E o tm h K := ⟨0, v, h1, by simp only [evFull, he], hk⟩
theorem OpP.skip {h1 : H} (he : evOp E tm h o = some (.skip h1)) (hk : K undef h1) : OpP E o tm h K := ⟨0, undef, h1, by simp only [evFull, he], hk⟩
theorem OpP.enter {f : FuncId} {args : List Value} (he : evOp E tm h o = some (.enter f args h)) (hk : CallP E f args h K) : OpP E o tm h K := by
  obtain ⟨n, v, h1, e, k⟩ := hk.ex
  exact ⟨n, v, h1, by simp only [evFull, he]; exact e, k⟩
theorem onS_ok {o : Option Value} {K : Value → Prop} (h : onS o K) : ∃ v, o = some v ∧ K v := by
  cases o with
  | none => exact h.elim
  | some v => exact ⟨v, rfl, h⟩
theorem ile_true {a b : Int} (h : a ≤ b) : ile a b = true := by rw [ile_eq]; exact decide_eq_true h
theorem ile_false {a b : Int} (h : b < a) : ile a b = false := by rw [ile_eq]; exact decide_eq_false (by omega)
theorem ieq_true {a b : Int} (h : a = b) : ieq a b = true := by rw [ieq_eq]; simp [h]
theorem ieq_false {a b : Int} (h : a ≠ b) : ieq a b = false := by rw [ieq_eq]; simp [h]
theorem cmpI_ok {op : BinOp} {a b : Int} {K : Bool → Prop} {d : Prop} (h : cmpI op a b K d) : (∃ c, icmp op a b = some c ∧ K c) ∨ (icmp op a b = none ∧ d) := by
  cases op with
  | eql =>
    left
    by_cases q : a = b
    · exact ⟨true, by simp only [icmp, ieq_true q], h.1 q⟩
    · exact ⟨false, by simp only [icmp, ieq_false q], h.2 q⟩
  | neq =>
    left
    by_cases q : a = b
    · exact ⟨false, by simp only [icmp, ieq_true q]; rfl, h.1 q⟩
    · exact ⟨true, by simp only [icmp, ieq_false q]; rfl, h.2 q⟩
  | lss =>
    left
    by_cases q : a < b
    · exact ⟨true, by simp only [icmp, ile_false q]; rfl, h.1 q⟩
    · exact ⟨false, by simp only [icmp, ile_true (Int.not_lt.1 q)]; rfl, h.2 (Int.not_lt.1 q)⟩
  | leq =>
    left
    by_cases q : a ≤ b
    · exact ⟨true, by simp only [icmp, ile_true q], h.1 q⟩
    · exact ⟨false, by simp only [icmp, ile_false (Int.not_le.1 q)], h.2 (Int.not_le.1 q)⟩
  | gtr =>
    left
    by_cases q : b < a
    · exact ⟨true, by simp only [icmp, ile_false q]; rfl, h.1 q⟩
    · exact ⟨false, by simp only [icmp, ile_true (Int.not_lt.1 q)]; rfl, h.2 (Int.not_lt.1 q)⟩
  | geq =>
    left
    by_cases q : b ≤ a
    · exact ⟨true, by simp only [icmp, ile_true q], h.1 q⟩
    · exact ⟨false, by simp only [icmp, ile_false (Int.not_le.1 q)], h.2 (Int.not_le.1 q)⟩
  | _ => exact .inr ⟨rfl, h⟩
theorem cmpN_ok {op : BinOp} {a b : Nat} {K : Bool → Prop} {d : Prop} (h : cmpN op a b K d) : cmpI op (.ofNat a) (.ofNat b) K d := by
  have e1 : ((.ofNat a : Int) = .ofNat b) ↔ a = b := ⟨fun q => by injection q, fun q => by rw [q]⟩
  have e2 : ((.ofNat a : Int) < .ofNat b) ↔ a < b := Int.ofNat_lt
  have e3 : ((.ofNat a : Int) ≤ .ofNat b) ↔ a ≤ b := Int.ofNat_le
  have e4 : ((.ofNat b : Int) < .ofNat a) ↔ b < a := Int.ofNat_lt
  have e5 : ((.ofNat b : Int) ≤ .ofNat a) ↔ b ≤ a := Int.ofNat_le
  cases op <;> simp only [cmpI, cmpN, ne_eq, e1, e2, e3, e4, e5] at h ⊢ <;> exact h
theorem cmpJ_ok {op : BinOp} {a b : Int} {K : Bool → Prop} {d : Prop} (h : cmpJ op a b K d) : (∃ c, icmp op a b = some c ∧ K c) ∨ (icmp op a b = none ∧ d) := by
  unfold cmpJ at h
  split at h
  · exact cmpI_ok (cmpN_ok h)
  · exact cmpI_ok h
theorem ariJ_ok {op : BinOp} {k : IntKind} {a b : Int} {K : Value → Prop} {d : Prop} (h : ariJ op k a b K d) : (∃ r, iar k op a b = some r ∧ K (.int k r)) ∨ (k = .i64 ∧ op = .sub ∧ iar k op a b = none ∧ K (.int k (k.wrap (a - b)))) ∨ d := by
  unfold ariJ at h
  split at h
  · rename_i x y
    refine .inl ⟨.ofNat (x + y), ?_, h.2⟩
    simp only [iar]
    rw [Nat.ble_eq_true_of_le (show Nat.add x y ≤ 4611686018427387904 from h.1)]
    rfl
  · rename_i x y
    rcases h with ⟨h1, h2, h3⟩ | ⟨h1, h3⟩
    · refine .inl ⟨.ofNat (x - y), ?_, h3⟩
      simp only [iar]
      rw [Nat.ble_eq_true_of_le h1, Nat.ble_eq_true_of_le h2]
      rfl
    · refine .inr (.inl ⟨rfl, rfl, ?_, h3⟩)
      simp only [iar]
      rcases h1 with h1 | h1
      · have : Nat.ble y x = false := by
          cases q : Nat.ble y x with
          | false => rfl
          | true => have := Nat.le_of_ble_eq_true q; omega
        rw [this]
      · have : Nat.ble x 4611686018427387904 = false := by
          cases q : Nat.ble x 4611686018427387904 with
          | false => rfl
          | true => have := Nat.le_of_ble_eq_true q; omega
        rw [this]
        cases Nat.ble y x <;> rfl
  · exact .inr (.inr h)
theorem strJ_ok {op : BinOp} {a b : ByteArray} {K : Value → Prop} {d : Prop} (h : strJ op a b K d) : (∃ r, hStr op a b = some r ∧ K r) ∨ d := by
  unfold strJ at h
  split at h
  · left
    by_cases q : sL a = sL b
    · exact ⟨.bool true, by simp only [hStr, beqB_eq, q]; simp, h.1 q⟩
    · exact ⟨.bool false, by simp only [hStr, beqB_eq]; rw [beq_eq_false_iff_ne.2 q], h.2 q⟩
  · left
    by_cases q : sL a = sL b
    · exact ⟨.bool false, by simp only [hStr, beqB_eq, q]; simp, h.1 q⟩
    · exact ⟨.bool true, by simp only [hStr, beqB_eq]; rw [beq_eq_false_iff_ne.2 q]; rfl, h.2 q⟩
  · left
    refine ⟨_, ?_, h.2⟩
    simp only [hStr]
    rw [Nat.ble_eq_true_of_le (show Nat.add (sL a).length (sL b).length ≤ 4611686018427387904 from h.1)]
  · exact .inr h
theorem sub_pure {P : Program} {tm : TM} {h : H} {dst ty pos after guard t x y yt} {k : IntKind} {m n : Int} (hv : evA tm x = some (.int k m)) (hu : evA tm y = some (.int k n)) :
    evPure P tm h ⟨dst, .binOp .sub t x y yt, ty, pos, after, guard⟩ = some (.val (.int k (k.wrap (m - n))) h) := by
  have h1 : allFlat tm [x, y] = true := by simp [allFlat, hv, hu, flat2, flat1, flat]
  have e1 : evA' tm x = .int k m := by simp [evA', hv]
  have e2 : evA' tm y = .int k n := by simp [evA', hu]
  have h2 : pureRun P (execOp (evA' tm) ⟨dst, .binOp .sub t x y yt, ty, pos, after, guard⟩) = some (.value (.int k (k.wrap (m - n)))) := by
    simp only [execOp, e1, e2]
    simp [eqGuard, binOp, Op.intArith, pureRun, bind, pure, Sem.bind]
  simp only [evPure, Op.operands, h1, if_true, h2]
  rfl
theorem pureRun_bind {α β : Type} {P : Program} : ∀ {s : Sem α} {x : α} (k : α → Sem β), pureRun P s = some x → pureRun P (s >>= k) = pureRun P (k x)
  | .pure a, x, k, h => by cases h; rfl
  | .program q, x, k, h => pureRun_bind (s := q P) k h
  | .mark _ q, x, k, h => pureRun_bind (s := q) k h
theorem eqb0 {P : Program} {t : TypeId} (ht : P.underlying t = some .bool) (a b : Bool) : pureRun P (Op.equal t (.bool a) (.bool b)) = some (a == b) := by
  have h0 : ∀ d, pureRun P (Op.equalIn (d + 1) t (.bool a) (.bool b)) = some (a == b) := by
    intro d
    simp only [Op.equalIn, Go.underlying, bind, Sem.bind, program, pureRun, ht, pure]
  exact h0 9999
theorem bool_pure {P : Program} {tm : TM} {h : H} {dst ty pos after guard} {op : BinOp} {t yt : TypeId} {x y : Operand} {a b c : Bool} (hv : evA tm x = some (.bool a)) (hu : evA tm y = some (.bool b))
    (ht : P.underlying t = some .bool) (hc : (op = .eql ∧ c = Bool.beqB a b) ∨ (op = .neq ∧ c = Bool.beqB a (Bool.notB b))) :
    evPure P tm h ⟨dst, .binOp op t x y yt, ty, pos, after, guard⟩ = some (.val (.bool c) h) := by
  have h1 : allFlat tm [x, y] = true := by simp [allFlat, hv, hu, flat2, flat1, flat]
  have e1 : evA' tm x = .bool a := by simp [evA', hv]
  have e2 : evA' tm y = .bool b := by simp [evA', hu]
  have hg : ∀ op, pureRun P (eqGuard op t x y (.bool a) (.bool b)) = some () := by intro op; cases op <;> rfl
  have h2 : pureRun P (execOp (evA' tm) ⟨dst, .binOp op t x y yt, ty, pos, after, guard⟩) = some (.value (.bool c)) := by
    simp only [execOp, e1, e2]
    have h3 := eqb0 ht a b
    have h4 : pureRun P (eqGuard op t x y (.bool a) (.bool b) >>= fun _ => binOp op t (.bool a) (.bool b)) = some (.bool c) := by
      rw [pureRun_bind _ (hg op)]
      rcases hc with ⟨rfl, rfl⟩ | ⟨rfl, rfl⟩
      · show pureRun P (Op.equal t (.bool a) (.bool b) >>= fun r => pure (Value.bool r)) = _
        rw [pureRun_bind _ h3]
        cases a <;> cases b <;> rfl
      · show pureRun P (Op.equal t (.bool a) (.bool b) >>= fun r => pure (Value.bool !r)) = _
        rw [pureRun_bind _ h3]
        cases a <;> cases b <;> rfl
    rw [pureRun_bind _ h4]
    rfl
  simp only [evPure, Op.operands, h1, if_true, h2]
  rfl
theorem hBin_other {P : Program} {tm : TM} {h : H} {o : Oper} {op : BinOp} {t : TypeId} {x y : Operand} {v u : Value} (q1 : evA tm x = some v) (q2 : evA tm y = some u)
    (n1 : ∀ k a k' b, v = .int k a → u = .int k' b → False) (n2 : ∀ a b, v = .string a → u = .string b → False) :
    hBin P tm h o op t x y = match flat1 v && flat1 u with
      | true => evPure P tm h o
      | false => hNilEq P h op t v u := by
  unfold hBin
  rw [q1, q2]
  cases v <;> cases u <;> first | rfl | exact (n1 _ _ _ _ rfl rfl).elim | exact (n2 _ _ rfl rfl).elim
theorem bndJ_ok {l : L} {tm : TM} (hv : View l tm) {o : Option Operand} {d k n : Nat} (h : bndJ l o d = some k) (hk : k ≤ n) : bnd n (o.map (evA' tm)) d = some k := by
  cases o with
  | none => exact h
  | some x =>
    simp only [bndJ] at h
    split at h
    · rename_i kk m hx
      cases h
      rw [Option.map_some, evL_ok' hv hx]
      simp only [bnd, if_pos hk]
    · cases h
theorem isString_ok {P : Program} {t : TypeId} (h : isString P t = true) : P.underlying t = some .string := by
  unfold isString at h
  split at h
  · assumption
  · cases h
theorem isSlice_ok {P : Program} {t : Option TypeId} (h : isSlice P t = true) : ∃ e, t.bind P.underlying = some (.slice e) := by
  unfold isSlice at h
  split at h
  · exact ⟨_, ‹_›⟩
  · cases h
theorem syCall_ok {dst ty pos after guard} {c : Call} (hv : View l tm) (h0 : syCall E l h ⟨dst, .call c, ty, pos, after, guard⟩ c K) : OpP E ⟨dst, .call c, ty, pos, after, guard⟩ tm h K := by
  obtain ⟨callee, xs, ts⟩ := c
  unfold syCall at h0
  split at h0
  · rename_i f hcal
    simp only at hcal
    subst hcal
    split at h0
    · rename_i f' first captured args hf ha
      rcases h0 with h0 | h0
      case inr => exact h0.ok tm hv
      obtain ⟨fn, cc, q1, q2⟩ := h0.body
      refine OpP.enter ?_ h0
      simp only [evOp, hCall, hCallV, evL_ok hv hf, evsL_ok hv ha, evCall, q1, q2]
    · exact h0.elim
  · rename_i hcal
    simp only at hcal
    subst hcal
    split at h0
    · rename_i s ha
      obtain ⟨h1, h2⟩ := h0
      simp only at h1 ha
      refine OpP.val ?_ h2
      cases ht : ts[0]? with
      | none => rw [ht] at h1; exact h1.elim
      | some t =>
        rw [ht] at h1
        simp only [evOp, hCall, hCallB, evsL_ok hv ha, evBuiltin, ht, Option.bind_some, isString_ok h1]
        rfl
    · rename_i b n cap ha
      obtain ⟨h1, h2⟩ := h0
      simp only at h1 ha
      refine OpP.val ?_ h2
      obtain ⟨e, he⟩ := isSlice_ok h1
      simp only [evOp, hCall, hCallB, evsL_ok hv ha, evBuiltin, he]
      rfl
    · exact h0.ok tm hv
  · exact h0.ok tm hv
theorem syOp_ok (hv : View l tm) (h0 : syOp E l h o K) : OpP E o tm h K := by
  obtain ⟨dst, op, ty, pos, after, guard⟩ := o
  cases op with
  | move x =>
    obtain ⟨v, h1, h2⟩ := onS_ok (show onS (evL l x) _ from h0)
    exact OpP.val (by simp only [evOp, evL_ok hv h1]; rfl) h2
  | assign x =>
    obtain ⟨v, h1, h2⟩ := onS_ok (show onS (evL l x) _ from h0)
    exact OpP.val (by simp only [evOp, evL_ok hv h1]; rfl) h2
  | pick c a b =>
    simp only [syOp] at h0
    split at h0
    · rename_i hc
      obtain ⟨v, h1, h2⟩ := onS_ok h0
      exact OpP.val (by simp only [evOp, hPick, evL_ok hv hc, if_true, evL_ok hv h1]; rfl) h2
    · rename_i hc
      obtain ⟨v, h1, h2⟩ := onS_ok h0
      exact OpP.val (by simp only [evOp, hPick, evL_ok hv hc, Bool.false_eq_true, if_false, evL_ok hv h1]; rfl) h2
    · exact h0.elim
  | binOp op t x y yt =>
    obtain ⟨v, h1, h0⟩ := onS_ok (show onS (evL l x) _ from h0)
    obtain ⟨u, h2, h0⟩ := onS_ok h0
    have q1 := evL_ok hv h1
    have q2 := evL_ok hv h2
    unfold binJ at h0
    split at h0
    · rename_i k a k' b
      split at h0
      · rename_i hk
        have hk' := kEq_eq hk
        subst hk'
        rcases cmpJ_ok h0 with ⟨c, c1, c2⟩ | ⟨c1, c2⟩
        · exact OpP.val (by simp only [evOp, hBin, q1, q2, hk, hInt, c1]) c2
        · rcases ariJ_ok c2 with ⟨r, r1, r2⟩ | ⟨rfl, rfl, r1, r2⟩ | r
          · exact OpP.val (by simp only [evOp, hBin, q1, q2, hk, hInt, c1, r1]) r2
          · exact OpP.val (by simp only [evOp, hBin, q1, q2, hk, hInt, c1, r1]; exact sub_pure q1 q2) r2
          · exact r.ok tm hv
      · exact h0.elim
    · rename_i a b
      rcases strJ_ok h0 with ⟨r, r1, r2⟩ | r
      · exact OpP.val (by simp only [evOp, hBin, q1, q2, r1]) r2
      · exact r.ok tm hv
    · rename_i a b
      have e0 : hBin E.P tm h ⟨dst, .binOp op t x y yt, ty, pos, after, guard⟩ op t x y = evPure E.P tm h ⟨dst, .binOp op t x y yt, ty, pos, after, guard⟩ := by
        rw [hBin_other q1 q2 (fun _ _ _ _ q => by cases q) (fun _ _ q => by cases q)]
        rfl
      split at h0
      · exact OpP.val (by simp only [evOp]; rw [e0]; exact bool_pure q1 q2 (isBoolT_ok h0.1) (.inl ⟨rfl, rfl⟩)) h0.2
      · exact OpP.val (by simp only [evOp]; rw [e0]; exact bool_pure q1 q2 (isBoolT_ok h0.1) (.inr ⟨rfl, rfl⟩)) h0.2
      · exact h0.ok tm hv
    · rename_i n1 n2 n3
      split at h0
      · obtain ⟨b, e1, e2⟩ := h0
        refine OpP.val ?_ e2
        simp only [evOp]
        rw [hBin_other q1 q2 n1 n2, ‹(flat1 _ && flat1 _) = false›]
        simp only [hNilEq, e1]
        rfl
      · obtain ⟨b, e1, e2⟩ := h0
        refine OpP.val ?_ e2
        simp only [evOp]
        rw [hBin_other q1 q2 n1 n2, ‹(flat1 _ && flat1 _) = false›]
        simp only [hNilEq, e1]
        rfl
      · exact h0.ok tm hv
  | unOp op t x =>
    simp only [syOp] at h0
    split at h0
    · rename_i hx
      exact OpP.val (by simp only [evOp, hUn, evL_ok hv hx]; rfl) h0
    · rename_i hx
      exact OpP.val (by simp only [evOp, hUn, evL_ok hv hx]; rfl) h0
    · exact h0.ok tm hv
  | index t x i =>
    simp only [syOp] at h0
    split at h0
    · rename_i s k n hx hi
      obtain ⟨h1, h2, h3⟩ := h0
      refine OpP.val ?_ h3
      have : nthB (sL s) n = some ((sL s).getD n 0) := by rw [nthB_eq, List.getD_eq_getElem?_getD, List.getElem?_eq_getElem h2]; rfl
      simp only [evOp, hIdx, evL_ok hv hx, evL_ok hv hi, isString_ok h1, this]
    · exact h0.ok tm hv
  | slice t x lo hi mx =>
    simp only [syOp] at h0
    split at h0
    · rename_i s hx
      obtain ⟨h1, h0⟩ := h0
      unfold subJ at h0
      split at h0
      · rename_i i j hi' hj'
        obtain ⟨h2, h3, h4⟩ := h0
        refine OpP.val ?_ h4
        simp only [evOp, hSlice, evL_ok hv hx, sliceS, isString_ok h1, bndJ_ok hv hj' h3, bndJ_ok hv hi' h2]
        rfl
      · exact h0.elim
    · exact h0.ok tm hv
  | load t x =>
    simp only [syOp] at h0
    split at h0
    · rename_i a hx
      obtain ⟨v, h1, h2⟩ := h0
      exact OpP.val (by simp only [evOp, hLoad, evL_ok hv hx, h1]; rfl) h2
    · exact h0.ok tm hv
  | store t x y =>
    simp only [syOp] at h0
    split at h0
    · rename_i a v hx hy
      obtain ⟨h1, h2, h3⟩ := h0
      exact OpP.skip (by simp only [evOp, hStore, evL_ok hv hx, evL_ok hv hy, h2]; rfl) h3
    · exact h0.elim
  | alloc e =>
    obtain ⟨z, h1, h2⟩ := h0
    exact OpP.val (by simp only [evOp, hAlloc, h1]) h2
  | box e x =>
    obtain ⟨v, h1, h2⟩ := onS_ok (show onS (evL l x) _ from h0)
    exact OpP.val (by simp only [evOp, hBox, evL_ok hv h1]) h2
  | nilCheck x =>
    simp only [syOp] at h0
    split at h0
    · rename_i a hx
      exact OpP.val (by simp only [evOp, hNil, evL_ok hv hx]) h0
    · rename_i f a c hx
      exact OpP.val (by simp only [evOp, hNil, evL_ok hv hx]) h0
    · exact h0.elim
  | fieldAddr s x i =>
    simp only [syOp] at h0
    split at h0
    · rename_i a hx
      obtain ⟨n, h1, h2⟩ := h0
      refine OpP.val ?_ h2
      unfold fOff at h1
      split at h1
      · rename_i fs hs
        split at h1
        · rename_i f hf
          split at h1
          · rename_i m hm
            cases h1
            simp only [evOp, hFieldAddr, evL_ok hv hx, hs, hf, hm]
          · cases h1
        · cases h1
      · cases h1
    · exact h0.elim
  | indexAddr t x i =>
    simp only [syOp] at h0
    split at h0
    · rename_i a len cap k n hx hi
      obtain ⟨s, h1, h2, h3⟩ := h0
      refine OpP.val ?_ h3
      unfold iSize at h1
      split at h1
      · rename_i e he
        simp only [evOp, hIndexAddr, evL_ok hv hx, evL_ok hv hi, he, h1, if_pos h2]
      · cases h1
    · exact h0.ok tm hv
  | makeFunc fn a c =>
    simp only [syOp] at h0
    split at h0
    · rename_i xs ys hx hy
      exact OpP.val (by simp only [evOp, hMakeFunc, evsL_ok hv hx, evsL_ok hv hy]) h0
    · exact h0.elim
  | extract x i =>
    simp only [syOp] at h0
    split at h0
    · rename_i vs hx
      obtain ⟨v, h1, h2⟩ := onS_ok h0
      exact OpP.val (by simp only [evOp, hExtract, evL_ok hv hx, h1]; rfl) h2
    · exact h0.elim
  | call c => exact syCall_ok hv h0
  | _ => exact RawP.ok h0 tm hv
end
end Go.Proofs.Ytknenadpkgajjaa.GEv
