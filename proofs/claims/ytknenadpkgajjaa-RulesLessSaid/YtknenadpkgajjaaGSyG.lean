/- Symbolic runs, the short way: types are reckoned by a table, new blocks and numbers have names, regions that draw need no order kept in mind. -/
import Derived.Test.YtknenadpkgajjaaGSyF
namespace Go.Proofs.Ytknenadpkgajjaa.GEv
open Go
set_option linter.unusedSimpArgs false
set_option linter.unusedVariables false
/-! ### what types say, to be reckoned -/
def fldsY (P : Program) : List Field → Option (List (Nat × Nat))
  | [] => some []
  | f :: r => match sizeOf P f.type, fldsY P r with
    | some s, some l => some ((f.offset, s) :: l)
    | _, _ => none
/-- What kind a type is of. -/
inductive KiT where
  | one
  | bool
  | str
  | sl (e : Nat)
  | st (fs : List (Nat × Nat))
  | map (k e : Nat)
structure TyI where
  size : Nat
  byt : Nat
  agg : Bool
  zero : Value
  kind : KiT
/-- A table of types (a function, so that it stays folded). -/
abbrev Tb := Nat → Option TyI
def tbL : List (Nat × TyI) → Nat → Option TyI
  | [], _ => none
  | (u, i) :: r, t => match Nat.beq u t with
    | true => some i
    | false => tbL r t
def kindOf (P : Program) (t : TypeId) : Option KiT := match P.underlying t with
  | some .bool => some .bool
  | some .string => some .str
  | some (.slice e) => some (.sl e)
  | some (.struct fs) => (fldsY P fs.toList).map .st
  | some (.map k e) => some (.map k e)
  | some _ => some .one
  | none => none
def tyOf (P : Program) (t : TypeId) : Option TyI := match P.info? t, isAgg P t, zero P t, kindOf P t with
  | some i, some a, some z, some k => some ⟨i.size, i.bytes, a, z, k⟩
  | _, _, _, _ => none
/-- The table says what the program says. -/
structure TbOk (tb : Tb) (P : Program) : Prop where
  ok : ∀ t i, tb t = some i → tyOf P t = some i
def nthY {α : Type} : List α → Nat → Option α
  | [], _ => none
  | a :: r, n => match n with
    | 0 => some a
    | k + 1 => nthY r k
def lenY {α : Type} : List α → Nat
  | [] => 0
  | _ :: r => Nat.succ (lenY r)
def put0 : List Value → List Value → Option (List Value)
  | [], [] => some []
  | [], _ :: _ => none
  | c :: cs, [] => some (c :: cs)
  | _ :: cs, v :: vs => match put0 cs vs with
    | some r => some (v :: r)
    | none => none
def putY : List Value → Nat → List Value → Option (List Value)
  | [], n, new => match n with
    | 0 => put0 [] new
    | _ + 1 => none
  | c :: cs, n, new => match n with
    | 0 => put0 (c :: cs) new
    | k + 1 => match putY cs k new with
      | some r => some (c :: r)
      | none => none
def fillY (place : Nat → Option (Nat × Nat)) : List Value → List (Nat × Value) → Option (List Value)
  | cells, [] => some cells
  | cells, (i, v) :: rest => match place i with
    | some (off, size) => match Nat.beq (lenY v.cells.toList) size with
      | true => match putY cells off v.cells.toList with
        | some c => fillY place c rest
        | none => none
      | false => none
    | none => none
theorem addr_addZ (b o n : Nat) : (⟨b, o, none⟩ : Addr).add n = ⟨b, o + n, none⟩ := by
  unfold Addr.add
  split
  · simp_all
  · rfl
theorem nthY_eq {α : Type} : ∀ (l : List α) (n : Nat), nthY l n = l[n]?
  | [], n => by simp [nthY]
  | a :: r, 0 => rfl
  | a :: r, n + 1 => by rw [nthY, nthY_eq r n, List.getElem?_cons_succ]
theorem lenY_eq {α : Type} : ∀ l : List α, lenY l = l.length
  | [] => rfl
  | _ :: r => by rw [lenY, lenY_eq r, List.length_cons]
theorem put0_eq : ∀ {c n r : List Value}, put0 c n = some r → n.length ≤ c.length ∧ n ++ c.drop n.length = r
  | [], [], r, h => by cases h; exact ⟨Nat.le_refl _, rfl⟩
  | [], _ :: _, r, h => by cases h
  | c :: cs, [], r, h => by cases h; exact ⟨Nat.zero_le _, rfl⟩
  | c :: cs, v :: vs, r, h => by
    simp only [put0] at h
    split at h
    · rename_i q hq
      cases h
      obtain ⟨h1, h2⟩ := put0_eq hq
      refine ⟨by simpa using h1, ?_⟩
      simp [h2]
    · cases h
theorem putY_eq : ∀ {c : List Value} {k : Nat} {n r : List Value}, putY c k n = some r → k + n.length ≤ c.length ∧ over c k n = r
  | [], 0, n, r, h => by
    obtain ⟨h1, h2⟩ := put0_eq h
    exact ⟨by omega, by simpa [over] using h2⟩
  | [], k + 1, n, r, h => by cases h
  | c :: cs, 0, n, r, h => by
    obtain ⟨h1, h2⟩ := put0_eq h
    exact ⟨by omega, by simpa [over] using h2⟩
  | c :: cs, k + 1, n, r, h => by
    simp only [putY] at h
    split at h
    · rename_i q hq
      cases h
      obtain ⟨h1, h2⟩ := putY_eq hq
      refine ⟨by simp only [List.length_cons]; omega, ?_⟩
      unfold over at h2 ⊢
      rw [List.take_succ_cons, show k + 1 + n.length = (k + n.length) + 1 by omega, List.drop_succ_cons, List.cons_append, List.cons_append, h2]
    · cases h
theorem fillY_ok {place : Nat → Option (Nat × Nat)} : ∀ {ps : List (Nat × Value)} {c r : List Value}, fillY place c ps = some r → fillL place c ps = some r
  | [], c, r, h => h
  | (i, v) :: ps, c, r, h => by
    simp only [fillY] at h
    simp only [fillL]
    split at h
    · rename_i off size hp
      rw [hp]
      simp only
      split at h
      · rename_i hb
        split at h
        · rename_i q hq
          obtain ⟨h1, h2⟩ := putY_eq hq
          have hb := Nat.eq_of_beq_eq_true hb
          rw [lenY_eq] at hb
          rw [if_pos ⟨hb, h1⟩, h2]
          exact fillY_ok h
        · cases h
      · cases h
    · cases h
theorem fldsY_get {P : Program} : ∀ {fs : List Field} {l : List (Nat × Nat)}, fldsY P fs = some l → (∀ i, nthY l i = (fs[i]?).bind fun f => (sizeOf P f.type).map fun s => (f.offset, s)) ∧ fs.all (fun f => (sizeOf P f.type).isSome) = true
  | [], l, h => by cases h; exact ⟨fun i => by simp [nthY], rfl⟩
  | f :: r, l, h => by
    simp only [fldsY] at h
    split at h
    · rename_i s q hs hq
      cases h
      obtain ⟨h1, h2⟩ := fldsY_get hq
      refine ⟨fun i => ?_, by simp [hs, h2]⟩
      cases i with
      | zero => simp [nthY, hs]
      | succ i => rw [nthY, h1 i, List.getElem?_cons_succ]
    · cases h
theorem tbL_mem : ∀ {tb : List (Nat × TyI)} {t : Nat} {i : TyI}, tbL tb t = some i → (t, i) ∈ tb
  | [], t, i, h => by cases h
  | (u, j) :: r, t, i, h => by
    simp only [tbL] at h
    split at h
    · rename_i q
      cases h
      rw [Nat.eq_of_beq_eq_true q]
      exact List.mem_cons_self ..
    · exact List.mem_cons_of_mem _ (tbL_mem h)
theorem TbOk.ofList {P : Program} {l : List (Nat × TyI)} {tb : Tb} (ht : ∀ t, tb t = tbL l t) (hl : l.map (fun x => tyOf P x.1) = l.map (fun x => some x.2)) : TbOk tb P := ⟨fun t i h => by
  rw [ht] at h
  obtain ⟨n, hn, he⟩ := List.mem_iff_getElem.1 (tbL_mem h)
  have := congrArg (fun l => l[n]?) hl
  simp only [List.getElem?_map, List.getElem?_eq_getElem hn, he, Option.map_some, Option.some.injEq] at this
  exact this⟩
theorem tyOf_ok {P : Program} {t : TypeId} {i : TyI} (h : tyOf P t = some i) : (∃ n, P.info? t = some n ∧ n.size = i.size ∧ n.bytes = i.byt) ∧ sizeOf P t = some i.size ∧ isAgg P t = some i.agg ∧ zero P t = some i.zero ∧ kindOf P t = some i.kind := by
  unfold tyOf at h
  split at h
  · rename_i n a z k h1 h2 h3 h4
    cases h
    exact ⟨⟨n, h1, rfl, rfl⟩, by simp [sizeOf, h1], h2, h3, h4⟩
  · cases h
section
variable {P : Program} {tb : Tb} (T : TbOk tb P) {t : TypeId}
include T
theorem TbOk.size {i : TyI} (h : tb t = some i) : sizeOf P t = some i.size := (tyOf_ok (T.ok _ _ h)).2.1
theorem TbOk.agg {i : TyI} (h : tb t = some i) : isAgg P t = some i.agg := (tyOf_ok (T.ok _ _ h)).2.2.1
theorem TbOk.zero {i : TyI} (h : tb t = some i) : GEv.zero P t = some i.zero := (tyOf_ok (T.ok _ _ h)).2.2.2.1
theorem TbOk.kind {i : TyI} (h : tb t = some i) : kindOf P t = some i.kind := (tyOf_ok (T.ok _ _ h)).2.2.2.2
theorem TbOk.info {i : TyI} (h : tb t = some i) : ∃ n, P.info? t = some n ∧ n.size = i.size ∧ n.bytes = i.byt := (tyOf_ok (T.ok _ _ h)).1
end
def fldT (tb : Tb) (t : TypeId) : Option (List (Nat × Nat)) := match tb t with
  | some ⟨_, _, _, _, .st fs⟩ => some fs
  | _ => none
def slT (tb : Tb) (t : TypeId) : Option TypeId := match tb t with
  | some ⟨_, _, _, _, .sl e⟩ => some e
  | _ => none
def mapT (tb : Tb) (t : TypeId) : Option (TypeId × TypeId) := match tb t with
  | some ⟨_, _, _, _, .map k e⟩ => some (k, e)
  | _ => none
def strT (tb : Tb) (t : TypeId) : Bool := match tb t with
  | some ⟨_, _, _, _, .str⟩ => true
  | _ => false
def boolT (tb : Tb) (t : TypeId) : Bool := match tb t with
  | some ⟨_, _, _, _, .bool⟩ => true
  | _ => false
theorem kind_u {P : Program} {t : TypeId} {k : KiT} (h : kindOf P t = some k) : match k with
    | .bool => P.underlying t = some .bool
    | .str => P.underlying t = some .string
    | .sl e => P.underlying t = some (.slice e)
    | .map k e => P.underlying t = some (.map k e)
    | .st l => ∃ fs, P.underlying t = some (.struct fs) ∧ fldsY P fs.toList = some l
    | .one => True := by
  unfold kindOf at h
  split at h
  · cases h; assumption
  · cases h; assumption
  · cases h; assumption
  · rename_i fs hu
    obtain ⟨l, hl, rfl⟩ := Option.map_eq_some_iff.1 h
    exact ⟨fs, hu, hl⟩
  · cases h; assumption
  · cases h; trivial
  · cases h
section
variable {P : Program} {tb : Tb} (T : TbOk tb P) {t : TypeId}
include T
theorem fldT_ok {l : List (Nat × Nat)} (h : fldT tb t = some l) : ∃ fs, P.underlying t = some (.struct fs) ∧ (∀ i, nthY l i = (fs[i]?).bind fun f => (sizeOf P f.type).map fun s => (f.offset, s)) ∧ fs.toList.all (fun f => (sizeOf P f.type).isSome) = true := by
  unfold fldT at h
  split at h
  · rename_i hk
    cases h
    obtain ⟨fs, hu, hl⟩ := kind_u (T.kind hk)
    obtain ⟨h1, h2⟩ := fldsY_get hl
    exact ⟨fs, hu, fun i => by rw [h1 i, Array.getElem?_toList], h2⟩
  · cases h
theorem slT_ok {e : TypeId} (h : slT tb t = some e) : P.underlying t = some (.slice e) := by
  unfold slT at h
  split at h
  · rename_i hk; cases h; exact kind_u (T.kind hk)
  · cases h
theorem mapT_ok {k e : TypeId} (h : mapT tb t = some (k, e)) : P.underlying t = some (.map k e) := by
  unfold mapT at h
  split at h
  · rename_i hk; cases h; exact kind_u (T.kind hk)
  · cases h
theorem strT_ok (h : strT tb t = true) : isString P t = true := by
  unfold strT at h
  split at h
  · rename_i hk
    have : P.underlying t = some .string := kind_u (T.kind hk)
    simp only [isString, this]
  · cases h
theorem boolT_ok (h : boolT tb t = true) : isBoolT P t = true := by
  unfold boolT at h
  split at h
  · rename_i hk
    have : P.underlying t = some .bool := kind_u (T.kind hk)
    simp only [isBoolT, this]
  · cases h
end
/-! ### operations -/
/-- What is read there. -/
structure RdP (h : H) (b o n : Nat) (c : List Value) : Prop where
  eq : h.read b o n = some c
structure LtP (a b : Nat) : Prop where
  lt : a < b
structure MkP (n c b : Nat) : Prop where
  le : n ≤ c
  sz : b * c ≤ 1099511627776
  lt : c < 1099511627776
/-- A block more. -/
structure PushP (h : H) (o : AObj) (m : H) : Prop where
  eq : m = h.push o
/-- A block written. -/
structure PutP (h : H) (b : Nat) (o : AObj) (m : H) : Prop where
  eq : m = h.put b (some o)
/-- A row of cells stored. -/
structure StoP (h : H) (b o : Nat) (new : List Value) (K : H → Prop) : Prop where
  ok : ∃ c e f z, h.m.get b = some (.cells c e f z) ∧ z ≤ o ∧ o + new.length ≤ c.length ∧ new.all one = true ∧ ∀ m, PutP h b (.cells (over c o new) e f z) m → K m
theorem StoP.of {h : H} {b o z : Nat} {new c : List Value} {e : Option TypeId} {f : Bool} {K : H → Prop} (hg : h.m.get b = some (.cells c e f z)) (hz : z ≤ o) (hl : o + new.length ≤ c.length) (h1 : new.all one = true) (hk : ∀ m, PutP h b (.cells (over c o new) e f z) m → K m) : StoP h b o new K := ⟨c, e, f, z, hg, hz, hl, h1, hk⟩
/-- Two values compared, or reckoned with. -/
structure BinP (E : Env) (h : H) (o : Oper) (op : BinOp) (t : TypeId) (v u : Value) (K : Value → H → Prop) : Prop where
  ok : ∀ tm x y yt, o.op = .binOp op t x y yt → evA tm x = some v → evA tm y = some u → OpP E o tm h K
structure AppP (E : Env) (h : H) (sT : TypeId) (s x : Value) (K : Value → H → Prop) : Prop where
  ok : ∃ w h1, append E.P h sT false s x = some (w, h1) ∧ K w h1
structure SliP (E : Env) (t : TypeId) (x : Value) (lo hi mx : Option Value) (K : Value → Prop) : Prop where
  ok : ∃ v, slice E.P t x lo hi mx = some v ∧ K v
structure ClrP (h : H) (b o n : Nat) (z : List Value) (K : H → Prop) : Prop where
  ok : (n = 0 ∧ K h) ∨ (n ≠ 0 ∧ ∃ h1, h.write b o (rep z n) = some h1 ∧ K h1)
structure FindP (h : H) (r : Nat) (s : ByteArray) (K : Option (Nat × Value) → List MapEntry → Nat → Prop) : Prop where
  ok : ∃ es cl q, h.m.get r = some (.map es cl) ∧ findL (.string s) es 0 = some q ∧ K q es cl
def ldZ (tb : Tb) (h : H) (t : TypeId) (a : Addr) (K : Value → Prop) : Prop := match tb t with
  | some ⟨n, _, g, _, _⟩ => match g with
    | false => ∃ v, RdP h a.block a.off 1 [v] ∧ K v
    | true => ∃ c, RdP h a.block a.off n c ∧ K (.agg c.toArray)
  | none => False
def stZ (tb : Tb) (h : H) (t : TypeId) (a : Addr) (v : Value) (K : H → Prop) : Prop := match tb t with
  | some ⟨n, _, _, _, _⟩ => match Nat.beq (lenY v.cells.toList) n with
    | true => StoP h a.block a.off v.cells.toList K
    | false => False
  | none => False
def evsQ (l : L) : List (Nat × Operand) → Option (List (Nat × Value))
  | [] => some []
  | (i, x) :: r => match evL l x with
    | some v => match evsQ l r with
      | some q => some ((i, v) :: q)
      | none => none
    | none => none
theorem evsQ_ok {l : L} {tm : TM} (hv : View l tm) : ∀ {xs : List (Nat × Operand)} {vs}, evsQ l xs = some vs → evParts tm xs = some vs
  | [], vs, h => h
  | (i, x) :: r, vs, h => by
    simp only [evsQ] at h
    split at h
    · rename_i v hx
      split at h
      · rename_i us hr
        simp only [evParts, evL_ok hv hx, evsQ_ok hv hr]
        exact h
      · cases h
    · cases h
def optY (l : L) : Option Operand → Option (Option Value)
  | none => some none
  | some x => match evL l x with
    | some v => some (some v)
    | none => none
theorem optY_ok {l : L} {tm : TM} (hv : View l tm) {x : Option Operand} {v : Option Value} (h : optY l x = some v) : x.map (evA' tm) = v := by
  cases x with
  | none => cases h; rfl
  | some x =>
    simp only [optY] at h
    split at h
    · rename_i u hu
      cases h
      rw [Option.map_some, evL_ok' hv hu]
    · cases h
def lkZ (tb : Tb) (e : TypeId) (ok : Bool) (q : Option (Nat × Value)) (K : Value → Prop) : Prop := match q with
  | some (_, v) => match ok with
    | true => K (.tuple #[v, .bool true])
    | false => K v
  | none => match tb e with
    | some ⟨_, _, _, z, _⟩ => match ok with
      | true => K (.tuple #[z, .bool false])
      | false => K z
    | none => False
def callZ (tb : Tb) (E : Env) (l : L) (h : H) (o : Oper) (c : Call) (K : Value → H → Prop) : Prop :=
  match c.callee with
  | .value f => match evL l f, evsL l c.args.toList with
    | some (.func (.func f) first captured), some args => CallP E f (first.toList ++ args ++ captured.toList) h K
    | _, _ => False
  | .builtin b => match b, evsL l c.args.toList with
    | .len, some [.slice _ n _] => match c.argTypes.toList with
      | [t] => match slT tb t with
        | some _ => K (.int .i64 (.ofNat n)) h
        | none => False
      | _ => False
    | .len, some [.string s] => match c.argTypes.toList with
      | [t] => match strT tb t with
        | true => ∀ n, n = (sL s).length → K (.int .i64 (.ofNat n)) h
        | false => False
      | _ => False
    | .append, some [s, x] => match c.argTypes.toList with
      | [sT, xT] => match slT tb xT with
        | some _ => AppP E h sT s x K
        | none => False
      | _ => False
    | .clear, some [.slice (some ⟨b, o, none⟩) n _] => match c.argTypes.toList with
      | [t] => match slT tb t with
        | some e => match tb e with
          | some ⟨size, _, _, z, _⟩ => match Nat.beq (lenY z.cells.toList) size && Nat.blt 0 size with
            | true => ClrP h b o n z.cells.toList fun h1 => K (.tuple #[]) h1
            | false => False
          | none => False
        | none => False
      | _ => False
    | _, _ => RawP E l h o K
  | _ => RawP E l h o K
/-- **An operation: what must hold so that whatever follows holds.** -/
def syOpZ (tb : Tb) (E : Env) (l : L) (h : H) (o : Oper) (K : Value → H → Prop) : Prop :=
  match o.op with
  | .move x => onS (evL l x) fun v => K v h
  | .assign x => onS (evL l x) fun v => K v h
  | .pick c a b => match evL l c with
    | some (.bool true) => onS (evL l a) fun v => K v h
    | some (.bool false) => onS (evL l b) fun v => K v h
    | _ => False
  | .binOp op t x y _ => onS (evL l x) fun v => onS (evL l y) fun u => BinP E h o op t v u K
  | .unOp op _ x => match op, evL l x with
    | .not, some (.bool true) => K (.bool false) h
    | .not, some (.bool false) => K (.bool true) h
    | _, _ => RawP E l h o K
  | .fieldAddr s x i => match evL l x with
    | some (.pointer (some ⟨b, p, none⟩)) => match fldT tb s with
      | some fs => match nthY fs i with
        | some (o, _ + 1) => ∀ q, q = p + o → K (.pointer (some ⟨b, q, none⟩)) h
        | _ => False
      | none => False
    | _ => False
  | .indexAddr t x i => match evL l x, evL l i with
    | some (.slice (some ⟨b, p, none⟩) len _), some (.int _ (.ofNat k)) => match slT tb t with
      | some e => match tb e with
        | some ⟨s, _, _, _, _⟩ => LtP k len ∧ ∀ q, q = p + k * s → K (.pointer (some ⟨b, q, none⟩)) h
        | none => False
      | none => False
    | _, _ => RawP E l h o K
  | .load t x => match evL l x with
    | some (.pointer (some a)) => ldZ tb h t a fun v => K v h
    | _ => RawP E l h o K
  | .store t x y => match evL l x, evL l y with
    | some (.pointer (some a)), some v => stZ tb h t a v fun m => K undef m
    | _, _ => False
  | .alloc e => match tb e with
    | some ⟨_, _, _, z, _⟩ => ∀ m, PushP h (.cells z.cells.toList (some e) true 0) m → K (.pointer (some ⟨h.next, 0, none⟩)) m
    | none => False
  | .box e x => onS (evL l x) fun v => ∀ m, PushP h (.cells v.cells.toList (some e) true 0) m → K (.pointer (some ⟨h.next, 0, none⟩)) m
  | .build t ps => match evsQ l ps.toList with
    | some parts => match tb t with
      | some ⟨_, _, _, z, _⟩ => match fldT tb t with
        | some fs => match fillY (fun i => nthY fs i) z.cells.toList parts with
          | some c => K (.agg c.toArray) h
          | none => False
        | none => False
      | none => False
    | none => False
  | .buildSlice t len ps => match evsQ l ps.toList with
    | some parts => match slT tb t with
      | some e => match tb e with
        | some ⟨s, _, _, z, _⟩ => match Nat.ble (len * s) 16777216 && Nat.beq (lenY z.cells.toList) s && Nat.blt 0 s with
            | true => match fillY (fun i => some (i * s, s)) (rep z.cells.toList len) parts with
              | some c => ∀ m, PushP h (.cells c (some e) true 0) m → K (.slice (some ⟨h.next, 0, none⟩) len len) m
              | none => False
            | false => False
        | none => False
      | none => False
    | none => False
  | .makeSlice t n c => match evL l n, evL l c with
    | some (.int .i64 (.ofNat n)), some (.int .i64 (.ofNat c)) => match slT tb t with
      | some e => match tb e with
        | some ⟨s, b, _, z, _⟩ => match Nat.beq (lenY z.cells.toList) s && Nat.blt 0 s with
            | true => MkP n c b ∧ ∀ m, PushP h (.cells (rep z.cells.toList c) (some e) true 0) m → K (.slice (some ⟨h.next, 0, none⟩) n c) m
            | false => False
        | none => False
      | none => False
    | _, _ => False
  | .makeMap _ none => ∀ m, PushP h (.map [] 0) m → K (.map (some h.next)) m
  | .nilCheck x => match evL l x with
    | some (.pointer (some a)) => K (.pointer (some a)) h
    | some (.func (.func f) a c) => K (.func (.func f) a c) h
    | _ => False
  | .makeFunc fn a c => match evsL l a.toList, evsL l c.toList with
    | some a, some c => K (.func fn a.toArray c.toArray) h
    | _, _ => False
  | .extract x i => match evL l x with
    | some (.tuple vs) => onS (nthY vs.toList i) fun v => K v h
    | _ => False
  | .slice t x lo hi mx => match evL l x with
    | some (.slice a n c) => match optY l lo with
      | some lo => match optY l hi with
        | some hi => match optY l mx with
          | some mx => SliP E t (.slice a n c) lo hi mx fun v => K v h
          | none => False
        | none => False
      | none => False
    | _ => RawP E l h o K
  | .lookup t x k ok => match evL l x with
    | some (.map (some r)) => match evL l k with
      | some (.string s) => match mapT tb t with
        | some (kt, e) => match strT tb kt with
          | true => FindP h r s fun q _ _ => lkZ tb e ok q fun v => K v h
          | false => False
        | none => False
      | _ => False
    | _ => False
  | .mapUpdate t x k v => match evL l x with
    | some (.map (some r)) => match evL l k with
      | some (.string s) => match evL l v with
        | some v => match mapT tb t with
          | some (kt, _) => match strT tb kt with
            | true => FindP h r s fun q es cl => ∀ m, PutP h r (match q with
              | some (i, _) => .map (setVal es i v) cl
              | none => .map (es ++ [{ key := .string s, val := v, born := cl }]) (cl + 1)) m → K undef m
            | false => False
          | none => False
        | none => False
      | _ => False
    | _ => False
  | .call c => callZ tb E l h o c K
  | _ => RawP E l h o K
section
variable {tb : Tb} {E : Env} {l : L} {tm : TM} {h : H} {o : Oper} {K : Value → H → Prop} (T : TbOk tb E.P)
include T
theorem ldZ_ok {t : TypeId} {a : Addr} {Q : Value → Prop} (hl : ldZ tb h t a Q) : ∃ v, h.load E.P t a = some v ∧ Q v := by
  unfold ldZ at hl
  unfold H.load
  split at hl
  · rename_i n b g z k hk
    have h1 := T.agg hk
    have h2 := T.size hk
    split at hl
    · obtain ⟨v, h3, h4⟩ := hl
      exact ⟨v, by simp only [h1, h2, h3.eq], h4⟩
    · obtain ⟨v, h3, h4⟩ := hl
      exact ⟨_, by simp only [h1, h2, h3.eq], h4⟩
  · exact hl.elim
theorem stZ_ok {t : TypeId} {a : Addr} {v : Value} {Q : H → Prop} (hl : stZ tb h t a v Q) : ∃ h1, h.store E.P t a v = some h1 ∧ Q h1 := by
  unfold stZ at hl
  unfold H.store H.write
  split at hl
  · rename_i n b g z k hk
    have h1 := T.size hk
    split at hl
    · rename_i hb
      have hb := Nat.eq_of_beq_eq_true hb
      rw [lenY_eq] at hb
      obtain ⟨c, e, f, z, h2, h3, h4, h5, h6⟩ := hl.ok
      refine ⟨_, ?_, h6 _ ⟨rfl⟩⟩
      simp only [h1, h2]
      rw [if_pos hb, if_pos ⟨h3, h4⟩, if_pos h5]
    · exact hl.elim
  · exact hl.elim
theorem callZ_ok {dst ty pos after guard} {c : Call} (hv : View l tm) (h0 : callZ tb E l h ⟨dst, .call c, ty, pos, after, guard⟩ c K) : OpP E ⟨dst, .call c, ty, pos, after, guard⟩ tm h K := by
  obtain ⟨callee, xs, ts⟩ := c
  unfold callZ at h0
  split at h0
  · rename_i f hcal
    simp only at hcal
    subst hcal
    refine syCall_ok hv ?_
    unfold syCall
    simp only
    split at h0
    · rename_i f' first captured args hf ha
      simp only at ha
      simp only [hf, ha]
      exact .inl h0
    · exact h0.elim
  · rename_i b hcal
    simp only at hcal
    subst hcal
    split at h0
    · rename_i x n cap ha
      simp only at ha h0
      split at h0
      · rename_i t ht
        split at h0
        · rename_i e he
          refine OpP.val ?_ h0
          have q : ts[0]? = some t := by rw [← Array.getElem?_toList, ht]; rfl
          simp only [evOp, hCall, hCallB, evsL_ok hv ha, evBuiltin, q, Option.bind_some, slT_ok T he]
          rfl
        · exact h0.elim
      · exact h0.elim
    · rename_i s ha
      simp only at ha h0
      split at h0
      · rename_i t ht
        split at h0
        · rename_i he
          refine OpP.val ?_ (h0 _ rfl)
          have q : ts[0]? = some t := by rw [← Array.getElem?_toList, ht]; rfl
          simp only [evOp, hCall, hCallB, evsL_ok hv ha, evBuiltin, q, Option.bind_some, isString_ok (strT_ok T he)]
          rfl
        · exact h0.elim
      · exact h0.elim
    · rename_i s x ha
      simp only at ha h0
      split at h0
      · rename_i sT xT ht
        split at h0
        · rename_i e he
          obtain ⟨w, h1, q1, q2⟩ := h0.ok
          refine OpP.val ?_ q2
          have q : ts[0]? = some sT := by rw [← Array.getElem?_toList, ht]; rfl
          have q' : ts[1]? = some xT := by rw [← Array.getElem?_toList, ht]; rfl
          simp only [evOp, hCall, hCallB, evsL_ok hv ha, evBuiltin, q, q', slT_ok T he, q1, pairR]
        · exact h0.elim
      · exact h0.elim
    · rename_i b0 o0 n cap ha
      simp only at ha h0
      split at h0
      · rename_i t ht
        split at h0
        · rename_i e he
          split at h0
          · rename_i size b g z k hk
            split at h0
            · rename_i hb
              simp only [Bool.and_eq_true] at hb
              obtain ⟨hb1, hb2⟩ := hb
              have hb1 := Nat.eq_of_beq_eq_true hb1
              rw [lenY_eq] at hb1
              have hb2 : 0 < size := by rw [blt_spec] at hb2; exact of_decide_eq_true hb2
              have q : ts[0]? = some t := by rw [← Array.getElem?_toList, ht]; rfl
              have hz := T.zero hk
              have hs := T.size hk
              rcases h0.ok with ⟨hn, hk0⟩ | ⟨hn, h1, q1, q2⟩
              · subst hn
                refine OpP.val ?_ hk0
                simp only [evOp, hCall, hCallB, evsL_ok hv ha, evBuiltin, q, Option.bind_some, slT_ok T he, hz, hs]
                rw [if_pos ⟨hb1, hb2, rfl⟩]
                rfl
              · refine OpP.val ?_ q2
                simp only [evOp, hCall, hCallB, evsL_ok hv ha, evBuiltin, q, Option.bind_some, slT_ok T he, hz, hs]
                rw [if_pos ⟨hb1, hb2, rfl⟩, if_neg hn, q1]
            · exact h0.elim
          · exact h0.elim
        · exact h0.elim
      · exact h0.elim
    · exact h0.ok tm hv
  · exact h0.ok tm hv
omit T in
theorem keyFits_s {P : Program} {kt : TypeId} {s : ByteArray} (h : isString P kt = true) : keyFits P kt (.string s) = true := by simp only [keyFits, isString_ok h]
theorem syOpZ_ok (hv : View l tm) (h0 : syOpZ tb E l h o K) : OpP E o tm h K := by
  obtain ⟨dst, op, ty, pos, after, guard⟩ := o
  cases op with
  | move x => exact syOp_ok hv h0
  | assign x => exact syOp_ok hv h0
  | pick c a b => exact syOp_ok hv h0
  | unOp op t x => exact syOp_ok hv h0
  | nilCheck x => exact syOp_ok hv h0
  | makeFunc fn a c => exact syOp_ok hv h0
  | extract x i =>
    refine syOp_ok hv ?_
    simp only [syOpZ] at h0
    simp only [syOp]
    split at h0
    · rename_i vs hx
      rw [hx]
      rw [nthY_eq] at h0
      exact h0
    · exact h0.elim
  | binOp op t x y yt =>
    obtain ⟨v, h1, h0⟩ := onS_ok (show onS (evL l x) _ from h0)
    obtain ⟨u, h2, h0⟩ := onS_ok h0
    exact h0.ok tm x y yt rfl (evL_ok hv h1) (evL_ok hv h2)
  | fieldAddr s x i =>
    simp only [syOpZ] at h0
    split at h0
    · rename_i b p hx
      split at h0
      · rename_i fs hfs
        split at h0
        · rename_i off n hn
          obtain ⟨fs', hu, hg, _⟩ := fldT_ok T hfs
          have := hg i
          rw [hn] at this
          obtain ⟨f, q1, q2⟩ := Option.bind_eq_some_iff.1 this.symm
          obtain ⟨s', q3, q4⟩ := Option.map_eq_some_iff.1 q2
          injection q4 with q4 q5
          subst q4 q5
          refine OpP.val ?_ (h0 _ rfl)
          simp only [evOp, hFieldAddr, hu, evL_ok hv hx, q1, q3]
          rw [addr_addZ]
        · exact h0.elim
      · exact h0.elim
    · exact h0.elim
  | indexAddr t x i =>
    simp only [syOpZ] at h0
    split at h0
    · rename_i b p len cap k n hx hi
      split at h0
      · rename_i e he
        split at h0
        · rename_i s _ _ _ _ hk
          obtain ⟨h1, h2⟩ := h0
          refine OpP.val ?_ (h2 _ rfl)
          simp only [evOp, hIndexAddr, evL_ok hv hx, evL_ok hv hi, slT_ok T he, T.size hk, if_pos h1.lt]
          rw [addr_addZ]
        · exact h0.elim
      · exact h0.elim
    · exact h0.ok tm hv
  | load t x =>
    simp only [syOpZ] at h0
    split at h0
    · rename_i a hx
      obtain ⟨v, h1, h2⟩ := ldZ_ok T h0
      exact OpP.val (by simp only [evOp, hLoad, evL_ok hv hx, h1]; rfl) h2
    · exact h0.ok tm hv
  | store t x y =>
    simp only [syOpZ] at h0
    split at h0
    · rename_i a v hx hy
      obtain ⟨h1, h2, h3⟩ := stZ_ok T h0
      exact OpP.skip (by simp only [evOp, hStore, evL_ok hv hx, evL_ok hv hy, h2]; rfl) h3
    · exact h0.elim
  | alloc e =>
    simp only [syOpZ] at h0
    split at h0
    · rename_i _ _ _ z _ hk
      exact OpP.val (by simp only [evOp, hAlloc, T.zero hk]) (h0 _ ⟨rfl⟩)
    · exact h0.elim
  | box e x =>
    obtain ⟨v, h1, h2⟩ := onS_ok (show onS (evL l x) _ from h0)
    exact OpP.val (by simp only [evOp, hBox, evL_ok hv h1]) (h2 _ ⟨rfl⟩)
  | build t ps =>
    simp only [syOpZ] at h0
    split at h0
    · rename_i parts hp
      split at h0
      · rename_i _ _ _ z _ hk
        split at h0
        · rename_i fs hfs
          split at h0
          · rename_i c h3
            obtain ⟨fs', hu, hg, ha⟩ := fldT_ok T hfs
            rw [show (fun i => nthY fs i) = _ from funext hg] at h3
            refine OpP.val ?_ h0
            simp only [evOp, hBuild, evsQ_ok hv hp, T.zero hk, hu, fillY_ok h3, ha, if_true]
          · exact h0.elim
        · exact h0.elim
      · exact h0.elim
    · exact h0.elim
  | buildSlice t len ps =>
    simp only [syOpZ] at h0
    split at h0
    · rename_i parts hp
      split at h0
      · rename_i e he
        split at h0
        · rename_i s _ _ z _ hk
          split at h0
          · rename_i hb
            simp only [Bool.and_eq_true] at hb
            obtain ⟨⟨hb0, hb1⟩, hb2⟩ := hb
            have hb1 := Nat.eq_of_beq_eq_true hb1
            rw [lenY_eq] at hb1
            have hb2 : 0 < s := by rw [blt_spec] at hb2; exact of_decide_eq_true hb2
            split at h0
            · rename_i c h3
              refine OpP.val ?_ (h0 _ ⟨rfl⟩)
              simp only [evOp, hBuildSlice, evsQ_ok hv hp, slT_ok T he, T.zero hk, T.size hk, fillY_ok h3]
              rw [if_pos ⟨Nat.le_of_ble_eq_true hb0, hb1, hb2⟩]
            · exact h0.elim
          · exact h0.elim
        · exact h0.elim
      · exact h0.elim
    · exact h0.elim
  | makeSlice t n c =>
    simp only [syOpZ] at h0
    split at h0
    · rename_i n' c' hn hc
      split at h0
      · rename_i e he
        split at h0
        · rename_i s b _ z _ hk
          split at h0
          · rename_i hq
            simp only [Bool.and_eq_true] at hq
            obtain ⟨hb1, hb2⟩ := hq
            have hb1 := Nat.eq_of_beq_eq_true hb1
            rw [lenY_eq] at hb1
            have hb2 : 0 < s := by rw [blt_spec] at hb2; exact of_decide_eq_true hb2
            obtain ⟨⟨h1, h2, h3⟩, h4⟩ := h0
            obtain ⟨i, hi, hi1, hi2⟩ := T.info hk
            refine OpP.val ?_ (h4 _ ⟨rfl⟩)
            simp only [evOp, hMakeSlice, slT_ok T he, evL_ok hv hn, evL_ok hv hc, T.zero hk, hi]
            rw [if_pos ⟨h1, by rw [hi2]; exact h2, h3, by rw [hi1]; exact hb1, by rw [hi1]; exact hb2⟩]
          · exact h0.elim
        · exact h0.elim
      · exact h0.elim
    · exact h0.elim
  | makeMap t r =>
    cases r with
    | none => exact OpP.val (by simp only [evOp, hMakeMap]) (h0 _ ⟨rfl⟩)
    | some r => exact RawP.ok h0 tm hv
  | slice t x lo hi mx =>
    simp only [syOpZ] at h0
    split at h0
    · rename_i a n c hx
      split at h0
      · rename_i lo' hlo
        split at h0
        · rename_i hi' hhi
          split at h0
          · rename_i mx' hmx
            obtain ⟨v, h1, h2⟩ := h0.ok
            refine OpP.val ?_ h2
            simp only [evOp, hSlice, evL_ok hv hx, optY_ok hv hlo, optY_ok hv hhi, optY_ok hv hmx, h1, valR]
          · exact h0.elim
        · exact h0.elim
      · exact h0.elim
    · exact h0.ok tm hv
  | lookup t x k ok =>
    simp only [syOpZ] at h0
    split at h0
    · rename_i r hx
      split at h0
      · rename_i s hk
        split at h0
        · rename_i kt e hm
          split at h0
          · rename_i hs
            obtain ⟨es, cl, q, h1, h2, h3⟩ := h0.ok
            unfold lkZ at h3
            have hs := strT_ok T hs
            have hm := mapT_ok T hm
            have hq : findK E.P kt (.string s) es = some q := h2
            split at h3
            · split at h3
              · exact OpP.val (by simp only [evOp, hLookup, hm, evL_ok hv hx, evL_ok hv hk, keyFits_s hs, if_true, h1, hq]) h3
              · exact OpP.val (by simp only [evOp, hLookup, hm, evL_ok hv hx, evL_ok hv hk, keyFits_s hs, if_true, h1, hq]; rfl) h3
            · split at h3
              · rename_i _ _ _ z _ hz
                have hz := T.zero hz
                split at h3
                · exact OpP.val (by simp only [evOp, hLookup, hm, evL_ok hv hx, evL_ok hv hk, keyFits_s hs, if_true, h1, hq, hz]) h3
                · exact OpP.val (by simp only [evOp, hLookup, hm, evL_ok hv hx, evL_ok hv hk, keyFits_s hs, if_true, h1, hq, hz]; rfl) h3
              · exact h3.elim
          · exact h0.elim
        · exact h0.elim
      · exact h0.elim
    · exact h0.elim
  | mapUpdate t x k v =>
    simp only [syOpZ] at h0
    split at h0
    · rename_i r hx
      split at h0
      · rename_i s hk
        split at h0
        · rename_i v' hvv
          split at h0
          · rename_i kt e hm
            split at h0
            · rename_i hs
              obtain ⟨es, cl, q, h1, h2, h3⟩ := h0.ok
              have hs := strT_ok T hs
              have hm := mapT_ok T hm
              have hq : findK E.P kt (.string s) es = some q := h2
              cases q with
              | none => exact OpP.skip (by simp only [evOp, hMapUpd, hm, evL_ok hv hx, evL_ok hv hk, evL_ok hv hvv, keyFits_s hs, if_true, h1, hq]) (h3 _ ⟨rfl⟩)
              | some q => exact OpP.skip (by obtain ⟨i, u⟩ := q; simp only [evOp, hMapUpd, hm, evL_ok hv hx, evL_ok hv hk, evL_ok hv hvv, keyFits_s hs, if_true, h1, hq]) (h3 _ ⟨rfl⟩)
            · exact h0.elim
          · exact h0.elim
        · exact h0.elim
      · exact h0.elim
    · exact h0.elim
  | call c => exact callZ_ok T hv h0
  | _ => exact RawP.ok h0 tm hv
end
def syOpsZ (tb : Tb) (E : Env) (nt : Nat) (ops : List Oper) : List Oper → L → H → (L → H → Prop) → Prop
  | [], l, h, K => K l h
  | o :: r, l, h, K => match dstOk nt o.dst with
    | true => match wantL ops l o with
      | some true => syOpZ tb E l h o fun v h => syOpsZ tb E nt ops r (putL o.dst v l) h K
      | some false => syOpsZ tb E nt ops r (putL o.dst undef l) h K
      | none => False
    | false => False
theorem syOpsZ_ok {tb : Tb} {E : Env} (T : TbOk tb E.P) {nt : Nat} {ops : Array Oper} {K : L → H → Prop} : ∀ {r : List Oper} {l : L} {tm : TM} {h : H}, View l tm → syOpsZ tb E nt ops.toList r l h K →
    ∃ n tm' h', evOps E (ev E n) ops r ⟨tm, nt, h⟩ = some ⟨tm', nt, h'⟩ ∧ Up K tm' h'
  | [], l, tm, h, hv, hs => ⟨0, tm, h, rfl, l, hv, hs⟩
  | o :: r, l, tm, h, hv, hs => by
    simp only [syOpsZ] at hs
    split at hs
    · rename_i hd
      split at hs
      · rename_i hw
        obtain ⟨n, v, h1, e1, k1⟩ := (syOpZ_ok T hv hs).ex
        obtain ⟨tm1, e2, hv1⟩ := put_ok (v := v) hv hd
        obtain ⟨m, tm2, h2, e3, k2⟩ := syOpsZ_ok T hv1 k1
        refine ⟨max n m, tm2, h2, ?_, k2⟩
        simp only [evOps, want_ok hv hw, if_true, evFull_mono (ev_mono E n _ (Nat.le_max_left n m)) e1, e2]
        exact evOps_mono (ev_mono E m _ (Nat.le_max_right n m)) e3
      · rename_i hw
        obtain ⟨tm1, e2, hv1⟩ := put_ok (v := undef) hv hd
        obtain ⟨m, tm2, h2, e3, k2⟩ := syOpsZ_ok T hv1 hs
        refine ⟨m, tm2, h2, ?_, k2⟩
        simp only [evOps, want_ok hv hw, Bool.false_eq_true, if_false, e2]
        exact e3
      · exact hs.elim
    · exact hs.elim
/-- Loops, and regions that draw, under a table. -/
def syZ (tb : Tb) (E : Env) (nt : Nat) : Code → L → H → (L → H → Prop) → (L → H → Prop) → (Nat → L → H → Prop) → Prop
  | .skip, l, h, kn, _, _ => kn l h
  | .region _ ops false, l, h, kn, _, _ => syOpsZ tb E nt ops.toList ops.toList l h kn
  | .region id ops true, l, h, kn, _, _ => DrawP E nt id ops l h kn
  | .seq a b, l, h, kn, kr, ke => syZ tb E nt a l h (fun l h => syZ tb E nt b l h kn kr ke) kr ke
  | .cond c a b, l, h, kn, kr, ke => match evL l c with
    | some (.bool true) => syZ tb E nt a l h kn kr ke
    | some (.bool false) => syZ tb E nt b l h kn kr ke
    | _ => False
  | .block i a, l, h, kn, kr, ke => syZ tb E nt a l h kn kr fun j l h => match Nat.beq j i with
    | true => kn l h
    | false => ke j l h
  | .loop a, l, h, kn, kr, ke => LoopP E nt a l h kn kr ke
  | .exit i, l, h, _, _, ke => ke i l h
  | .ret, l, h, _, kr, _ => kr l h
  | c, l, h, kn, kr, ke => CodeP E nt c l h kn kr ke
theorem syZ_ok {tb : Tb} {E : Env} (T : TbOk tb E.P) (nt : Nat) : ∀ (c : Code) (l : L) (tm : TM) (h : H) (kn kr : L → H → Prop) (ke : Nat → L → H → Prop), View l tm → syZ tb E nt c l h kn kr ke → Ends E nt c tm h (Up kn) (Up kr) fun i => Up (ke i)
  | .skip, l, tm, h, kn, kr, ke, hv, hs => Ends.skip ⟨l, hv, hs⟩
  | .region id ops false, l, tm, h, kn, kr, ke, hv, hs => by
    obtain ⟨n, tm', h', e, k⟩ := syOpsZ_ok T hv (show syOpsZ tb E nt ops.toList ops.toList l h kn from hs)
    exact ⟨n + 1, .normal, tm', h', by simp only [ev, step, e, norm], k⟩
  | .region id ops true, l, tm, h, kn, kr, ke, hv, hs => DrawP.ok hs tm hv _ _
  | .seq a b, l, tm, h, kn, kr, ke, hv, hs => by
    refine Ends.seq ((syZ_ok T nt a l tm h _ kr ke hv (show syZ tb E nt a l h (fun l h => syZ tb E nt b l h kn kr ke) kr ke from hs)).mono ?_ (fun _ _ q => q) (fun _ _ _ q => q))
    rintro tm' h' ⟨l', hv', q⟩
    exact syZ_ok T nt b l' tm' h' kn kr ke hv' q
  | .cond c a b, l, tm, h, kn, kr, ke, hv, hs => by
    simp only [syZ] at hs
    split at hs
    · rename_i hc; exact Ends.cond (evL_ok hv hc) (syZ_ok T nt a l tm h kn kr ke hv hs)
    · rename_i hc; exact Ends.cond (evL_ok hv hc) (syZ_ok T nt b l tm h kn kr ke hv hs)
    · exact hs.elim
  | .block i a, l, tm, h, kn, kr, ke, hv, hs => by
    refine Ends.block ((syZ_ok T nt a l tm h kn kr _ hv (show syZ tb E nt a l h kn kr (fun j l h => match Nat.beq j i with | true => kn l h | false => ke j l h) from hs)).mono (fun _ _ q => q) (fun _ _ q => q) ?_)
    rintro j tm' h' ⟨l', hv', q⟩
    cases hj : Nat.beq j i with
    | true => rw [hj] at q; exact ⟨l', hv', q⟩
    | false => rw [hj] at q; exact ⟨l', hv', q⟩
  | .loop a, l, tm, h, kn, kr, ke, hv, hs => LoopP.ok hs tm hv
  | .exit i, l, tm, h, kn, kr, ke, hv, hs => Ends.exit ⟨l, hv, hs⟩
  | .ret, l, tm, h, kn, kr, ke, hv, hs => Ends.ret ⟨l, hv, hs⟩
  | .rangeFunc _ _ _ _, l, tm, h, kn, kr, ke, hv, hs => CodeP.ok hs tm hv
  | .scope _, l, tm, h, kn, kr, ke, hv, hs => CodeP.ok hs tm hv
  | .label _, l, tm, h, kn, kr, ke, hv, hs => CodeP.ok hs tm hv
  | .goto _, l, tm, h, kn, kr, ke, hv, hs => CodeP.ok hs tm hv
  | .refuse _, l, tm, h, kn, kr, ke, hv, hs => CodeP.ok hs tm hv
theorem LoopP.onZ {tb : Tb} {E : Env} (T : TbOk tb E.P) {nt : Nat} {a : Code} {l : L} {h : H} {kn kr : L → H → Prop} {ke : Nat → L → H → Prop} {α : Type} (st : α → L) (mem : α → H) (I : α → Prop) (m : α → Nat) (x0 : α) (h0 : mem x0 = h) (l0 : Less (st x0) l) (i0 : I x0)
    (step : ∀ x, I x → syZ tb E nt a (st x) (mem x) (fun l' h' => ∃ y, Less (st y) l' ∧ mem y = h' ∧ I y ∧ m y < m x) kr ke) : LoopP E nt a l h kn kr ke := by
  subst h0
  have main : ∀ n x, m x = n → I x → ∀ tm, View (st x) tm → Ends E nt (.loop a) tm (mem x) (Up kn) (Up kr) fun i => Up (ke i) := by
    intro n
    induction n using Nat.strongRecOn with
    | _ n ih =>
      intro x hx hi tm hv
      refine Ends.loop1 ((syZ_ok T nt a (st x) tm (mem x) _ kr ke hv (step x hi)).mono ?_ (fun _ _ q => q) (fun _ _ _ q => q))
      rintro tm' h' ⟨l', hv', y, hl, rfl, hy, hm⟩
      exact ih (m y) (by omega) y rfl hy tm' (hl.up hv')
  exact ⟨fun tm hv => main _ x0 rfl i0 tm (l0.up hv)⟩
/-- What is handed back, cells read. -/
def resZ (tb : Tb) (l : L) (h : H) : List ResultVar → (List Value → Prop) → Prop
  | [], K => K []
  | .tmp t :: r, K => match look l t with
    | some v => resZ tb l h r fun vs => K (v :: vs)
    | none => False
  | .cell a t :: r, K => match look l a with
    | some (.pointer (some a)) => ldZ tb h t a fun v => resZ tb l h r fun vs => K (v :: vs)
    | _ => False
theorem resZ_ok {tb : Tb} {E : Env} (T : TbOk tb E.P) {l : L} {h : H} : ∀ {r : List ResultVar} {Q : List Value → Prop}, resZ tb l h r Q → ∃ vs, resL E.P l h r = some vs ∧ Q vs
  | [], Q, hq => ⟨[], rfl, hq⟩
  | .tmp t :: r, Q, hq => by
    simp only [resZ] at hq
    split at hq
    · rename_i v hv
      obtain ⟨vs, h1, h2⟩ := resZ_ok T hq
      exact ⟨v :: vs, by simp only [resL, hv, h1], h2⟩
    · exact hq.elim
  | .cell a t :: r, Q, hq => by
    simp only [resZ] at hq
    split at hq
    · rename_i ad ha
      obtain ⟨v, q1, q2⟩ := ldZ_ok T hq
      obtain ⟨vs, h1, h2⟩ := resZ_ok T q2
      exact ⟨v :: vs, by simp only [resL, ha, q1, h1], h2⟩
    · exact hq.elim
def retZ (tb : Tb) (r : List ResultVar) (K : Value → H → Prop) (l : L) (h : H) : Prop := resZ tb l h r fun vs => match vs with
  | [] => K (.tuple #[]) h
  | [v] => K v h
  | v :: u :: w => K (.tuple (v :: u :: w).toArray) h
theorem retZ_ok {tb : Tb} {E : Env} (T : TbOk tb E.P) {r : List ResultVar} {K : Value → H → Prop} {l : L} {h : H} (q : retZ tb r K l h) : retL E.P r K l h := by
  obtain ⟨vs, h1, h2⟩ := resZ_ok T q
  refine ⟨vs, h1, ?_⟩
  match vs, h2 with
  | [], h2 => exact h2
  | [v], h2 => exact h2
  | v :: u :: w, h2 => exact h2
theorem CallP.ofZ {tb : Tb} {E : Env} (T : TbOk tb E.P) {f : FuncId} {fn : Func} {c : Code} {args : List Value} {h : H} {K : Value → H → Prop} (hf : E.P.funcs[f]? = some fn) (hb : fn.body = some c) (hm : memoOf E.memo f args = none) (hq : mprimOf E.mem f = none) (hl : Nat.ble args.length fn.ntmps = true)
    (hk : syZ tb E fn.ntmps c (argsL 0 args) h (retZ tb fn.results.toList K) (retZ tb fn.results.toList K) (fun _ _ _ => False)) : CallP E f args h K := by
  have up : ∀ tm h, Up (retZ tb fn.results.toList K) tm h → ∃ vs, evResults E.P tm h fn.results.toList = some vs ∧ K (tup vs) h := by
    rintro tm h ⟨l, hv, q⟩
    obtain ⟨vs, e, k⟩ := retZ_ok T q
    exact ⟨vs, resL_ok hv e, k⟩
  exact CallP.enter hm hq hf hb (Nat.le_of_ble_eq_true hl) ((syZ_ok T fn.ntmps c _ _ h _ _ _ (view_args args) hk).mono up up (by rintro i tm h ⟨_, _, q⟩; exact q))

/-! ### a region that draws: what is written is written behind all else -/
/-- The same memory, but for its mark. -/
structure LikeP (h M : H) : Prop where
  m : M.m = h.m
  next : M.next = h.next
  low : ∀ k, k ≤ h.next → k ≤ h.low → k ≤ M.low
/-- The memory behind an operation that was carried out over a memory with another mark. -/
structure MixP (h h1 M : H) : Prop where
  m : M.m = h1.m
  next : M.next = h1.next
  low : ∀ k, k ≤ h.next → k ≤ h.low → k ≤ h1.low → k ≤ M.low
theorem LikeP.grows {g h M : H} (hl : LikeP h M) (hg : Grows g h) : Grows g M := ⟨by rw [hl.next]; exact hg.next, fun b hb => by rw [hl.m]; exact hg.keep b hb, fun k h1 h2 => hl.low k (Nat.le_trans h1 hg.next) (hg.low k h1 h2)⟩
structure UpP (h M : H) : Prop where
  eq : M = ⟨h.m, h.next, top h.next⟩
theorem UpP.like {h M : H} (hu : UpP h M) : LikeP h M := by
  rw [hu.eq]
  exact ⟨rfl, rfl, fun k h1 _ => Nat.le_trans h1 (top_ge _).2⟩
theorem MixP.grows {g h h0 h1 M : H} (hu : UpP h h0) (hg : Grows g h) (h2 : Grows h0 h1) (hl : MixP h h1 M) : Grows g M := by
  have hn : h0.next = h.next := by rw [hu.eq]
  have hm : h0.m = h.m := by rw [hu.eq]
  have hlo : h0.low = top h.next := by rw [hu.eq]
  have q1 := hg.next
  have q2 := h2.next
  refine ⟨by rw [hl.next]; omega, fun b hb => ?_, fun k h3 h4 => ?_⟩
  · rw [hl.m, h2.keep b (by omega), hm]
    exact hg.keep b hb
  · have hk : k ≤ h.next := by omega
    exact hl.low k hk (hg.low k h3 h4) (h2.low k (by omega) (by rw [hlo]; exact Nat.le_trans hk (top_ge _).2))
/-- Operations that read alone. -/
def readOp (l : L) (o : Oper) : Bool := match o.op with
  | .load _ x => match evL l x with
    | some (.pointer (some _)) => true
    | _ => false
  | .lookup _ _ _ _ => true
  | .call c => match c.callee with
    | .builtin b => match b, evsL l c.args.toList with
      | .len, some [.slice _ _ _] => true
      | .len, some [.string _] => true
      | _, _ => false
    | _ => false
  | _ => false
def quietOp (o : Oper) : Bool := match o.op with
  | .store _ _ _ => false
  | _ => true
/-- An operation of a region that draws: it writes nothing that stood; or it stands behind all the others, and so does whatever looks at memory behind it. -/
structure DoneP (h h0 h1 : H) (loud full : Bool) (K : Bool → H → Prop) : Prop where
  ok : ∃ ld, ((ld = false ∧ loud = false ∧ Grows h0 h1) ∨ (ld = true ∧ full = true)) ∧ ∀ M, MixP h h1 M → K ld M
theorem DoneP.quiet {h h0 h1 : H} {full : Bool} {K : Bool → H → Prop} (hg : Grows h0 h1) (hk : ∀ M, MixP h h1 M → K false M) : DoneP h h0 h1 false full K := ⟨false, .inl ⟨rfl, rfl, hg⟩, hk⟩
theorem DoneP.loud {h h0 h1 : H} {ld : Bool} {K : Bool → H → Prop} (hk : ∀ M, MixP h h1 M → K true M) : DoneP h h0 h1 ld true K := ⟨true, .inr ⟨rfl, rfl⟩, hk⟩
/-- 'full': for each operation whether it stands behind all the others (it may say no though it does). 'ld': was something written? -/
def syDZ (tb : Tb) (E : Env) (nt : Nat) (ops : List Oper) : List Oper → List Bool → Bool → L → H → (L → H → Prop) → Prop
  | [], _, _, l, h, K => ∀ M, LikeP h M → K l M
  | o :: r, fu, ld, l, h, K => match dstOk nt o.dst with
    | true => match wantL ops l o with
      | some true => match pureOp o.op with
        | true => syOpZ tb E l h o fun v _ => syDZ tb E nt ops r fu.tail ld (putL o.dst v l) h K
        | false => match readOp l o && !ld with
          | true => syOpZ tb E l h o fun v _ => syDZ tb E nt ops r fu.tail ld (putL o.dst v l) h K
          | false => match quietOp o || fu.headD false with
            | true => ∀ h0, UpP h h0 → syOpZ tb E l h0 o fun v h1 => DoneP h h0 h1 (ld || !quietOp o) (fu.headD false) fun ld M => syDZ tb E nt ops r fu.tail ld (putL o.dst v l) M K
            | false => False
      | some false => syDZ tb E nt ops r fu.tail ld (putL o.dst undef l) h K
      | none => False
    | false => False
theorem read_any {tb : Tb} {E : Env} (T : TbOk tb E.P) {l : L} {tm : TM} {h : H} {o : Oper} {Q : Value → Prop} (hv : View l tm) (hr : readOp l o = true) (hs : syOpZ tb E l h o fun v _ => Q v) (n : Nat) :
    ∃ v, (∀ self, evFull E self tm ⟨h.m, h.next, n⟩ o = some (v, ⟨h.m, h.next, n⟩)) ∧ Q v := by
  obtain ⟨dst, op, ty, pos, after, guard⟩ := o
  cases op with
  | load t x =>
    simp only [readOp] at hr
    split at hr
    · rename_i a hx
      simp only [syOpZ, hx] at hs
      have hs : ldZ tb ⟨h.m, h.next, n⟩ t a Q := by
        unfold ldZ at hs ⊢
        split at hs
        · split at hs
          · obtain ⟨v, q, k⟩ := hs; exact ⟨v, ⟨q.eq⟩, k⟩
          · obtain ⟨v, q, k⟩ := hs; exact ⟨v, ⟨q.eq⟩, k⟩
        · exact hs
      obtain ⟨v, h1, h2⟩ := ldZ_ok T hs
      exact ⟨v, fun self => by simp only [evFull, evOp, hLoad, evL_ok hv hx, h1, valR], h2⟩
    · cases hr
  | lookup t x k ok =>
    simp only [syOpZ] at hs
    split at hs
    · rename_i r hx
      split at hs
      · rename_i s hk
        split at hs
        · rename_i kt e hm
          split at hs
          · rename_i hss
            obtain ⟨es, cl, q, h1, h2, h3⟩ := hs.ok
            unfold lkZ at h3
            have hss := strT_ok T hss
            have hm := mapT_ok T hm
            have hq : findK E.P kt (.string s) es = some q := h2
            have h1 : (⟨h.m, h.next, n⟩ : H).m.get r = some (.map es cl) := h1
            split at h3
            · split at h3
              · exact ⟨_, fun self => by simp only [evFull, evOp, hLookup, hm, evL_ok hv hx, evL_ok hv hk, keyFits_s hss, if_true, h1, hq], h3⟩
              · exact ⟨_, fun self => by simp only [evFull, evOp, hLookup, hm, evL_ok hv hx, evL_ok hv hk, keyFits_s hss, if_true, h1, hq]; rfl, h3⟩
            · split at h3
              · rename_i _ _ _ z _ hz
                have hz := T.zero hz
                split at h3
                · exact ⟨_, fun self => by simp only [evFull, evOp, hLookup, hm, evL_ok hv hx, evL_ok hv hk, keyFits_s hss, if_true, h1, hq, hz], h3⟩
                · exact ⟨_, fun self => by simp only [evFull, evOp, hLookup, hm, evL_ok hv hx, evL_ok hv hk, keyFits_s hss, if_true, h1, hq, hz]; rfl, h3⟩
              · exact h3.elim
          · exact hs.elim
        · exact hs.elim
      · exact hs.elim
    · exact hs.elim
  | call c =>
    obtain ⟨callee, xs, ts⟩ := c
    simp only [readOp] at hr
    split at hr
    · rename_i b
      simp only [syOpZ, callZ] at hs
      split at hr
      · rename_i x m cap ha
        simp only [ha] at hs
        split at hs
        · rename_i t ht
          split at hs
          · rename_i e he
            have q : ts[0]? = some t := by rw [← Array.getElem?_toList, ht]; rfl
            exact ⟨_, fun self => by simp only [evFull, evOp, hCall, hCallB, evsL_ok hv ha, evBuiltin, q, Option.bind_some, slT_ok T he]; rfl, hs⟩
          · exact hs.elim
        · exact hs.elim
      · rename_i s ha
        simp only [ha] at hs
        split at hs
        · rename_i t ht
          split at hs
          · rename_i he
            have q : ts[0]? = some t := by rw [← Array.getElem?_toList, ht]; rfl
            exact ⟨_, fun self => by simp only [evFull, evOp, hCall, hCallB, evsL_ok hv ha, evBuiltin, q, Option.bind_some, isString_ok (strT_ok T he)]; rfl, hs _ rfl⟩
          · exact hs.elim
        · exact hs.elim
      · cases hr
    · cases hr
  | _ => cases hr
/-- A foot that nobody minds. -/
def softF : Foot → Bool
  | .rd _ | .own => true
  | _ => false
theorem soft_fits {bef : Nat} {f : Foot} (hf : softF f = true) : ∀ {seen : List (Nat × Foot)}, (∀ x ∈ seen, softF x.2 = true) → fits bef f seen = true
  | [], _ => rfl
  | (j, g) :: r, h => by
    have h1 := h _ (List.mem_cons_self ..)
    have h2 := soft_fits (bef := bef) hf (seen := r) (fun x hx => h x (List.mem_cons_of_mem _ hx))
    simp only [fits, h2, Bool.and_true]
    cases f <;> cases g <;> first | (cases hf; done) | (cases h1; done) | rfl
theorem soft_foot {tm : TM} {o : Oper} {m m' : U AObj} (hq : quietOp o = true) : softF (foot tm o false m m') = true := by
  obtain ⟨dst, op, ty, pos, after, guard⟩ := o
  unfold foot
  simp only
  split
  · rfl
  · split <;> rfl
  · split <;> rfl
  · cases hq
  · rfl
theorem full_fits {bef : Nat} {f : Foot} : ∀ {seen : List (Nat × Foot)}, (∀ x ∈ seen, Nat.testBit bef x.1 = true) → fits bef f seen = true
  | [], _ => rfl
  | (j, g) :: r, h => by
    have h1 := h _ (List.mem_cons_self ..)
    have h2 := full_fits (bef := bef) (f := f) (seen := r) (fun x hx => h x (List.mem_cons_of_mem _ hx))
    have h1 : Nat.testBit bef j = true := h1
    simp only [fits, h2, Bool.and_true, h1]
    split <;> rfl
/-- Do all the ones ahead stand ahead of it? -/
def fullB (bef : List Nat) : List Bool → Nat → Bool
  | [], _ => true
  | b :: r, i => (match b with
    | true => Nat.beq (bef.getD i 0) (2 ^ i - 1)
    | false => true) && fullB bef r (i + 1)
theorem fullB_hd {bef : List Nat} {fu : List Bool} {i : Nat} (h : fullB bef fu i = true) (hd : fu.headD false = true) : ∀ j, j < i → Nat.testBit (bef.getD i 0) j = true := by
  cases fu with
  | nil => cases hd
  | cons b r =>
    have hb : b = true := hd
    subst hb
    simp only [fullB, Bool.and_eq_true] at h
    rw [Nat.eq_of_beq_eq_true h.1]
    intro j hj
    rw [Nat.testBit_two_pow_sub_one]
    exact decide_eq_true hj
theorem fullB_tl {bef : List Nat} {fu : List Bool} {i : Nat} (h : fullB bef fu i = true) : fullB bef fu.tail (i + 1) = true := by
  cases fu with
  | nil => rfl
  | cons b r =>
    simp only [fullB, Bool.and_eq_true] at h
    exact h.2
theorem syDZ_ok {tb : Tb} {E : Env} (T : TbOk tb E.P) {nt : Nat} {ops : Array Oper} {bef : List Nat} {K : L → H → Prop} : ∀ {r : List Oper} {i : Nat} {fu : List Bool} {ld : Bool} {seen : List (Nat × Foot)} {l : L} {tm : TM} {h M : H}, View l tm → fullB bef fu i = true → (∀ x ∈ seen, x.1 < i) → (ld = false → ∀ x ∈ seen, softF x.2 = true) → LikeP h M → syDZ tb E nt ops.toList r fu ld l h K →
    ∃ n tm' h', evDraw E (ev E n) ops bef r i seen ⟨tm, nt, M⟩ = some ⟨tm', nt, h'⟩ ∧ ∃ l', View l' tm' ∧ K l' h'
  | [], i, fu, ld, seen, l, tm, h, M, hv, _, _, _, hl, hs => ⟨0, tm, M, rfl, l, hv, hs M hl⟩
  | o :: r, i, fu, ld, seen, l, tm, h, M, hv, hfu, hsi, hse, hl, hs => by
    obtain ⟨Mm, Mn, Ml⟩ := M
    obtain ⟨hm, hn, hl⟩ := hl
    simp only at hm hn hl
    subst hm hn
    have hsi' : ∀ f : Foot, ∀ x ∈ (i, f) :: seen, x.1 < i + 1 := fun f x hx => by
      rcases List.mem_cons.1 hx with rfl | hx
      · exact Nat.lt_succ_self _
      · have := hsi x hx; omega
    simp only [syDZ] at hs
    split at hs
    · rename_i hd
      split at hs
      · rename_i hw
        split at hs
        · rename_i hp
          obtain ⟨n, v, h1, e1, k1⟩ := (syOpZ_ok T hv hs).ex
          obtain ⟨rfl, hany⟩ := pure_full hp e1
          obtain ⟨tm1, e2, hv1⟩ := put_ok (v := v) hv hd
          have hl' : LikeP h1 ⟨h1.m, h1.next, if top h1.next < Ml then top h1.next else Ml⟩ := ⟨rfl, rfl, fun k q1 q2 => by
            have := (top_ge h1.next).2
            show k ≤ if top h1.next < Ml then top h1.next else Ml
            have := hl k q1 q2
            split <;> omega⟩
          obtain ⟨m, tm2, h2, e3, k2⟩ := syDZ_ok T (bef := bef) (i := i + 1) (seen := seen) hv1 (fullB_tl hfu) (fun x hx => by have := hsi x hx; omega) hse hl' k1
          refine ⟨max n m, tm2, h2, ?_, k2⟩
          have e1' := evFull_mono (ev_mono E n _ (Nat.le_max_left n m)) (hany ⟨h1.m, h1.next, top h1.next⟩)
          simp only [evDraw, want_ok hv hw, if_true, e1', e2, hp]
          exact evDraw_mono (ev_mono E m _ (Nat.le_max_right n m)) e3
        · rename_i hp
          split at hs
          · rename_i hr
            rw [Bool.and_eq_true, Bool.not_eq_true'] at hr
            obtain ⟨hr, rfl⟩ := hr
            have hse := hse rfl
            obtain ⟨v, e1, k1⟩ := read_any T hv hr hs (top h.next)
            obtain ⟨tm1, e2, hv1⟩ := put_ok (v := v) hv hd
            have hqo : quietOp o = true := by
              unfold readOp at hr
              unfold quietOp
              split
              · rename_i q; rw [q] at hr; cases hr
              · rfl
            have hl' : LikeP h ⟨h.m, h.next, if top h.next < Ml then top h.next else Ml⟩ := ⟨rfl, rfl, fun k q1 q2 => by
              have := (top_ge h.next).2
              show k ≤ if top h.next < Ml then top h.next else Ml
              have := hl k q1 q2
              split <;> omega⟩
            have hb : Nat.blt (top h.next) h.next = false := by
              rw [blt_spec]
              exact decide_eq_false (by have := (top_ge h.next).2; omega)
            obtain ⟨m, tm2, h2, e3, k2⟩ := syDZ_ok T (bef := bef) (i := i + 1) (seen := (i, foot tm o false h.m h.m) :: seen) hv1 (fullB_tl hfu) (hsi' _) (fun _ x hx => by
              rcases List.mem_cons.1 hx with rfl | hx
              · exact soft_foot hqo
              · exact hse x hx) hl' k1
            refine ⟨m, tm2, h2, ?_, k2⟩
            simp only [evDraw, want_ok hv hw, if_true, e1, e2, hp, Bool.false_eq_true, if_false, hb, soft_fits (soft_foot hqo) hse]
            exact e3
          · split at hs
            · rename_i hqf
              obtain ⟨n, v, h1, e1, hD⟩ := (syOpZ_ok T hv (hs _ ⟨rfl⟩)).ex
              obtain ⟨tm1, e2, hv1⟩ := put_ok (v := v) hv hd
              obtain ⟨ld', hcase, k1⟩ := hD.ok
              have hM : MixP h h1 ⟨h1.m, h1.next, if h1.low < Ml then h1.low else Ml⟩ := ⟨rfl, rfl, fun k q1 q2 q3 => by
                have := hl k q1 q2
                show k ≤ if h1.low < Ml then h1.low else Ml
                split <;> omega⟩
              have k1 := k1 _ hM
              have hfit : fits (bef.getD i 0) (foot tm o (Nat.blt h1.low h.next) h.m h1.m) seen = true := by
                rcases hcase with ⟨_, hld, hg⟩ | ⟨_, hfull⟩
                · simp only [Bool.or_eq_false_iff, Bool.not_eq_false'] at hld
                  have hlow : h.next ≤ h1.low := hg.low h.next (Nat.le_refl _) (top_ge _).2
                  have hb : Nat.blt h1.low h.next = false := by
                    rw [blt_spec]
                    exact decide_eq_false (by omega)
                  rw [hb]
                  exact soft_fits (soft_foot hld.2) (hse hld.1)
                · exact full_fits (fun x hx => fullB_hd hfu hfull x.1 (hsi x hx))
              have hsoft : ld' = false → ∀ x ∈ (i, foot tm o (Nat.blt h1.low h.next) h.m h1.m) :: seen, softF x.2 = true := by
                intro hl0 x hx
                rcases hcase with ⟨_, hld, hg⟩ | ⟨q, _⟩
                · simp only [Bool.or_eq_false_iff, Bool.not_eq_false'] at hld
                  rcases List.mem_cons.1 hx with rfl | hx
                  · have hlow : h.next ≤ h1.low := hg.low h.next (Nat.le_refl _) (top_ge _).2
                    have hb : Nat.blt h1.low h.next = false := by
                      rw [blt_spec]
                      exact decide_eq_false (by omega)
                    rw [hb]
                    exact soft_foot hld.2
                  · exact hse hld.1 x hx
                · rw [q] at hl0; cases hl0
              obtain ⟨m, tm2, h2, e3, k2⟩ := syDZ_ok T (bef := bef) (i := i + 1) (seen := (i, foot tm o (Nat.blt h1.low h.next) h.m h1.m) :: seen) (h := ⟨h1.m, h1.next, if h1.low < Ml then h1.low else Ml⟩) (M := ⟨h1.m, h1.next, if h1.low < Ml then h1.low else Ml⟩) hv1 (fullB_tl hfu) (hsi' _) hsoft ⟨rfl, rfl, fun k _ q => q⟩ k1
              refine ⟨max n m, tm2, h2, ?_, k2⟩
              have e1' := evFull_mono (ev_mono E n _ (Nat.le_max_left n m)) e1
              simp only [evDraw, want_ok hv hw, if_true, e1', e2, hp, Bool.false_eq_true, if_false, hfit]
              exact evDraw_mono (ev_mono E m _ (Nat.le_max_right n m)) e3
            · exact hs.elim
      · rename_i hw
        obtain ⟨tm1, e2, hv1⟩ := put_ok (v := undef) hv hd
        obtain ⟨m, tm2, h2, e3, k2⟩ := syDZ_ok T (bef := bef) (i := i + 1) (seen := seen) (h := h) (M := ⟨h.m, h.next, Ml⟩) hv1 (fullB_tl hfu) (fun x hx => by have := hsi x hx; omega) hse ⟨rfl, rfl, hl⟩ hs
        refine ⟨m, tm2, h2, ?_, k2⟩
        simp only [evDraw, want_ok hv hw, Bool.false_eq_true, if_false, e2]
        exact e3
      · exact hs.elim
    · exact hs.elim
theorem DrawP.ofZ {tb : Tb} {E : Env} (T : TbOk tb E.P) {nt : Nat} {id : Nat} {ops : Array Oper} {l : L} {h : H} {kn : L → H → Prop} (fu : List Bool) (hl : (Region.lexB .any ops && fullB (befL ops.toList []) fu 0) = true) (hs : syDZ tb E nt ops.toList ops.toList fu false l h kn) : DrawP E nt id ops l h kn := ⟨fun tm hv kr ke => by
  rw [Bool.and_eq_true] at hl
  obtain ⟨n, tm', h', e, l', hv', k⟩ := syDZ_ok T (bef := befL ops.toList []) (i := 0) (seen := []) (M := h) hv hl.2 (fun x hx => by cases hx) (fun _ x hx => by cases hx) ⟨rfl, rfl, fun k _ q => q⟩ hs
  exact ⟨n + 1, .normal, tm', h', by simp only [ev, step, hl.1, if_true, e, norm], l', hv', k⟩⟩
end Go.Proofs.Ytknenadpkgajjaa.GEv
