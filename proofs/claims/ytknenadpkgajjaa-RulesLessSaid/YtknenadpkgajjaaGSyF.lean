/- Symbolic runs in which regions that draw are told apart: their operations may lay new blocks, or write, if what clashes is in order. -/
import Derived.Test.YtknenadpkgajjaaGSyD
import Derived.Test.YtknenadpkgajjaaGSyE
namespace Go.Proofs.Ytknenadpkgajjaa.GEv
open Go
set_option linter.unusedSimpArgs false
set_option linter.unusedVariables false
/-- A region that draws. -/
structure DrawP (E : Env) (nt : Nat) (id : Nat) (ops : Array Oper) (l : L) (h : H) (kn : L → H → Prop) : Prop where
  ok : ∀ tm, View l tm → ∀ kr ke, Ends E nt (.region id ops true) tm h (Up kn) kr ke
def syX (E : Env) (nt : Nat) : Code → L → H → (L → H → Prop) → (L → H → Prop) → (Nat → L → H → Prop) → Prop
  | .skip, l, h, kn, _, _ => kn l h
  | .region _ ops false, l, h, kn, _, _ => syOps E nt ops.toList ops.toList l h kn
  | .region id ops true, l, h, kn, _, _ => DrawP E nt id ops l h kn
  | .seq a b, l, h, kn, kr, ke => syX E nt a l h (fun l h => syX E nt b l h kn kr ke) kr ke
  | .cond c a b, l, h, kn, kr, ke => match evL l c with
    | some (.bool true) => syX E nt a l h kn kr ke
    | some (.bool false) => syX E nt b l h kn kr ke
    | _ => False
  | .block i a, l, h, kn, kr, ke => syX E nt a l h kn kr fun j l h => match Nat.beq j i with
    | true => kn l h
    | false => ke j l h
  | .loop a, l, h, kn, kr, ke => LoopP E nt a l h kn kr ke
  | .exit i, l, h, _, _, ke => ke i l h
  | .ret, l, h, _, kr, _ => kr l h
  | c, l, h, kn, kr, ke => CodeP E nt c l h kn kr ke
theorem syX_ok (E : Env) (nt : Nat) : ∀ (c : Code) (l : L) (tm : TM) (h : H) (kn kr : L → H → Prop) (ke : Nat → L → H → Prop), View l tm → syX E nt c l h kn kr ke → Ends E nt c tm h (Up kn) (Up kr) fun i => Up (ke i)
  | .skip, l, tm, h, kn, kr, ke, hv, hs => Ends.skip ⟨l, hv, hs⟩
  | .region id ops false, l, tm, h, kn, kr, ke, hv, hs => sy_ok E nt (.region id ops false) l tm h kn kr ke hv hs
  | .region id ops true, l, tm, h, kn, kr, ke, hv, hs => DrawP.ok hs tm hv _ _
  | .seq a b, l, tm, h, kn, kr, ke, hv, hs => by
    refine Ends.seq ((syX_ok E nt a l tm h _ kr ke hv (show syX E nt a l h (fun l h => syX E nt b l h kn kr ke) kr ke from hs)).mono ?_ (fun _ _ q => q) (fun _ _ _ q => q))
    rintro tm' h' ⟨l', hv', q⟩
    exact syX_ok E nt b l' tm' h' kn kr ke hv' q
  | .cond c a b, l, tm, h, kn, kr, ke, hv, hs => by
    simp only [syX] at hs
    split at hs
    · rename_i hc; exact Ends.cond (evL_ok hv hc) (syX_ok E nt a l tm h kn kr ke hv hs)
    · rename_i hc; exact Ends.cond (evL_ok hv hc) (syX_ok E nt b l tm h kn kr ke hv hs)
    · exact hs.elim
  | .block i a, l, tm, h, kn, kr, ke, hv, hs => by
    refine Ends.block ((syX_ok E nt a l tm h kn kr _ hv (show syX E nt a l h kn kr (fun j l h => match Nat.beq j i with | true => kn l h | false => ke j l h) from hs)).mono (fun _ _ q => q) (fun _ _ q => q) ?_)
    rintro j tm' h' ⟨l', hv', q⟩
    cases hj : Nat.beq j i with
    | true => rw [hj] at q; exact ⟨l', hv', q⟩
    | false => rw [hj] at q; exact ⟨l', hv', q⟩
  | .loop a, l, tm, h, kn, kr, ke, hv, hs => LoopP.ok hs tm hv
  | .exit i, l, tm, h, kn, kr, ke, hv, hs => Ends.exit ⟨l, hv, hs⟩
  | .ret, l, tm, h, kn, kr, ke, hv, hs => Ends.ret ⟨l, hv, hs⟩
  | .rangeFunc _ _ _ _, l, tm, h, kn, kr, ke, hv, hs => CodeP.ok hs tm hv
  | .scope _, l, tm, h, kn, kr, ke, hv, hs => CodeP.ok hs tm hv
  | .label _, l, tm, h, kn, kr, ke, hv, hs => CodeP.ok hs tm hv
  | .goto _, l, tm, h, kn, kr, ke, hv, hs => CodeP.ok hs tm hv
  | .refuse _, l, tm, h, kn, kr, ke, hv, hs => CodeP.ok hs tm hv
theorem LoopP.onX {E : Env} {nt : Nat} {a : Code} {l : L} {h : H} {kn kr : L → H → Prop} {ke : Nat → L → H → Prop} {α : Type} (st : α → L) (mem : α → H) (I : α → Prop) (m : α → Nat) (x0 : α) (h0 : mem x0 = h) (l0 : Less (st x0) l) (i0 : I x0)
    (step : ∀ x, I x → syX E nt a (st x) (mem x) (fun l' h' => ∃ y, Less (st y) l' ∧ mem y = h' ∧ I y ∧ m y < m x) kr ke) : LoopP E nt a l h kn kr ke := by
  subst h0
  have main : ∀ n x, m x = n → I x → ∀ tm, View (st x) tm → Ends E nt (.loop a) tm (mem x) (Up kn) (Up kr) fun i => Up (ke i) := by
    intro n
    induction n using Nat.strongRecOn with
    | _ n ih =>
      intro x hx hi tm hv
      refine Ends.loop1 ((syX_ok E nt a (st x) tm (mem x) _ kr ke hv (step x hi)).mono ?_ (fun _ _ q => q) (fun _ _ _ q => q))
      rintro tm' h' ⟨l', hv', y, hl, rfl, hy, hm⟩
      exact ih (m y) (by omega) y rfl hy tm' (hl.up hv')
  exact ⟨fun tm hv => main _ x0 rfl i0 tm (l0.up hv)⟩
theorem CallP.ofX {E : Env} {f : FuncId} {fn : Func} {c : Code} {args : List Value} {h : H} {K : Value → H → Prop} (hm : memoOf E.memo f args = none) (hq : mprimOf E.mem f = none) (hf : E.P.funcs[f]? = some fn) (hb : fn.body = some c) (hl : args.length ≤ fn.ntmps)
    (hk : syX E fn.ntmps c (argsL 0 args) h (retL E.P fn.results.toList K) (retL E.P fn.results.toList K) (fun _ _ _ => False)) : CallP E f args h K := by
  have up : ∀ tm h, Up (retL E.P fn.results.toList K) tm h → ∃ vs, evResults E.P tm h fn.results.toList = some vs ∧ K (tup vs) h := by
    rintro tm h ⟨l, hv, vs, e, k⟩
    exact ⟨vs, resL_ok hv e, k⟩
  exact CallP.enter hm hq hf hb hl ((syX_ok E fn.ntmps c _ _ h _ _ _ (view_args args) hk).mono up up (by rintro i tm h ⟨_, _, q⟩; exact q))
/-! ### a region that draws, step by step -/
def lenL (l : L) (c : Call) : Option Bool := match c.callee, c.args.toList with
  | .builtin .len, [x] => match evL l x with
    | some (.slice _ _ _) => some true
    | some _ => some false
    | none => none
  | _, _ => some false
theorem lenL_ok {l : L} {tm : TM} (hv : View l tm) {c : Call} {b : Bool} (h : lenL l c = some b) : lenS tm c = b := by
  unfold lenL at h
  unfold lenS
  split at h
  · rename_i x e1 e2
    rw [e1, e2]
    simp only
    split at h
    · rename_i q; cases h; simp only [evL_ok hv q]
    · rename_i v hn q
      cases h
      rw [evL_ok hv q]
      split
      · rename_i q2; cases q2; exact absurd rfl (hn _ _ _)
      · rfl
    · cases h
  · rename_i hn
    cases h
    split
    · rename_i x e1 e2; exact absurd e2 (hn x e1)
    · rfl
def footL (l : L) (o : Oper) (wrote : Bool) (m m' : U AObj) : Option Foot := match o.op with
  | .buildSlice _ _ _ => some .own
  | .call c => match lenL l c with
    | some true => some .own
    | some false => (match wrote with
      | true => some (.gen m m')
      | false => some (.rd none))
    | none => none
  | .load _ x => match evL l x with
    | some (.pointer (some a)) => some (.rd (some a.block))
    | _ => none
  | .store _ x _ => match evL l x with
    | some (.pointer (some a)) => some (.wr a.block)
    | _ => none
  | _ => match wrote with
    | true => some (.gen m m')
    | false => some (.rd none)
theorem footL_ok {l : L} {tm : TM} (hv : View l tm) {o : Oper} {b : Bool} {m m' : U AObj} {f : Foot} (h : footL l o b m m' = some f) : foot tm o b m m' = f := by
  unfold footL at h
  unfold foot
  split at h
  · rename_i ho
    rw [ho]
    cases h
    rfl
  · rename_i c ho
    rw [ho]
    simp only
    split at h
    · rename_i q; cases h; rw [lenL_ok hv q]; rfl
    · rename_i q
      rw [lenL_ok hv q]
      split at h
      · cases h; rfl
      · cases h; rfl
    · cases h
  · rename_i t x ho
    rw [ho]
    split at h
    · rename_i a hx; cases h; simp only [evL_ok hv hx]
    · cases h
  · rename_i t x y ho
    rw [ho]
    split at h
    · rename_i a hx; cases h; simp only [evL_ok hv hx]
    · cases h
  · rename_i n3 n4 n1 n2
    split
    · rename_i ho; exact absurd ho (n3 _ _ _)
    · rename_i c ho; exact absurd ho (n4 c)
    · rename_i t x ho; exact absurd ho (n1 t x)
    · rename_i t x y ho; exact absurd ho (n2 t x y)
    · split at h
      · cases h; rfl
      · cases h; rfl
/-- The memory behind an operation of a region that draws. -/
def mixH (h h1 : H) : H := ⟨h1.m, h1.next, if h1.low < h.low then h1.low else h.low⟩
/-- What an operation that is not pure must keep to. -/
structure FitP (l : L) (o : Oper) (h h1 : H) (bef : Nat) (seen : List (Nat × Foot)) (i : Nat) (K : List (Nat × Foot) → Prop) : Prop where
  ok : ∃ w f, Nat.blt h1.low h.next = w ∧ footL l o w h.m h1.m = some f ∧ fits bef f seen = true ∧ K ((i, f) :: seen)
def syDX (E : Env) (nt : Nat) (ops : List Oper) (bef : List Nat) : List Oper → Nat → List (Nat × Foot) → L → H → (L → H → Prop) → Prop
  | [], _, _, l, h, K => K l h
  | o :: r, i, seen, l, h, K => match dstOk nt o.dst with
    | true => match wantL ops l o with
      | some true => match pureOp o.op with
        | true => syOp E l ⟨h.m, h.next, top h.next⟩ o fun v h1 => syDX E nt ops bef r (i + 1) seen (putL o.dst v l) h.dip K
        | false => syOp E l ⟨h.m, h.next, top h.next⟩ o fun v h1 => FitP l o h h1 (bef.getD i 0) seen i fun seen => syDX E nt ops bef r (i + 1) seen (putL o.dst v l) (mixH h h1) K
      | some false => syDX E nt ops bef r (i + 1) seen (putL o.dst undef l) h K
      | none => False
    | false => False
section
variable {E : Env} {nt : Nat}
theorem syDX_ok {ops : Array Oper} {bef : List Nat} {K : L → H → Prop} : ∀ {r : List Oper} {i : Nat} {seen : List (Nat × Foot)} {l : L} {tm : TM} {h : H}, View l tm → syDX E nt ops.toList bef r i seen l h K →
    ∃ n tm' h', evDraw E (ev E n) ops bef r i seen ⟨tm, nt, h⟩ = some ⟨tm', nt, h'⟩ ∧ ∃ l', View l' tm' ∧ K l' h'
  | [], i, seen, l, tm, h, hv, hs => ⟨0, tm, h, rfl, l, hv, hs⟩
  | o :: r, i, seen, l, tm, h, hv, hs => by
    simp only [syDX] at hs
    split at hs
    · rename_i hd
      split at hs
      · rename_i hw
        split at hs
        · rename_i hp
          obtain ⟨n, v, h1, e1, k1⟩ := (syOp_ok hv hs).ex
          obtain ⟨rfl, _⟩ := pure_full hp e1
          obtain ⟨tm1, e2, hv1⟩ := put_ok (v := v) hv hd
          obtain ⟨m, tm2, h2, e3, k2⟩ := syDX_ok hv1 k1
          refine ⟨max n m, tm2, h2, ?_, k2⟩
          have e1' := evFull_mono (ev_mono E n _ (Nat.le_max_left n m)) e1
          simp only [evDraw, want_ok hv hw, if_true, e1', e2, hp]
          exact evDraw_mono (ev_mono E m _ (Nat.le_max_right n m)) e3
        · rename_i hp
          obtain ⟨n, v, h1, e1, k1⟩ := (syOp_ok hv hs).ex
          obtain ⟨w, f, hw2, hf, hfit, k1⟩ := k1.ok
          obtain ⟨tm1, e2, hv1⟩ := put_ok (v := v) hv hd
          obtain ⟨m, tm2, h2, e3, k2⟩ := syDX_ok hv1 k1
          refine ⟨max n m, tm2, h2, ?_, k2⟩
          have e1' := evFull_mono (ev_mono E n _ (Nat.le_max_left n m)) e1
          have hf' := footL_ok hv hf
          simp only [evDraw, want_ok hv hw, if_true, e1', e2, hp, Bool.false_eq_true, if_false, hw2, hf', hfit]
          exact evDraw_mono (ev_mono E m _ (Nat.le_max_right n m)) e3
      · rename_i hw
        obtain ⟨tm1, e2, hv1⟩ := put_ok (v := undef) hv hd
        obtain ⟨m, tm2, h2, e3, k2⟩ := syDX_ok hv1 hs
        refine ⟨m, tm2, h2, ?_, k2⟩
        simp only [evDraw, want_ok hv hw, Bool.false_eq_true, if_false, e2]
        exact e3
      · exact hs.elim
    · exact hs.elim
/-- **A region that draws.** -/
theorem DrawP.of {id : Nat} {ops : Array Oper} {l : L} {h : H} {kn : L → H → Prop} (bef : List Nat) (hb : befL ops.toList [] = bef) (hl : Region.lexB .any ops = true) (hs : syDX E nt ops.toList bef ops.toList 0 [] l h kn) : DrawP E nt id ops l h kn := ⟨fun tm hv kr ke => by
  subst hb
  obtain ⟨n, tm', h', e, l', hv', k⟩ := syDX_ok hv hs
  exact ⟨n + 1, .normal, tm', h', by simp only [ev, step, hl, if_true, e, norm], l', hv', k⟩⟩
/-- An operation that leaves the memory as it is. -/
theorem FitP.stay {l : L} {o : Oper} {h : H} {bef i : Nat} {seen : List (Nat × Foot)} {K : List (Nat × Foot) → Prop} {f : Foot} (hf : footL l o false h.m h.m = some f) (hfit : fits bef f seen = true) (hk : K ((i, f) :: seen)) : FitP l o h ⟨h.m, h.next, top h.next⟩ bef seen i K := ⟨false, f, by
  show Nat.blt (top h.next) h.next = false
  rw [blt_spec]
  exact decide_eq_false (by have := (top_ge h.next).2; omega), hf, hfit, hk⟩
/-- One that lays new blocks alone. -/
theorem FitP.grow {l : L} {o : Oper} {h h1 : H} {bef i : Nat} {seen : List (Nat × Foot)} {K : List (Nat × Foot) → Prop} {f : Foot} (hg : Grows ⟨h.m, h.next, top h.next⟩ h1) (hf : footL l o false h.m h1.m = some f) (hfit : fits bef f seen = true) (hk : K ((i, f) :: seen)) : FitP l o h h1 bef seen i K := ⟨false, f, by
  rw [blt_spec]
  exact decide_eq_false (by have := hg.low h.next (Nat.le_refl _) (top_ge h.next).2; omega), hf, hfit, hk⟩
/-- One that writes: it stands behind whatever it clashes with. -/
theorem FitP.write {l : L} {o : Oper} {h h1 : H} {bef i : Nat} {seen : List (Nat × Foot)} {K : List (Nat × Foot) → Prop} (hf : ∀ w, ∃ f, footL l o w h.m h1.m = some f) (hfit : (seen.all fun p => Nat.testBit bef p.1) = true) (hk : ∀ f, K ((i, f) :: seen)) : FitP l o h h1 bef seen i K := by
  obtain ⟨f, hf⟩ := hf (Nat.blt h1.low h.next)
  refine ⟨_, f, rfl, hf, ?_, hk f⟩
  clear hk
  induction seen with
  | nil => rfl
  | cons p r ih =>
    obtain ⟨j, g⟩ := p
    simp only [List.all_cons, Bool.and_eq_true] at hfit
    simp only [fits, hfit.1, ih hfit.2]
    simp
end
theorem mixH_top (h : H) : mixH h ⟨h.m, h.next, top h.next⟩ = h.dip := rfl
theorem mixH_get (h h1 : H) : (mixH h h1).m = h1.m := rfl
theorem mixH_next (h h1 : H) : (mixH h h1).next = h1.next := rfl
theorem Grows.mix {g h h1 : H} (hg : Grows g h) (h2 : Grows g h1) : Grows g (mixH h h1) :=
  ⟨h2.next, h2.keep, fun k q1 q2 => by
    have a := hg.low k q1 q2
    have b := h2.low k q1 q2
    show k ≤ (if h1.low < h.low then h1.low else h.low)
    split <;> assumption⟩
end Go.Proofs.Ytknenadpkgajjaa.GEv
