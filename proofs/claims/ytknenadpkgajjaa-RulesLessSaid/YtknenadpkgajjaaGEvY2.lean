/- The evaluator told for the kernel: regions, code, functions. -/
import Derived.Test.YtknenadpkgajjaaGEvX2
namespace Go.Proofs.Ytknenadpkgajjaa.GEv
open Go
open Go.RowKit (Below)
set_option linter.unusedVariables false
set_option linter.unusedSimpArgs false
noncomputable section

structure DK where
  d : TM → Value → (TM → Bool) → Bool
def dKs (s : SetC) (tm : TM) (v : Value) (k : TM → Bool) : Bool := k (s.s tm v)
def dK (nt : Nat) (dst : Option Tmp) : DK :=
  match dst with
  | none => ⟨fun tm _ k => k tm⟩
  | some d => match Nat.blt d nt with
    | true => ⟨dKs (tK d)⟩
    | false => ⟨fun _ _ _ => false⟩
theorem dK_ok {nt : Nat} {dst : Option Tmp} {tm : TM} {v : Value} {k : TM → Bool} (h : (dK nt dst).d tm v k = true) : ∃ tm1, putT tm nt dst v = some tm1 ∧ k tm1 = true := by
  cases dst with
  | none => exact ⟨tm, rfl, h⟩
  | some d =>
    simp only [dK] at h
    cases hb : Nat.blt d nt with
    | true =>
      rw [hb] at h
      simp only [dKs, tK_eq] at h
      exact ⟨_, by simp only [putT, hb], h⟩
    | false => rw [hb] at h; cases h
/-- What a guard says. -/
def guaK (v : Value) (want : Bool) : Bool :=
  Value.casesOn (motive_1 := fun _ => Bool) v (fun b => bEq b want) (fun _ _ => false) (fun _ _ => false) (fun _ _ _ => false) (fun _ => false)
    (fun _ => false) (fun _ _ _ => false) (fun _ => false) (fun _ => false) (fun _ _ _ => false) false (fun _ _ => false) false (fun _ => false) (fun _ => false)
theorem guaK_eq {ops : Array Oper} {tm : TM} {o : Oper} {j d : Nat} {want : Bool} (hg : o.guard = some (j, want)) (hd : (ops[j]?).bind (·.dst) = some d) : guaK ((gK d).g tm) want = wanted ops tm o := by
  rw [gK_eq]
  simp only [wanted, hg, hd]
  cases (tm.get d).getD undef <;> first | rfl | (rename_i b; cases b <;> cases want <;> rfl)
structure SK where
  s : KCo → TM → H → KT → Bool
def stU (f : FK) (d : DK) (r : SK) (sk : KCo) (tm : TM) (h : H) (k : KT) : Bool := f.f sk tm h fun v h => d.d tm v fun tm => r.s sk tm h k
def stG (j : GetC) (want : Bool) (f : FK) (d : DK) (r : SK) (sk : KCo) (tm : TM) (h : H) (k : KT) : Bool :=
  iteK (guaK (j.g tm) want) (f.f sk tm h fun v h => d.d tm v fun tm => r.s sk tm h k) (d.d tm undef fun tm => r.s sk tm h k)
def stepK (E : Env) (sp : List Nat) (ops : Array Oper) (nt : Nat) (o : Oper) (r : SK) : SK :=
  match o.guard with
  | none => ⟨stU (opK E sp o) (dK nt o.dst) r⟩
  | some (j, want) => match (ops[j]?).bind (·.dst) with
    | none => ⟨fun _ _ _ _ => false⟩
    | some d => ⟨stG (gK d) want (opK E sp o) (dK nt o.dst) r⟩
def opsK (E : Env) (sp : List Nat) (ops : Array Oper) (nt : Nat) (l : List Oper) : SK :=
  List.rec (motive := fun _ => SK) ⟨fun _ tm h k => k tm h⟩ (fun o _ ih => stepK E sp ops nt o ih) l
theorem onP_ok {r : Option (Value × H)} {k : KV} (h : onP r k = true) : ∃ v h1, r = some (v, h1) ∧ k v h1 = true := by
  cases r with
  | none => cases h
  | some p => exact ⟨p.1, p.2, rfl, h⟩
theorem opsK_ok {E : Env} {sp : List Nat} {sk : KCo} {sf : Code → St → Option (X × St)} (ag : Agree sk sf) {ops : Array Oper} {nt : Nat} : ∀ {l : List Oper} {tm : TM} {h : H} {k : KT}, (opsK E sp ops nt l).s sk tm h k = true →
    ∃ tm1 h1, evOps E sf ops l ⟨tm, nt, h⟩ = some ⟨tm1, nt, h1⟩ ∧ k tm1 h1 = true
  | [], tm, h, k, hr => ⟨tm, h, rfl, hr⟩
  | o :: rest, tm, h, k, hr => by
    have hr : (stepK E sp ops nt o (opsK E sp ops nt rest)).s sk tm h k = true := hr
    simp only [stepK] at hr
    split at hr
    · rename_i hg
      obtain ⟨v, h1, hf, hr⟩ := onP_ok (opK_ok ag hr)
      obtain ⟨tm1, hp, hr⟩ := dK_ok hr
      have hw : wanted ops tm o = true := by simp only [wanted, hg]
      obtain ⟨tm2, h2, he, hk⟩ := opsK_ok ag (l := rest) hr
      exact ⟨tm2, h2, by simp only [evOps, hw, if_true, hf, hp]; exact he, hk⟩
    · rename_i j want hg
      split at hr
      · cases hr
      · rename_i d hd
        have hw := (guaK_eq (tm := tm) hg hd).symm
        cases hq : guaK ((gK d).g tm) want with
        | true =>
          simp only [stG, hq, iteK] at hr
          rw [hq] at hw
          obtain ⟨v, h1, hf, hr⟩ := onP_ok (opK_ok ag hr)
          obtain ⟨tm1, hp, hr⟩ := dK_ok hr
          obtain ⟨tm2, h2, he, hk⟩ := opsK_ok ag (l := rest) hr
          exact ⟨tm2, h2, by simp only [evOps, hw, if_true, hf, hp]; exact he, hk⟩
        | false =>
          simp only [stG, hq, iteK] at hr
          rw [hq] at hw
          obtain ⟨tm1, hp, hr⟩ := dK_ok hr
          obtain ⟨tm2, h2, he, hk⟩ := opsK_ok ag (l := rest) hr
          exact ⟨tm2, h2, by simp only [evOps, hw, Bool.false_eq_true, if_false, hp]; exact he, hk⟩
/-! ### regions that draw -/
structure DrK where
  s : KCo → List (Nat × Foot) → TM → H → KT → Bool
def drP (pu : Bool) (i bf : Nat) (kc : KC) (f : FK) (d : DK) (r : DrK) (sk : KCo) (seen : List (Nat × Foot)) (tm : TM) (h : H) (k : KT) : Bool :=
  f.f sk tm ⟨h.m, h.next, top h.next⟩ fun v h1 => d.d tm v fun tm1 => Bool.rec (motive := fun _ => Bool)
    (iteK (fits bf (kc.k tm (Nat.blt h1.low h.next) h.m h1.m) seen) (r.s sk ((i, kc.k tm (Nat.blt h1.low h.next) h.m h1.m) :: seen) tm1 ⟨h1.m, h1.next, minR h1.low h.low⟩ k) false)
    (r.s sk seen tm1 h k) pu
def drG (j : GetC) (want : Bool) (pu : Bool) (i bf : Nat) (kc : KC) (f : FK) (d : DK) (r : DrK) (sk : KCo) (seen : List (Nat × Foot)) (tm : TM) (h : H) (k : KT) : Bool :=
  iteK (guaK (j.g tm) want) (drP pu i bf kc f d r sk seen tm h k) (d.d tm undef fun tm => r.s sk seen tm h k)
def stepD (E : Env) (sp : List Nat) (ops : Array Oper) (bef : List Nat) (nt : Nat) (o : Oper) (i : Nat) (r : DrK) : DrK :=
  match o.guard with
  | none => ⟨drP (pureOp o.op) i (bef.getD i 0) (kC o) (opK E sp o) (dK nt o.dst) r⟩
  | some (j, want) => match (ops[j]?).bind (·.dst) with
    | none => ⟨fun _ _ _ _ _ => false⟩
    | some d => ⟨drG (gK d) want (pureOp o.op) i (bef.getD i 0) (kC o) (opK E sp o) (dK nt o.dst) r⟩
def drawK (E : Env) (sp : List Nat) (ops : Array Oper) (bef : List Nat) (nt : Nat) (l : List Oper) : Nat → DrK :=
  List.rec (motive := fun _ => Nat → DrK) (fun _ => ⟨fun _ _ tm h k => k tm h⟩) (fun o _ ih i => stepD E sp ops bef nt o i (ih (Nat.succ i))) l
theorem drawK_ok {E : Env} {sp : List Nat} {sk : KCo} {sf : Code → St → Option (X × St)} (ag : Agree sk sf) {ops : Array Oper} {bef : List Nat} {nt : Nat} : ∀ {l : List Oper} {i : Nat} {seen : List (Nat × Foot)} {tm : TM} {h : H} {k : KT},
    (drawK E sp ops bef nt l i).s sk seen tm h k = true → ∃ tm1 h1, fDraw E sf ops bef nt l i seen tm h = some ⟨tm1, nt, h1⟩ ∧ k tm1 h1 = true
  | [], i, seen, tm, h, k, hr => ⟨tm, h, rfl, hr⟩
  | o :: rest, i, seen, tm, h, k, hr => by
    have hr : (stepD E sp ops bef nt o i (drawK E sp ops bef nt rest (Nat.succ i))).s sk seen tm h k = true := hr
    have key : wanted ops tm o = true → drP (pureOp o.op) i (bef.getD i 0) (kC o) (opK E sp o) (dK nt o.dst) (drawK E sp ops bef nt rest (Nat.succ i)) sk seen tm h k = true →
        ∃ tm1 h1, fDraw E sf ops bef nt (o :: rest) i seen tm h = some ⟨tm1, nt, h1⟩ ∧ k tm1 h1 = true := by
      intro hw hr
      obtain ⟨v, h1, hf, hr⟩ := onP_ok (opK_ok ag hr)
      obtain ⟨tm1, hp, hr⟩ := dK_ok hr
      cases hpu : pureOp o.op with
      | true =>
        rw [hpu] at hr
        obtain ⟨tm2, h2, he, hk⟩ := drawK_ok ag (l := rest) hr
        exact ⟨tm2, h2, by simp only [fDraw, wC_eq, hw, fFull_eq, hf, dC_eq, hp, hpu]; exact he, hk⟩
      | false =>
        rw [hpu] at hr
        obtain ⟨hfi, hr⟩ := iteK_ok hr
        obtain ⟨tm2, h2, he, hk⟩ := drawK_ok ag (l := rest) hr
        rw [minR_eq] at he
        exact ⟨tm2, h2, by simp only [fDraw, wC_eq, hw, fFull_eq, hf, dC_eq, hp, hpu, hfi]; exact he, hk⟩
    simp only [stepD] at hr
    split at hr
    · rename_i hg
      exact key (by simp only [wanted, hg]) hr
    · rename_i j want hg
      split at hr
      · cases hr
      · rename_i d hd
        have hw := (guaK_eq (tm := tm) hg hd).symm
        cases hq : guaK ((gK d).g tm) want with
        | true =>
          simp only [drG, hq, iteK] at hr
          rw [hq] at hw
          exact key hw hr
        | false =>
          simp only [drG, hq, iteK] at hr
          rw [hq] at hw
          obtain ⟨tm1, hp, hr⟩ := dK_ok hr
          obtain ⟨tm2, h2, he, hk⟩ := drawK_ok ag (l := rest) hr
          exact ⟨tm2, h2, by simp only [fDraw, wC_eq, hw, dC_eq, hp]; exact he, hk⟩

/-! ### code -/
structure CK where
  c : KCo → TM → H → KT → KT → (Nat → KT) → Bool
def cKreg (s : SK) (sk : KCo) (tm : TM) (h : H) (kn kr : KT) (ke : Nat → KT) : Bool := s.s sk tm h kn
def cKdraw (s : DrK) (sk : KCo) (tm : TM) (h : H) (kn kr : KT) (ke : Nat → KT) : Bool := iteK (Nat.ble h.low BIG) (s.s sk [] tm h kn) false
def cKseq (nt : Nat) (a b : Code) (sk : KCo) (tm : TM) (h : H) (kn kr : KT) (ke : Nat → KT) : Bool := sk nt a tm h (fun tm h => sk nt b tm h kn kr ke) kr ke
def cKcond (nt : Nat) (x : AK) (a b : Code) (sk : KCo) (tm : TM) (h : H) (kn kr : KT) (ke : Nat → KT) : Bool :=
  x.a tm fun v => bolK v fun t => Bool.rec (motive := fun _ => Bool) (sk nt b tm h kn kr ke) (sk nt a tm h kn kr ke) t
def cKblock (nt id : Nat) (a : Code) (sk : KCo) (tm : TM) (h : H) (kn kr : KT) (ke : Nat → KT) : Bool :=
  sk nt a tm h kn kr fun i tm h => Bool.rec (motive := fun _ => Bool) (ke i tm h) (kn tm h) (Nat.beq i id)
def codeK (E : Env) (sp : List Nat) (nt : Nat) (c : Code) : CK :=
  match c with
  | .skip => ⟨fun _ tm h kn _ _ => kn tm h⟩
  | .region _ ops false => ⟨cKreg (opsK E sp ops nt ops.toList)⟩
  | .region _ ops true => match Region.lexB .any ops with
    | true => ⟨cKdraw (drawK E sp ops (befL ops.toList []) nt ops.toList 0)⟩
    | false => ⟨fun _ _ _ _ _ _ => false⟩
  | .seq a b => ⟨cKseq nt a b⟩
  | .cond c a b => ⟨cKcond nt (aK c) a b⟩
  | .block id a => ⟨cKblock nt id a⟩
  | .loop a => ⟨cKseq nt a (.loop a)⟩
  | .exit i => ⟨fun _ tm h _ _ ke => ke i tm h⟩
  | .ret => ⟨fun _ tm h _ kr _ => kr tm h⟩
  | _ => ⟨fun _ _ _ _ _ _ => false⟩
theorem seq_ok {sk : KCo} {sf : Code → St → Option (X × St)} (ag : Agree sk sf) {nt : Nat} {a b : Code} {tm : TM} {h : H} {kn kr : KT} {ke : Nat → KT} (hr : cKseq nt a b sk tm h kn kr ke = true) :
    OnX (match sf a ⟨tm, nt, h⟩ with | some (.normal, st) => sf b st | r => r) nt kn kr ke := by
  obtain ⟨x, tm1, h1, hs, hk⟩ := ag.imp _ _ _ _ _ _ _ hr
  rw [hs]
  cases x with
  | normal => exact ag.imp _ _ _ _ _ _ _ hk
  | ret => exact ⟨.ret, tm1, h1, rfl, hk⟩
  | exit i => exact ⟨.exit i, tm1, h1, rfl, hk⟩
theorem codeK_ok {E : Env} {sp : List Nat} {sk : KCo} {sf : Code → St → Option (X × St)} (ag : Agree sk sf) {nt : Nat} {c : Code} {tm : TM} {h : H} {kn kr : KT} {ke : Nat → KT} (hr : (codeK E sp nt c).c sk tm h kn kr ke = true) :
    OnX (step E sf c ⟨tm, nt, h⟩) nt kn kr ke := by
  cases c with
  | skip => exact ⟨.normal, tm, h, rfl, hr⟩
  | region id ops d =>
    cases d with
    | false =>
      obtain ⟨tm1, h1, he, hk⟩ := opsK_ok ag (l := ops.toList) hr
      exact ⟨.normal, tm1, h1, by simp only [step, he, norm], hk⟩
    | true =>
      simp only [codeK] at hr
      cases hl : Region.lexB .any ops with
      | false => rw [hl] at hr; cases hr
      | true =>
        rw [hl] at hr
        obtain ⟨hb, hr⟩ := iteK_ok hr
        obtain ⟨tm1, h1, he, hk⟩ := drawK_ok ag (l := ops.toList) hr
        rw [fDraw_eq _ _ _ _ _ _ _ _ _ _ (Nat.le_of_ble_eq_true hb)] at he
        exact ⟨.normal, tm1, h1, by simp only [step, hl, if_true, he, norm], hk⟩
  | seq a b => exact seq_ok ag hr
  | cond x a b =>
    obtain ⟨v, hv, hr⟩ := aK_ok (x := x) hr
    obtain ⟨t, rfl, hr⟩ := bolK_ok (v := v) hr
    simp only [step, hv]
    cases t with
    | true => exact ag.imp _ _ _ _ _ _ _ hr
    | false => exact ag.imp _ _ _ _ _ _ _ hr
  | block id a =>
    obtain ⟨x, tm1, h1, hs, hk⟩ := ag.imp _ _ _ _ _ _ _ hr
    simp only [step, hs]
    cases x with
    | normal => exact ⟨.normal, tm1, h1, rfl, hk⟩
    | ret => exact ⟨.ret, tm1, h1, rfl, hk⟩
    | exit i =>
      simp only [contX] at hk
      cases hb : Nat.beq i id with
      | true =>
        rw [hb] at hk
        have : i = id := Nat.eq_of_beq_eq_true hb
        exact ⟨.normal, tm1, h1, by simp only [this, if_true], hk⟩
      | false =>
        rw [hb] at hk
        have : ¬ i = id := fun e => by rw [e, Nat.beq_refl] at hb; cases hb
        exact ⟨.exit i, tm1, h1, by simp only [this, if_false], hk⟩
  | loop a => exact seq_ok ag hr
  | exit i => exact ⟨.exit i, tm, h, rfl, hr⟩
  | ret => exact ⟨.ret, tm, h, rfl, hr⟩
  | _ => cases hr
def kev (E : Env) (sp : List Nat) (n : Nat) : KCo :=
  Nat.rec (motive := fun _ => KCo) (fun _ _ _ _ _ _ _ => false) (fun _ ih nt c tm h kn kr ke => (codeK E sp nt c).c ih tm h kn kr ke) n
theorem kev_ok (E : Env) (sp : List Nat) : ∀ n, Agree (kev E sp n) (ev E n)
  | 0 => ⟨fun _ _ _ _ _ _ _ h => by cases h⟩
  | n + 1 => ⟨fun nt c tm h kn kr ke hr => codeK_ok (kev_ok E sp n) hr⟩
def tru (v : Value) : Bool := isTrue (some v)
/-- The run says true. -/
def kresult (E : Env) (sp : List Nat) (n : Nat) (f : FuncId) (args : List Value) : Bool := (funK E f).r (kev E sp n) args h0 fun v _ => tru v
theorem kresult_ok {E : Env} {sp : List Nat} {n : Nat} {f : FuncId} {args : List Value} (h : kresult E sp n f args = true) : isTrue (result E n f args) = true := by
  obtain ⟨v, h1, he, hk⟩ := onP_ok (funK_ok (kev_ok E sp n) h)
  simp only [result, run, he]
  exact hk
end
theorem kcalls_true {E : Env} {sp : List Nat} (hE : E.OK) {n : Nat} {f : FuncId} {args : List Value} (he : kresult E sp n f args = true) (ha : args.all flat2 = true) {w : World} (hw : WOK w) (hs : GN ≤ w.heap.size) :
    Calls E.P f args.toArray w fun e w' => e = .returned (.bool true) ∧ Below w.heap.size w w' := calls_true hE (kresult_ok he) ha hw hs
end Go.Proofs.Ytknenadpkgajjaa.GEv
