/- Symbolic runs: what the evaluator does, told as what must hold of what follows (values may be unknown). First part: code, calls, loops. -/
import Derived.Test.YtknenadpkgajjaaGEvS
namespace Go.Proofs.Ytknenadpkgajjaa.GEv
open Go
set_option linter.unusedSimpArgs false
set_option linter.unusedVariables false

/-! ### temporaries, as far as they are looked at -/
abbrev L := List (Nat × Value)
def look : L → Nat → Option Value
  | [], _ => none
  | e :: r, n => match Nat.beq e.1 n with
    | true => some e.2
    | false => look r n
def View (l : L) (tm : TM) : Prop := ∀ n v, look l n = some v → (tm.get n).getD undef = v
theorem View.nil (tm : TM) : View [] tm := fun n v h => by cases h
theorem View.cons {l : L} {tm : TM} (h : View l tm) {d nt : Nat} {v : Value} {tm' : TM} (hp : putT tm nt (some d) v = some tm') : View ((d, v) :: l) tm' := by
  intro n u hn
  simp only [putT] at hp
  split at hp
  · cases hp
    rw [T.get_set]
    simp only [look] at hn
    split at hn
    · rename_i q
      cases hn
      rw [if_pos (Nat.eq_of_beq_eq_true q).symm]
      rfl
    · rename_i q
      have : n ≠ d := fun e => by rw [e, Nat.beq_refl] at q; cases q
      rw [if_neg this]
      exact h n u hn
  · cases hp
/-- Less may be looked at. -/
theorem View.less {l l' : L} {tm : TM} (h : View l tm) (hs : ∀ n v, look l' n = some v → look l n = some v) : View l' tm := fun n v q => h n v (hs n v q)

/-! ### fuel: more of it does no harm -/
def Mono (a b : Code → St → Option (X × St)) : Prop := ∀ c st r, a c st = some r → b c st = some r
theorem evFun_mono {E : Env} {a b : Code → St → Option (X × St)} (hm : Mono a b) {f : FuncId} {args : List Value} {h : H} {r : Value × H} (he : evFun E a f args h = some r) : evFun E b f args h = some r := by
  unfold evFun at he ⊢
  split at he
  · exact he
  · split at he
    · split at he
      · split at he
        · rename_i hl
          rw [if_pos hl]
          split at he
          · rename_i st hst; rw [hm _ _ _ hst]; exact he
          · rename_i st hst; rw [hm _ _ _ hst]; exact he
          · cases he
        · cases he
      · cases he
    · cases he
theorem evFull_mono {E : Env} {a b : Code → St → Option (X × St)} (hm : Mono a b) {tm : TM} {h : H} {o : Oper} {r : Value × H} (he : evFull E a tm h o = some r) : evFull E b tm h o = some r := by
  unfold evFull at he ⊢
  split at he
  · exact he
  · exact he
  · exact evFun_mono hm he
  · cases he
theorem evOps_mono {E : Env} {a b : Code → St → Option (X × St)} (hm : Mono a b) {ops : Array Oper} : ∀ {l : List Oper} {st r : St}, evOps E a ops l st = some r → evOps E b ops l st = some r
  | [], st, r, he => he
  | o :: l, st, r, he => by
    simp only [evOps] at he ⊢
    split at he
    · rename_i hw
      rw [if_pos hw]
      split at he
      · rename_i v h' hf
        rw [evFull_mono hm hf]
        simp only
        split at he
        · exact evOps_mono hm he
        · cases he
      · cases he
    · rename_i hw
      rw [if_neg hw]
      split at he
      · exact evOps_mono hm he
      · cases he
theorem evDraw_mono {E : Env} {a b : Code → St → Option (X × St)} (hm : Mono a b) {ops : Array Oper} {bef : List Nat} : ∀ {l : List Oper} {i : Nat} {seen : List (Nat × Foot)} {st r : St}, evDraw E a ops bef l i seen st = some r → evDraw E b ops bef l i seen st = some r
  | [], i, seen, st, r, he => he
  | o :: l, i, seen, st, r, he => by
    simp only [evDraw] at he ⊢
    split at he
    · rename_i hw
      rw [if_pos hw]
      split at he
      · rename_i v h' hf
        rw [evFull_mono hm hf]
        simp only
        split at he
        · split at he
          · rename_i hp; rw [if_pos hp]; exact evDraw_mono hm he
          · rename_i hp
            rw [if_neg hp]
            split at he
            · rename_i hf2; rw [if_pos hf2]; exact evDraw_mono hm he
            · cases he
        · cases he
      · cases he
    · rename_i hw
      rw [if_neg hw]
      split at he
      · exact evDraw_mono hm he
      · cases he
theorem step_mono {E : Env} {a b : Code → St → Option (X × St)} (hm : Mono a b) : Mono (step E a) (step E b) := by
  intro c st r he
  cases c with
  | region id ops d =>
    cases d with
    | false =>
      simp only [step] at he ⊢
      cases q : evOps E a ops ops.toList st with
      | none => rw [q] at he; cases he
      | some s => rw [q] at he; rw [evOps_mono hm q]; exact he
    | true =>
      simp only [step] at he ⊢
      split at he
      · rename_i hl
        rw [if_pos hl]
        cases q : evDraw E a ops (befL ops.toList []) ops.toList 0 [] st with
        | none => rw [q] at he; cases he
        | some s => rw [q] at he; rw [evDraw_mono hm q]; exact he
      · cases he
  | seq x y =>
    simp only [step] at he ⊢
    cases q : a x st with
    | none => rw [q] at he; cases he
    | some s =>
      obtain ⟨e, s⟩ := s
      rw [q] at he
      rw [hm _ _ _ q]
      cases e with
      | normal => exact hm _ _ _ he
      | exit i => exact he
      | ret => exact he
  | cond x y z =>
    simp only [step] at he ⊢
    split at he
    · exact hm _ _ _ he
    · exact hm _ _ _ he
    · cases he
  | block id x =>
    simp only [step] at he ⊢
    cases q : a x st with
    | none => rw [q] at he; cases he
    | some s =>
      obtain ⟨e, s⟩ := s
      rw [q] at he
      rw [hm _ _ _ q]
      cases e <;> exact he
  | loop x =>
    simp only [step] at he ⊢
    cases q : a x st with
    | none => rw [q] at he; cases he
    | some s =>
      obtain ⟨e, s⟩ := s
      rw [q] at he
      rw [hm _ _ _ q]
      cases e with
      | normal => exact hm _ _ _ he
      | exit i => exact he
      | ret => exact he
  | _ => exact he
theorem ev_mono (E : Env) : ∀ n m, n ≤ m → Mono (ev E n) (ev E m)
  | 0, m, _ => fun c st r he => by cases he
  | n + 1, 0, h => by omega
  | n + 1, m + 1, h => step_mono (ev_mono E n m (by omega))

/-! ### how code ends -/
def Fin3 (kn kr : TM → H → Prop) (ke : Nat → TM → H → Prop) : X → TM → H → Prop
  | .normal => kn
  | .ret => kr
  | .exit i => ke i
structure Ends (E : Env) (nt : Nat) (c : Code) (tm : TM) (h : H) (kn kr : TM → H → Prop) (ke : Nat → TM → H → Prop) : Prop where
  ex : ∃ n x tm' h', ev E n c ⟨tm, nt, h⟩ = some (x, ⟨tm', nt, h'⟩) ∧ Fin3 kn kr ke x tm' h'
/-- A call. -/
structure CallP (E : Env) (f : FuncId) (args : List Value) (h : H) (K : Value → H → Prop) : Prop where
  body : ∃ fn c, E.P.funcs[f]? = some fn ∧ fn.body = some c
  ex : ∃ n v h', evFun E (ev E n) f args h = some (v, h') ∧ K v h'
structure OpP (E : Env) (o : Oper) (tm : TM) (h : H) (K : Value → H → Prop) : Prop where
  ex : ∃ n v h', evFull E (ev E n) tm h o = some (v, h') ∧ K v h'
section
variable {E : Env} {nt : Nat} {tm : TM} {h : H} {kn kr : TM → H → Prop} {ke : Nat → TM → H → Prop}
theorem CallP.mono {f : FuncId} {args : List Value} {K K' : Value → H → Prop} (c : CallP E f args h K) (hK : ∀ v h', K v h' → K' v h') : CallP E f args h K' := by
  obtain ⟨n, v, h', e, k⟩ := c.ex
  exact ⟨c.body, n, v, h', e, hK v h' k⟩
theorem Ends.skip (hk : kn tm h) : Ends E nt .skip tm h kn kr ke := ⟨1, .normal, tm, h, rfl, hk⟩
theorem Ends.ret (hk : kr tm h) : Ends E nt .ret tm h kn kr ke := ⟨1, .ret, tm, h, rfl, hk⟩
theorem Ends.exit {i : Nat} (hk : ke i tm h) : Ends E nt (.exit i) tm h kn kr ke := ⟨1, .exit i, tm, h, rfl, hk⟩
theorem Ends.seq {a b : Code} (ha : Ends E nt a tm h (fun tm h => Ends E nt b tm h kn kr ke) kr ke) : Ends E nt (.seq a b) tm h kn kr ke := by
  obtain ⟨n, x, tm', h', e, k⟩ := ha.ex
  cases x with
  | normal =>
    obtain ⟨m, y, tm2, h2, e2, k2⟩ := Ends.ex k
    refine ⟨max n m + 1, y, tm2, h2, ?_, k2⟩
    simp only [ev, step]
    rw [ev_mono E n _ (Nat.le_max_left n m) _ _ _ e]
    exact ev_mono E m _ (Nat.le_max_right n m) _ _ _ e2
  | ret => exact ⟨n + 1, .ret, tm', h', by simp only [ev, step]; rw [e], k⟩
  | exit i => exact ⟨n + 1, .exit i, tm', h', by simp only [ev, step]; rw [e], k⟩
theorem Ends.cond {c : Operand} {a b : Code} {t : Bool} (hc : evA tm c = some (.bool t)) (hk : Ends E nt (bif t then a else b) tm h kn kr ke) : Ends E nt (.cond c a b) tm h kn kr ke := by
  obtain ⟨n, x, tm', h', e, k⟩ := hk.ex
  refine ⟨n + 1, x, tm', h', ?_, k⟩
  simp only [ev, step, hc]
  cases t <;> exact e
theorem Ends.block {id : Nat} {a : Code} (hk : Ends E nt a tm h kn kr (fun i tm h => match Nat.beq i id with | true => kn tm h | false => ke i tm h)) : Ends E nt (.block id a) tm h kn kr ke := by
  obtain ⟨n, x, tm', h', e, k⟩ := hk.ex
  cases x with
  | normal => exact ⟨n + 1, .normal, tm', h', by simp only [ev, step]; rw [e], k⟩
  | ret => exact ⟨n + 1, .ret, tm', h', by simp only [ev, step]; rw [e], k⟩
  | exit i =>
    simp only [Fin3] at k
    cases q : Nat.beq i id with
    | true =>
      rw [q] at k
      exact ⟨n + 1, .normal, tm', h', by simp only [ev, step]; rw [e]; simp only [Nat.eq_of_beq_eq_true q, if_true], k⟩
    | false =>
      rw [q] at k
      have hne : ¬ i = id := fun e => by rw [e, Nat.beq_refl] at q; cases q
      exact ⟨n + 1, .exit i, tm', h', by simp only [ev, step]; rw [e]; simp only [if_neg hne], k⟩
theorem Ends.loop1 {a : Code} (ha : Ends E nt a tm h (fun tm h => Ends E nt (.loop a) tm h kn kr ke) kr ke) : Ends E nt (.loop a) tm h kn kr ke := by
  obtain ⟨n, x, tm', h', e, k⟩ := ha.ex
  cases x with
  | normal =>
    obtain ⟨m, y, tm2, h2, e2, k2⟩ := Ends.ex k
    refine ⟨max n m + 1, y, tm2, h2, ?_, k2⟩
    simp only [ev, step]
    rw [ev_mono E n _ (Nat.le_max_left n m) _ _ _ e]
    exact ev_mono E m _ (Nat.le_max_right n m) _ _ _ e2
  | ret => exact ⟨n + 1, .ret, tm', h', by simp only [ev, step]; rw [e], k⟩
  | exit i => exact ⟨n + 1, .exit i, tm', h', by simp only [ev, step]; rw [e], k⟩
theorem Ends.mono {c : Code} {kn' kr' : TM → H → Prop} {ke' : Nat → TM → H → Prop} (hk : Ends E nt c tm h kn kr ke) (hn : ∀ tm h, kn tm h → kn' tm h) (hr : ∀ tm h, kr tm h → kr' tm h) (he : ∀ i tm h, ke i tm h → ke' i tm h) :
    Ends E nt c tm h kn' kr' ke' := by
  obtain ⟨n, x, tm', h', e, k⟩ := hk.ex
  refine ⟨n, x, tm', h', e, ?_⟩
  cases x with
  | normal => exact hn _ _ k
  | ret => exact hr _ _ k
  | exit i => exact he i _ _ k
/-- A function with a body. -/
theorem CallP.enter {f : FuncId} {fn : Func} {c : Code} {args : List Value} {K : Value → H → Prop} (hm : memoOf E.memo f args = none) (hq : mprimOf E.mem f = none) (hf : E.P.funcs[f]? = some fn) (hb : fn.body = some c) (hl : args.length ≤ fn.ntmps)
    (hk : Ends E fn.ntmps c (bindArgs 0 args .nil) h (fun tm h => ∃ vs, evResults E.P tm h fn.results.toList = some vs ∧ K (tup vs) h) (fun tm h => ∃ vs, evResults E.P tm h fn.results.toList = some vs ∧ K (tup vs) h) (fun _ _ _ => False)) :
    CallP E f args h K := by
  refine ⟨⟨fn, c, hf, hb⟩, ?_⟩
  obtain ⟨n, x, tm', h', e, k⟩ := hk.ex
  have fin : ∀ vs, evResults E.P tm' h' fn.results.toList = some vs → (match evResults E.P tm' h' fn.results.toList with
        | some [v] => some (v, h')
        | some l => some (.tuple l.toArray, h')
        | none => none) = some (tup vs, h') := fun vs hv => by
    rw [hv]
    match vs with
    | [] => rfl
    | [v] => rfl
    | _ :: _ :: _ => rfl
  cases x with
  | normal =>
    obtain ⟨vs, hv, k⟩ := k
    refine ⟨n, tup vs, h', ?_, k⟩
    simp only [evFun, memOf, mpOf, hm, hq, hf, hb, if_pos hl, e]
    exact fin vs hv
  | ret =>
    obtain ⟨vs, hv, k⟩ := k
    refine ⟨n, tup vs, h', ?_, k⟩
    simp only [evFun, memOf, mpOf, hm, hq, hf, hb, if_pos hl, e]
    exact fin vs hv
  | exit i => exact k.elim
/-- A function that is known. -/
theorem CallP.memo {f : FuncId} {args : List Value} {v : Value} {K : Value → H → Prop} (hm : memoOf E.memo f args = some v) (hb : ∃ fn c, E.P.funcs[f]? = some fn ∧ fn.body = some c) (hk : K v h) : CallP E f args h K := ⟨hb, 0, v, h, by simp only [evFun, memOf, hm], hk⟩
/-- A function of which it is known what it does to the memory. -/
theorem CallP.mem {f : FuncId} {args : List Value} {p : MPrim} {r : MOut} {v : Value} {h' : H} {K : Value → H → Prop} (hm : memoOf E.memo f args = none) (hq : mprimOf E.mem f = some p) (hp : p args h = some r) (ho : mOn h r = some (v, h')) (hb : ∃ fn c, E.P.funcs[f]? = some fn ∧ fn.body = some c) (hk : K v h') : CallP E f args h K := ⟨hb, 0, v, h', by simp only [evFun, memOf, mpOf, hm, hq, hp, ho], hk⟩
end
end Go.Proofs.Ytknenadpkgajjaa.GEv
