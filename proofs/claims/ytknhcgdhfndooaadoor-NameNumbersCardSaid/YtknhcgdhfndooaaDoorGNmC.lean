/- 'NameChars', by a symbolic run: the two tell signs alike. -/
import Derived.Test.YtknhcgdhfndooaaDoorGNmV
namespace Go.Proofs.YtknhcgdhfndooaaDoor.GEv
open Go
open Go.RowKit (Below)

/-- P1.1 -/
def sign (r : Int) : Bool := decide (r = 9) || decide (r = 10) || decide (r = 13) || (decide (32 ≤ r) && decide (r ≤ 55295)) || (decide (57344 ≤ r) && decide (r ≤ 65533)) || (decide (65536 ≤ r) && decide (r ≤ 1114111))
theorem eqb {K : Value → H → Prop} {h : H} {a b : Bool} (hk : K (.bool a) h) (e : b = a) : K (.bool b) h := e ▸ hk
theorem CallP.ofE {E E' : Env} {f : FuncId} {fn : Func} {c : Code} {args : List Value} {h : H} {K : Value → H → Prop} (hE : E = E') (hm : memoOf E'.memo f args = none) (hf : E'.P.funcs[f]? = some fn) (hb : fn.body = some c) (hl : args.length ≤ fn.ntmps)
    (hk : sy E fn.ntmps c (argsL 0 args) h (retL E.P fn.results.toList K) (retL E.P fn.results.toList K) (fun _ _ _ => False)) : CallP E f args h K := CallP.of (by rw [hE]; exact hm) (by rw [hE]; exact hf) hb hl hk
theorem boolT : isBoolT EM.P 4 = true := by kernel_rfl
set_option maxRecDepth 100000
attribute [local cbv_opaque] isString isSlice isBoolT fOff iSize eqNil zero H.load H.store
section
variable {E : Env} (hE : E = EM)
include hE
theorem nChar (r : Int) (h : H) (K : Value → H → Prop) (hk : K (.bool (sign r)) h) : CallP E 12 [.int .i32 r] h K := by
  refine CallP.ofE hE rfl Tryd.func12 rfl (Nat.le_of_ble_eq_true rfl) ?_
  clear hE
  cases r
  all_goals cbv
  all_goals repeat' (refine And.intro (fun h1 => ?_) (fun h1 => ?_) <;> cbv)
  all_goals refine ⟨_, rfl, ?_⟩
  all_goals (refine eqb hk ?_; clear hk; simp [sign]; omega)
theorem rChar (r : Int) (h : H) (K : Value → H → Prop) (hk : K (.bool (sign r)) h) : CallP E 13 [.int .i32 r] h K := by
  refine CallP.ofE hE rfl Tryd.func13 rfl (Nat.le_of_ble_eq_true rfl) ?_
  clear hE
  cases r
  all_goals cbv
  all_goals repeat' (refine And.intro (fun h1 => ?_) (fun h1 => ?_) <;> cbv)
  all_goals refine ⟨_, rfl, ?_⟩
  all_goals (refine eqb hk ?_; clear hk; simp [sign]; omega)
theorem knownK (h : H) (K : Value → H → Prop) (hk : K (.bool true) h) : CallP E 14 [] h K := CallP.memo (by rw [hE]; rfl) (by rw [hE]; exact ⟨_, _, Tryd.func14, rfl⟩) hk
theorem nameChars (r : Int) (h : H) : CallP E 3 [.int .i32 r] h (fun v h' => v = .bool true ∧ h' = h) := by
  refine CallP.ofE hE rfl Tryd.func3 rfl (Nat.le_of_ble_eq_true rfl) ?_
  have n1 := fun h K hk => nChar hE r h K hk
  have n2 := fun h K hk => rChar hE r h K hk
  have n3 := fun h K hk => knownK hE h K hk
  have hB : isBoolT E.1 4 = true := by rw [hE]; exact boolT
  clear hE
  generalize sign r = b at n1 n2
  cases b
  all_goals cbv
  all_goals (refine .inl (n1 _ _ ?_); cbv; refine .inl (n2 _ _ ?_); cbv; refine ⟨hB, ?_⟩; refine .inl (n3 _ _ ?_); cbv)
  all_goals exact ⟨_, rfl, rfl, rfl⟩
theorem nameChars_calls (hOK : E.OK) (r : Int) {W : World} (hw : WOK W) (hs : GN ≤ W.heap.size) : Calls E.P 3 #[.int .i32 r] W fun e W' => e = .returned (.bool true) ∧ Below W.heap.size W W' := by
  obtain ⟨n, v, h', he, rfl, _⟩ := (nameChars hE r h0).ex
  exact calls_flat (args := [.int .i32 r]) hOK (n := n) (by simp only [result, run, he]) rfl rfl hw hs
end
end Go.Proofs.YtknhcgdhfndooaaDoor.GEv
