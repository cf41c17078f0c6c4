/- 'strconv.ParseUint' of the package strconv: its errors, by a symbolic run. -/
import Derived.Test.YtknhcgdhfndooaaDoorGNmU
import Derived.Test.YtknhcgdhfndooaaDoorGSyD
namespace Go.Proofs.YtknhcgdhfndooaaDoor.GEv
open Go
set_option linter.unusedSimpArgs false
set_option linter.unusedVariables false
theorem errA : isAgg EM.P 48 = some false := by kernel_rfl
def fieldsOf : Option TypeDesc → Array Field
  | some (.struct fs) => fs
  | _ => #[]
noncomputable def neF : Array Field := fieldsOf (EM.P.underlying 90)
noncomputable def neZ : Value := (zero EM.P 90).getD undef
theorem neU : EM.P.underlying 90 = some (.struct neF) := by kernel_rfl
theorem neZero : zero EM.P 90 = some neZ := by kernel_rfl
theorem neAll : neF.toList.all (fun f => (sizeOf EM.P f.type).isSome) = true := by kernel_rfl
theorem nePlaces : neZ.cells.toList.length = 3 ∧ (neF[0]?).map (fun f => (f.offset, sizeOf EM.P f.type)) = some (0, some 1) ∧ (neF[1]?).map (fun f => (f.offset, sizeOf EM.P f.type)) = some (1, some 1) ∧ (neF[2]?).map (fun f => (f.offset, sizeOf EM.P f.type)) = some (2, some 1) := ⟨by kernel_rfl, by kernel_rfl, by kernel_rfl, by kernel_rfl⟩
theorem place_of {P : Program} {fs : Array Field} {i o s : Nat} (h : (fs[i]?).map (fun f => (f.offset, sizeOf P f.type)) = some (o, some s)) : ((fs[i]?).bind fun f => (sizeOf P f.type).map fun s => (f.offset, s)) = some (o, s) := by
  cases hf : fs[i]? with
  | none => rw [hf] at h; cases h
  | some f =>
    rw [hf] at h
    simp only [Option.map_some, Option.some.injEq, Prod.mk.injEq] at h
    simp only [Option.bind_some, h.2, Option.map_some, h.1]
theorem fill3 {g : Nat → Option (Nat × Nat)} {c : List Value} (hc : c.length = 3) (h0 : g 0 = some (0, 1)) (h1 : g 1 = some (1, 1)) (h2 : g 2 = some (2, 1)) {a b d : Value} (ha : a.cells.toList = [a]) (hb : b.cells.toList = [b]) (hd : d.cells.toList = [d]) :
    fillL g c [(0, a), (1, b), (2, d)] = some [a, b, d] := by
  match c, hc with
  | [x, y, z], _ => simp [fillL, h0, h1, h2, ha, hb, hd, over]
/-- The region of 'syntaxError', by its parts. -/
def regionOf (c : Code) : List Oper := match c with
  | .seq _ (.seq (.region _ ops _) _) => ops.toList
  | _ => []
noncomputable def seOps : List Oper := match (Tryd.f75 : Func).body with
  | some c => regionOf c
  | none => []
noncomputable def seFront : List Oper := seOps.take 5
noncomputable def seLast : Oper := seOps.getD 5 default
noncomputable def seSet : Oper := seOps.getD 6 default
theorem ifaceEq : pureRun EM.P (eqGuard .eql 48 (.tmp 11) (.tmp 13) (.iface 83 (.int .i64 (.ofNat 2))) (.iface 83 (.int .i64 (.ofNat 2)))) = some () ∧ pureRun EM.P (binOp .eql 48 (.iface 83 (.int .i64 (.ofNat 2))) (.iface 83 (.int .i64 (.ofNat 2)))) = some (.bool true) := ⟨by kernel_rfl, by kernel_rfl⟩
theorem nilNe : pureRun EM.P (binOp .neq 48 (.iface 83 (.int .i64 (.ofNat 2))) .nilIface) = some (.bool true) ∧ pureRun EM.P (binOp .neq 48 .nilIface .nilIface) = some (.bool false) := ⟨by kernel_rfl, by kernel_rfl⟩
theorem nilGuard : pureRun EM.P (eqGuard .neq 48 (.tmp 17) (.const .nilIface) .nilIface .nilIface) = some () := by kernel_rfl
set_option maxRecDepth 100000
attribute [local cbv_opaque] isString isSlice isBoolT fOff iSize eqNil zero H.load H.store H.push H.dip H.put List.length List.getD Nat.add top
section
variable {E : Env} (hE : E = EM)
include hE
theorem cloneC (s : ByteArray) (hl : s.size ≤ 4000000000) (h : H) (K : Value → H → Prop) (hk : K (.string s) h) : CallP E 79 [.string s] h K := by
  refine CallP.memo (v := .string s) ?_ (by rw [hE]; exact ⟨_, _, Tryd.func79, rfl⟩) hk
  rw [hE]
  show cloneP [.string s] = _
  have : Nat.ble s.size 4000000000 = true := Nat.ble_eq_true_of_le hl
  simp only [cloneP, this]
theorem syntaxErr (s1 s2 : ByteArray) (hl : s2.size ≤ 4000000000) (h : H) (K : Value → H → Prop) (hk : ∀ a h', K (.pointer (some a)) h') : CallP E 75 [.string s1, .string s2] h K := by
  have n1 := fun h K hk => cloneC hE s2 hl h K hk
  have ea : isAgg E.P 48 = some false := by rw [hE]; exact errA
  have hB := fun q h dst ty pos after guard ps K (hp : evsP q ps.toList = some [(0, .string s1), (1, .string s2), (2, junk)]) hk => raw_build (E := E) (l := q) (h := h) (dst := dst) (ty := ty) (pos := pos) (after := after) (guard := guard) (t := 90) (ps := ps) (K := K) (z := neZ) (fs := neF) (c := [.string s1, .string s2, junk]) hp (by rw [hE]; exact neZero) (by rw [hE]; exact neU)
    (by rw [hE]; exact fill3 nePlaces.1 (place_of nePlaces.2.1) (place_of nePlaces.2.2.1) (place_of nePlaces.2.2.2) rfl rfl rfl) (by rw [hE]; exact neAll) hk
  refine CallP.enter (by rw [hE]; rfl) (by rw [hE]; exact Tryd.func75) rfl (Nat.le_of_ble_eq_true rfl) ?_
  refine (Ends.seq (kn := Up (retL E.P [.tmp 4] K)) (kr := Up (retL E.P [.tmp 4] K)) (ke := fun _ => Up fun _ _ => False) ?_).mono ?_ ?_ ?_
  · refine (sy_ok E _ _ _ _ h (fun l1 h1 => l1 = [(4, .pointer none), (0, .string s1), (1, .string s2)] ∧ h1 = h) (fun _ _ => False) (fun _ _ _ => False) (view_args _) ?_).mono ?_ ?_ ?_
    · exact And.intro rfl rfl
    · rintro tm h1 ⟨l1, hv, rfl, rfl⟩
      refine Ends.seq ((Ends.drawK (kn := fun l2 h2 => ∃ a, look l2 4 = some (.pointer (some a))) (kr := fun _ _ => False) (ke := fun _ _ _ => False) (K := fun l2 => look l2 9 = some (.agg #[.string s1, .string s2, junk])) (front := seFront) (o := seLast) (a := seSet) rfl (by kernel_rfl) rfl (by decide) rfl rfl hv ?_ ?_).mono ?_ ?_ ?_)
      · clear hE
        cbv
        refine .inl (n1 _ _ ⟨rfl, ?_⟩)
        cbv
        refine raw_glob rfl ea ?_
        cbv
        refine hB _ _ _ _ _ _ _ _ _ rfl ⟨rfl, ?_⟩
        cbv
      · intro l1 q9
        refine ⟨rfl, rfl, ?_⟩
        show onS (evL l1 (.tmp 9)) _
        rw [show evL l1 (.tmp 9) = some (.agg #[.string s1, .string s2, junk]) from q9]
        exact ⟨rfl, rfl, fun low h3 => ⟨_, rfl⟩⟩
      · rintro tm2 h2 ⟨l2, hv2, a, e⟩
        exact Ends.ret ⟨l2, hv2, [.pointer (some a)], by simp only [resL, e], hk a _⟩
      · rintro tm2 h2 ⟨_, _, q⟩; exact q.elim
      · rintro i tm2 h2 ⟨_, _, q⟩; exact q.elim
    · rintro tm h1 ⟨_, _, q⟩; exact q.elim
    · rintro i tm h1 ⟨_, _, q⟩; exact q.elim
  · rintro tm h1 ⟨l1, hv, vs, e, k⟩
    exact ⟨vs, resL_ok hv e, k⟩
  · rintro tm h1 ⟨l1, hv, vs, e, k⟩
    exact ⟨vs, resL_ok hv e, k⟩
  · rintro i tm h1 ⟨l1, hv, q⟩
    exact q
theorem toErr (s1 s2 : ByteArray) (b z : Int) (hl : s2.size ≤ 4000000000) (h : H) (K : Value → H → Prop) (hk : ∀ a h', K (.iface 85 (.pointer (some a))) h') :
    CallP E 69 [.string s1, .string s2, .int .i64 b, .int .i64 z, .iface 83 (.int .i64 (.ofNat 2))] h K := by
  refine CallP.ofE hE rfl Tryd.func69 rfl (Nat.le_of_ble_eq_true rfl) ?_
  obtain ⟨ue, e1, e2⟩ : ∃ u, E.P.underlying 83 = some u ∧ ∀ ms, u ≠ .interface ms := by rw [hE]; exact errU
  obtain ⟨un, e3, e4⟩ : ∃ u, E.P.underlying 85 = some u ∧ ∀ ms, u ≠ .interface ms := by rw [hE]; exact nerU
  have n1 := fun h K hk => syntaxErr hE s1 s2 hl h K hk
  have g1 : pureRun E.P (eqGuard .eql 48 (.tmp 11) (.tmp 13) (.iface 83 (.int .i64 (.ofNat 2))) (.iface 83 (.int .i64 (.ofNat 2)))) = some () := by rw [hE]; exact ifaceEq.1
  have g2 : pureRun E.P (binOp .eql 48 (.iface 83 (.int .i64 (.ofNat 2))) (.iface 83 (.int .i64 (.ofNat 2)))) = some (.bool true) := by rw [hE]; exact ifaceEq.2
  clear hE
  cbv
  refine raw_iface rfl e1 e2 ?_
  cbv
  refine raw_eq rfl rfl rfl (fun _ _ _ _ q => by cases q) (fun _ _ q => by cases q) g1 g2 rfl ?_
  cbv
  refine .inl (n1 _ _ fun a h' => ?_)
  cbv
  refine raw_iface rfl e3 e4 ?_
  cbv
  exact ⟨_, rfl, hk _ _⟩
theorem uOuter (hex : Bool) (l : List UInt8) (h0 : 1 ≤ l.length) (h7 : l.length ≤ 7) (h : H) (K : Value → H → Prop) (hk1 : ∀ n, numF hex 0 l = some n → ∀ h', K (.tuple #[.int .u64 (.ofNat n), .nilIface]) h')
    (hk2 : numF hex 0 l = none → ∀ a h', K (.tuple #[.int .u64 (.ofNat 0), .iface 85 (.pointer (some a))]) h') :
    CallP E 56 [.string ⟨⟨l⟩⟩, .int .i64 (.ofNat (baseV hex)), .int .i64 (.ofNat 32)] h K := by
  refine CallP.ofE hE rfl Tryd.func56 rfl (Nat.le_of_ble_eq_true rfl) ?_
  have n0 := fun h K hk => uInner hE hex l h0 h7 h K hk
  have n1 := fun h K hk => toErr hE ⟨⟨[80, 97, 114, 115, 101, 85, 105, 110, 116]⟩⟩ ⟨⟨l⟩⟩ (.ofNat (baseV hex)) (.ofNat 32) (show l.length ≤ 4000000000 by omega) h K hk
  have g1 : pureRun E.P (eqGuard .neq 48 (.tmp 17) (.const .nilIface) .nilIface .nilIface) = some () := by rw [hE]; exact nilGuard
  have g2 : pureRun E.P (binOp .neq 48 .nilIface .nilIface) = some (.bool false) := by rw [hE]; exact nilNe.2
  have g3 : pureRun E.P (binOp .neq 48 (.iface 83 (.int .i64 (.ofNat 2))) .nilIface) = some (.bool true) := by rw [hE]; exact nilNe.1
  clear hE
  generalize numF hex 0 l = r at n0 hk1 hk2
  cases r with
  | some n =>
    have hk1 := hk1 n rfl
    clear hk2 n1
    unfold uintV at n0
    cases hex
    all_goals cbv
    all_goals (refine .inl (n0 _ _ fun h' => ?_); cbv)
    all_goals (refine raw_eq rfl rfl rfl (fun _ _ _ _ q => by cases q) (fun _ _ q => by cases q) g1 g2 rfl ?_; cbv)
    all_goals exact ⟨_, rfl, hk1 _⟩
  | none =>
    have hk2 := hk2 rfl
    clear hk1
    unfold uintV at n0
    cases hex
    all_goals cbv
    all_goals (refine .inl (n0 _ _ fun h' => ?_); cbv)
    all_goals (refine raw_eq rfl rfl rfl (fun _ _ _ _ q => by cases q) (fun _ _ q => by cases q) rfl g3 rfl ?_; cbv)
    all_goals (refine .inl (n1 _ _ fun a h' => ?_); cbv)
    all_goals exact ⟨_, rfl, hk2 _ _⟩
end
end Go.Proofs.YtknhcgdhfndooaaDoor.GEv
