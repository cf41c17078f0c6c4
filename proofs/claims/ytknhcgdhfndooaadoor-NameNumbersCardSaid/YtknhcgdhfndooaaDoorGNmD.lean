/- strings.Builder's String, by a symbolic run. -/
import Derived.Test.YtknhcgdhfndooaaDoorGNmB
import Derived.Test.YtknhcgdhfndooaaDoorGSyD
namespace Go.Proofs.YtknhcgdhfndooaaDoor.GEv
open Go
set_option linter.unusedSimpArgs false
set_option linter.unusedVariables false
theorem raw_data {E : Env} {l : L} {h : H} {dst ty pos after guard x ts} {a : Addr} {n c : Nat} {K : Value → H → Prop} (hx : evL l x = some (.slice (some a) (n + 1) c)) (hk : K (.pointer (some a)) h) :
    RawP E l h ⟨dst, .call ⟨.builtin .unsafeSliceData, #[x], ts⟩, ty, pos, after, guard⟩ K := ⟨fun tm hv => by
  refine OpP.val ?_ hk
  show hCallB E.P tm h _ _ _ = _
  have q : evList tm (#[x] : Array Operand).toList = some [.slice (some a) (n + 1) c] := by
    show evList tm [x] = _
    simp only [evList, evL_ok hv hx]
  simp only [hCallB, q, evBuiltin]⟩
theorem ptrU : EM2.P.underlying 61 = some (.pointer 5) := by kernel_rfl
theorem cellU : EM2.P.cellsOf 5 = 1 := by kernel_rfl
theorem bytesOf_V : ∀ l : List UInt8, bytesOf (bytesV ⟨⟨l⟩⟩) = some l
  | [] => rfl
  | b :: l => by
    have h1 : Nat.ble b.toNat 255 = true := Nat.ble_eq_true_of_le (by have := b.toNat_lt; omega)
    have h2 := bytesOf_V l
    show bytesOf (.int .u8 (.ofNat b.toNat) :: bytesV ⟨⟨l⟩⟩) = _
    simp only [bytesOf, h1, h2]
    simp
theorem raw_ustr {E : Env} {l : L} {h : H} {dst ty pos after guard x y} {pt t2 e r : Nat} {bs : List UInt8} {K : Value → H → Prop} (hx : evL l x = some (.pointer (some ⟨r, 0, none⟩))) (hy : evL l y = some (.int .i64 (.ofNat bs.length))) (hn : bs ≠ []) (hl : bs.length ≤ 1000000)
    (h1 : E.P.underlying pt = some (.pointer e)) (h2 : E.P.cellsOf e = 1) (hr : h.m.get r = some (.cells (bytesV ⟨⟨bs⟩⟩) (some e) false 0)) (hk : K (.string ⟨⟨bs⟩⟩) (h.put r none)) :
    RawP E l h ⟨dst, .call ⟨.builtin .unsafeString, #[x, y], #[pt, t2]⟩, ty, pos, after, guard⟩ K := ⟨fun tm hv => by
  refine OpP.val ?_ hk
  show hCallB E.P tm h _ _ _ = _
  have q : evList tm (#[x, y] : Array Operand).toList = some [.pointer (some ⟨r, 0, none⟩), .int .i64 (.ofNat bs.length)] := by
    show evList tm [x, y] = _
    simp only [evList, evL_ok hv hx, evL_ok hv hy]
  have hc : cut (bytesV ⟨⟨bs⟩⟩) 0 bs.length = some (bytesV ⟨⟨bs⟩⟩) := by
    unfold cut
    rw [if_pos (by rw [bytes_len]; omega), List.drop_zero, List.take_of_length_le (by rw [bytes_len]; omega)]
  simp only [hCallB, q, evBuiltin]
  show evUStr E.P h pt ⟨r, 0, none⟩ bs.length = _
  obtain ⟨n, hn'⟩ : ∃ n, bs.length = n + 1 := ⟨bs.length - 1, by have := List.length_pos_iff.2 hn; omega⟩
  have hb : Nat.ble (n + 1) 9223372036854775807 = true := Nat.ble_eq_true_of_le (by omega)
  rw [hn'] at hc ⊢
  simp only [evUStr, h1, hr, h2, decide_true, hb, hc, bytesOf_V]⟩
theorem raw_data0 {E : Env} {l : L} {h : H} {dst ty pos after guard x ts} {K : Value → H → Prop} (hx : evL l x = some (.slice none 0 0)) (hk : K (.pointer none) h) :
    RawP E l h ⟨dst, .call ⟨.builtin .unsafeSliceData, #[x], ts⟩, ty, pos, after, guard⟩ K := ⟨fun tm hv => by
  refine OpP.val ?_ hk
  have q1 := evL_ok hv hx
  have e1 : evA' tm x = .slice none 0 0 := by simp only [evA', q1, Option.getD_some]
  have hp : allFlat tm [x] = true := by simp only [allFlat, q1]; rfl
  show hCallB E.P tm h _ _ _ = _
  have q : evList tm (#[x] : Array Operand).toList = some [.slice none 0 0] := by
    show evList tm [x] = _
    simp only [evList, q1]
  simp only [hCallB, q, evBuiltin, evPure]
  rw [show (Op.operands (.call ⟨.builtin .unsafeSliceData, #[x], ts⟩)).toList = [x] from rfl, hp, if_pos rfl]
  have hex : pureRun E.P (execOp (evA' tm) ⟨dst, .call ⟨.builtin .unsafeSliceData, #[x], ts⟩, ty, pos, after, guard⟩) = some (.value (.pointer none)) := by
    have hr : resolve (evA' tm) ⟨.builtin .unsafeSliceData, #[x], ts⟩ ty = pure { target := .builtin .unsafeSliceData ts ty (#[x].map fun | .const _ => true | _ => false), args := #[.slice none 0 0] } := by
      simp [resolve, e1]
      rfl
    show pureRun E.P (resolve (evA' tm) ⟨.builtin .unsafeSliceData, #[x], ts⟩ ty >>= fun d => invoke d.target d.args) = _
    rw [hr, pureRun_bind (x := { target := .builtin .unsafeSliceData ts ty (#[x].map fun | .const _ => true | _ => false), args := #[.slice none 0 0] }) _ rfl]
    rfl
  rw [hex]
  rfl⟩
theorem raw_ustr0 {E : Env} {l : L} {h : H} {dst ty pos after guard x y} {pt t2 : TypeId} {K : Value → H → Prop} (hx : evL l x = some (.pointer none)) (hy : evL l y = some (.int .i64 0)) (hk : K (.string ⟨⟨[]⟩⟩) h) :
    RawP E l h ⟨dst, .call ⟨.builtin .unsafeString, #[x, y], #[pt, t2]⟩, ty, pos, after, guard⟩ K := ⟨fun tm hv => by
  refine OpP.val ?_ hk
  have q1 := evL_ok hv hx
  have q2 := evL_ok hv hy
  have e1 : evA' tm x = .pointer none := by simp only [evA', q1, Option.getD_some]
  have e2 : evA' tm y = .int .i64 0 := by simp only [evA', q2, Option.getD_some]
  have hp : allFlat tm [x, y] = true := by simp only [allFlat, q1, q2]; rfl
  show hCallB E.P tm h _ _ _ = _
  have q : evList tm (#[x, y] : Array Operand).toList = some [.pointer none, .int .i64 0] := by
    show evList tm [x, y] = _
    simp only [evList, q1, q2]
  simp only [hCallB, q, evBuiltin, evPure]
  rw [show (Op.operands (.call ⟨.builtin .unsafeString, #[x, y], #[pt, t2]⟩)).toList = [x, y] from rfl, hp, if_pos rfl]
  have hex : pureRun E.P (execOp (evA' tm) ⟨dst, .call ⟨.builtin .unsafeString, #[x, y], #[pt, t2]⟩, ty, pos, after, guard⟩) = some (.value (.string ⟨⟨[]⟩⟩)) := by
    have hr : resolve (evA' tm) ⟨.builtin .unsafeString, #[x, y], #[pt, t2]⟩ ty = pure { target := .builtin .unsafeString #[pt, t2] ty (#[x, y].map fun | .const _ => true | _ => false), args := #[.pointer none, .int .i64 0] } := by
      simp [resolve, e1, e2]
      rfl
    show pureRun E.P (resolve (evA' tm) ⟨.builtin .unsafeString, #[x, y], #[pt, t2]⟩ ty >>= fun d => invoke d.target d.args) = _
    rw [hr, pureRun_bind (x := { target := .builtin .unsafeString #[pt, t2] ty (#[x, y].map fun | .const _ => true | _ => false), args := #[.pointer none, .int .i64 0] }) _ rfl]
    rfl
  rw [hex]
  rfl⟩
/-- The region of String, by its parts. -/
def strRegion (c : Code) : List Oper := match c with
  | .seq _ (.seq (.region _ ops _) _) => ops.toList
  | _ => []
noncomputable def strOps : List Oper := match (Tryd.f32 : Func).body with
  | some c => strRegion c
  | none => []
noncomputable def strFront : List Oper := strOps.take 10
noncomputable def strLast : Oper := strOps.getD 10 default
noncomputable def strSet : Oper := strOps.getD 11 default
set_option maxRecDepth 100000
attribute [local cbv_opaque] isString isSlice isBoolT fOff iSize eqNil zero H.load H.store H.push H.dip H.put List.length List.getD Nat.add top
section
variable {E : Env} (hE : E = EM2)
include hE
theorem bString (b : Nat) (l : List UInt8) (h : H) (hb : IsB h b l) (hl : l.length ≤ 1000000) (K : Value → H → Prop) (hk : ∀ h', K (.string ⟨⟨l⟩⟩) h') : CallP E 32 [.pointer (some ⟨b, 0, none⟩)] h K := by
  have f1 : fOff E.P 44 1 = some 1 := by rw [hE]; exact bF1
  have a0 : isAgg E.P 36 = some false := by rw [hE]; exact sA
  have z0 : sizeOf E.P 36 = some 1 := by rw [hE]; exact sZ
  have hL : isSlice E.1 (some 36) = true := by rw [hE]; exact bytesT
  have u2 : E.P.underlying 61 = some (.pointer 5) := by rw [hE]; exact ptrU
  have c2 : E.P.cellsOf 5 = 1 := by rw [hE]; exact cellU
  obtain ⟨p, s, hg, hp, hs⟩ := hb.ex
  have ld : ∀ low, H.load E.P ⟨h.m, h.next, low⟩ 36 ⟨b, 1, none⟩ = some s := by
    intro low
    simp only [H.load, a0, z0, H.read, hg, cut]
    rfl
  refine CallP.enter (by rw [hE]; rfl) (by rw [hE]; exact Tryd.func32) rfl (Nat.le_of_ble_eq_true rfl) ?_
  refine (Ends.seq (kn := Up (retL E.P [.tmp 2] K)) (kr := Up (retL E.P [.tmp 2] K)) (ke := fun _ => Up fun _ _ => False) ?_).mono ?_ ?_ ?_
  · refine (sy_ok E _ _ _ _ h (fun l1 h1 => l1 = [(2, .string ⟨⟨[]⟩⟩), (0, .pointer (some ⟨b, 0, none⟩))] ∧ h1 = h) (fun _ _ => False) (fun _ _ _ => False) (view_args _) ?_).mono ?_ ?_ ?_
    · exact And.intro rfl rfl
    · rintro tm h1 ⟨l1, hv, rfl, rfl⟩
      rcases hs with ⟨rfl, rfl⟩ | ⟨r, r1, r2, r0, rfl, r4⟩
      · have hD := fun q h dst ty pos after guard x ts K hx hk => raw_data0 (E := E) (l := q) (h := h) (dst := dst) (ty := ty) (pos := pos) (after := after) (guard := guard) (x := x) (ts := ts) (K := K) hx hk
        refine Ends.seq ((Ends.drawK (kn := fun l2 h2 => look l2 2 = some (.string ⟨⟨[]⟩⟩)) (kr := fun _ _ => False) (ke := fun _ _ _ => False) (K := fun l2 => look l2 7 = some (.pointer none) ∧ look l2 12 = some (.int .i64 (.ofNat 0))) (front := strFront) (o := strLast) (a := strSet) rfl (by kernel_rfl) rfl (by decide) rfl rfl hv ?_ ?_).mono ?_ ?_ ?_)
        · cbv
          refine ⟨1, f1, ?_⟩
          cbv
          refine ⟨_, ld _, ?_⟩
          cbv
          refine hD _ _ _ _ _ _ _ _ _ _ rfl ?_
          cbv
          refine ⟨1, f1, ?_⟩
          cbv
          refine ⟨_, ld _, ?_⟩
          cbv
          first | (refine And.intro hL ?_; cbv; exact True.intro) | trace_state
        · rintro l1 ⟨q7, q12⟩
          refine ⟨rfl, rfl, ?_⟩
          refine raw_ustr0 q7 q12 ?_
          exact ⟨rfl, rfl, fun low h3 => rfl⟩
        · rintro tm2 h2 ⟨l2, hv2, e⟩
          exact Ends.ret ⟨l2, hv2, [_], by simp only [resL, e], hk _⟩
        · rintro tm2 h2 ⟨_, _, q⟩; exact q.elim
        · rintro i tm2 h2 ⟨_, _, q⟩; exact q.elim
      obtain ⟨n, hn⟩ : ∃ n, l.length = n + 1 := ⟨l.length - 1, by have := List.length_pos_iff.2 r0; omega⟩
      have hD := fun q h dst ty pos after guard x ts K hx hk => raw_data (E := E) (l := q) (h := h) (dst := dst) (ty := ty) (pos := pos) (after := after) (guard := guard) (x := x) (ts := ts) (a := ⟨r, 0, none⟩) (n := n) (c := UNK + 1) (K := K) hx hk
      rw [hn] at ld
      refine Ends.seq ((Ends.drawK (kn := fun l2 h2 => look l2 2 = some (.string ⟨⟨l⟩⟩)) (kr := fun _ _ => False) (ke := fun _ _ _ => False) (K := fun l2 => look l2 7 = some (.pointer (some ⟨r, 0, none⟩)) ∧ look l2 12 = some (.int .i64 (.ofNat (n + 1)))) (front := strFront) (o := strLast) (a := strSet) rfl (by kernel_rfl) rfl (by decide) rfl rfl hv ?_ ?_).mono ?_ ?_ ?_)
      · cbv
        refine ⟨1, f1, ?_⟩
        cbv
        refine ⟨_, ld _, ?_⟩
        cbv
        refine hD _ _ _ _ _ _ _ _ _ _ rfl ?_
        cbv
        refine ⟨1, f1, ?_⟩
        cbv
        refine ⟨_, ld _, ?_⟩
        cbv
        refine And.intro hL ?_
        cbv
        exact True.intro
      · rintro l1 ⟨q7, q12⟩
        refine ⟨rfl, rfl, ?_⟩
        refine raw_ustr q7 (by rw [hn]; exact q12) r0 hl u2 c2 r4 ?_
        exact ⟨rfl, rfl, fun low h3 => rfl⟩
      · rintro tm2 h2 ⟨l2, hv2, e⟩
        exact Ends.ret ⟨l2, hv2, [_], by simp only [resL, e], hk _⟩
      · rintro tm2 h2 ⟨_, _, q⟩; exact q.elim
      · rintro i tm2 h2 ⟨_, _, q⟩; exact q.elim
    · rintro tm h1 ⟨_, _, q⟩; exact q.elim
    · rintro i tm h1 ⟨_, _, q⟩; exact q.elim
  · rintro tm h1 ⟨l1, hv, vs, e, k⟩
    exact ⟨vs, resL_ok hv e, k⟩
  · rintro tm h1 ⟨l1, hv, vs, e, k⟩
    exact ⟨vs, resL_ok hv e, k⟩
  · rintro i tm h1 ⟨l1, hv, q⟩
    exact q
end
end Go.Proofs.YtknhcgdhfndooaaDoor.GEv
