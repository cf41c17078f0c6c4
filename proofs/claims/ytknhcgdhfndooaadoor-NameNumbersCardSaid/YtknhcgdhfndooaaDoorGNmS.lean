/- Texts cut at a byte, by symbolic runs. -/
import Derived.Test.YtknhcgdhfndooaaDoorGNmL
namespace Go.Proofs.YtknhcgdhfndooaaDoor.GEv
open Go
open Go.RowKit (Below)
set_option linter.unusedSimpArgs false
set_option linter.unusedVariables false
/-- Where a byte stands first. -/
def whereB (c : UInt8) (s : ByteArray) : Value := match (List.range s.size).find? fun i => s[i]! == c with
  | some i => .int .i64 i
  | none => .int .i64 (-1)
theorem run_index {P : Program} (s : ByteArray) (c : UInt8) : pureRun P (Extern.BytealgIndexByte.indexByte #[.string s, .int .u8 (.ofNat c.toNat)]) = some (whereB c s) := by
  have hc : (Int.ofNat c.toNat).toNat.toUInt8 = c := by
    show c.toNat.toUInt8 = c
    simp
  have h1 : pureRun P (Extern.Bytes.bytesOf (.string s)) = some s := rfl
  have h2 : pureRun P (Extern.Bytes.asByte (.int .u8 (.ofNat c.toNat))) = some c := by
    show some ((Int.ofNat c.toNat).toNat.toUInt8) = some c
    rw [hc]
  unfold whereB
  show pureRun P (Extern.Bytes.bytesOf (.string s) >>= fun b => Extern.Bytes.asByte (.int .u8 (.ofNat c.toNat)) >>= fun c => (match (List.range b.size).find? fun i => b[i]! == c with
    | some i => pure (goInt i)
    | none => pure (goInt (-1)))) = _
  rw [pureRun_bind _ h1, pureRun_bind _ h2]
  cases (List.range s.size).find? fun i => s[i]! == c <;> rfl
theorem whereB_flat (c : UInt8) (s : ByteArray) : flat2 (whereB c s) = true := by
  unfold whereB
  cases (List.range s.size).find? fun i => s[i]! == c <;> rfl
theorem raw_index {E : Env} {l : L} {h : H} {dst ty pos after guard f ts x y} {s : ByteArray} {c : UInt8} {fn : Func} {K : Value → H → Prop} (hx : evL l x = some (.string s)) (hy : evL l y = some (.int .u8 (.ofNat c.toNat)))
    (hf : E.P.funcs[f]? = some fn) (h1 : (fn.name == "runtime.NumGoroutine") = false) (h2 : fn.body.isNone = true) (h3 : Extern.findNext fn = none) (h4 : Extern.find fn = some Extern.BytealgIndexByte.indexByte)
    (c1 : E.clone ≠ some f) (c2 : E.same ≠ some f) (c3 : E.room ≠ some f) (hk : K (whereB c s) h) : RawP E l h ⟨dst, .call ⟨.value (.func f), #[x, y], ts⟩, ty, pos, after, guard⟩ K := ⟨fun tm hv => by
  refine OpP.val ?_ hk
  have q1 := evL_ok hv hx
  have q2 := evL_ok hv hy
  have hb : fn.body = none := by simpa using h2
  have q0 : evA tm (.func f) = some (.func (.func f) #[] #[]) := rfl
  have hp : allFlat tm [.func f, x, y] = true := by
    simp only [allFlat, q0, q1, q2]
    rfl
  have e0 : evA' tm (.func f) = .func (.func f) #[] #[] := rfl
  have e1 : evA' tm x = .string s := by simp only [evA', q1, Option.getD_some]
  have e2 : evA' tm y = .int .u8 (.ofNat c.toNat) := by simp only [evA', q2, Option.getD_some]
  have hcall : pureRun E.P (callFunc f #[.string s, .int .u8 (.ofNat c.toNat)]) = some (.value (whereB c s)) := by
    unfold callFunc
    rw [pureRun_bind (x := E.P) _ rfl]
    rw [hf]
    simp only [h1, Bool.false_eq_true, if_false, h2, if_true]
    rw [pureRun_bind (x := ()) _ rfl]
    simp only [h3, h4]
    rw [pureRun_bind _ (run_index s c)]
    rfl
  have hex : pureRun E.P (execOp (evA' tm) ⟨dst, .call ⟨.value (.func f), #[x, y], ts⟩, ty, pos, after, guard⟩) = some (.value (whereB c s)) := by
    have hr : resolve (evA' tm) ⟨.value (.func f), #[x, y], ts⟩ ty = pure { target := .fn (.func f) #[], args := #[.string s, .int .u8 (.ofNat c.toNat)] } := by
      simp [resolve, e0, e1, e2, Deferred.ofValue]
    show pureRun E.P (resolve (evA' tm) ⟨.value (.func f), #[x, y], ts⟩ ty >>= fun d => invoke d.target d.args) = _
    rw [hr, pureRun_bind (x := { target := .fn (.func f) #[], args := #[.string s, .int .u8 (.ofNat c.toNat)] }) _ rfl]
    exact hcall
  show hCallV E tm h _ (.func f) [x, y] = _
  simp only [hCallV, q0, evList, q1, q2, evCall, hf, hb, if_neg c1, if_neg c2, if_neg c3, evPure]
  rw [show (Op.operands (.call ⟨.value (.func f), #[x, y], ts⟩)).toList = [.func f, x, y] from rfl, hp, if_pos rfl, hex]
  simp only [whereB_flat, if_true]⟩
/-- What stands ahead of a byte, and behind it. -/
def cutB (c : UInt8) : List UInt8 → Option (List UInt8 × List UInt8)
  | [] => none
  | a :: l => if a = c then some ([], l) else (cutB c l).map fun p => (a :: p.1, p.2)
theorem cutB_some {c : UInt8} : ∀ {l p q : List UInt8}, cutB c l = some (p, q) → l = p ++ c :: q ∧ c ∉ p
  | [], p, q, h => by cases h
  | a :: l, p, q, h => by
    simp only [cutB] at h
    split at h
    · rename_i e; cases h; subst e; exact ⟨rfl, List.not_mem_nil⟩
    · rename_i e
      cases hl : cutB c l with
      | none => rw [hl] at h; cases h
      | some pq =>
        obtain ⟨p', q'⟩ := pq
        rw [hl] at h
        cases h
        obtain ⟨h1, h2⟩ := cutB_some hl
        exact ⟨by rw [h1]; rfl, fun hm => by
          cases hm with
          | head => exact e rfl
          | tail _ hm => exact h2 hm⟩
theorem cutB_none {c : UInt8} : ∀ {l : List UInt8}, cutB c l = none → c ∉ l
  | [], h => List.not_mem_nil
  | a :: l, h => by
    simp only [cutB] at h
    split at h
    · cases h
    · rename_i e
      cases hl : cutB c l with
      | none => intro hm; cases hm with
        | head => exact e rfl
        | tail _ hm => exact cutB_none hl hm
      | some pq => rw [hl] at h; cases h
theorem cutB_of {c : UInt8} : ∀ {p q : List UInt8}, c ∉ p → cutB c (p ++ c :: q) = some (p, q)
  | [], q, h => by simp [cutB]
  | a :: p, q, h => by
    have h1 : a ≠ c := fun e => h (e ▸ List.mem_cons_self ..)
    simp only [List.cons_append, cutB, if_neg h1, cutB_of (p := p) (q := q) (fun hm => h (List.mem_cons_of_mem _ hm)), Option.map_some]
theorem cutB_not {c : UInt8} : ∀ {l : List UInt8}, c ∉ l → cutB c l = none
  | [], h => rfl
  | a :: l, h => by
    have h1 : a ≠ c := fun e => h (e ▸ List.mem_cons_self ..)
    simp only [cutB, if_neg h1, cutB_not (l := l) (fun hm => h (List.mem_cons_of_mem _ hm)), Option.map_none]
theorem byte_at {l : List UInt8} {i : Nat} (h : i < l.length) : (⟨⟨l⟩⟩ : ByteArray)[i]! = l[i] := by
  have : i < (⟨⟨l⟩⟩ : ByteArray).size := h
  rw [getElem!_pos (⟨⟨l⟩⟩ : ByteArray) i this]
  rfl
theorem where_some {c : UInt8} {l p q : List UInt8} (h : cutB c l = some (p, q)) : whereB c ⟨⟨l⟩⟩ = .int .i64 (.ofNat p.length) := by
  obtain ⟨rfl, hn⟩ := cutB_some h
  have hlt : p.length < (p ++ c :: q).length := by simp
  have : (List.range (⟨⟨p ++ c :: q⟩⟩ : ByteArray).size).find? (fun i => (⟨⟨p ++ c :: q⟩⟩ : ByteArray)[i]! == c) = some p.length := by
    rw [List.find?_range_eq_some]
    refine ⟨?_, List.mem_range.2 hlt, fun j hj => ?_⟩
    · rw [byte_at hlt]; simp
    · rw [byte_at (by omega), List.getElem_append_left hj]
      simp only [Bool.not_eq_true', beq_eq_false_iff_ne]
      exact fun e => hn (e ▸ List.getElem_mem hj)
  unfold whereB
  rw [this]
  rfl
theorem where_none {c : UInt8} {l : List UInt8} (h : cutB c l = none) : whereB c ⟨⟨l⟩⟩ = .int .i64 (-1) := by
  have hn := cutB_none h
  have : (List.range (⟨⟨l⟩⟩ : ByteArray).size).find? (fun i => (⟨⟨l⟩⟩ : ByteArray)[i]! == c) = none := by
    rw [List.find?_range_eq_none]
    intro i hi
    rw [byte_at hi]
    simp only [Bool.not_eq_true', beq_eq_false_iff_ne]
    exact fun e => hn (e ▸ List.getElem_mem _)
  unfold whereB
  rw [this]
theorem indexX : ((Tryd.f71.name == "runtime.NumGoroutine") = false) ∧ Tryd.f71.body.isNone = true ∧ Extern.findNext Tryd.f71 = none ∧ Extern.find Tryd.f71 = some Extern.BytealgIndexByte.indexByte := ⟨by kernel_rfl, by kernel_rfl, by kernel_rfl, by kernel_rfl⟩
set_option maxRecDepth 100000
attribute [local cbv_opaque] isString isSlice isBoolT fOff iSize eqNil zero H.load H.store H.push H.dip whereB UInt8.toNat
section
variable {E : Env} (hE : E = EM)
include hE
theorem indexByte (s : ByteArray) (c : UInt8) (h : H) (K : Value → H → Prop) (hk : K (whereB c s) h) : CallP E 63 [.string s, .int .u8 (.ofNat c.toNat)] h K := by
  refine CallP.ofE hE rfl Tryd.func63 rfl (Nat.le_of_ble_eq_true rfl) ?_
  have hX := fun l h dst ty pos after guard ts x y K hx hy hk => raw_index (E := E) (l := l) (h := h) (dst := dst) (ty := ty) (pos := pos) (after := after) (guard := guard) (f := 71) (ts := ts) (x := x) (y := y) (s := s) (c := c) (K := K) hx hy (by rw [hE]; exact Tryd.func71) indexX.1 indexX.2.1 indexX.2.2.1 indexX.2.2.2 (by rw [hE]; decide) (by rw [hE]; decide) (by rw [hE]; decide) hk
  clear hE
  generalize c.toNat = n at hX
  cbv
  refine .inr (hX _ _ _ _ _ _ _ _ _ _ _ rfl rfl ?_)
  cbv
  exact ⟨_, rfl, hk⟩
theorem indexN (c : UInt8) (l : List UInt8) (h : H) (K : Value → H → Prop) (hk : K (whereB c ⟨⟨l⟩⟩) h) : CallP E 53 [.string ⟨⟨l⟩⟩, .string ⟨⟨[c]⟩⟩] h K := by
  refine CallP.ofE hE rfl Tryd.func53 rfl (Nat.le_of_ble_eq_true rfl) ?_
  have hS : isString E.1 9 = true := by rw [hE]; exact stringT
  have n1 := fun h K hk => indexByte hE ⟨⟨l⟩⟩ c h K hk
  clear hE
  cbv
  refine And.intro hS ?_
  refine And.intro (fun h1 => absurd h1 (by omega)) (fun _ => ?_)
  cbv
  refine And.intro (fun h1 => ?_) (fun _ => ?_)
  · have h2 : l = [c] := h1.symm
    subst h2
    cbv
    rw [where_some (p := []) (q := []) (by simp [cutB])] at hk
    exact ⟨_, rfl, hk⟩
  cbv
  refine And.intro (fun _ => ?_) (fun h1 => absurd rfl h1)
  cbv
  refine And.intro hS ?_
  refine .inl (n1 _ _ ?_)
  cbv
  exact ⟨_, rfl, hk⟩
attribute [local cbv_opaque] List.length List.take List.drop Nat.sub isName
attribute [local cbv_eval] List.length_cons List.length_nil
/-- What a cut hands back. -/
def cutV (c : UInt8) (l : List UInt8) : Value := match cutB c l with
  | some (p, q) => .tuple #[.string ⟨⟨p⟩⟩, .string ⟨⟨q⟩⟩, .bool true]
  | none => .tuple #[.string ⟨⟨l⟩⟩, .string ⟨⟨[]⟩⟩, .bool false]
theorem cutL (c : UInt8) (l : List UInt8) (hl : l.length ≤ 1000000) (h : H) (K : Value → H → Prop) (hk : ∀ h', K (cutV c l) h') : CallP E 43 [.string ⟨⟨l⟩⟩, .string ⟨⟨[c]⟩⟩] h K := by
  refine CallP.ofE hE rfl Tryd.func43 rfl (Nat.le_of_ble_eq_true rfl) ?_
  have hS : isString E.1 9 = true := by rw [hE]; exact stringT
  have n1 := fun h K hk => indexN hE c l h K hk
  clear hE
  unfold cutV at hk
  cases hc : cutB c l with
  | none =>
    rw [hc] at hk
    simp only [where_none hc] at n1
    cbv
    refine .inl (n1 _ _ ?_)
    cbv
    refine And.intro (fun h1 => absurd h1 (by decide)) (fun _ => ?_)
    cbv
    exact ⟨_, rfl, hk _⟩
  | some pq =>
    obtain ⟨p, q⟩ := pq
    rw [hc] at hk
    simp only [where_some hc] at n1
    obtain ⟨hl2, hn⟩ := cutB_some hc
    have l1 : p.length < l.length := by rw [hl2]; simp
    have l2 : l.take p.length = p := by rw [hl2]; simp
    have l3 : (l.drop (p.length + 1)).take (l.length - (p.length + 1)) = q := by rw [hl2]; simp; exact List.take_of_length_le (by omega)
    clear hl2 hc
    cbv
    refine .inl (n1 _ _ ?_)
    cbv
    refine And.intro (fun _ => ?_) (fun h1 => absurd h1 (by omega))
    cbv
    refine And.intro hS (And.intro (Nat.zero_le _) (And.intro (Nat.le_of_lt l1) ?_))
    cbv
    refine And.intro hS ?_
    cbv
    refine ⟨(by show p.length + 1 ≤ 4611686018427387904; omega), hS, (by show p.length + 1 ≤ l.length; omega), Nat.le_refl _, _, rfl, ?_⟩
    have hk := hk h.dip
    refine (show ∀ v, v = (.tuple #[.string ⟨⟨p⟩⟩, .string ⟨⟨q⟩⟩, .bool true] : Value) → K v h.dip from fun v e => e ▸ hk) _ ?_
    show tup [.string ⟨⟨List.take (p.length - 0) (l.drop 0)⟩⟩, .string ⟨⟨List.take (l.length - (p.length + 1)) (l.drop (p.length + 1))⟩⟩, .bool true] = _
    rw [l3, Nat.sub_zero, List.drop_zero, l2]
    rfl
theorem cutN (c : UInt8) (l : List UInt8) (hl : l.length ≤ 1000000) (h : H) (K : Value → H → Prop) (hk : ∀ h', K (cutV c l) h') : CallP E 30 [.string ⟨⟨l⟩⟩, .string ⟨⟨[c]⟩⟩] h K := by
  refine CallP.ofE hE rfl Tryd.func30 rfl (Nat.le_of_ble_eq_true rfl) ?_
  have n1 := fun h K hk => cutL hE c l hl h K hk
  clear hE
  unfold cutV at hk n1
  cases hc : cutB c l with
  | none =>
    rw [hc] at hk
    simp only [hc] at n1
    cbv
    refine .inl (n1 _ _ fun h' => ?_)
    cbv
    exact ⟨_, rfl, hk _⟩
  | some pq =>
    obtain ⟨p, q⟩ := pq
    rw [hc] at hk
    simp only [hc] at n1
    cbv
    refine .inl (n1 _ _ fun h' => ?_)
    cbv
    exact ⟨_, rfl, hk _⟩
/-- What the parts are. -/
def splitV (l : List UInt8) : Value := match cutB 58 l with
  | some (p, q) => .tuple #[.string ⟨⟨p⟩⟩, .string ⟨⟨q⟩⟩]
  | none => .tuple #[.string ⟨⟨[]⟩⟩, .string ⟨⟨l⟩⟩]
theorem nSplit (l : List UInt8) (hl : l.length ≤ 1000000) (h : H) (K : Value → H → Prop) (hk : ∀ h', K (splitV l) h') : CallP E 22 [.string ⟨⟨l⟩⟩] h K := by
  refine CallP.ofE hE rfl Tryd.func22 rfl (Nat.le_of_ble_eq_true rfl) ?_
  have n1 := fun h K hk => cutN hE 58 l hl h K hk
  clear hE
  unfold splitV at hk
  unfold cutV at n1
  cases hc : cutB 58 l with
  | none =>
    rw [hc] at hk
    simp only [hc] at n1
    cbv
    refine .inl (n1 _ _ fun h' => ?_)
    cbv
    exact ⟨_, rfl, hk _⟩
  | some pq =>
    obtain ⟨p, q⟩ := pq
    rw [hc] at hk
    simp only [hc] at n1
    cbv
    refine .inl (n1 _ _ fun h' => ?_)
    cbv
    exact ⟨_, rfl, hk _⟩
def isQual (s : List UInt8) : Bool := match cutB 58 s with
  | some (p, l) => isName p && isName l
  | none => isName s
theorem nQual (l : List UInt8) (hl : l.length ≤ 1000000) (h : H) (K : Value → H → Prop) (hk : ∀ h', K (.bool (isQual l)) h') : CallP E 21 [.string ⟨⟨l⟩⟩] h K := by
  refine CallP.ofE hE rfl Tryd.func21 rfl (Nat.le_of_ble_eq_true rfl) ?_
  have n1 := fun h K hk => cutN hE 58 l hl h K hk
  have n2 := fun l h K hk => nIs hE ⟨⟨l⟩⟩ h K hk
  clear hE
  unfold isQual at hk
  unfold cutV at n1
  cases hc : cutB 58 l with
  | none =>
    rw [hc] at hk
    simp only [hc] at n1
    cbv
    refine .inl (n1 _ _ fun h' => ?_)
    cbv
    refine .inl (n2 _ _ _ fun h' => ?_)
    cbv
    exact ⟨_, rfl, hk _⟩
  | some pq =>
    obtain ⟨p, q⟩ := pq
    rw [hc] at hk
    simp only [hc] at n1
    have n3 : ∀ (h : H) (K : Value → H → Prop), (∀ h', K (.bool (isName p)) h') → CallP E 20 [.string ⟨⟨p⟩⟩] h K := n2 p
    have n4 : ∀ (h : H) (K : Value → H → Prop), (∀ h', K (.bool (isName q)) h') → CallP E 20 [.string ⟨⟨q⟩⟩] h K := n2 q
    have hk' : ∀ h', K (.bool (isName p && isName q)) h' := hk
    clear hk n2
    generalize isName p = a at n3 hk'
    generalize isName q = b at n4 hk'
    cases a <;> cases b
    all_goals cbv
    all_goals (refine .inl (n1 _ _ fun h' => ?_); cbv; refine .inl (n3 _ _ fun h' => ?_); cbv)
    all_goals first | exact ⟨_, rfl, hk' _⟩ | (refine .inl (n4 _ _ fun h' => ?_); cbv; exact ⟨_, rfl, hk' _⟩)
end
end Go.Proofs.YtknhcgdhfndooaaDoor.GEv
