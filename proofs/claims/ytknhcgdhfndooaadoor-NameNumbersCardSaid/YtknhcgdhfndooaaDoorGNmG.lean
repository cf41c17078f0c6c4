/- Texts of signs, by symbolic runs. -/
import Derived.Test.YtknhcgdhfndooaaDoorGNmE
namespace Go.Proofs.YtknhcgdhfndooaaDoor.GEv
open Go
set_option linter.unusedSimpArgs false
set_option linter.unusedVariables false
/-- The runes of a text from a place on. -/
def runesP (s : ByteArray) : Nat → Nat → List Nat
  | 0, _ => []
  | b + 1, i => if i < s.size then (Utf8.decode s i).1 :: runesP s b (i + (Utf8.decode s i).2) else []
theorem runesFrom_P (s : ByteArray) : ∀ (b i : Nat) (acc : Array Value), (Conv.runesFrom s b i acc).toList = acc.toList ++ (runesP s b i).map fun r => .int .i32 (.ofNat r)
  | 0, i, acc => by simp [Conv.runesFrom, runesP]
  | b + 1, i, acc => by
    unfold Conv.runesFrom runesP
    split
    · rw [runesFrom_P s b _ _, Array.toList_push, List.map_cons, List.append_assoc]
      rfl
    · simp
theorem runesV_P (s : ByteArray) : runesV s = (runesP s s.size 0).map fun r => .int .i32 (.ofNat r) := by
  unfold runesV
  rw [runesFrom_P]
  rfl
theorem runesP_len (s : ByteArray) : ∀ b i, (runesP s b i).length ≤ b
  | 0, i => Nat.le_refl _
  | b + 1, i => by
    unfold runesP
    split
    · rw [List.length_cons]
      have := runesP_len s b (i + (Utf8.decode s i).2)
      omega
    · exact Nat.zero_le _
/-- The runes of a text. -/
def runesL (l : List UInt8) : List Nat := runesP ⟨⟨l⟩⟩ l.length 0
theorem runesL_len (l : List UInt8) : (runesL l).length ≤ l.length := runesP_len _ _ _
def signs (l : List UInt8) : Bool := Lib.validD l && (runesL l).all fun r => sign (.ofNat r)
theorem raw_runes {E : Env} {l : L} {h : H} {dst ty pos after guard src t x} {s : ByteArray} {e : TypeId} {K : Value → H → Prop} (hx : evL l x = some (.string s)) (h1 : E.P.underlying src = some .string) (h2 : E.P.underlying t = some (.slice e)) (h3 : E.P.underlying e = some (.int .i32)) (hl : s.size ≤ 70368744177664)
    (hk : K (.slice (some ⟨h.next, 0, none⟩) (runesV s).length (UNK + 1)) (h.push (.cells (runesV s) (some e) false 0))) : RawP E l h ⟨dst, .convert src t x, ty, pos, after, guard⟩ K := by
  have hb : Nat.ble (runesV s).length 70368744177664 = true := by
    apply Nat.ble_eq_true_of_le
    rw [runesV_P, List.length_map]
    exact Nat.le_trans (runesP_len _ _ _) hl
  exact ⟨fun tm hv => OpP.val (by simp only [evOp, hConv, evL_ok hv hx, h1, h2, h3, hb]) hk⟩
theorem load_runes {E : Env} {h : H} {l : List Nat} {i : Nat} {e : TypeId} (h1 : isAgg E.P e = some false) (h2 : sizeOf E.P e = some 1) (hi : i < l.length) :
    (h.push (.cells (l.map fun r => .int .i32 (.ofNat r)) (some e) false 0)).load E.P e ⟨h.next, i, none⟩ = some (.int .i32 (.ofNat (l.getD i 0))) := by
  simp only [H.load, h1, h2, H.read, H.push, U.get_set, if_pos, cut]
  rw [if_pos (by simp; omega)]
  have : ((l.map fun r => Value.int .i32 (.ofNat r)).drop i).take 1 = [.int .i32 (.ofNat (l.getD i 0))] := by
    rw [List.drop_eq_getElem_cons (by simp; omega)]
    simp [List.getElem?_eq_getElem hi]
  rw [this]
theorem alls_not {l : List Nat} {i : Nat} (h : i < l.length) (hb : sign (.ofNat (l.getD i 0)) = false) : (l.all fun r => sign (.ofNat r)) = false := by
  rw [List.getD_eq_getElem?_getD, List.getElem?_eq_getElem h, Option.getD_some] at hb
  exact List.all_eq_false.2 ⟨l[i], List.getElem_mem h, by rw [hb]; simp⟩
theorem alls_of {l : List Nat} {i : Nat} (h : ∀ j, j < i → sign (.ofNat (l.getD j 0)) = true) (hi : l.length ≤ i) : (l.all fun r => sign (.ofNat r)) = true := by
  refine List.all_eq_true.2 fun c hc => ?_
  obtain ⟨j, hj, rfl⟩ := List.getElem_of_mem hc
  have := h j (by omega)
  rwa [List.getD_eq_getElem?_getD, List.getElem?_eq_getElem hj] at this
theorem runesT : isSlice EM.P (some 30) = true := by kernel_rfl
theorem runesZ : iSize EM.P 30 = some 1 := by kernel_rfl
theorem runesU : EM.P.underlying 30 = some (.slice 21) := by kernel_rfl
theorem runeU : EM.P.underlying 21 = some (.int .i32) := by kernel_rfl
theorem runeA : isAgg EM.P 21 = some false := by kernel_rfl
theorem runeZ : sizeOf EM.P 21 = some 1 := by kernel_rfl
set_option maxRecDepth 100000
attribute [local cbv_opaque] isString isSlice isBoolT fOff iSize eqNil zero H.load H.store H.push H.dip List.length List.getD runesV
section
variable {E : Env} (hE : E = EM)
include hE
theorem rSigns (l : List UInt8) (hl : l.length ≤ 1000000) (h : H) (K : Value → H → Prop) (hk : ∀ h', K (.bool (signs l)) h') : CallP E 15 [.string ⟨⟨l⟩⟩] h K := by
  refine CallP.ofE hE rfl Tryd.func15 rfl (Nat.le_of_ble_eq_true rfl) ?_
  have hL : isSlice E.1 (some 30) = true := by rw [hE]; exact runesT
  have hZ : iSize E.1 30 = some 1 := by rw [hE]; exact runesZ
  have hC := fun q h dst ty pos after guard x K hx hk => raw_runes (E := E) (l := q) (h := h) (dst := dst) (ty := ty) (pos := pos) (after := after) (guard := guard) (x := x) (s := ⟨⟨l⟩⟩) (K := K) hx (show E.P.underlying 9 = some .string by rw [hE]; exact stringU) (show E.P.underlying 30 = some (.slice 21) by rw [hE]; exact runesU) (show E.P.underlying 21 = some (.int .i32) by rw [hE]; exact runeU) (show l.length ≤ 70368744177664 by omega) hk
  have hV : runesV ⟨⟨l⟩⟩ = (runesL l).map fun r => .int .i32 (.ofNat r) := runesV_P ⟨⟨l⟩⟩
  have hM := fun h i hi => load_runes (E := E) (h := h) (l := runesL l) (i := i) (e := 21) (show isAgg E.P 21 = some false by rw [hE]; exact runeA) (show sizeOf E.P 21 = some 1 by rw [hE]; exact runeZ) hi
  rw [← hV] at hM
  have hn : (runesV ⟨⟨l⟩⟩).length = (runesL l).length := by rw [hV, List.length_map]
  have n0 := fun h K hk => validC hE l (by omega) h K hk
  have n2 := fun c h K hk => rChar hE c h K hk
  have hlen := runesL_len l
  clear hE hV
  have hd : signs l = (Lib.validD l && (runesL l).all fun r => sign (.ofNat r)) := rfl
  generalize signs l = ans at hk hd
  generalize Lib.validD l = b at n0 hd
  generalize runesL l = rs at hM hn hd hlen
  cases b
  all_goals cbv
  all_goals (refine .inl (n0 _ _ ?_); cbv)
  · exact ⟨_, rfl, eqb (hk _) (by rw [hd]; rfl)⟩
  refine hC _ _ _ _ _ _ _ _ _ rfl ?_
  cbv
  rw [hn]
  refine LoopP.on (fun i : Nat => [(4, .int .i64 (.ofNat i)), (3, .slice (some ⟨h.next, 0, none⟩) rs.length (UNK + 1))]) (fun _ => h.push (.cells (runesV ⟨⟨l⟩⟩) (some 21) false 0)) (fun i => i ≤ rs.length ∧ ∀ j, j < i → sign (.ofNat (rs.getD j 0)) = true) (fun i => rs.length - i) 0 rfl (Less.cons rfl (Less.cons rfl (Less.nil _))) ⟨Nat.zero_le _, by omega⟩ ?_
  rintro i ⟨i1, i2⟩
  have n3 := fun h K hk => n2 (.ofNat (rs.getD i 0)) h K hk
  generalize hc : sign (.ofNat (rs.getD i 0)) = c at n3
  cases c
  all_goals cbv
  all_goals repeat' (first | refine And.intro (by assumption) ?_ | refine And.intro (fun h1 => ?_) (fun h1 => ?_) | refine And.intro (by omega) ?_) <;> cbv
  · refine ⟨1, hZ, by assumption, ?_⟩
    rw [Nat.mul_one, show (({ block := h.2, off := 0 } : Addr).add i) = ⟨h.2, i, none⟩ by simp [Addr.add]; exact fun e => e.symm]
    cbv
    refine ⟨_, hM h i (by assumption), ?_⟩
    cbv
    refine .inl (n3 _ _ ?_)
    cbv
    exact ⟨_, rfl, eqb (hk _) (by rw [hd, alls_not (by assumption) hc]; rfl)⟩
  · exact ⟨_, rfl, eqb (hk _) (by rw [hd, alls_of i2 (by assumption)]; rfl)⟩
  · refine ⟨1, hZ, by assumption, ?_⟩
    rw [Nat.mul_one, show (({ block := h.2, off := 0 } : Addr).add i) = ⟨h.2, i, none⟩ by simp [Addr.add]; exact fun e => e.symm]
    cbv
    refine ⟨_, hM h i (by assumption), ?_⟩
    cbv
    refine .inl (n3 _ _ ?_)
    cbv
    refine ⟨(by show i + 1 ≤ 4611686018427387904; omega), i + 1, Less.cons rfl (Less.cons rfl (Less.nil _)), rfl, ⟨by omega, fun j hj => ?_⟩, by omega⟩
    rcases Nat.lt_or_ge j i with q | q
    · exact i2 j q
    · rw [show j = i by omega]; exact hc
  · exact ⟨_, rfl, eqb (hk _) (by rw [hd, alls_of i2 (by assumption)]; rfl)⟩
end
end Go.Proofs.YtknhcgdhfndooaaDoor.GEv
