/- The letters of names, and which texts are names, by symbolic runs. -/
import Derived.Test.YtknhcgdhfndooaaDoorGNmC
namespace Go.Proofs.YtknhcgdhfndooaaDoor.GEv
open Go
open Go.RowKit (Below)
set_option linter.unusedSimpArgs false
set_option linter.unusedVariables false
def first (c : Nat) : Bool := (decide (97 ≤ c) && decide (c ≤ 122)) || (decide (65 ≤ c) && decide (c ≤ 90)) || decide (c = 95)
def byte (c : Nat) : Bool := first c || (decide (48 ≤ c) && decide (c ≤ 57)) || decide (c = 45) || decide (c = 46)
def isName (s : List UInt8) : Bool := decide (1 ≤ s.length) && decide (s.length ≤ 12) && first (s.getD 0 0).toNat && s.all fun c => byte c.toNat
theorem stringT : isString EM.P 9 = true := by kernel_rfl
theorem not_all {l : List UInt8} {i : Nat} (h : i < l.length) (hb : byte (l.getD i 0).toNat = false) : (l.all fun c => byte c.toNat) = false := by
  rw [List.getD_eq_getElem?_getD, List.getElem?_eq_getElem h] at hb
  exact List.all_eq_false.2 ⟨l[i], List.getElem_mem h, by rw [Option.getD_some] at hb; rw [hb]; simp⟩
theorem all_of {l : List UInt8} {i : Nat} (h : ∀ j, j < i → byte (l.getD j 0).toNat = true) (hi : l.length ≤ i) : (l.all fun c => byte c.toNat) = true := by
  refine List.all_eq_true.2 fun c hc => ?_
  obtain ⟨j, hj, rfl⟩ := List.getElem_of_mem hc
  have := h j (by omega)
  rwa [List.getD_eq_getElem?_getD, List.getElem?_eq_getElem hj] at this
theorem raw_bytes {E : Env} {l : L} {h : H} {dst ty pos after guard src t x} {s : ByteArray} {e : TypeId} {K : Value → H → Prop} (hx : evL l x = some (.string s)) (h1 : E.P.underlying src = some .string) (h2 : E.P.underlying t = some (.slice e)) (h3 : E.P.underlying e = some (.int .u8))
    (hk : K (.slice (some ⟨h.next, 0, none⟩) s.size (UNK + 1)) (h.push (.cells (bytesV s) (some e) false 0))) : RawP E l h ⟨dst, .convert src t x, ty, pos, after, guard⟩ K :=
  ⟨fun tm hv => OpP.val (by simp only [evOp, hConv, evL_ok hv hx, h1, h2, h3]) hk⟩
theorem load_bytes {E : Env} {h : H} {l : List UInt8} {i : Nat} {e : TypeId} (h1 : isAgg E.P e = some false) (h2 : sizeOf E.P e = some 1) (hi : i < l.length) :
    (h.push (.cells (bytesV ⟨⟨l⟩⟩) (some e) false 0)).load E.P e ⟨h.next, i, none⟩ = some (.int .u8 (.ofNat (l.getD i 0).toNat)) := by
  have hl : (bytesV ⟨⟨l⟩⟩).length = l.length := by simp [bytesV]
  simp only [H.load, h1, h2, H.read, H.push, U.get_set, if_pos, cut]
  rw [if_pos (by omega)]
  have : ((bytesV ⟨⟨l⟩⟩).drop i).take 1 = [.int .u8 (.ofNat (l.getD i 0).toNat)] := by
    rw [List.drop_eq_getElem_cons (by omega)]
    simp [bytesV, List.getElem?_eq_getElem hi]
  rw [this]
theorem bytesT : isSlice EM.P (some 36) = true := by kernel_rfl
theorem bytesZ : iSize EM.P 36 = some 1 := by kernel_rfl
theorem stringU : EM.P.underlying 9 = some .string := by kernel_rfl
theorem bytesU : EM.P.underlying 36 = some (.slice 5) := by kernel_rfl
theorem byteU : EM.P.underlying 5 = some (.int .u8) := by kernel_rfl
theorem byteA : isAgg EM.P 5 = some false := by kernel_rfl
theorem byteZ : sizeOf EM.P 5 = some 1 := by kernel_rfl
set_option maxRecDepth 100000
attribute [local cbv_opaque] isString isSlice isBoolT fOff iSize eqNil zero H.load H.store H.push
section
variable {E : Env} (hE : E = EM)
include hE
theorem nLetter (c : Nat) (h : H) (K : Value → H → Prop) (hk : K (.bool (first c)) h) : CallP E 34 [.int .u8 (.ofNat c)] h K := by
  refine CallP.ofE hE rfl Tryd.func34 rfl (Nat.le_of_ble_eq_true rfl) ?_
  clear hE
  cbv
  repeat' (refine And.intro (fun h1 => ?_) (fun h1 => ?_) <;> cbv)
  all_goals refine ⟨_, rfl, ?_⟩
  all_goals (refine eqb hk ?_; clear hk; simp [first]; omega)
theorem rFirst (c : Nat) (h : H) (K : Value → H → Prop) (hk : K (.bool (first c)) h) : CallP E 37 [.int .u8 (.ofNat c)] h K := by
  refine CallP.ofE hE rfl Tryd.func37 rfl (Nat.le_of_ble_eq_true rfl) ?_
  clear hE
  cbv
  repeat' (refine And.intro (fun h1 => ?_) (fun h1 => ?_) <;> cbv)
  all_goals refine ⟨_, rfl, ?_⟩
  all_goals (refine eqb hk ?_; clear hk; simp [first]; omega)
theorem nMore (c : Nat) (h : H) (K : Value → H → Prop) (hk : K (.bool (byte c)) h) : CallP E 35 [.int .u8 (.ofNat c)] h K := by
  refine CallP.ofE hE rfl Tryd.func35 rfl (Nat.le_of_ble_eq_true rfl) ?_
  have n1 := fun h K hk => nLetter hE c h K hk
  clear hE
  have hb : byte c = (first c || (decide (48 ≤ c) && decide (c ≤ 57)) || decide (c = 45) || decide (c = 46)) := rfl
  generalize first c = b at n1 hb
  cases b
  all_goals cbv
  all_goals (refine .inl (n1 _ _ ?_); cbv)
  all_goals repeat' (refine And.intro (fun h1 => ?_) (fun h1 => ?_) <;> cbv)
  all_goals refine ⟨_, rfl, ?_⟩
  all_goals (refine eqb hk ?_; clear hk; simp [hb]; try omega)
theorem rByte (c : Nat) (h : H) (K : Value → H → Prop) (hk : K (.bool (byte c)) h) : CallP E 38 [.int .u8 (.ofNat c)] h K := by
  refine CallP.ofE hE rfl Tryd.func38 rfl (Nat.le_of_ble_eq_true rfl) ?_
  have n1 := fun h K hk => rFirst hE c h K hk
  clear hE
  have hb : byte c = (first c || (decide (48 ≤ c) && decide (c ≤ 57)) || decide (c = 45) || decide (c = 46)) := rfl
  generalize first c = b at n1 hb
  cases b
  all_goals cbv
  all_goals (refine .inl (n1 _ _ ?_); cbv)
  all_goals repeat' (refine And.intro (fun h1 => ?_) (fun h1 => ?_) <;> cbv)
  all_goals refine ⟨_, rfl, ?_⟩
  all_goals (refine eqb hk ?_; clear hk; simp [hb]; try omega)
attribute [local cbv_opaque] List.length List.getD UInt8.toNat bytesV
theorem rIs (s : ByteArray) (h : H) (K : Value → H → Prop) (hk : K (.bool (isName (sL s))) h) : CallP E 25 [.string s] h K := by
  refine CallP.ofE hE rfl Tryd.func25 rfl (by simp) ?_
  have hS : isString E.1 9 = true := by rw [hE]; exact stringT
  obtain ⟨⟨l⟩⟩ := s
  have n1 := fun h K hk => rFirst hE (l.getD 0 0).toNat h K hk
  have n2 := fun c h K hk => rByte hE c h K hk
  clear hE
  have hd : isName l = (decide (1 ≤ l.length) && decide (l.length ≤ 12) && first (l.getD 0 0).toNat && l.all fun c => byte c.toNat) := rfl
  generalize hb : first (l.getD 0 0).toNat = b at n1 hd
  cases b
  all_goals cbv
  all_goals repeat' (first | refine And.intro (by assumption) ?_ | refine And.intro (fun h1 => ?_) (fun h1 => ?_) | refine And.intro (by omega) ?_) <;> cbv
  all_goals try (refine ⟨_, rfl, eqb hk ?_⟩; first | (simp [hd]; done) | (simp [hd]; omega))
  all_goals (refine .inl (n1 _ _ ?_); cbv)
  · exact ⟨_, rfl, eqb hk (by simp [hd])⟩
  refine LoopP.on (fun i : Nat => [(3, .int .i64 (.ofNat i)), (0, .string ⟨⟨l⟩⟩)]) (fun _ => h) (fun i => i ≤ l.length ∧ ∀ j, j < i → byte (l.getD j 0).toNat = true) (fun i => l.length - i) 0 rfl (Less.cons rfl (Less.cons rfl (Less.nil _))) ⟨Nat.zero_le _, by omega⟩ ?_
  rintro i ⟨i1, i2⟩
  have n3 := fun h K hk => n2 (l.getD i 0).toNat h K hk
  generalize hc : byte (l.getD i 0).toNat = c at n3
  cases c
  all_goals cbv
  all_goals repeat' (first | refine And.intro (by assumption) ?_ | refine And.intro (fun h1 => ?_) (fun h1 => ?_) | refine And.intro (by omega) ?_) <;> cbv
  · refine .inl (n3 _ _ ?_)
    cbv
    exact ⟨_, rfl, eqb hk (by rw [hd, not_all h1 hc]; simp)⟩
  · exact ⟨_, rfl, eqb hk (by rw [hd, all_of i2 h1]; simp; omega)⟩
  · refine .inl (n3 _ _ ?_)
    cbv
    refine ⟨(by show i + 1 ≤ 4611686018427387904; omega), i + 1, Less.cons rfl (Less.cons rfl (Less.nil _)), rfl, ⟨by omega, fun j hj => ?_⟩, by omega⟩
    rcases Nat.lt_or_ge j i with q | q
    · exact i2 j q
    · rw [show j = i by omega]; exact hc
  · exact ⟨_, rfl, eqb hk (by rw [hd, all_of i2 h1]; simp; omega)⟩
theorem nIs (s : ByteArray) (h : H) (K : Value → H → Prop) (hk : ∀ h', K (.bool (isName (sL s))) h') : CallP E 20 [.string s] h K := by
  refine CallP.ofE hE rfl Tryd.func20 rfl (by simp) ?_
  have hS : isString E.1 9 = true := by rw [hE]; exact stringT
  have hL : isSlice E.1 (some 36) = true := by rw [hE]; exact bytesT
  have hZ : iSize E.1 36 = some 1 := by rw [hE]; exact bytesZ
  have hC := fun l h dst ty pos after guard x s K hx hk => raw_bytes (E := E) (l := l) (h := h) (dst := dst) (ty := ty) (pos := pos) (after := after) (guard := guard) (x := x) (s := s) (K := K) hx (show E.P.underlying 9 = some .string by rw [hE]; exact stringU) (show E.P.underlying 36 = some (.slice 5) by rw [hE]; exact bytesU) (show E.P.underlying 5 = some (.int .u8) by rw [hE]; exact byteU) hk
  have hM := fun h l i hi => load_bytes (E := E) (h := h) (l := l) (i := i) (e := 5) (show isAgg E.P 5 = some false by rw [hE]; exact byteA) (show sizeOf E.P 5 = some 1 by rw [hE]; exact byteZ) hi
  obtain ⟨⟨l⟩⟩ := s
  have n1 := fun h K hk => nLetter hE (l.getD 0 0).toNat h K hk
  have n2 := fun c h K hk => nMore hE c h K hk
  have q1 : l = [] ∨ 0 < l.length := by cases l; exact .inl rfl; exact .inr (Nat.succ_pos _)
  clear hE
  have hd : isName l = (decide (1 ≤ l.length) && decide (l.length ≤ 12) && first (l.getD 0 0).toNat && l.all fun c => byte c.toNat) := rfl
  generalize hb : first (l.getD 0 0).toNat = b at n1 hd
  cases b
  all_goals cbv
  all_goals repeat' (first | refine And.intro (by assumption) ?_ | refine And.intro (fun h1 => ?_) (fun h1 => ?_) | refine And.intro (by rcases q1 with rfl | q1; exact absurd rfl (by assumption); first | exact q1 | omega) ?_) <;> cbv
  all_goals try (refine ⟨_, rfl, eqb (hk _) ?_⟩; first | (rcases q1 with rfl | q1; rfl; exact absurd (show l = [] by assumption) (fun e => by subst e; cases q1)) | (simp [hd]; done) | (simp [hd]; omega))
  all_goals (refine .inl (n1 _ _ ?_); cbv)
  · exact ⟨_, rfl, eqb (hk _) (by simp [hd])⟩
  refine hC _ _ _ _ _ _ _ _ _ _ rfl ?_
  cbv
  refine And.intro hL ?_
  cbv
  refine LoopP.on (fun i : Nat => [(21, .int .i64 (.ofNat i)), (19, .slice (some ⟨h.next, 0, none⟩) l.length (UNK + 1)), (20, .int .i64 (.ofNat l.length))]) (fun _ => h.push (.cells (bytesV ⟨⟨l⟩⟩) (some 5) false 0)) (fun i => i ≤ l.length ∧ ∀ j, j < i → byte (l.getD j 0).toNat = true) (fun i => l.length - i) 0 rfl (Less.cons rfl (Less.cons rfl (Less.cons rfl (Less.nil _)))) ⟨Nat.zero_le _, by omega⟩ ?_
  rintro i ⟨i1, i2⟩
  have n3 := fun h K hk => n2 (l.getD i 0).toNat h K hk
  generalize hc : byte (l.getD i 0).toNat = c at n3
  cases c
  all_goals cbv
  all_goals repeat' (first | refine And.intro (by assumption) ?_ | refine And.intro (fun h1 => ?_) (fun h1 => ?_) | refine And.intro (by omega) ?_) <;> cbv
  · refine ⟨1, hZ, by assumption, ?_⟩
    rw [Nat.mul_one, show (({ block := h.2, off := 0 } : Addr).add i) = ⟨h.2, i, none⟩ by simp [Addr.add]; exact fun e => e.symm]
    cbv
    refine ⟨_, hM h l i (by assumption), ?_⟩
    cbv
    refine .inl (n3 _ _ ?_)
    cbv
    exact ⟨_, rfl, eqb (hk _) (by rw [hd, not_all (by assumption) hc]; simp)⟩
  · exact ⟨_, rfl, eqb (hk _) (by rw [hd, all_of i2 (by assumption)]; rcases q1 with rfl | q1; exact absurd rfl (by assumption); simp; omega)⟩
  · refine ⟨1, hZ, by assumption, ?_⟩
    rw [Nat.mul_one, show (({ block := h.2, off := 0 } : Addr).add i) = ⟨h.2, i, none⟩ by simp [Addr.add]; exact fun e => e.symm]
    cbv
    refine ⟨_, hM h l i (by assumption), ?_⟩
    cbv
    refine .inl (n3 _ _ ?_)
    cbv
    refine ⟨(by show i + 1 ≤ 4611686018427387904; omega), i + 1, Less.cons rfl (Less.cons rfl (Less.cons rfl (Less.nil _))), rfl, ⟨by omega, fun j hj => ?_⟩, by omega⟩
    rcases Nat.lt_or_ge j i with q | q
    · exact i2 j q
    · rw [show j = i by omega]; exact hc
  · exact ⟨_, rfl, eqb (hk _) (by rw [hd, all_of i2 (by assumption)]; rcases q1 with rfl | q1; exact absurd rfl (by assumption); simp; omega)⟩
end
end Go.Proofs.YtknhcgdhfndooaaDoor.GEv
