import Derived.Test.YtfgemjpoiconbaaGreatDoorGSyC
import Derived.Lib.Replace
import Derived.Shelf.Unicode.DecodeSlow
import Derived.Lib.ValidLaws
import Derived.KernelRfl
import Derived.Test.YtfgemjpoiconbaaGreatDoorChecked
import Derived.Lib.TrimUEq
import Derived.Lib.TrimAscii
import Derived.Lib.MapLaws
import Derived.Lib.FieldsU
import Derived.Test.YtfgemjpoiconbaaGreatDoorGSyD
import Derived.Test.YtfgemjpoiconbaaGreatDoorGSyE
/- The library's functions that are known by what they hand back: 'utf8.ValidString', 'strings.ReplaceAll'. -/
namespace Go.Proofs.YtfgemjpoiconbaaGreatDoor.GEv
open Go
def validP : Prim
  | [.string s] => match Nat.ble s.size 4000000000 with
    | true => some (.bool (Lib.validD s.data.toList))
    | false => none
  | _ => none
def replP : Prim
  | [.string s, .string old, .string new] => match Nat.ble 1 old.size, Nat.ble s.size 4000000000, Nat.ble new.size 6 with
    | true, true, true => some (.string ⟨(Lib.replaceAll s.data.toList old.data.toList new.data.toList).toArray⟩)
    | _, _, _ => none
  | _ => none
/-- 'stringslite.Clone' hands back what it is given. -/
def cloneP : Prim
  | [.string s] => match Nat.ble s.size 4000000000 with
    | true => some (.string s)
    | false => none
  | _ => none
noncomputable def EM : Env := ⟨Tryz.prog, none, some 61, some 111, [(15, always (.bool true)), (35, validP), (42, replP), (127, cloneP)]⟩
end Go.Proofs.YtfgemjpoiconbaaGreatDoor.GEv

/- 'NameChars', by a symbolic run: the two tell signs alike. -/
namespace Go.Proofs.YtfgemjpoiconbaaGreatDoor.GEv
open Go
open Go.RowKit (Below)

/-- P1.1 -/
def sign (r : Int) : Bool := decide (r = 9) || decide (r = 10) || decide (r = 13) || (decide (32 ≤ r) && decide (r ≤ 55295)) || (decide (57344 ≤ r) && decide (r ≤ 65533)) || (decide (65536 ≤ r) && decide (r ≤ 1114111))
theorem eqb {K : Value → H → Prop} {h : H} {a b : Bool} (hk : K (.bool a) h) (e : b = a) : K (.bool b) h := e ▸ hk
theorem CallP.ofE {E E' : Env} {f : FuncId} {fn : Func} {c : Code} {args : List Value} {h : H} {K : Value → H → Prop} (hE : E = E') (hm : memoOf E'.memo f args = none) (hf : E'.P.funcs[f]? = some fn) (hb : fn.body = some c) (hl : args.length ≤ fn.ntmps)
    (hk : sy E fn.ntmps c (argsL 0 args) h (retL E.P fn.results.toList K) (retL E.P fn.results.toList K) (fun _ _ _ => False)) : CallP E f args h K := CallP.of (by rw [hE]; exact hm) (by rw [hE]; exact hf) hb hl hk
theorem boolT : isBoolT EM.P 4 = true := by kernel_rfl
set_option maxRecDepth 100000
attribute [local cbv_opaque] isString isSlice isBoolT fOff iSize eqNil zero H.load H.store
section
variable {E : Env} (hE : E = EM)
include hE
theorem nChar (r : Int) (h : H) (K : Value → H → Prop) (hk : K (.bool (sign r)) h) : CallP E 91 [.int .i32 r] h K := by
  refine CallP.ofE hE rfl Tryz.func91 rfl (Nat.le_of_ble_eq_true rfl) ?_
  clear hE
  cases r
  all_goals cbv
  all_goals repeat' (refine And.intro (fun h1 => ?_) (fun h1 => ?_) <;> cbv)
  all_goals refine ⟨_, rfl, ?_⟩
  all_goals (refine eqb hk ?_; clear hk; simp [sign]; omega)
theorem rChar (r : Int) (h : H) (K : Value → H → Prop) (hk : K (.bool (sign r)) h) : CallP E 36 [.int .i32 r] h K := by
  refine CallP.ofE hE rfl Tryz.func36 rfl (Nat.le_of_ble_eq_true rfl) ?_
  clear hE
  cases r
  all_goals cbv
  all_goals repeat' (refine And.intro (fun h1 => ?_) (fun h1 => ?_) <;> cbv)
  all_goals refine ⟨_, rfl, ?_⟩
  all_goals (refine eqb hk ?_; clear hk; simp [sign]; omega)
end
end Go.Proofs.YtfgemjpoiconbaaGreatDoor.GEv

/- The letters of names, and which texts are names, by symbolic runs. -/
namespace Go.Proofs.YtfgemjpoiconbaaGreatDoor.GEv
open Go
open Go.RowKit (Below)
set_option linter.unusedSimpArgs false
set_option linter.unusedVariables false
def first (c : Nat) : Bool := (decide (97 ≤ c) && decide (c ≤ 122)) || (decide (65 ≤ c) && decide (c ≤ 90)) || decide (c = 95)
def byte (c : Nat) : Bool := first c || (decide (48 ≤ c) && decide (c ≤ 57)) || decide (c = 45) || decide (c = 46)
def isName (s : List UInt8) : Bool := decide (1 ≤ s.length) && decide (s.length ≤ 12) && first (s.getD 0 0).toNat && s.all fun c => byte c.toNat
theorem stringT : isString EM.P 9 = true := by kernel_rfl
theorem not_all {l : List UInt8} {i : Nat} (h : i < l.length) (hb : byte (l.getD i 0).toNat = false) : (l.all fun c => byte c.toNat) = false := by
  rw [List.getD_eq_getElem?_getD, List.getElem?_eq_getElem h] at hb
  exact List.all_eq_false.2 ⟨l[i], List.getElem_mem h, by rw [Option.getD_some] at hb; rw [hb]; simp⟩
theorem all_of {l : List UInt8} {i : Nat} (h : ∀ j, j < i → byte (l.getD j 0).toNat = true) (hi : l.length ≤ i) : (l.all fun c => byte c.toNat) = true := by
  refine List.all_eq_true.2 fun c hc => ?_
  obtain ⟨j, hj, rfl⟩ := List.getElem_of_mem hc
  have := h j (by omega)
  rwa [List.getD_eq_getElem?_getD, List.getElem?_eq_getElem hj] at this
theorem raw_bytes {E : Env} {l : L} {h : H} {dst ty pos after guard src t x} {s : ByteArray} {e : TypeId} {K : Value → H → Prop} (hx : evL l x = some (.string s)) (h1 : E.P.underlying src = some .string) (h2 : E.P.underlying t = some (.slice e)) (h3 : E.P.underlying e = some (.int .u8))
    (hk : K (.slice (some ⟨h.next, 0, none⟩) s.size (UNK + 1)) (h.push (.cells (bytesV s) (some e) false 0))) : RawP E l h ⟨dst, .convert src t x, ty, pos, after, guard⟩ K :=
  ⟨fun tm hv => OpP.val (by simp only [evOp, hConv, evL_ok hv hx, h1, h2, h3]) hk⟩
theorem load_bytes {E : Env} {h : H} {l : List UInt8} {i : Nat} {e : TypeId} (h1 : isAgg E.P e = some false) (h2 : sizeOf E.P e = some 1) (hi : i < l.length) :
    (h.push (.cells (bytesV ⟨⟨l⟩⟩) (some e) false 0)).load E.P e ⟨h.next, i, none⟩ = some (.int .u8 (.ofNat (l.getD i 0).toNat)) := by
  have hl : (bytesV ⟨⟨l⟩⟩).length = l.length := by simp [bytesV]
  simp only [H.load, h1, h2, H.read, H.push, U.get_set, if_pos, cut]
  rw [if_pos (by omega)]
  have : ((bytesV ⟨⟨l⟩⟩).drop i).take 1 = [.int .u8 (.ofNat (l.getD i 0).toNat)] := by
    rw [List.drop_eq_getElem_cons (by omega)]
    simp [bytesV, List.getElem?_eq_getElem hi]
  rw [this]
theorem bytesT : isSlice EM.P (some 42) = true := by kernel_rfl
theorem bytesZ : iSize EM.P 42 = some 1 := by kernel_rfl
theorem stringU : EM.P.underlying 9 = some .string := by kernel_rfl
theorem bytesU : EM.P.underlying 42 = some (.slice 5) := by kernel_rfl
theorem byteU : EM.P.underlying 5 = some (.int .u8) := by kernel_rfl
theorem byteA : isAgg EM.P 5 = some false := by kernel_rfl
theorem byteZ : sizeOf EM.P 5 = some 1 := by kernel_rfl
set_option maxRecDepth 100000
attribute [local cbv_opaque] isString isSlice isBoolT fOff iSize eqNil zero H.load H.store H.push
section
variable {E : Env} (hE : E = EM)
include hE
theorem nLetter (c : Nat) (h : H) (K : Value → H → Prop) (hk : K (.bool (first c)) h) : CallP E 99 [.int .u8 (.ofNat c)] h K := by
  refine CallP.ofE hE rfl Tryz.func99 rfl (Nat.le_of_ble_eq_true rfl) ?_
  clear hE
  cbv
  repeat' (refine And.intro (fun h1 => ?_) (fun h1 => ?_) <;> cbv)
  all_goals refine ⟨_, rfl, ?_⟩
  all_goals (refine eqb hk ?_; clear hk; simp [first]; omega)
theorem rFirst (c : Nat) (h : H) (K : Value → H → Prop) (hk : K (.bool (first c)) h) : CallP E 59 [.int .u8 (.ofNat c)] h K := by
  refine CallP.ofE hE rfl Tryz.func59 rfl (Nat.le_of_ble_eq_true rfl) ?_
  clear hE
  cbv
  repeat' (refine And.intro (fun h1 => ?_) (fun h1 => ?_) <;> cbv)
  all_goals refine ⟨_, rfl, ?_⟩
  all_goals (refine eqb hk ?_; clear hk; simp [first]; omega)
theorem nMore (c : Nat) (h : H) (K : Value → H → Prop) (hk : K (.bool (byte c)) h) : CallP E 100 [.int .u8 (.ofNat c)] h K := by
  refine CallP.ofE hE rfl Tryz.func100 rfl (Nat.le_of_ble_eq_true rfl) ?_
  have n1 := fun h K hk => nLetter hE c h K hk
  clear hE
  have hb : byte c = (first c || (decide (48 ≤ c) && decide (c ≤ 57)) || decide (c = 45) || decide (c = 46)) := rfl
  generalize first c = b at n1 hb
  cases b
  all_goals cbv
  all_goals (refine .inl (n1 _ _ ?_); cbv)
  all_goals repeat' (refine And.intro (fun h1 => ?_) (fun h1 => ?_) <;> cbv)
  all_goals refine ⟨_, rfl, ?_⟩
  all_goals (refine eqb hk ?_; clear hk; simp [hb]; try omega)
theorem rByte (c : Nat) (h : H) (K : Value → H → Prop) (hk : K (.bool (byte c)) h) : CallP E 60 [.int .u8 (.ofNat c)] h K := by
  refine CallP.ofE hE rfl Tryz.func60 rfl (Nat.le_of_ble_eq_true rfl) ?_
  have n1 := fun h K hk => rFirst hE c h K hk
  clear hE
  have hb : byte c = (first c || (decide (48 ≤ c) && decide (c ≤ 57)) || decide (c = 45) || decide (c = 46)) := rfl
  generalize first c = b at n1 hb
  cases b
  all_goals cbv
  all_goals (refine .inl (n1 _ _ ?_); cbv)
  all_goals repeat' (refine And.intro (fun h1 => ?_) (fun h1 => ?_) <;> cbv)
  all_goals refine ⟨_, rfl, ?_⟩
  all_goals (refine eqb hk ?_; clear hk; simp [hb]; try omega)
attribute [local cbv_opaque] List.length List.getD UInt8.toNat bytesV
theorem rIs (s : ByteArray) (h : H) (K : Value → H → Prop) (hk : K (.bool (isName (sL s))) h) : CallP E 40 [.string s] h K := by
  refine CallP.ofE hE rfl Tryz.func40 rfl (by simp) ?_
  have hS : isString E.1 9 = true := by rw [hE]; exact stringT
  obtain ⟨⟨l⟩⟩ := s
  have n1 := fun h K hk => rFirst hE (l.getD 0 0).toNat h K hk
  have n2 := fun c h K hk => rByte hE c h K hk
  clear hE
  have hd : isName l = (decide (1 ≤ l.length) && decide (l.length ≤ 12) && first (l.getD 0 0).toNat && l.all fun c => byte c.toNat) := rfl
  generalize hb : first (l.getD 0 0).toNat = b at n1 hd
  cases b
  all_goals cbv
  all_goals repeat' (first | refine And.intro (by assumption) ?_ | refine And.intro (fun h1 => ?_) (fun h1 => ?_) | refine And.intro (by omega) ?_) <;> cbv
  all_goals try (refine ⟨_, rfl, eqb hk ?_⟩; first | (simp [hd]; done) | (simp [hd]; omega))
  all_goals (refine .inl (n1 _ _ ?_); cbv)
  · exact ⟨_, rfl, eqb hk (by simp [hd])⟩
  refine LoopP.on (fun i : Nat => [(3, .int .i64 (.ofNat i)), (0, .string ⟨⟨l⟩⟩)]) (fun _ => h) (fun i => i ≤ l.length ∧ ∀ j, j < i → byte (l.getD j 0).toNat = true) (fun i => l.length - i) 0 rfl (Less.cons rfl (Less.cons rfl (Less.nil _))) ⟨Nat.zero_le _, by omega⟩ ?_
  rintro i ⟨i1, i2⟩
  have n3 := fun h K hk => n2 (l.getD i 0).toNat h K hk
  generalize hc : byte (l.getD i 0).toNat = c at n3
  cases c
  all_goals cbv
  all_goals repeat' (first | refine And.intro (by assumption) ?_ | refine And.intro (fun h1 => ?_) (fun h1 => ?_) | refine And.intro (by omega) ?_) <;> cbv
  · refine .inl (n3 _ _ ?_)
    cbv
    exact ⟨_, rfl, eqb hk (by rw [hd, not_all h1 hc]; simp)⟩
  · exact ⟨_, rfl, eqb hk (by rw [hd, all_of i2 h1]; simp; omega)⟩
  · refine .inl (n3 _ _ ?_)
    cbv
    refine ⟨(by show i + 1 ≤ 4611686018427387904; omega), i + 1, Less.cons rfl (Less.cons rfl (Less.nil _)), rfl, ⟨by omega, fun j hj => ?_⟩, by omega⟩
    rcases Nat.lt_or_ge j i with q | q
    · exact i2 j q
    · rw [show j = i by omega]; exact hc
  · exact ⟨_, rfl, eqb hk (by rw [hd, all_of i2 h1]; simp; omega)⟩
theorem nIs (s : ByteArray) (h : H) (K : Value → H → Prop) (hk : ∀ h', K (.bool (isName (sL s))) h') : CallP E 81 [.string s] h K := by
  refine CallP.ofE hE rfl Tryz.func81 rfl (by simp) ?_
  have hS : isString E.1 9 = true := by rw [hE]; exact stringT
  have hL : isSlice E.1 (some 42) = true := by rw [hE]; exact bytesT
  have hZ : iSize E.1 42 = some 1 := by rw [hE]; exact bytesZ
  have hC := fun l h dst ty pos after guard x s K hx hk => raw_bytes (E := E) (l := l) (h := h) (dst := dst) (ty := ty) (pos := pos) (after := after) (guard := guard) (x := x) (s := s) (K := K) hx (show E.P.underlying 9 = some .string by rw [hE]; exact stringU) (show E.P.underlying 42 = some (.slice 5) by rw [hE]; exact bytesU) (show E.P.underlying 5 = some (.int .u8) by rw [hE]; exact byteU) hk
  have hM := fun h l i hi => load_bytes (E := E) (h := h) (l := l) (i := i) (e := 5) (show isAgg E.P 5 = some false by rw [hE]; exact byteA) (show sizeOf E.P 5 = some 1 by rw [hE]; exact byteZ) hi
  obtain ⟨⟨l⟩⟩ := s
  have n1 := fun h K hk => nLetter hE (l.getD 0 0).toNat h K hk
  have n2 := fun c h K hk => nMore hE c h K hk
  have q1 : l = [] ∨ 0 < l.length := by cases l; exact .inl rfl; exact .inr (Nat.succ_pos _)
  clear hE
  have hd : isName l = (decide (1 ≤ l.length) && decide (l.length ≤ 12) && first (l.getD 0 0).toNat && l.all fun c => byte c.toNat) := rfl
  generalize hb : first (l.getD 0 0).toNat = b at n1 hd
  cases b
  all_goals cbv
  all_goals repeat' (first | refine And.intro (by assumption) ?_ | refine And.intro (fun h1 => ?_) (fun h1 => ?_) | refine And.intro (by rcases q1 with rfl | q1; exact absurd rfl (by assumption); first | exact q1 | omega) ?_) <;> cbv
  all_goals try (refine ⟨_, rfl, eqb (hk _) ?_⟩; first | (rcases q1 with rfl | q1; rfl; exact absurd (show l = [] by assumption) (fun e => by subst e; cases q1)) | (simp [hd]; done) | (simp [hd]; omega))
  all_goals (refine .inl (n1 _ _ ?_); cbv)
  · exact ⟨_, rfl, eqb (hk _) (by simp [hd])⟩
  refine hC _ _ _ _ _ _ _ _ _ _ rfl ?_
  cbv
  refine And.intro hL ?_
  cbv
  refine LoopP.on (fun i : Nat => [(21, .int .i64 (.ofNat i)), (19, .slice (some ⟨h.next, 0, none⟩) l.length (UNK + 1)), (20, .int .i64 (.ofNat l.length))]) (fun _ => h.push (.cells (bytesV ⟨⟨l⟩⟩) (some 5) false 0)) (fun i => i ≤ l.length ∧ ∀ j, j < i → byte (l.getD j 0).toNat = true) (fun i => l.length - i) 0 rfl (Less.cons rfl (Less.cons rfl (Less.cons rfl (Less.nil _)))) ⟨Nat.zero_le _, by omega⟩ ?_
  rintro i ⟨i1, i2⟩
  have n3 := fun h K hk => n2 (l.getD i 0).toNat h K hk
  generalize hc : byte (l.getD i 0).toNat = c at n3
  cases c
  all_goals cbv
  all_goals repeat' (first | refine And.intro (by assumption) ?_ | refine And.intro (fun h1 => ?_) (fun h1 => ?_) | refine And.intro (by omega) ?_) <;> cbv
  · refine ⟨1, hZ, by assumption, ?_⟩
    rw [Nat.mul_one, show (({ block := h.2, off := 0 } : Addr).add i) = ⟨h.2, i, none⟩ by simp [Addr.add]; exact fun e => e.symm]
    cbv
    refine ⟨_, hM h l i (by assumption), ?_⟩
    cbv
    refine .inl (n3 _ _ ?_)
    cbv
    exact ⟨_, rfl, eqb (hk _) (by rw [hd, not_all (by assumption) hc]; simp)⟩
  · exact ⟨_, rfl, eqb (hk _) (by rw [hd, all_of i2 (by assumption)]; rcases q1 with rfl | q1; exact absurd rfl (by assumption); simp; omega)⟩
  · refine ⟨1, hZ, by assumption, ?_⟩
    rw [Nat.mul_one, show (({ block := h.2, off := 0 } : Addr).add i) = ⟨h.2, i, none⟩ by simp [Addr.add]; exact fun e => e.symm]
    cbv
    refine ⟨_, hM h l i (by assumption), ?_⟩
    cbv
    refine .inl (n3 _ _ ?_)
    cbv
    refine ⟨(by show i + 1 ≤ 4611686018427387904; omega), i + 1, Less.cons rfl (Less.cons rfl (Less.cons rfl (Less.nil _))), rfl, ⟨by omega, fun j hj => ?_⟩, by omega⟩
    rcases Nat.lt_or_ge j i with q | q
    · exact i2 j q
    · rw [show j = i by omega]; exact hc
  · exact ⟨_, rfl, eqb (hk _) (by rw [hd, all_of i2 (by assumption)]; rcases q1 with rfl | q1; exact absurd rfl (by assumption); simp; omega)⟩
end
end Go.Proofs.YtfgemjpoiconbaaGreatDoor.GEv

/- Texts cut at a byte, by symbolic runs. -/
namespace Go.Proofs.YtfgemjpoiconbaaGreatDoor.GEv
open Go
open Go.RowKit (Below)
set_option linter.unusedSimpArgs false
set_option linter.unusedVariables false
/-- Where a byte stands first. -/
def whereB (c : UInt8) (s : ByteArray) : Value := match (List.range s.size).find? fun i => s[i]! == c with
  | some i => .int .i64 i
  | none => .int .i64 (-1)
theorem run_index {P : Program} (s : ByteArray) (c : UInt8) : pureRun P (Extern.BytealgIndexByte.indexByte #[.string s, .int .u8 (.ofNat c.toNat)]) = some (whereB c s) := by
  have hc : (Int.ofNat c.toNat).toNat.toUInt8 = c := by
    show c.toNat.toUInt8 = c
    simp
  have h1 : pureRun P (Extern.Bytes.bytesOf (.string s)) = some s := rfl
  have h2 : pureRun P (Extern.Bytes.asByte (.int .u8 (.ofNat c.toNat))) = some c := by
    show some ((Int.ofNat c.toNat).toNat.toUInt8) = some c
    rw [hc]
  unfold whereB
  show pureRun P (Extern.Bytes.bytesOf (.string s) >>= fun b => Extern.Bytes.asByte (.int .u8 (.ofNat c.toNat)) >>= fun c => (match (List.range b.size).find? fun i => b[i]! == c with
    | some i => pure (goInt i)
    | none => pure (goInt (-1)))) = _
  rw [pureRun_bind _ h1, pureRun_bind _ h2]
  cases (List.range s.size).find? fun i => s[i]! == c <;> rfl
theorem whereB_flat (c : UInt8) (s : ByteArray) : flat2 (whereB c s) = true := by
  unfold whereB
  cases (List.range s.size).find? fun i => s[i]! == c <;> rfl
theorem raw_index {E : Env} {l : L} {h : H} {dst ty pos after guard f ts x y} {s : ByteArray} {c : UInt8} {fn : Func} {K : Value → H → Prop} (hx : evL l x = some (.string s)) (hy : evL l y = some (.int .u8 (.ofNat c.toNat)))
    (hf : E.P.funcs[f]? = some fn) (h1 : (fn.name == "runtime.NumGoroutine") = false) (h2 : fn.body.isNone = true) (h3 : Extern.findNext fn = none) (h4 : Extern.find fn = some Extern.BytealgIndexByte.indexByte)
    (c1 : E.clone ≠ some f) (c2 : E.same ≠ some f) (c3 : E.room ≠ some f) (hk : K (whereB c s) h) : RawP E l h ⟨dst, .call ⟨.value (.func f), #[x, y], ts⟩, ty, pos, after, guard⟩ K := ⟨fun tm hv => by
  refine OpP.val ?_ hk
  have q1 := evL_ok hv hx
  have q2 := evL_ok hv hy
  have hb : fn.body = none := by simpa using h2
  have q0 : evA tm (.func f) = some (.func (.func f) #[] #[]) := rfl
  have hp : allFlat tm [.func f, x, y] = true := by
    simp only [allFlat, q0, q1, q2]
    rfl
  have e0 : evA' tm (.func f) = .func (.func f) #[] #[] := rfl
  have e1 : evA' tm x = .string s := by simp only [evA', q1, Option.getD_some]
  have e2 : evA' tm y = .int .u8 (.ofNat c.toNat) := by simp only [evA', q2, Option.getD_some]
  have hcall : pureRun E.P (callFunc f #[.string s, .int .u8 (.ofNat c.toNat)]) = some (.value (whereB c s)) := by
    unfold callFunc
    rw [pureRun_bind (x := E.P) _ rfl]
    rw [hf]
    simp only [h1, Bool.false_eq_true, if_false, h2, if_true]
    rw [pureRun_bind (x := ()) _ rfl]
    simp only [h3, h4]
    rw [pureRun_bind _ (run_index s c)]
    rfl
  have hex : pureRun E.P (execOp (evA' tm) ⟨dst, .call ⟨.value (.func f), #[x, y], ts⟩, ty, pos, after, guard⟩) = some (.value (whereB c s)) := by
    have hr : resolve (evA' tm) ⟨.value (.func f), #[x, y], ts⟩ ty = pure { target := .fn (.func f) #[], args := #[.string s, .int .u8 (.ofNat c.toNat)] } := by
      simp [resolve, e0, e1, e2, Deferred.ofValue]
    show pureRun E.P (resolve (evA' tm) ⟨.value (.func f), #[x, y], ts⟩ ty >>= fun d => invoke d.target d.args) = _
    rw [hr, pureRun_bind (x := { target := .fn (.func f) #[], args := #[.string s, .int .u8 (.ofNat c.toNat)] }) _ rfl]
    exact hcall
  show hCallV E tm h _ (.func f) [x, y] = _
  simp only [hCallV, q0, evList, q1, q2, evCall, hf, hb, if_neg c1, if_neg c2, if_neg c3, evPure]
  rw [show (Op.operands (.call ⟨.value (.func f), #[x, y], ts⟩)).toList = [.func f, x, y] from rfl, hp, if_pos rfl, hex]
  simp only [whereB_flat, if_true]⟩
/-- What stands ahead of a byte, and behind it. -/
def cutB (c : UInt8) : List UInt8 → Option (List UInt8 × List UInt8)
  | [] => none
  | a :: l => if a = c then some ([], l) else (cutB c l).map fun p => (a :: p.1, p.2)
theorem cutB_some {c : UInt8} : ∀ {l p q : List UInt8}, cutB c l = some (p, q) → l = p ++ c :: q ∧ c ∉ p
  | [], p, q, h => by cases h
  | a :: l, p, q, h => by
    simp only [cutB] at h
    split at h
    · rename_i e; cases h; subst e; exact ⟨rfl, List.not_mem_nil⟩
    · rename_i e
      cases hl : cutB c l with
      | none => rw [hl] at h; cases h
      | some pq =>
        obtain ⟨p', q'⟩ := pq
        rw [hl] at h
        cases h
        obtain ⟨h1, h2⟩ := cutB_some hl
        exact ⟨by rw [h1]; rfl, fun hm => by
          cases hm with
          | head => exact e rfl
          | tail _ hm => exact h2 hm⟩
theorem cutB_none {c : UInt8} : ∀ {l : List UInt8}, cutB c l = none → c ∉ l
  | [], h => List.not_mem_nil
  | a :: l, h => by
    simp only [cutB] at h
    split at h
    · cases h
    · rename_i e
      cases hl : cutB c l with
      | none => intro hm; cases hm with
        | head => exact e rfl
        | tail _ hm => exact cutB_none hl hm
      | some pq => rw [hl] at h; cases h
theorem cutB_of {c : UInt8} : ∀ {p q : List UInt8}, c ∉ p → cutB c (p ++ c :: q) = some (p, q)
  | [], q, h => by simp [cutB]
  | a :: p, q, h => by
    have h1 : a ≠ c := fun e => h (e ▸ List.mem_cons_self ..)
    simp only [List.cons_append, cutB, if_neg h1, cutB_of (p := p) (q := q) (fun hm => h (List.mem_cons_of_mem _ hm)), Option.map_some]
theorem cutB_not {c : UInt8} : ∀ {l : List UInt8}, c ∉ l → cutB c l = none
  | [], h => rfl
  | a :: l, h => by
    have h1 : a ≠ c := fun e => h (e ▸ List.mem_cons_self ..)
    simp only [cutB, if_neg h1, cutB_not (l := l) (fun hm => h (List.mem_cons_of_mem _ hm)), Option.map_none]
theorem byte_at {l : List UInt8} {i : Nat} (h : i < l.length) : (⟨⟨l⟩⟩ : ByteArray)[i]! = l[i] := by
  have : i < (⟨⟨l⟩⟩ : ByteArray).size := h
  rw [getElem!_pos (⟨⟨l⟩⟩ : ByteArray) i this]
  rfl
theorem where_some {c : UInt8} {l p q : List UInt8} (h : cutB c l = some (p, q)) : whereB c ⟨⟨l⟩⟩ = .int .i64 (.ofNat p.length) := by
  obtain ⟨rfl, hn⟩ := cutB_some h
  have hlt : p.length < (p ++ c :: q).length := by simp
  have : (List.range (⟨⟨p ++ c :: q⟩⟩ : ByteArray).size).find? (fun i => (⟨⟨p ++ c :: q⟩⟩ : ByteArray)[i]! == c) = some p.length := by
    rw [List.find?_range_eq_some]
    refine ⟨?_, List.mem_range.2 hlt, fun j hj => ?_⟩
    · rw [byte_at hlt]; simp
    · rw [byte_at (by omega), List.getElem_append_left hj]
      simp only [Bool.not_eq_true', beq_eq_false_iff_ne]
      exact fun e => hn (e ▸ List.getElem_mem hj)
  unfold whereB
  rw [this]
  rfl
theorem where_none {c : UInt8} {l : List UInt8} (h : cutB c l = none) : whereB c ⟨⟨l⟩⟩ = .int .i64 (-1) := by
  have hn := cutB_none h
  have : (List.range (⟨⟨l⟩⟩ : ByteArray).size).find? (fun i => (⟨⟨l⟩⟩ : ByteArray)[i]! == c) = none := by
    rw [List.find?_range_eq_none]
    intro i hi
    rw [byte_at hi]
    simp only [Bool.not_eq_true', beq_eq_false_iff_ne]
    exact fun e => hn (e ▸ List.getElem_mem _)
  unfold whereB
  rw [this]
theorem indexX : ((Tryz.f113.name == "runtime.NumGoroutine") = false) ∧ Tryz.f113.body.isNone = true ∧ Extern.findNext Tryz.f113 = none ∧ Extern.find Tryz.f113 = some Extern.BytealgIndexByte.indexByte := ⟨by kernel_rfl, by kernel_rfl, by kernel_rfl, by kernel_rfl⟩
set_option maxRecDepth 100000
attribute [local cbv_opaque] isString isSlice isBoolT fOff iSize eqNil zero H.load H.store H.push H.dip whereB UInt8.toNat
section
variable {E : Env} (hE : E = EM)
include hE
theorem indexByte (s : ByteArray) (c : UInt8) (h : H) (K : Value → H → Prop) (hk : K (whereB c s) h) : CallP E 103 [.string s, .int .u8 (.ofNat c.toNat)] h K := by
  refine CallP.ofE hE rfl Tryz.func103 rfl (Nat.le_of_ble_eq_true rfl) ?_
  have hX := fun l h dst ty pos after guard ts x y K hx hy hk => raw_index (E := E) (l := l) (h := h) (dst := dst) (ty := ty) (pos := pos) (after := after) (guard := guard) (f := 113) (ts := ts) (x := x) (y := y) (s := s) (c := c) (K := K) hx hy (by rw [hE]; exact Tryz.func113) indexX.1 indexX.2.1 indexX.2.2.1 indexX.2.2.2 (by rw [hE]; decide) (by rw [hE]; decide) (by rw [hE]; decide) hk
  clear hE
  generalize c.toNat = n at hX
  cbv
  refine .inr (hX _ _ _ _ _ _ _ _ _ _ _ rfl rfl ?_)
  cbv
  exact ⟨_, rfl, hk⟩
theorem indexN (c : UInt8) (l : List UInt8) (h : H) (K : Value → H → Prop) (hk : K (whereB c ⟨⟨l⟩⟩) h) : CallP E 88 [.string ⟨⟨l⟩⟩, .string ⟨⟨[c]⟩⟩] h K := by
  refine CallP.ofE hE rfl Tryz.func88 rfl (Nat.le_of_ble_eq_true rfl) ?_
  have hS : isString E.1 9 = true := by rw [hE]; exact stringT
  have n1 := fun h K hk => indexByte hE ⟨⟨l⟩⟩ c h K hk
  clear hE
  cbv
  refine And.intro hS ?_
  refine And.intro (fun h1 => absurd h1 (by omega)) (fun _ => ?_)
  cbv
  refine And.intro (fun h1 => ?_) (fun _ => ?_)
  · have h2 : l = [c] := h1.symm
    subst h2
    cbv
    rw [where_some (p := []) (q := []) (by simp [cutB])] at hk
    exact ⟨_, rfl, hk⟩
  cbv
  refine And.intro (fun _ => ?_) (fun h1 => absurd rfl h1)
  cbv
  refine And.intro hS ?_
  refine .inl (n1 _ _ ?_)
  cbv
  exact ⟨_, rfl, hk⟩
attribute [local cbv_opaque] List.length List.take List.drop Nat.sub isName
attribute [local cbv_eval] List.length_cons List.length_nil
/-- What a cut hands back. -/
def cutV (c : UInt8) (l : List UInt8) : Value := match cutB c l with
  | some (p, q) => .tuple #[.string ⟨⟨p⟩⟩, .string ⟨⟨q⟩⟩, .bool true]
  | none => .tuple #[.string ⟨⟨l⟩⟩, .string ⟨⟨[]⟩⟩, .bool false]
theorem cutL (c : UInt8) (l : List UInt8) (hl : l.length ≤ 1000000) (h : H) (K : Value → H → Prop) (hk : ∀ h', K (cutV c l) h') : CallP E 71 [.string ⟨⟨l⟩⟩, .string ⟨⟨[c]⟩⟩] h K := by
  refine CallP.ofE hE rfl Tryz.func71 rfl (Nat.le_of_ble_eq_true rfl) ?_
  have hS : isString E.1 9 = true := by rw [hE]; exact stringT
  have n1 := fun h K hk => indexN hE c l h K hk
  clear hE
  unfold cutV at hk
  cases hc : cutB c l with
  | none =>
    rw [hc] at hk
    simp only [where_none hc] at n1
    cbv
    refine .inl (n1 _ _ ?_)
    cbv
    refine And.intro (fun h1 => absurd h1 (by decide)) (fun _ => ?_)
    cbv
    exact ⟨_, rfl, hk _⟩
  | some pq =>
    obtain ⟨p, q⟩ := pq
    rw [hc] at hk
    simp only [where_some hc] at n1
    obtain ⟨hl2, hn⟩ := cutB_some hc
    have l1 : p.length < l.length := by rw [hl2]; simp
    have l2 : l.take p.length = p := by rw [hl2]; simp
    have l3 : (l.drop (p.length + 1)).take (l.length - (p.length + 1)) = q := by rw [hl2]; simp; exact List.take_of_length_le (by omega)
    clear hl2 hc
    cbv
    refine .inl (n1 _ _ ?_)
    cbv
    refine And.intro (fun _ => ?_) (fun h1 => absurd h1 (by omega))
    cbv
    refine And.intro hS (And.intro (Nat.zero_le _) (And.intro (Nat.le_of_lt l1) ?_))
    cbv
    refine And.intro hS ?_
    cbv
    refine ⟨(by show p.length + 1 ≤ 4611686018427387904; omega), hS, (by show p.length + 1 ≤ l.length; omega), Nat.le_refl _, _, rfl, ?_⟩
    have hk := hk h.dip
    refine (show ∀ v, v = (.tuple #[.string ⟨⟨p⟩⟩, .string ⟨⟨q⟩⟩, .bool true] : Value) → K v h.dip from fun v e => e ▸ hk) _ ?_
    show tup [.string ⟨⟨List.take (p.length - 0) (l.drop 0)⟩⟩, .string ⟨⟨List.take (l.length - (p.length + 1)) (l.drop (p.length + 1))⟩⟩, .bool true] = _
    rw [l3, Nat.sub_zero, List.drop_zero, l2]
    rfl
theorem cutN (c : UInt8) (l : List UInt8) (hl : l.length ≤ 1000000) (h : H) (K : Value → H → Prop) (hk : ∀ h', K (cutV c l) h') : CallP E 50 [.string ⟨⟨l⟩⟩, .string ⟨⟨[c]⟩⟩] h K := by
  refine CallP.ofE hE rfl Tryz.func50 rfl (Nat.le_of_ble_eq_true rfl) ?_
  have n1 := fun h K hk => cutL hE c l hl h K hk
  clear hE
  unfold cutV at hk n1
  cases hc : cutB c l with
  | none =>
    rw [hc] at hk
    simp only [hc] at n1
    cbv
    refine .inl (n1 _ _ fun h' => ?_)
    cbv
    exact ⟨_, rfl, hk _⟩
  | some pq =>
    obtain ⟨p, q⟩ := pq
    rw [hc] at hk
    simp only [hc] at n1
    cbv
    refine .inl (n1 _ _ fun h' => ?_)
    cbv
    exact ⟨_, rfl, hk _⟩
/-- What the parts are. -/
def splitV (l : List UInt8) : Value := match cutB 58 l with
  | some (p, q) => .tuple #[.string ⟨⟨p⟩⟩, .string ⟨⟨q⟩⟩]
  | none => .tuple #[.string ⟨⟨[]⟩⟩, .string ⟨⟨l⟩⟩]
def isQual (s : List UInt8) : Bool := match cutB 58 s with
  | some (p, l) => isName p && isName l
  | none => isName s
theorem nQual (l : List UInt8) (hl : l.length ≤ 1000000) (h : H) (K : Value → H → Prop) (hk : ∀ h', K (.bool (isQual l)) h') : CallP E 66 [.string ⟨⟨l⟩⟩] h K := by
  refine CallP.ofE hE rfl Tryz.func66 rfl (Nat.le_of_ble_eq_true rfl) ?_
  have n1 := fun h K hk => cutN hE 58 l hl h K hk
  have n2 := fun l h K hk => nIs hE ⟨⟨l⟩⟩ h K hk
  clear hE
  unfold isQual at hk
  unfold cutV at n1
  cases hc : cutB 58 l with
  | none =>
    rw [hc] at hk
    simp only [hc] at n1
    cbv
    refine .inl (n1 _ _ fun h' => ?_)
    cbv
    refine .inl (n2 _ _ _ fun h' => ?_)
    cbv
    exact ⟨_, rfl, hk _⟩
  | some pq =>
    obtain ⟨p, q⟩ := pq
    rw [hc] at hk
    simp only [hc] at n1
    have n3 : ∀ (h : H) (K : Value → H → Prop), (∀ h', K (.bool (isName p)) h') → CallP E 81 [.string ⟨⟨p⟩⟩] h K := n2 p
    have n4 : ∀ (h : H) (K : Value → H → Prop), (∀ h', K (.bool (isName q)) h') → CallP E 81 [.string ⟨⟨q⟩⟩] h K := n2 q
    have hk' : ∀ h', K (.bool (isName p && isName q)) h' := hk
    clear hk n2
    generalize isName p = a at n3 hk'
    generalize isName q = b at n4 hk'
    cases a <;> cases b
    all_goals cbv
    all_goals (refine .inl (n1 _ _ fun h' => ?_); cbv; refine .inl (n3 _ _ fun h' => ?_); cbv)
    all_goals first | exact ⟨_, rfl, hk' _⟩ | (refine .inl (n4 _ _ fun h' => ?_); cbv; exact ⟨_, rfl, hk' _⟩)
end
end Go.Proofs.YtfgemjpoiconbaaGreatDoor.GEv

/- Texts in which one byte is replaced: by the library's own words, and by this claim's. -/
namespace Go.Proofs.YtfgemjpoiconbaaGreatDoor.GEv
open Go
set_option linter.unusedSimpArgs false
set_option linter.unusedVariables false
theorem index_cons (b c : UInt8) (l : List UInt8) : Lib.index (b :: l) [c] = if b = c then 0 else if Lib.index l [c] = -1 then -1 else Lib.index l [c] + 1 := by
  show (if [c].isPrefixOf (b :: l) then 0 else if Lib.index l [c] == -1 then -1 else Lib.index l [c] + 1) = _
  by_cases h : b = c
  · subst h; simp [List.isPrefixOf]
  · have : ¬ c = b := fun e => h e.symm
    simp [List.isPrefixOf, h, this]
theorem index_none' {c : UInt8} : ∀ {l : List UInt8}, cutB c l = none → Lib.index l [c] = -1
  | [], _ => rfl
  | b :: l, h => by
    rw [index_cons]
    simp only [cutB] at h
    split at h
    · cases h
    · rename_i e
      rw [if_neg e]
      cases hl : cutB c l with
      | none => rw [index_none' hl, if_pos rfl]
      | some pq => rw [hl] at h; cases h
theorem index_some' {c : UInt8} : ∀ {l p q : List UInt8}, cutB c l = some (p, q) → Lib.index l [c] = p.length
  | [], p, q, h => by cases h
  | b :: l, p, q, h => by
    rw [index_cons]
    simp only [cutB] at h
    split at h
    · rename_i e; cases h; rw [if_pos e]; rfl
    · rename_i e
      rw [if_neg e]
      cases hl : cutB c l with
      | none => rw [hl] at h; cases h
      | some pq =>
        obtain ⟨p', q'⟩ := pq
        rw [hl] at h
        cases h
        rw [index_some' hl, if_neg (by omega)]
        simp
/-- A byte for which something else is written. -/
def sub1 (c : UInt8) (new : List UInt8) (x : UInt8) : List UInt8 := if x = c then new else [x]
theorem flat_not {c : UInt8} {new : List UInt8} : ∀ {l : List UInt8}, c ∉ l → l.flatMap (sub1 c new) = l
  | [], _ => rfl
  | b :: l, h => by
    have h1 : ¬ b = c := fun e => h (e ▸ List.mem_cons_self ..)
    rw [List.flatMap_cons, flat_not (l := l) fun hm => h (List.mem_cons_of_mem _ hm)]
    simp [sub1, h1]
theorem replaceK_flat (c : UInt8) (new : List UInt8) : ∀ (k : Nat) (s : List UInt8), s.count c ≤ k → Lib.replaceK [c] new k s = s.flatMap (sub1 c new)
  | 0, s, h => by
    have : c ∉ s := by
      intro hm
      have := List.count_pos_iff.2 hm
      omega
    rw [flat_not this]; rfl
  | k + 1, s, h => by
    unfold Lib.replaceK
    cases hc : cutB c s with
    | none =>
      rw [index_none' hc]
      simp only [beq_self_eq_true, if_true]
      exact (flat_not (cutB_none hc)).symm
    | some pq =>
      obtain ⟨p, q⟩ := pq
      obtain ⟨hs, hn⟩ := cutB_some hc
      rw [index_some' hc]
      have e1 : ((p.length : Int) == -1) = false := by simp
      have e2 : s.drop (p.length + 1) = q := by rw [hs]; simp
      have e3 : s.take p.length = p := by rw [hs]; simp
      have e4 : q.count c ≤ k := by
        rw [hs, List.count_append, List.count_cons_self] at h
        omega
      simp only [e1, Bool.false_eq_true, if_false, Int.toNat_natCast, List.length_singleton, e2, e3, replaceK_flat c new k q e4]
      rw [hs, List.flatMap_append, List.flatMap_cons, flat_not hn]
      simp [sub1]
theorem replaceAll_flat (c : UInt8) (new s : List UInt8) : Lib.replaceAll s [c] new = s.flatMap (sub1 c new) := by
  unfold Lib.replaceAll Lib.replace
  split
  · rename_i e
    have e := (eq_of_beq e).symm
    subst e
    have : ∀ x : UInt8, sub1 c [c] x = [x] := by
      intro x
      unfold sub1
      split
      · rename_i q; rw [q]
      · rfl
    rw [show sub1 c [c] = fun x => [x] from funext this]
    simp
  · have hn : Lib.replaceNum s [c] (-1) = s.count c := by
      unfold Lib.replaceNum
      rw [if_pos (.inl (by decide)), Lib.count_one]
    rw [hn]
    exact replaceK_flat c new _ s (Nat.le_refl _)
/-- A byte as it is written. -/
def esc (attr : Bool) (c : UInt8) : List UInt8 :=
  if c = 38 then [38, 97, 109, 112, 59] else if c = 60 then [38, 108, 116, 59] else if c = 62 then [38, 103, 116, 59] else
  if c = 34 ∧ attr = true then [38, 113, 117, 111, 116, 59] else if c = 9 ∧ attr = true then [38, 35, 57, 59] else
  if c = 10 ∧ attr = true then [38, 35, 49, 48, 59] else if c = 13 ∧ attr = true then [38, 35, 49, 51, 59] else [c]
def escape (attr : Bool) (s : List UInt8) : List UInt8 := s.flatMap (esc attr)
theorem escape_false (s : List UInt8) : ((s.flatMap (sub1 38 [38, 97, 109, 112, 59])).flatMap (sub1 60 [38, 108, 116, 59])).flatMap (sub1 62 [38, 103, 116, 59]) = escape false s := by
  rw [List.flatMap_assoc, List.flatMap_assoc]
  unfold escape
  congr 1
  funext x
  unfold esc sub1
  by_cases h1 : x = 38
  · subst h1; decide
  by_cases h2 : x = 60
  · subst h2; decide
  by_cases h3 : x = 62
  · subst h3; decide
  simp [h1, h2, h3]
theorem escape_true (s : List UInt8) : ((((((s.flatMap (sub1 38 [38, 97, 109, 112, 59])).flatMap (sub1 60 [38, 108, 116, 59])).flatMap (sub1 62 [38, 103, 116, 59])).flatMap (sub1 34 [38, 113, 117, 111, 116, 59])).flatMap (sub1 9 [38, 35, 57, 59])).flatMap (sub1 10 [38, 35, 49, 48, 59])).flatMap (sub1 13 [38, 35, 49, 51, 59]) = escape true s := by
  simp only [List.flatMap_assoc]
  unfold escape
  congr 1
  funext x
  unfold esc sub1
  by_cases h1 : x = 38
  · subst h1; decide
  by_cases h2 : x = 60
  · subst h2; decide
  by_cases h3 : x = 62
  · subst h3; decide
  by_cases h4 : x = 34
  · subst h4; decide
  by_cases h5 : x = 9
  · subst h5; decide
  by_cases h6 : x = 10
  · subst h6; decide
  by_cases h7 : x = 13
  · subst h7; decide
  simp [h1, h2, h3, h4, h5, h6, h7]
end Go.Proofs.YtfgemjpoiconbaaGreatDoor.GEv

/- Texts as they are written, by symbolic runs. -/
namespace Go.Proofs.YtfgemjpoiconbaaGreatDoor.GEv
open Go
set_option linter.unusedSimpArgs false
set_option linter.unusedVariables false
theorem esc_len (a : Bool) (c : UInt8) : (esc a c).length ≤ 6 := by
  unfold esc
  repeat' split
  all_goals simp
theorem escape_len (a : Bool) : ∀ l : List UInt8, (escape a l).length ≤ 6 * l.length
  | [] => Nat.le_refl _
  | c :: l => by
    have h1 := escape_len a l
    have h2 := esc_len a c
    unfold escape at h1 ⊢
    rw [List.flatMap_cons, List.length_append, List.length_cons]
    omega
theorem sub1_len {c : UInt8} {new : List UInt8} (hn : new.length ≤ 6) (l : List UInt8) : (l.flatMap (sub1 c new)).length ≤ 6 * l.length := by
  induction l with
  | nil => exact Nat.le_refl _
  | cons b l ih =>
    rw [List.flatMap_cons, List.length_append, List.length_cons]
    have : (sub1 c new b).length ≤ 6 := by
      unfold sub1
      split
      · exact hn
      · simp
    omega
theorem esc_nat (attr : Bool) (c : UInt8) : esc attr c = if c.toNat = 38 then [38, 97, 109, 112, 59] else if c.toNat = 60 then [38, 108, 116, 59] else if c.toNat = 62 then [38, 103, 116, 59] else
  if c.toNat = 34 ∧ attr = true then [38, 113, 117, 111, 116, 59] else if c.toNat = 9 ∧ attr = true then [38, 35, 57, 59] else
  if c.toNat = 10 ∧ attr = true then [38, 35, 49, 48, 59] else if c.toNat = 13 ∧ attr = true then [38, 35, 49, 51, 59] else [c] := by
  unfold esc
  simp only [← UInt8.toNat_inj]
  rfl
theorem escape_next {a : Bool} {l s : List UInt8} {i : Nat} (hi : i < l.length) (hs : s = escape a (l.take i)) (X : List UInt8) (hX : esc a (l.getD i 0) = X) : s ++ X = escape a (l.take (i + 1)) := by
  have e : l.take (i + 1) = l.take i ++ [l[i]] := by rw [List.take_succ_eq_append_getElem hi]
  rw [hs, ← hX, e, List.getD_eq_getElem?_getD, List.getElem?_eq_getElem hi]
  unfold escape
  rw [List.flatMap_append]
  simp
theorem take_one {l : List UInt8} {i : Nat} (hi : i < l.length) : List.take (i + 1 - i) (List.drop i l) = [l.getD i 0] := by
  rw [show i + 1 - i = 1 by omega, List.drop_eq_getElem_cons hi, List.getD_eq_getElem?_getD, List.getElem?_eq_getElem hi]
  rfl
set_option maxRecDepth 100000
attribute [local cbv_opaque] isString isSlice isBoolT fOff iSize eqNil zero H.load H.store H.push H.dip List.flatMap escape
section
variable {E : Env} (hE : E = EM)
include hE
theorem validC (l : List UInt8) (hl : l.length ≤ 4000000000) (h : H) (K : Value → H → Prop) (hk : K (.bool (Lib.validD l)) h) : CallP E 35 [.string ⟨⟨l⟩⟩] h K := by
  refine CallP.memo (v := .bool (Lib.validD l)) ?_ (by rw [hE]; exact ⟨_, _, Tryz.func35, rfl⟩) hk
  rw [hE]
  show validP [.string ⟨⟨l⟩⟩] = _
  have : Nat.ble (⟨⟨l⟩⟩ : ByteArray).size 4000000000 = true := Nat.ble_eq_true_of_le hl
  simp only [validP, this]
theorem replC (l new : List UInt8) (c : UInt8) (hl : l.length ≤ 4000000000) (hn : new.length ≤ 6) (h : H) (K : Value → H → Prop) (hk : K (.string ⟨⟨l.flatMap (sub1 c new)⟩⟩) h) : CallP E 42 [.string ⟨⟨l⟩⟩, .string ⟨⟨[c]⟩⟩, .string ⟨⟨new⟩⟩] h K := by
  refine CallP.memo (v := .string ⟨⟨l.flatMap (sub1 c new)⟩⟩) ?_ (by rw [hE]; exact ⟨_, _, Tryz.func42, rfl⟩) hk
  rw [hE]
  show replP [.string ⟨⟨l⟩⟩, .string ⟨⟨[c]⟩⟩, .string ⟨⟨new⟩⟩] = _
  have h1 : Nat.ble (⟨⟨l⟩⟩ : ByteArray).size 4000000000 = true := Nat.ble_eq_true_of_le hl
  have h2 : Nat.ble (⟨⟨new⟩⟩ : ByteArray).size 6 = true := Nat.ble_eq_true_of_le hn
  have h3 : Nat.ble 1 (⟨⟨[c]⟩⟩ : ByteArray).size = true := rfl
  simp only [replP, h1, h2, h3]
  rw [replaceAll_flat]
theorem nEscape (a : Bool) (l : List UInt8) (hl : l.length ≤ 10000) (h : H) (K : Value → H → Prop) (hk : K (.string ⟨⟨escape a l⟩⟩) h) : CallP E 23 [.string ⟨⟨l⟩⟩, .bool a] h K := by
  refine CallP.ofE hE rfl Tryz.func23 rfl (Nat.le_of_ble_eq_true rfl) ?_
  have k1 := sub1_len (c := 38) (new := [38, 97, 109, 112, 59]) (by decide) l
  have r1 := replC hE l [38, 97, 109, 112, 59] 38 (by omega) (by decide)
  generalize e1 : l.flatMap (sub1 38 [38, 97, 109, 112, 59]) = m1 at k1 r1
  have k2 := sub1_len (c := 60) (new := [38, 108, 116, 59]) (by decide) m1
  have r2 := replC hE m1 [38, 108, 116, 59] 60 (by omega) (by decide)
  generalize e2 : m1.flatMap (sub1 60 [38, 108, 116, 59]) = m2 at k2 r2
  have k3 := sub1_len (c := 62) (new := [38, 103, 116, 59]) (by decide) m2
  have r3 := replC hE m2 [38, 103, 116, 59] 62 (by omega) (by decide)
  generalize e3 : m2.flatMap (sub1 62 [38, 103, 116, 59]) = m3 at k3 r3
  have k4 := sub1_len (c := 34) (new := [38, 113, 117, 111, 116, 59]) (by decide) m3
  have r4 := replC hE m3 [38, 113, 117, 111, 116, 59] 34 (by omega) (by decide)
  generalize e4 : m3.flatMap (sub1 34 [38, 113, 117, 111, 116, 59]) = m4 at k4 r4
  have k5 := sub1_len (c := 9) (new := [38, 35, 57, 59]) (by decide) m4
  have r5 := replC hE m4 [38, 35, 57, 59] 9 (by omega) (by decide)
  generalize e5 : m4.flatMap (sub1 9 [38, 35, 57, 59]) = m5 at k5 r5
  have k6 := sub1_len (c := 10) (new := [38, 35, 49, 48, 59]) (by decide) m5
  have r6 := replC hE m5 [38, 35, 49, 48, 59] 10 (by omega) (by decide)
  generalize e6 : m5.flatMap (sub1 10 [38, 35, 49, 48, 59]) = m6 at k6 r6
  have r7 := replC hE m6 [38, 35, 49, 51, 59] 13 (by omega) (by decide)
  clear k1 k2 k3 k4 k5 k6 hE
  cases a with
  | false =>
    have hm : escape false l = m3 := by rw [← escape_false, e1, e2, e3]
    rw [hm] at hk
    clear e1 e2 e3 e4 e5 e6
    cbv
    refine .inl (r1 _ _ ?_)
    cbv
    refine .inl (r2 _ _ ?_)
    cbv
    refine .inl (r3 _ _ ?_)
    cbv
    exact ⟨_, rfl, hk⟩
  | true =>
    have hm : escape true l = m6.flatMap (sub1 13 [38, 35, 49, 51, 59]) := by rw [← escape_true, e1, e2, e3, e4, e5, e6]
    rw [hm] at hk
    generalize m6.flatMap (sub1 13 [38, 35, 49, 51, 59]) = m7 at r7 hk
    clear e1 e2 e3 e4 e5 e6
    cbv
    refine .inl (r1 _ _ ?_)
    cbv
    refine .inl (r2 _ _ ?_)
    cbv
    refine .inl (r3 _ _ ?_)
    cbv
    refine .inl (r4 _ _ ?_)
    cbv
    refine .inl (r5 _ _ ?_)
    cbv
    refine .inl (r6 _ _ ?_)
    cbv
    refine .inl (r7 _ _ ?_)
    cbv
    exact ⟨_, rfl, hk⟩
attribute [local cbv_opaque] List.length List.take List.drop List.append List.getD UInt8.toNat Nat.sub Nat.add
attribute [local cbv_eval] List.length_cons List.length_nil
theorem rEscape (a : Bool) (l : List UInt8) (hl : l.length ≤ 10000) (h : H) (K : Value → H → Prop) (hk : K (.string ⟨⟨escape a l⟩⟩) h) : CallP E 31 [.string ⟨⟨l⟩⟩, .bool a] h K := by
  refine CallP.ofE hE rfl Tryz.func31 rfl (Nat.le_of_ble_eq_true rfl) ?_
  have hS : isString E.1 9 = true := by rw [hE]; exact stringT
  clear hE
  cases a
  all_goals cbv
  · refine LoopP.on (fun x : Nat × List UInt8 => [(6, .int .i64 (.ofNat x.1)), (0, .string ⟨⟨l⟩⟩), (1, .bool false), (5, .string ⟨⟨x.2⟩⟩)]) (fun _ => h) (fun x => x.1 ≤ l.length ∧ x.2 = escape false (l.take x.1)) (fun x => l.length - x.1) (0, []) rfl (Less.cons rfl (Less.cons rfl (Less.cons rfl (Less.cons rfl (Less.nil _))))) ⟨Nat.zero_le _, rfl⟩ ?_
    rintro ⟨i, s⟩ ⟨i1, i2⟩
    have i1 : i ≤ l.length := i1
    have i2 : s = escape false (l.take i) := i2
    have i3 : i + 1 ≤ 4611686018427387904 := by omega
    have i4 : i ≤ i + 1 := Nat.le_succ i
    have hs : s.length ≤ 60000 := by
      have q1 := escape_len false (l.take i)
      have q2 : (l.take i).length ≤ l.length := by simp; omega
      rw [i2]; omega
    have f4 : s.length + 4 ≤ 4611686018427387904 := by omega
    have f5 : s.length + 5 ≤ 4611686018427387904 := by omega
    have f6 : s.length + 6 ≤ 4611686018427387904 := by omega
    have f7 : s.length + (List.take (i + 1 - i) (List.drop i l)).length ≤ 4611686018427387904 := by
      have q1 : (List.take (i + 1 - i) (List.drop i l)).length ≤ i + 1 - i := by simp; omega
      omega
    have nx := fun hi X hX => escape_next (a := false) (l := l) (i := i) hi i2 X hX
    have t1 := fun hi => take_one (l := l) (i := i) hi
    simp only [esc_nat] at nx
    cbv
    repeat' (first | refine And.intro (by assumption) ?_ | refine And.intro (fun h1 => ?_) (fun h1 => ?_)) <;> cbv
    all_goals try (refine ⟨(i + 1, s ++ _), Less.cons rfl (Less.cons rfl (Less.cons rfl (Less.cons rfl (Less.nil _)))), rfl, ⟨?_, nx (by assumption) _ ?_⟩, ?_⟩)
    any_goals (show i + 1 ≤ l.length; omega)
    any_goals (show l.length - (i + 1) < l.length - i; omega)
    any_goals first
      | ((repeat' (first | rw [if_pos (by assumption)] | rw [if_neg (by assumption)] | rw [if_pos ⟨by assumption, by first | exact trivial | exact rfl⟩] | rw [if_neg (fun e => absurd e.1 (by assumption))] | rw [if_neg (fun e => Bool.noConfusion e.2)])); done)
      | (refine Eq.trans ?_ (t1 (by assumption)).symm; (repeat' (first | rw [if_neg (by assumption)] | rw [if_neg (fun e => absurd e.1 (by assumption))] | rw [if_neg (fun e => Bool.noConfusion e.2)])); done)
      | skip
    all_goals (refine ⟨_, rfl, ?_⟩; rw [show s = escape false l by rw [i2, List.take_of_length_le (by omega)]]; exact hk)
  · refine LoopP.on (fun x : Nat × List UInt8 => [(6, .int .i64 (.ofNat x.1)), (0, .string ⟨⟨l⟩⟩), (1, .bool true), (5, .string ⟨⟨x.2⟩⟩)]) (fun _ => h) (fun x => x.1 ≤ l.length ∧ x.2 = escape true (l.take x.1)) (fun x => l.length - x.1) (0, []) rfl (Less.cons rfl (Less.cons rfl (Less.cons rfl (Less.cons rfl (Less.nil _))))) ⟨Nat.zero_le _, rfl⟩ ?_
    rintro ⟨i, s⟩ ⟨i1, i2⟩
    have i1 : i ≤ l.length := i1
    have i2 : s = escape true (l.take i) := i2
    have i3 : i + 1 ≤ 4611686018427387904 := by omega
    have i4 : i ≤ i + 1 := Nat.le_succ i
    have hs : s.length ≤ 60000 := by
      have q1 := escape_len true (l.take i)
      have q2 : (l.take i).length ≤ l.length := by simp; omega
      rw [i2]; omega
    have f4 : s.length + 4 ≤ 4611686018427387904 := by omega
    have f5 : s.length + 5 ≤ 4611686018427387904 := by omega
    have f6 : s.length + 6 ≤ 4611686018427387904 := by omega
    have f7 : s.length + (List.take (i + 1 - i) (List.drop i l)).length ≤ 4611686018427387904 := by
      have q1 : (List.take (i + 1 - i) (List.drop i l)).length ≤ i + 1 - i := by simp; omega
      omega
    have nx := fun hi X hX => escape_next (a := true) (l := l) (i := i) hi i2 X hX
    have t1 := fun hi => take_one (l := l) (i := i) hi
    simp only [esc_nat] at nx
    cbv
    repeat' (first | refine And.intro (by assumption) ?_ | refine And.intro (fun h1 => ?_) (fun h1 => ?_)) <;> cbv
    all_goals try (refine ⟨(i + 1, s ++ _), Less.cons rfl (Less.cons rfl (Less.cons rfl (Less.cons rfl (Less.nil _)))), rfl, ⟨?_, nx (by assumption) _ ?_⟩, ?_⟩)
    any_goals (show i + 1 ≤ l.length; omega)
    any_goals (show l.length - (i + 1) < l.length - i; omega)
    any_goals first
      | ((repeat' (first | rw [if_pos (by assumption)] | rw [if_neg (by assumption)] | rw [if_pos ⟨by assumption, by first | exact trivial | exact rfl⟩] | rw [if_neg (fun e => absurd e.1 (by assumption))] | rw [if_neg (fun e => Bool.noConfusion e.2)])); done)
      | (refine Eq.trans ?_ (t1 (by assumption)).symm; (repeat' (first | rw [if_neg (by assumption)] | rw [if_neg (fun e => absurd e.1 (by assumption))] | rw [if_neg (fun e => Bool.noConfusion e.2)])); done)
      | skip
    all_goals (refine ⟨_, rfl, ?_⟩; rw [show s = escape true l by rw [i2, List.take_of_length_le (by omega)]]; exact hk)
end
end Go.Proofs.YtfgemjpoiconbaaGreatDoor.GEv

/- Texts of signs, by symbolic runs. -/
namespace Go.Proofs.YtfgemjpoiconbaaGreatDoor.GEv
open Go
set_option linter.unusedSimpArgs false
set_option linter.unusedVariables false
/-- The runes of a text from a place on. -/
def runesP (s : ByteArray) : Nat → Nat → List Nat
  | 0, _ => []
  | b + 1, i => if i < s.size then (Utf8.decode s i).1 :: runesP s b (i + (Utf8.decode s i).2) else []
theorem runesFrom_P (s : ByteArray) : ∀ (b i : Nat) (acc : Array Value), (Conv.runesFrom s b i acc).toList = acc.toList ++ (runesP s b i).map fun r => .int .i32 (.ofNat r)
  | 0, i, acc => by simp [Conv.runesFrom, runesP]
  | b + 1, i, acc => by
    unfold Conv.runesFrom runesP
    split
    · rw [runesFrom_P s b _ _, Array.toList_push, List.map_cons, List.append_assoc]
      rfl
    · simp
theorem runesV_P (s : ByteArray) : runesV s = (runesP s s.size 0).map fun r => .int .i32 (.ofNat r) := by
  unfold runesV
  rw [runesFrom_P]
  rfl
theorem runesP_len (s : ByteArray) : ∀ b i, (runesP s b i).length ≤ b
  | 0, i => Nat.le_refl _
  | b + 1, i => by
    unfold runesP
    split
    · rw [List.length_cons]
      have := runesP_len s b (i + (Utf8.decode s i).2)
      omega
    · exact Nat.zero_le _
/-- The runes of a text. -/
def runesL (l : List UInt8) : List Nat := runesP ⟨⟨l⟩⟩ l.length 0
theorem runesL_len (l : List UInt8) : (runesL l).length ≤ l.length := runesP_len _ _ _
def signs (l : List UInt8) : Bool := Lib.validD l && (runesL l).all fun r => sign (.ofNat r)
theorem raw_runes {E : Env} {l : L} {h : H} {dst ty pos after guard src t x} {s : ByteArray} {e : TypeId} {K : Value → H → Prop} (hx : evL l x = some (.string s)) (h1 : E.P.underlying src = some .string) (h2 : E.P.underlying t = some (.slice e)) (h3 : E.P.underlying e = some (.int .i32)) (hl : s.size ≤ 70368744177664)
    (hk : K (.slice (some ⟨h.next, 0, none⟩) (runesV s).length (UNK + 1)) (h.push (.cells (runesV s) (some e) false 0))) : RawP E l h ⟨dst, .convert src t x, ty, pos, after, guard⟩ K := by
  have hb : Nat.ble (runesV s).length 70368744177664 = true := by
    apply Nat.ble_eq_true_of_le
    rw [runesV_P, List.length_map]
    exact Nat.le_trans (runesP_len _ _ _) hl
  exact ⟨fun tm hv => OpP.val (by simp only [evOp, hConv, evL_ok hv hx, h1, h2, h3, hb]) hk⟩
theorem load_runes {E : Env} {h : H} {l : List Nat} {i : Nat} {e : TypeId} (h1 : isAgg E.P e = some false) (h2 : sizeOf E.P e = some 1) (hi : i < l.length) :
    (h.push (.cells (l.map fun r => .int .i32 (.ofNat r)) (some e) false 0)).load E.P e ⟨h.next, i, none⟩ = some (.int .i32 (.ofNat (l.getD i 0))) := by
  simp only [H.load, h1, h2, H.read, H.push, U.get_set, if_pos, cut]
  rw [if_pos (by simp; omega)]
  have : ((l.map fun r => Value.int .i32 (.ofNat r)).drop i).take 1 = [.int .i32 (.ofNat (l.getD i 0))] := by
    rw [List.drop_eq_getElem_cons (by simp; omega)]
    simp [List.getElem?_eq_getElem hi]
  rw [this]
theorem alls_not {l : List Nat} {i : Nat} (h : i < l.length) (hb : sign (.ofNat (l.getD i 0)) = false) : (l.all fun r => sign (.ofNat r)) = false := by
  rw [List.getD_eq_getElem?_getD, List.getElem?_eq_getElem h, Option.getD_some] at hb
  exact List.all_eq_false.2 ⟨l[i], List.getElem_mem h, by rw [hb]; simp⟩
theorem alls_of {l : List Nat} {i : Nat} (h : ∀ j, j < i → sign (.ofNat (l.getD j 0)) = true) (hi : l.length ≤ i) : (l.all fun r => sign (.ofNat r)) = true := by
  refine List.all_eq_true.2 fun c hc => ?_
  obtain ⟨j, hj, rfl⟩ := List.getElem_of_mem hc
  have := h j (by omega)
  rwa [List.getD_eq_getElem?_getD, List.getElem?_eq_getElem hj] at this
theorem runesT : isSlice EM.P (some 65) = true := by kernel_rfl
theorem runesZ : iSize EM.P 65 = some 1 := by kernel_rfl
theorem runesU : EM.P.underlying 65 = some (.slice 21) := by kernel_rfl
theorem runeU : EM.P.underlying 21 = some (.int .i32) := by kernel_rfl
theorem runeA : isAgg EM.P 21 = some false := by kernel_rfl
theorem runeZ : sizeOf EM.P 21 = some 1 := by kernel_rfl
set_option maxRecDepth 100000
attribute [local cbv_opaque] isString isSlice isBoolT fOff iSize eqNil zero H.load H.store H.push H.dip List.length List.getD runesV
section
variable {E : Env} (hE : E = EM)
include hE
theorem rSigns (l : List UInt8) (hl : l.length ≤ 2000000) (h : H) (K : Value → H → Prop) (hk : ∀ h', K (.bool (signs l)) h') : CallP E 19 [.string ⟨⟨l⟩⟩] h K := by
  refine CallP.ofE hE rfl Tryz.func19 rfl (Nat.le_of_ble_eq_true rfl) ?_
  have hL : isSlice E.1 (some 65) = true := by rw [hE]; exact runesT
  have hZ : iSize E.1 65 = some 1 := by rw [hE]; exact runesZ
  have hC := fun q h dst ty pos after guard x K hx hk => raw_runes (E := E) (l := q) (h := h) (dst := dst) (ty := ty) (pos := pos) (after := after) (guard := guard) (x := x) (s := ⟨⟨l⟩⟩) (K := K) hx (show E.P.underlying 9 = some .string by rw [hE]; exact stringU) (show E.P.underlying 65 = some (.slice 21) by rw [hE]; exact runesU) (show E.P.underlying 21 = some (.int .i32) by rw [hE]; exact runeU) (show l.length ≤ 70368744177664 by omega) hk
  have hV : runesV ⟨⟨l⟩⟩ = (runesL l).map fun r => .int .i32 (.ofNat r) := runesV_P ⟨⟨l⟩⟩
  have hM := fun h i hi => load_runes (E := E) (h := h) (l := runesL l) (i := i) (e := 21) (show isAgg E.P 21 = some false by rw [hE]; exact runeA) (show sizeOf E.P 21 = some 1 by rw [hE]; exact runeZ) hi
  rw [← hV] at hM
  have hn : (runesV ⟨⟨l⟩⟩).length = (runesL l).length := by rw [hV, List.length_map]
  have n0 := fun h K hk => validC hE l (by omega) h K hk
  have n2 := fun c h K hk => rChar hE c h K hk
  have hlen := runesL_len l
  clear hE hV
  have hd : signs l = (Lib.validD l && (runesL l).all fun r => sign (.ofNat r)) := rfl
  generalize signs l = ans at hk hd
  generalize Lib.validD l = b at n0 hd
  generalize runesL l = rs at hM hn hd hlen
  cases b
  all_goals cbv
  all_goals (refine .inl (n0 _ _ ?_); cbv)
  · exact ⟨_, rfl, eqb (hk _) (by rw [hd]; rfl)⟩
  refine hC _ _ _ _ _ _ _ _ _ rfl ?_
  cbv
  rw [hn]
  refine LoopP.on (fun i : Nat => [(4, .int .i64 (.ofNat i)), (3, .slice (some ⟨h.next, 0, none⟩) rs.length (UNK + 1))]) (fun _ => h.push (.cells (runesV ⟨⟨l⟩⟩) (some 21) false 0)) (fun i => i ≤ rs.length ∧ ∀ j, j < i → sign (.ofNat (rs.getD j 0)) = true) (fun i => rs.length - i) 0 rfl (Less.cons rfl (Less.cons rfl (Less.nil _))) ⟨Nat.zero_le _, by omega⟩ ?_
  rintro i ⟨i1, i2⟩
  have n3 := fun h K hk => n2 (.ofNat (rs.getD i 0)) h K hk
  generalize hc : sign (.ofNat (rs.getD i 0)) = c at n3
  cases c
  all_goals cbv
  all_goals repeat' (first | refine And.intro (by assumption) ?_ | refine And.intro (fun h1 => ?_) (fun h1 => ?_) | refine And.intro (by omega) ?_) <;> cbv
  · refine ⟨1, hZ, by assumption, ?_⟩
    rw [Nat.mul_one, show (({ block := h.2, off := 0 } : Addr).add i) = ⟨h.2, i, none⟩ by simp [Addr.add]; exact fun e => e.symm]
    cbv
    refine ⟨_, hM h i (by assumption), ?_⟩
    cbv
    refine .inl (n3 _ _ ?_)
    cbv
    exact ⟨_, rfl, eqb (hk _) (by rw [hd, alls_not (by assumption) hc]; rfl)⟩
  · exact ⟨_, rfl, eqb (hk _) (by rw [hd, alls_of i2 (by assumption)]; rfl)⟩
  · refine ⟨1, hZ, by assumption, ?_⟩
    rw [Nat.mul_one, show (({ block := h.2, off := 0 } : Addr).add i) = ⟨h.2, i, none⟩ by simp [Addr.add]; exact fun e => e.symm]
    cbv
    refine ⟨_, hM h i (by assumption), ?_⟩
    cbv
    refine .inl (n3 _ _ ?_)
    cbv
    refine ⟨(by show i + 1 ≤ 4611686018427387904; omega), i + 1, Less.cons rfl (Less.cons rfl (Less.nil _)), rfl, ⟨by omega, fun j hj => ?_⟩, by omega⟩
    rcases Nat.lt_or_ge j i with q | q
    · exact i2 j q
    · rw [show j = i by omega]; exact hc
  · exact ⟨_, rfl, eqb (hk _) (by rw [hd, alls_of i2 (by assumption)]; rfl)⟩
end
end Go.Proofs.YtfgemjpoiconbaaGreatDoor.GEv

/- 'isWhole': a text of signs, by a symbolic run over 'strings.ContainsFunc'. -/
namespace Go.Proofs.YtfgemjpoiconbaaGreatDoor.GEv
open Go
set_option linter.unusedSimpArgs false
set_option linter.unusedVariables false
theorem raw_range {E : Env} {l : L} {h : H} {dst ty pos after guard t x} {s : ByteArray} {K : Value → H → Prop} (hx : evL l x = some (.string s)) (h1 : E.P.underlying t = some .string)
    (hk : K (.pointer (some ⟨h.next, 0, none⟩)) (h.push (.iter s 0))) : RawP E l h ⟨dst, .range t x, ty, pos, after, guard⟩ K :=
  ⟨fun tm hv => OpP.val (by simp only [evOp, hRange, evL_ok hv hx, h1]) hk⟩
theorem raw_next_end {E : Env} {l : L} {h : H} {dst ty pos after guard x} {b p : Nat} {s : ByteArray} {K : Value → H → Prop} (hx : evL l x = some (.pointer (some ⟨b, 0, none⟩))) (hb : h.m.get b = some (.iter s p)) (hp : s.size ≤ p)
    (hk : K (.tuple #[.bool false]) h) : RawP E l h ⟨dst, .next x true, ty, pos, after, guard⟩ K :=
  ⟨fun tm hv => OpP.val (by
    have : Nat.blt p s.size = false := by
      cases q : Nat.blt p s.size with
      | false => rfl
      | true => exact absurd (Nat.le_of_ble_eq_true q) (by omega)
    simp only [evOp, hNext, evL_ok hv hx, hb, this]) hk⟩
theorem raw_next {E : Env} {l : L} {h : H} {dst ty pos after guard x} {b p : Nat} {s : ByteArray} {K : Value → H → Prop} (hx : evL l x = some (.pointer (some ⟨b, 0, none⟩))) (hb : h.m.get b = some (.iter s p)) (hp : p < s.size)
    (hk : K (.tuple #[.bool true, .int .i64 (.ofNat p), .int .i32 (.ofNat (Utf8.decode s p).1)]) (h.put b (some (.iter s (p + (Utf8.decode s p).2))))) : RawP E l h ⟨dst, .next x true, ty, pos, after, guard⟩ K :=
  ⟨fun tm hv => OpP.val (by
    have : Nat.blt p s.size = true := Nat.ble_eq_true_of_le hp
    simp only [evOp, hNext, evL_ok hv hx, hb, this]
    rfl) hk⟩
set_option maxRecDepth 100000
attribute [local cbv_opaque] isString isSlice isBoolT fOff iSize eqNil zero H.load H.store H.push H.dip H.put List.length List.getD runesV Utf8.decode Nat.add
section
variable {E : Env} (hE : E = EM)
include hE
theorem nNot (r : Int) (h : H) (K : Value → H → Prop) (hk : K (.bool (Bool.notB (sign r))) h) : CallP E 90 [.int .i32 r] h K := by
  refine CallP.ofE hE rfl Tryz.func90 rfl (Nat.le_of_ble_eq_true rfl) ?_
  have n1 := fun h K hk => nChar hE r h K hk
  clear hE
  generalize sign r = b at n1 hk
  cases b
  all_goals cbv
  all_goals (refine .inl (n1 _ _ ?_); cbv)
  all_goals exact ⟨_, rfl, hk⟩
theorem indexF (s : ByteArray) (h : H) (K : Value → H → Prop) (hk1 : ((runesP s s.size 0).all fun r => sign (.ofNat r)) = true → ∀ h', K (.int .i64 (.negSucc 0)) h') (hk2 : ((runesP s s.size 0).all fun r => sign (.ofNat r)) = false → ∀ h' n, K (.int .i64 (.ofNat n)) h') :
    CallP E 80 [.string s, .func (.func 90) #[] #[], .bool true] h K := by
  refine CallP.ofE hE rfl Tryz.func80 rfl (Nat.le_of_ble_eq_true rfl) ?_
  have hB : isBoolT E.1 4 = true := by rw [hE]; exact boolT
  have hR := fun q h dst ty pos after guard x K hx hk => raw_range (E := E) (l := q) (h := h) (dst := dst) (ty := ty) (pos := pos) (after := after) (guard := guard) (x := x) (s := s) (K := K) hx (show E.P.underlying 9 = some .string by rw [hE]; exact stringU) hk
  have n1 := fun r h K hk => nNot hE r h K hk
  clear hE
  generalize hA : ((runesP s s.size 0).all fun r => sign (.ofNat r)) = A at hk1 hk2
  cbv
  refine hR _ _ _ _ _ _ _ _ _ rfl ?_
  cbv
  refine LoopP.on (fun x : H × Nat × Nat => [(10, .pointer (some ⟨h.next, 0, none⟩)), (1, .func (.func 90) #[] #[]), (2, .bool true)]) (fun x => x.1) (fun x => x.1.m.get h.next = some (.iter s x.2.1) ∧ s.size ≤ x.2.1 + x.2.2 ∧ A = ((runesP s x.2.2 x.2.1).all fun r => sign (.ofNat r))) (fun x => x.2.2) (h.push (.iter s 0), 0, s.size) rfl (Less.cons rfl (Less.cons rfl (Less.cons rfl (Less.nil _)))) ⟨by simp [push_get], by simp, hA.symm⟩ ?_
  rintro ⟨g, p, b⟩ ⟨i1, i2, i3⟩
  have i1 : g.m.get h.next = some (.iter s p) := i1
  have i2 : s.size ≤ p + b := i2
  have i3 : A = ((runesP s b p).all fun r => sign (.ofNat r)) := i3
  by_cases hp : p < s.size
  · obtain ⟨b, rfl⟩ : ∃ c, b = c + 1 := ⟨b - 1, by omega⟩
    have hw := Lib.width_pos s p
    have hN := fun q dst ty pos after guard x K hx hk => raw_next (E := E) (l := q) (h := g) (dst := dst) (ty := ty) (pos := pos) (after := after) (guard := guard) (x := x) (K := K) hx i1 hp hk
    unfold runesP at i3
    rw [if_pos hp, List.all_cons] at i3
    have n2 := fun h K hk => n1 (.ofNat (Utf8.decode s p).1) h K hk
    generalize hc : sign (.ofNat (Utf8.decode s p).1) = c at n2 i3
    cases c
    all_goals cbv
    all_goals (refine hN _ _ _ _ _ _ _ _ rfl ?_; cbv; refine .inl (n2 _ _ ?_); cbv; refine And.intro hB ?_; cbv)
    · exact ⟨_, rfl, hk2 i3 _ _⟩
    · refine ⟨(g.put h.next (some (.iter s (p + (Utf8.decode s p).2))), p + (Utf8.decode s p).2, b), Less.cons rfl (Less.cons rfl (Less.cons rfl (Less.nil _))), rfl, ⟨by simp [put_get], by show s.size ≤ p + (Utf8.decode s p).2 + b; omega, i3⟩, Nat.lt_succ_self b⟩
  · have hN := fun q dst ty pos after guard x K hx hk => raw_next_end (E := E) (l := q) (h := g) (dst := dst) (ty := ty) (pos := pos) (after := after) (guard := guard) (x := x) (K := K) hx i1 (by omega) hk
    have i4 : ((runesP s b p).all fun r => sign (.ofNat r)) = true := by
      cases b with
      | zero => rfl
      | succ b => unfold runesP; rw [if_neg hp]; rfl
    rw [i4] at i3
    cbv
    refine hN _ _ _ _ _ _ _ _ rfl ?_
    cbv
    exact ⟨_, rfl, hk1 i3 _⟩
theorem nWhole (l : List UInt8) (hl : l.length ≤ 2000000) (h : H) (K : Value → H → Prop) (hk : ∀ h', K (.bool (signs l)) h') : CallP E 72 [.string ⟨⟨l⟩⟩] h K := by
  refine CallP.ofE hE rfl Tryz.func72 rfl (Nat.le_of_ble_eq_true rfl) ?_
  have n0 := fun h K hk => validC hE l (by omega) h K hk
  have n1 : ∀ (h : H) (K : Value → H → Prop), (∀ h', K (.bool (Bool.notB ((runesL l).all fun r => sign (.ofNat r)))) h') → CallP E 89 [.string ⟨⟨l⟩⟩, .func (.func 90) #[] #[]] h K := by
    intro h K hk
    refine CallP.ofE hE rfl Tryz.func89 rfl (Nat.le_of_ble_eq_true rfl) ?_
    have n2 : ∀ (h : H) (K : Value → H → Prop), (((runesL l).all fun r => sign (.ofNat r)) = true → ∀ h', K (.int .i64 (.negSucc 0)) h') → (((runesL l).all fun r => sign (.ofNat r)) = false → ∀ h' n, K (.int .i64 (.ofNat n)) h') → CallP E 107 [.string ⟨⟨l⟩⟩, .func (.func 90) #[] #[]] h K := by
      intro h K hk1 hk2
      refine CallP.ofE hE rfl Tryz.func107 rfl (Nat.le_of_ble_eq_true rfl) ?_
      have n3 := fun h K hk1 hk2 => indexF hE ⟨⟨l⟩⟩ h K hk1 hk2
      clear hE
      cbv
      refine .inl (n3 _ _ (fun q h' => ?_) (fun q h' n => ?_))
      · cbv; exact ⟨_, rfl, hk1 q _⟩
      · cbv; exact ⟨_, rfl, hk2 q _ _⟩
    clear hE
    generalize ((runesL l).all fun r => sign (.ofNat r)) = A at n2 hk
    cbv
    refine .inl (n2 _ _ (fun q h' => ?_) (fun q h' n => ?_))
    · subst q
      cbv
      refine And.intro (fun h1 => absurd h1 (by decide)) (fun _ => ?_)
      cbv
      exact ⟨_, rfl, hk _⟩
    · subst q
      cbv
      refine And.intro (fun _ => ?_) (fun h1 => absurd h1 (by omega))
      cbv
      exact ⟨_, rfl, hk _⟩
  clear hE
  have hd : signs l = (Lib.validD l && (runesL l).all fun r => sign (.ofNat r)) := rfl
  generalize signs l = ans at hk hd
  generalize Lib.validD l = a at n0 hd
  generalize ((runesL l).all fun r => sign (.ofNat r)) = b at n1 hd
  subst hd
  cases a <;> cases b
  all_goals cbv
  all_goals (refine .inl (n0 _ _ ?_); cbv)
  all_goals first | exact ⟨_, rfl, hk _⟩ | (refine .inl (n1 _ _ fun h' => ?_); cbv; exact ⟨_, rfl, hk _⟩)
end
end Go.Proofs.YtfgemjpoiconbaaGreatDoor.GEv

/- Names and signs, in plain Lean: what chapter 1 says of texts (lists of bytes). -/
namespace Go.Proofs.YtfgemjpoiconbaaGreatDoor.GEv
open Go
set_option linter.unusedSimpArgs false
set_option linter.unusedVariables false
/-! ### the runes of a text, by lists -/
def runesF : Nat → List UInt8 → List Nat
  | 0, _ => []
  | n + 1, l => if l = [] then [] else (Lib.decodeL l).1 :: runesF n (l.drop (Lib.decodeL l).2)
theorem runesP_F (l : List UInt8) : ∀ b i, runesP ⟨⟨l⟩⟩ b i = runesF b (l.drop i)
  | 0, i => rfl
  | b + 1, i => by
    have hd : Lib.decodeL (l.drop i) = Utf8.decode ⟨⟨l⟩⟩ i := Lib.decodeL_drop ⟨⟨l⟩⟩ i
    have hs : (⟨⟨l⟩⟩ : ByteArray).size = l.length := rfl
    unfold runesP runesF
    by_cases hi : i < l.length
    · rw [hs, if_pos hi, if_neg (fun e => by have := congrArg List.length e; rw [List.length_drop] at this; simp only [List.length_nil] at this; omega), hd, runesP_F l b, List.drop_drop]
    · rw [hs, if_neg hi, if_pos (List.drop_eq_nil_of_le (by omega))]
theorem runesF_more : ∀ (n m : Nat) (l : List UInt8), l.length ≤ n → l.length ≤ m → runesF n l = runesF m l
  | 0, m, l, h1, h2 => by
    have : l = [] := List.length_eq_zero_iff.1 (by omega)
    subst this
    cases m <;> rfl
  | n + 1, 0, l, h1, h2 => by
    have : l = [] := List.length_eq_zero_iff.1 (by omega)
    subst this
    rfl
  | n + 1, m + 1, l, h1, h2 => by
    simp only [runesF]
    split
    · rfl
    · rename_i hne
      have hw := Lib.decodeL_width l
      have hl : 0 < l.length := List.length_pos_iff.2 hne
      rw [runesF_more n m (l.drop (Lib.decodeL l).2) (by rw [List.length_drop]; omega) (by rw [List.length_drop]; omega)]
theorem runesL_F (l : List UInt8) : runesL l = runesF l.length l := by
  unfold runesL
  rw [runesP_F, List.drop_zero]
theorem runesL_step (l : List UInt8) (hne : l ≠ []) : runesL l = (Lib.decodeL l).1 :: runesL (l.drop (Lib.decodeL l).2) := by
  have hw := Lib.decodeL_width l
  have hl : 0 < l.length := List.length_pos_iff.2 hne
  obtain ⟨n, hn⟩ : ∃ n, l.length = n + 1 := ⟨l.length - 1, by omega⟩
  rw [runesL_F, runesL_F, hn]
  show (if l = [] then [] else _) = _
  rw [if_neg hne, runesF_more n (l.drop (Lib.decodeL l).2).length _ (by rw [List.length_drop]; omega) (Nat.le_refl _)]
theorem signs_nil : signs [] = true := by rfl
/-- The bytes at the head of a text are no rune's. -/
def badL (l : List UInt8) : Prop := (Lib.decodeL l).1 = 65533 ∧ (Lib.decodeL l).2 = 1
theorem signs_bad (l : List UInt8) (hne : l ≠ []) (hb : badL l) : signs l = false := by
  unfold signs
  unfold badL at hb
  rw [Lib.validD_step l hne, if_pos hb]
  rfl
theorem signs_step (l : List UInt8) (hne : l ≠ []) (hb : ¬ badL l) : signs l = (sign (.ofNat (Lib.decodeL l).1) && signs (l.drop (Lib.decodeL l).2)) := by
  unfold signs
  unfold badL at hb
  rw [Lib.validD_step l hne, runesL_step l hne, if_neg hb, List.all_cons]
  cases Lib.validD (l.drop (Lib.decodeL l).2) <;> cases sign (.ofNat (Lib.decodeL l).1) <;> simp
theorem decodeN_same (n m b0 b1 b2 b3 c1 c2 c3 : Nat) (hv : ¬ ((Lib.decodeN n b0 b1 b2 b3).1 = 65533 ∧ (Lib.decodeN n b0 b1 b2 b3).2 = 1)) (hn : (Lib.decodeN n b0 b1 b2 b3).2 ≤ m) (h1 : 1 < (Lib.decodeN n b0 b1 b2 b3).2 → c1 = b1) (h2 : 2 < (Lib.decodeN n b0 b1 b2 b3).2 → c2 = b2) (h3 : 3 < (Lib.decodeN n b0 b1 b2 b3).2 → c3 = b3) :
    Lib.decodeN m b0 c1 c2 c3 = Lib.decodeN n b0 b1 b2 b3 := by
  rcases Lib.decodeN_shape n b0 b1 b2 b3 with ⟨q, e⟩ | ⟨q1, q2, q3, q4, e⟩ | ⟨q1, q2, q3, q4, q5, q6, e⟩ | ⟨q1, q2, q3, q4, q5, q6, q7, e⟩ | e
  · rw [e]; unfold Lib.decodeN; rw [if_pos q]
  · rw [e] at hn h1 h2 h3 ⊢
    have := h1 (show 1 < 2 by decide); subst this
    have hn : 2 ≤ m := hn
    unfold Lib.decodeN
    rw [if_neg (by omega), if_pos ⟨q1, by omega, q3⟩, if_pos q4]
  · rw [e] at hn h1 h2 h3 ⊢
    have := h1 (show 1 < 3 by decide); subst this
    have := h2 (show 2 < 3 by decide); subst this
    have hn : 3 ≤ m := hn
    unfold Lib.decodeN
    rw [if_neg (by omega), if_neg (by omega), if_pos ⟨q1, ⟨by omega, q3⟩, by omega, q4⟩, if_pos ⟨q5, by omega⟩]
  · rw [e] at hn h1 h2 h3 ⊢
    have := h1 (show 1 < 4 by decide); subst this
    have := h2 (show 2 < 4 by decide); subst this
    have := h3 (show 3 < 4 by decide); subst this
    have hn : 4 ≤ m := hn
    unfold Lib.decodeN
    rw [if_neg (by omega), if_neg (by omega), if_neg (by omega), if_pos ⟨q1, ⟨by omega, q3⟩, ⟨by omega, q4⟩, by omega, q5⟩, if_pos ⟨q6, by omega⟩]
  · exact absurd (by rw [e]; exact ⟨rfl, rfl⟩) hv
/-- What is decoded hangs on as many bytes as it takes. -/
theorem decodeL_take (l t : List UInt8) (hne : l ≠ []) (hg : ¬ badL l) : Lib.decodeL (l.take (Lib.decodeL l).2 ++ t) = Lib.decodeL l := by
  have hw := Lib.decodeL_width l
  have hle := Lib.decodeL_le l hne
  have key : ∀ k, k < (Lib.decodeL l).2 → (l.take (Lib.decodeL l).2 ++ t).getD k 0 = l.getD k 0 := by
    intro k hk
    rw [List.getD_eq_getElem?_getD, List.getD_eq_getElem?_getD, List.getElem?_append_left (by rw [List.length_take]; omega), List.getElem?_take_of_lt hk]
  have h0 := key 0 (by omega)
  have h1 := key 1
  have h2 := key 2
  have h3 := key 3
  have hlen : (Lib.decodeL l).2 ≤ (l.take (Lib.decodeL l).2 ++ t).length := by rw [List.length_append, List.length_take]; omega
  unfold badL at hg
  clear key
  generalize l.take (Lib.decodeL l).2 ++ t = x at h0 h1 h2 h3 hlen ⊢
  rw [Lib.decodeL_N x, Lib.decodeL_N l, h0]
  rw [Lib.decodeL_N l] at hg h1 h2 h3 hlen
  exact decodeN_same _ _ _ _ _ _ _ _ _ hg hlen (fun h => by rw [h1 h]) (fun h => by rw [h2 h]) (fun h => by rw [h3 h])
theorem signs_take (l t : List UInt8) (hne : l ≠ []) (hg : ¬ badL l) : signs (l.take (Lib.decodeL l).2 ++ t) = (sign (.ofNat (Lib.decodeL l).1) && signs t) := by
  have hw := Lib.decodeL_width l
  have hle := Lib.decodeL_le l hne
  have hd := decodeL_take l t hne hg
  have hn : l.take (Lib.decodeL l).2 ++ t ≠ [] := by
    intro e
    have := congrArg List.length e
    rw [List.length_append, List.length_take] at this
    simp only [List.length_nil] at this
    omega
  rw [signs_step _ hn (by unfold badL; rw [hd]; exact hg), hd, List.drop_append, List.drop_eq_nil_of_le (by rw [List.length_take]; omega), List.length_take, show (Lib.decodeL l).2 - min (Lib.decodeL l).2 l.length = 0 by omega, List.drop_zero, List.nil_append]
theorem signs_append : ∀ (n : Nat) (a b : List UInt8), a.length ≤ n → signs a = true → signs (a ++ b) = signs b
  | 0, a, b, hn, h => by
    have : a = [] := List.length_eq_zero_iff.1 (by omega)
    subst this
    rfl
  | n + 1, a, b, hn, h => by
    by_cases hne : a = []
    · subst hne; rfl
    by_cases hb : badL a
    · rw [signs_bad a hne hb] at h; cases h
    have hw := Lib.decodeL_width a
    have hl : 0 < a.length := List.length_pos_iff.2 hne
    rw [signs_step a hne hb, Bool.and_eq_true] at h
    have e : a ++ b = a.take (Lib.decodeL a).2 ++ (a.drop (Lib.decodeL a).2 ++ b) := by rw [← List.append_assoc, List.take_append_drop]
    rw [e, signs_take a _ hne hb, h.1, Bool.true_and]
    exact signs_append n _ b (by rw [List.length_drop]; omega) h.2
theorem signs_join {a b : List UInt8} (h : signs a = true) : signs (a ++ b) = signs b := signs_append _ a b (Nat.le_refl _) h
theorem ascii_dec (b : UInt8) (t : List UInt8) (h : b.toNat < 128) : Lib.decodeL (b :: t) = (b.toNat, 1) := Lib.decodeL_ascii b t h
theorem ascii_good (b : UInt8) (t : List UInt8) (h : b.toNat < 128) : ¬ badL (b :: t) := by
  unfold badL
  rw [ascii_dec b t h]
  rintro ⟨q, _⟩
  have q : b.toNat = 65533 := q
  omega
theorem signs_cons (b : UInt8) (t : List UInt8) (h : b.toNat < 128) : signs (b :: t) = (sign (.ofNat b.toNat) && signs t) := by
  rw [signs_step _ (by simp) (ascii_good b t h), ascii_dec b t h]
  rfl
theorem signs_ascii : ∀ {l : List UInt8}, (∀ b ∈ l, b.toNat < 128 ∧ sign (.ofNat b.toNat) = true) → signs l = true
  | [], _ => signs_nil
  | b :: l, h => by
    rw [signs_cons b l (h b (List.mem_cons_self ..)).1, (h b (List.mem_cons_self ..)).2, signs_ascii (fun c hc => h c (List.mem_cons_of_mem _ hc))]
    rfl
/-! ### written texts -/
theorem esc_high (a : Bool) (c : UInt8) (hc : 128 ≤ c.toNat) : esc a c = [c] := by
  rw [esc_nat, if_neg (by omega), if_neg (by omega), if_neg (by omega), if_neg (by omega), if_neg (by omega), if_neg (by omega), if_neg (by omega)]
theorem escape_high (a : Bool) : ∀ l : List UInt8, (∀ c ∈ l, 128 ≤ c.toNat) → escape a l = l
  | [], _ => rfl
  | c :: l, h => by
    have h1 := escape_high a l (fun d hd => h d (List.mem_cons_of_mem _ hd))
    unfold escape at h1 ⊢
    rw [List.flatMap_cons, esc_high a c (h c (List.mem_cons_self ..)), h1]
    rfl
theorem escape_append (a : Bool) (s t : List UInt8) : escape a (s ++ t) = escape a s ++ escape a t := by simp [escape]
theorem decodeN_conts (n b0 b1 b2 b3 : Nat) :
    (2 ≤ (Lib.decodeN n b0 b1 b2 b3).2 → b1 / 64 = 2) ∧ (3 ≤ (Lib.decodeN n b0 b1 b2 b3).2 → b2 / 64 = 2) ∧ (4 ≤ (Lib.decodeN n b0 b1 b2 b3).2 → b3 / 64 = 2) ∧ (Lib.decodeN n b0 b1 b2 b3).2 ≤ 4 := by
  unfold Lib.decodeN
  repeat' split
  all_goals (simp only; omega)
theorem head_high (l : List UInt8) (hne : l ≠ []) (hg : ¬ badL l) (h0 : 128 ≤ (l.getD 0 0).toNat) : ∀ c ∈ l.take (Lib.decodeL l).2, 128 ≤ c.toNat := by
  have hle := Lib.decodeL_le l hne
  intro c hc
  obtain ⟨k, hk, rfl⟩ := List.getElem_of_mem hc
  rw [List.length_take] at hk
  have e : (l.take (Lib.decodeL l).2)[k] = l.getD k 0 := by
    rw [List.getElem_take, List.getD_eq_getElem?_getD, List.getElem?_eq_getElem (by omega)]
    rfl
  rw [e]
  have hk : k < (Lib.decodeL l).2 := by omega
  have hc := decodeN_conts l.length (l.getD 0 0).toNat (l.getD 1 0).toNat (l.getD 2 0).toNat (l.getD 3 0).toNat
  rw [← Lib.decodeL_N] at hc
  obtain ⟨c2, c3, c4, c5⟩ := hc
  rcases k with _ | _ | _ | _ | k
  · exact h0
  · have := c2 (by omega); show 128 ≤ (l.getD 1 0).toNat; omega
  · have := c3 (by omega); show 128 ≤ (l.getD 2 0).toNat; omega
  · have := c4 (by omega); show 128 ≤ (l.getD 3 0).toNat; omega
  · omega
theorem signs_esc (a : Bool) (c : UInt8) (hc : c.toNat < 128) (hs : sign (.ofNat c.toNat) = true) : signs (esc a c) = true := by
  have h1 : signs [c] = true := by rw [signs_cons c [] hc, hs]; rfl
  have h2 : ∀ l : List UInt8, (l.all fun b => decide (b.toNat < 128) && sign (.ofNat b.toNat)) = true → signs l = true := by
    intro l h
    refine signs_ascii fun b hb => ?_
    have := List.all_eq_true.1 h b hb
    simpa using this
  unfold esc
  repeat' split
  all_goals first | exact h1 | exact h2 _ (by decide)
theorem signs_escape (a : Bool) : ∀ (n : Nat) (s : List UInt8), s.length ≤ n → signs s = true → signs (escape a s) = true
  | 0, s, hn, h => by
    have : s = [] := List.length_eq_zero_iff.1 (by omega)
    subst this
    exact signs_nil
  | n + 1, s, hn, h => by
    by_cases hne : s = []
    · subst hne; exact signs_nil
    by_cases hb : badL s
    · rw [signs_bad s hne hb] at h; cases h
    have hw := Lib.decodeL_width s
    have hl : 0 < s.length := List.length_pos_iff.2 hne
    have hq := h
    rw [signs_step s hne hb, Bool.and_eq_true] at h
    have ih := signs_escape a n (s.drop (Lib.decodeL s).2) (by rw [List.length_drop]; omega) h.2
    by_cases h0 : 128 ≤ (s.getD 0 0).toNat
    · have e : escape a s = s.take (Lib.decodeL s).2 ++ escape a (s.drop (Lib.decodeL s).2) := by
        have q := escape_append a (s.take (Lib.decodeL s).2) (s.drop (Lib.decodeL s).2)
        rw [List.take_append_drop, escape_high a (s.take (Lib.decodeL s).2) (head_high s hne hb h0)] at q
        exact q
      rw [e, signs_take s _ hne hb, h.1, ih]
      rfl
    · cases s with
      | nil => exact absurd rfl hne
      | cons c t =>
        have hc : c.toNat < 128 := by
          have : ((c :: t).getD 0 0) = c := rfl
          rw [this] at h0
          omega
        rw [ascii_dec c t hc] at h ih
        have e : escape a (c :: t) = esc a c ++ escape a t := List.flatMap_cons ..
        rw [e, signs_join (signs_esc a c hc h.1)]
        exact ih
theorem signs_esc_of {a : Bool} {s : List UInt8} (h : signs s = true) : signs (escape a s) = true := signs_escape a _ s (Nat.le_refl _) h
/-! ### what a text stands for -/
def digitV (hex : Bool) (c : Nat) : Option Nat :=
  if 48 ≤ c ∧ c ≤ 57 then some (c - 48) else if hex = true ∧ 97 ≤ c ∧ c ≤ 102 then some (c - 97 + 10) else if hex = true ∧ 65 ≤ c ∧ c ≤ 70 then some (c - 65 + 10) else none
def baseV : Bool → Nat
  | true => 16
  | false => 10
def numF (hex : Bool) : Nat → List UInt8 → Option Nat
  | n, [] => some n
  | n, c :: l => match digitV hex c.toNat with
    | some d => numF hex (n * baseV hex + d) l
    | none => none
def encodeB (n : Nat) : List UInt8 := (Utf8.encode (.ofNat n)).data.toList
def refD (hex : Bool) (l : List UInt8) : Option (List UInt8) :=
  if l.length < 1 ∨ 7 < l.length then none else match numF hex 0 l with
    | some n => if n ≤ 1114111 ∧ sign (.ofNat n) = true then some (encodeB n) else none
    | none => none
def refV (l : List UInt8) : Option (List UInt8) := match l with
  | [] => none
  | c :: t => if c = 120 then refD true t else refD false (c :: t)
def entity (l : List UInt8) : Option (List UInt8) :=
  if l = [97, 109, 112] then some [38] else if l = [108, 116] then some [60] else if l = [103, 116] then some [62] else if l = [113, 117, 111, 116] then some [34] else if l = [97, 112, 111, 115] then some [39] else
  match l with
  | [] => none
  | c :: t => if c = 35 then refV t else none
def unescF : Nat → List UInt8 → Option (List UInt8)
  | 0, _ => some []
  | _ + 1, [] => some []
  | n + 1, a :: l => if a = 38 then (match cutB 59 l with
      | none => none
      | some (w, b) => match entity w with
        | none => none
        | some x => (unescF n b).map (x ++ ·))
    else (unescF n l).map (a :: ·)
def unesc (l : List UInt8) : Option (List UInt8) := unescF l.length l
def unescape (l : List UInt8) : Option (List UInt8) := match signs l with
  | true => unesc l
  | false => none
theorem unescF_more : ∀ (n m : Nat) (l : List UInt8), l.length ≤ n → l.length ≤ m → unescF n l = unescF m l
  | 0, m, l, h1, h2 => by
    have : l = [] := List.length_eq_zero_iff.1 (by omega)
    subst this
    cases m <;> rfl
  | n + 1, 0, l, h1, h2 => by
    have : l = [] := List.length_eq_zero_iff.1 (by omega)
    subst this
    rfl
  | n + 1, m + 1, [], h1, h2 => rfl
  | n + 1, m + 1, a :: l, h1, h2 => by
    simp only [List.length_cons] at h1 h2
    simp only [unescF]
    split
    · cases hc : cutB 59 l with
      | none => rfl
      | some p =>
        obtain ⟨w, b⟩ := p
        obtain ⟨e, _⟩ := cutB_some hc
        have : b.length ≤ l.length := by rw [e]; simp; omega
        simp only
        rw [unescF_more n m b (by omega) (by omega)]
    · rw [unescF_more n m l (by omega) (by omega)]
theorem unesc_nil : unesc [] = some [] := rfl
theorem unesc_other (a : UInt8) (l : List UInt8) (ha : a ≠ 38) : unesc (a :: l) = (unesc l).map (a :: ·) := by
  unfold unesc
  simp only [List.length_cons, unescF, if_neg ha]
theorem unesc_ampN (l : List UInt8) (h : cutB 59 l = none) : unesc (38 :: l) = none := by
  unfold unesc
  simp only [List.length_cons, unescF, if_pos, h]
theorem unesc_ampS (l w b : List UInt8) (h : cutB 59 l = some (w, b)) : unesc (38 :: l) = match entity w with
    | none => none
    | some x => (unesc b).map (x ++ ·) := by
  obtain ⟨e, _⟩ := cutB_some h
  unfold unesc
  simp only [List.length_cons, unescF, if_pos, h]
  rw [unescF_more l.length b.length b (by rw [e]; simp; omega) (Nat.le_refl _)]
theorem unesc_amp (w b : List UInt8) (hw : (59 : UInt8) ∉ w) : unesc (38 :: (w ++ 59 :: b)) = match entity w with
    | none => none
    | some x => (unesc b).map (x ++ ·) := unesc_ampS _ _ _ (cutB_of hw)
theorem unesc_pre : ∀ (p t : List UInt8), (38 : UInt8) ∉ p → unesc (p ++ t) = (unesc t).map (p ++ ·)
  | [], t, _ => by simp
  | a :: p, t, h => by
    simp only [List.mem_cons, not_or] at h
    rw [List.cons_append, unesc_other _ _ (fun e => h.1 e.symm), unesc_pre p t h.2, Option.map_map]
    rfl
theorem unesc_plain (p : List UInt8) (h : (38 : UInt8) ∉ p) : unesc p = some p := by
  have := unesc_pre p [] h
  rw [List.append_nil, unesc_nil] at this
  rw [this]
  simp
theorem entity_esc : (entity [97, 109, 112] = some [38] ∧ entity [108, 116] = some [60] ∧ entity [103, 116] = some [62] ∧ entity [113, 117, 111, 116] = some [34]) ∧
    entity [35, 57] = some [9] ∧ entity [35, 49, 48] = some [10] ∧ entity [35, 49, 51] = some [13] := by decide +kernel
theorem unesc_esc (attr : Bool) (c : UInt8) (t : List UInt8) : unesc (esc attr c ++ t) = (unesc t).map (c :: ·) := by
  obtain ⟨⟨e1, e2, e3, e4⟩, e5, e6, e7⟩ := entity_esc
  have go : ∀ (w : List UInt8), (59 : UInt8) ∉ w → entity w = some [c] → unesc ((38 :: (w ++ [59])) ++ t) = (unesc t).map (c :: ·) := by
    intro w hw he
    rw [show (38 :: (w ++ [59])) ++ t = 38 :: (w ++ 59 :: t) by simp, unesc_amp _ _ hw, he]
    rfl
  unfold esc
  by_cases h1 : c = 38
  · rw [if_pos h1]; subst h1; exact go [97, 109, 112] (by decide) e1
  rw [if_neg h1]
  by_cases h2 : c = 60
  · rw [if_pos h2]; subst h2; exact go [108, 116] (by decide) e2
  rw [if_neg h2]
  by_cases h3 : c = 62
  · rw [if_pos h3]; subst h3; exact go [103, 116] (by decide) e3
  rw [if_neg h3]
  by_cases h4 : c = 34 ∧ attr = true
  · rw [if_pos h4]; obtain ⟨h4, _⟩ := h4; subst h4; exact go [113, 117, 111, 116] (by decide) e4
  rw [if_neg h4]
  by_cases h5 : c = 9 ∧ attr = true
  · rw [if_pos h5]; obtain ⟨h5, _⟩ := h5; subst h5; exact go [35, 57] (by decide) e5
  rw [if_neg h5]
  by_cases h6 : c = 10 ∧ attr = true
  · rw [if_pos h6]; obtain ⟨h6, _⟩ := h6; subst h6; exact go [35, 49, 48] (by decide) e6
  rw [if_neg h6]
  by_cases h7 : c = 13 ∧ attr = true
  · rw [if_pos h7]; obtain ⟨h7, _⟩ := h7; subst h7; exact go [35, 49, 51] (by decide) e7
  rw [if_neg h7]
  exact unesc_other _ _ h1
theorem unesc_escape (attr : Bool) : ∀ (s t : List UInt8), unesc (escape attr s ++ t) = (unesc t).map (s ++ ·)
  | [], t => by simp [escape]
  | c :: s, t => by
    have : escape attr (c :: s) ++ t = esc attr c ++ (escape attr s ++ t) := by simp [escape, List.append_assoc]
    rw [this, unesc_esc, unesc_escape attr s t, Option.map_map]
    rfl
theorem unescape_escape (attr : Bool) (s : List UInt8) (h : signs s = true) : unescape (escape attr s) = some s := by
  have := unesc_escape attr s []
  rw [List.append_nil, unesc_nil] at this
  unfold unescape
  rw [signs_esc_of h, this]
  simp
end Go.Proofs.YtfgemjpoiconbaaGreatDoor.GEv

/- Numbers in texts, by symbolic runs: arithmetic that the runs do not reckon, conversions. -/
namespace Go.Proofs.YtfgemjpoiconbaaGreatDoor.GEv
open Go
set_option linter.unusedSimpArgs false
set_option linter.unusedVariables false
theorem flat2_of1 {v : Value} (h : flat1 v = true) : flat2 v = true := by
  cases v <;> first | exact h | (simp [flat1, flat] at h; done)
section raws
variable {E : Env} {l : L} {h : H} {dst : Option Nat} {ty pos after guard} {K : Value → H → Prop}
theorem raw_bin {op : BinOp} {t : TypeId} {yt} {x y : Operand} {k k' : IntKind} {a b : Int} {v : Value} (hx : evL l x = some (.int k a)) (hy : evL l y = some (.int k' b))
    (hc : icmp op a b = none) (hi : iar k op a b = none) (hg : pureRun E.P (eqGuard op t x y (.int k a) (.int k' b)) = some ()) (hb : pureRun E.P (binOp op t (.int k a) (.int k' b)) = some v) (hf : flat2 v = true) (hk : K v h) :
    RawP E l h ⟨dst, .binOp op t x y yt, ty, pos, after, guard⟩ K := ⟨fun tm hv => by
  refine OpP.val ?_ hk
  have q1 := evL_ok hv hx
  have q2 := evL_ok hv hy
  have e1 : evA' tm x = .int k a := by simp [evA', q1]
  have e2 : evA' tm y = .int k' b := by simp [evA', q2]
  have h1 : allFlat tm [x, y] = true := by simp [allFlat, q1, q2, flat2, flat1, flat]
  have h2 : pureRun E.P (execOp (evA' tm) ⟨dst, .binOp op t x y yt, ty, pos, after, guard⟩) = some (.value v) := by
    simp only [execOp, e1, e2]
    have h4 : pureRun E.P (eqGuard op t x y (.int k a) (.int k' b) >>= fun _ => binOp op t (.int k a) (.int k' b)) = some v := by
      rw [pureRun_bind _ hg]; exact hb
    rw [pureRun_bind _ h4]
    rfl
  have e0 : evPure E.P tm h ⟨dst, .binOp op t x y yt, ty, pos, after, guard⟩ = some (.val v h) := by
    simp only [evPure, Op.operands, h1, if_true, h2, hf]
  simp only [evOp, hBin, q1, q2, hInt, hc, hi, e0]
  cases kEq k k' <;> rfl⟩
theorem raw_mul {t : TypeId} {yt} {x y : Operand} {k : IntKind} {a b r : Int} (hx : evL l x = some (.int k a)) (hy : evL l y = some (.int k b)) (hi : iar k .mul a b = none) (hw : k.wrap (a * b) = r) (hk : K (.int k r) h) :
    RawP E l h ⟨dst, .binOp .mul t x y yt, ty, pos, after, guard⟩ K :=
  raw_bin hx hy rfl hi rfl (v := .int k r) (by simp [binOp, Op.intArith, pureRun, bind, pure, Sem.bind, hw]) rfl hk
theorem raw_add {t : TypeId} {yt} {x y : Operand} {k : IntKind} {a b r : Int} (hx : evL l x = some (.int k a)) (hy : evL l y = some (.int k b)) (hi : iar k .add a b = none) (hw : k.wrap (a + b) = r) (hk : K (.int k r) h) :
    RawP E l h ⟨dst, .binOp .add t x y yt, ty, pos, after, guard⟩ K :=
  raw_bin hx hy rfl hi rfl (v := .int k r) (by simp [binOp, Op.intArith, pureRun, bind, pure, Sem.bind, hw]) rfl hk
theorem raw_sub {t : TypeId} {yt} {x y : Operand} {k : IntKind} {a b r : Int} (hx : evL l x = some (.int k a)) (hy : evL l y = some (.int k b)) (hi : iar k .sub a b = none) (hw : k.wrap (a - b) = r) (hk : K (.int k r) h) :
    RawP E l h ⟨dst, .binOp .sub t x y yt, ty, pos, after, guard⟩ K :=
  raw_bin hx hy rfl hi rfl (v := .int k r) (by simp [binOp, Op.intArith, pureRun, bind, pure, Sem.bind, hw]) rfl hk
theorem raw_or {t : TypeId} {yt} {x y : Operand} {k : IntKind} {a b r : Int} (hx : evL l x = some (.int k a)) (hy : evL l y = some (.int k b)) (hw : k.wrap ((BitVec.ofInt k.bits a ||| BitVec.ofInt k.bits b).toNat : Int) = r) (hk : K (.int k r) h) :
    RawP E l h ⟨dst, .binOp .or t x y yt, ty, pos, after, guard⟩ K :=
  raw_bin hx hy rfl (by cases k <;> rfl) rfl (v := .int k r) (by subst hw; simp [binOp, Op.intBits, pureRun, bind, pure, Sem.bind]) rfl hk
theorem raw_shl {t : TypeId} {yt} {x y : Operand} {k k' : IntKind} {a b r : Int} (hx : evL l x = some (.int k a)) (hy : evL l y = some (.int k' b)) (hb : ¬ b < 0) (hw : k.wrap (a * 2 ^ (min b.toNat k.bits)) = r) (hk : K (.int k r) h) :
    RawP E l h ⟨dst, .binOp .shl t x y yt, ty, pos, after, guard⟩ K :=
  raw_bin hx hy rfl (by cases k <;> rfl) rfl (v := .int k r) (by subst hw; simp only [binOp, Op.shift, if_neg hb]; rfl) rfl hk
/-- Two flat values that are neither numbers nor texts, compared. -/
theorem raw_eq {op : BinOp} {t : TypeId} {yt} {x y : Operand} {a b v : Value} (hx : evL l x = some a) (hy : evL l y = some b) (hf2 : (flat1 a && flat1 b) = true) (n1 : ∀ k m k' n, a = .int k m → b = .int k' n → False) (n2 : ∀ s u, a = .string s → b = .string u → False)
    (hg : pureRun E.P (eqGuard op t x y a b) = some ()) (hb : pureRun E.P (binOp op t a b) = some v) (hf : flat2 v = true) (hk : K v h) :
    RawP E l h ⟨dst, .binOp op t x y yt, ty, pos, after, guard⟩ K := ⟨fun tm hv => by
  refine OpP.val ?_ hk
  have q1 := evL_ok hv hx
  have q2 := evL_ok hv hy
  have e1 : evA' tm x = a := by simp [evA', q1]
  have e2 : evA' tm y = b := by simp [evA', q2]
  have f1 : flat2 a = true := flat2_of1 (Bool.and_eq_true _ _ ▸ hf2 : flat1 a = true ∧ flat1 b = true).1
  have f2 : flat2 b = true := flat2_of1 (Bool.and_eq_true _ _ ▸ hf2 : flat1 a = true ∧ flat1 b = true).2
  have h1 : allFlat tm [x, y] = true := by simp [allFlat, q1, q2, f1, f2]
  have h2 : pureRun E.P (execOp (evA' tm) ⟨dst, .binOp op t x y yt, ty, pos, after, guard⟩) = some (.value v) := by
    simp only [execOp, e1, e2]
    have h4 : pureRun E.P (eqGuard op t x y a b >>= fun _ => binOp op t a b) = some v := by
      rw [pureRun_bind _ hg]; exact hb
    rw [pureRun_bind _ h4]
    rfl
  have e0 : evPure E.P tm h ⟨dst, .binOp op t x y yt, ty, pos, after, guard⟩ = some (.val v h) := by
    simp only [evPure, Op.operands, h1, if_true, h2, hf]
  simp only [evOp]
  rw [hBin_other q1 q2 n1 n2, hf2]
  exact e0⟩
theorem pure_conv {tm : TM} {src t : TypeId} {x : Operand} {v r : Value} (q1 : evA tm x = some v) (hf1 : flat2 v = true) (hc : pureRun E.P (convert src t v) = some r) (hf : flat2 r = true) :
    evPure E.P tm h ⟨dst, .convert src t x, ty, pos, after, guard⟩ = some (.val r h) := by
  have e1 : evA' tm x = v := by simp [evA', q1]
  have h1 : allFlat tm [x] = true := by simp [allFlat, q1, hf1]
  have h2 : pureRun E.P (execOp (evA' tm) ⟨dst, .convert src t x, ty, pos, after, guard⟩) = some (.value r) := by
    simp only [execOp, e1]
    rw [pureRun_bind _ hc]
    rfl
  simp only [evPure, Op.operands, h1, if_true, h2, hf]
theorem raw_conv {src t : TypeId} {x : Operand} {k k1 k2 : IntKind} {a r : Int} (hx : evL l x = some (.int k a)) (h1 : E.P.underlying src = some (.int k1)) (h2 : E.P.underlying t = some (.int k2)) (hw : k2.wrap a = r) (hk : K (.int k2 r) h) :
    RawP E l h ⟨dst, .convert src t x, ty, pos, after, guard⟩ K := ⟨fun tm hv => by
  refine OpP.val ?_ hk
  have q1 := evL_ok hv hx
  have hc : pureRun E.P (convert src t (.int k a)) = some (.int k2 r) := by
    simp [convert, Go.underlying, program, pureRun, bind, pure, Sem.bind, h1, h2, Conv.intToInt, hw]
  simp only [evOp, hConv, q1]
  exact pure_conv q1 rfl hc rfl⟩
theorem raw_convS {src t : TypeId} {x : Operand} {k k1 : IntKind} {a : Int} (hx : evL l x = some (.int k a)) (h1 : E.P.underlying src = some (.int k1)) (h2 : E.P.underlying t = some .string) (hk : K (.string (Utf8.encode a)) h) :
    RawP E l h ⟨dst, .convert src t x, ty, pos, after, guard⟩ K := ⟨fun tm hv => by
  refine OpP.val ?_ hk
  have q1 := evL_ok hv hx
  have hc : pureRun E.P (convert src t (.int k a)) = some (.string (Utf8.encode a)) := by
    simp [convert, Go.underlying, program, pureRun, bind, pure, Sem.bind, h1, h2, Conv.intToString]
  simp only [evOp, hConv, q1]
  exact pure_conv q1 rfl hc rfl⟩
theorem raw_glob {t : TypeId} {g : Nat} (hg : isGL g = true) (ha : isAgg E.P t = some false) (hk : K junk h) : RawP E l h ⟨dst, .load t (.global g), ty, pos, after, guard⟩ K := ⟨fun tm hv => by
  refine OpP.val ?_ hk
  have q : evA tm (.global g) = none := rfl
  simp only [evOp, hLoad, q, hGlob, hg, ha]⟩
theorem raw_iface {t : TypeId} {x : Operand} {v : Value} {u : TypeDesc} (hx : evL l x = some v) (h1 : E.P.underlying t = some u) (h2 : ∀ ms, u ≠ .interface ms) (hk : K (.iface t v) h) : RawP E l h ⟨dst, .makeInterface t x, ty, pos, after, guard⟩ K := ⟨fun tm hv => by
  refine OpP.val ?_ hk
  have q1 := evL_ok hv hx
  simp only [evOp, hIface, q1, h1]⟩
def evsP (l : L) : List (Nat × Operand) → Option (List (Nat × Value))
  | [] => some []
  | (i, x) :: r => match evL l x, evsP l r with
    | some v, some l => some ((i, v) :: l)
    | _, _ => none
theorem evsP_ok {tm : TM} (hv : View l tm) : ∀ {xs : List (Nat × Operand)} {vs}, evsP l xs = some vs → evParts tm xs = some vs
  | [], vs, h => h
  | (i, x) :: r, vs, h => by
    simp only [evsP] at h
    split at h
    · rename_i v us hx hr
      simp only [evParts, evL_ok hv hx, evsP_ok hv hr]
      exact h
    · cases h
theorem raw_build {t : TypeId} {ps : Array (Nat × Operand)} {parts : List (Nat × Value)} {z : Value} {fs : Array Field} {c : List Value} (hp : evsP l ps.toList = some parts) (hz : zero E.P t = some z) (hu : E.P.underlying t = some (.struct fs))
    (hf : fillL (fun i => (fs[i]?).bind fun f => (sizeOf E.P f.type).map fun s => (f.offset, s)) z.cells.toList parts = some c) (ha : fs.toList.all (fun f => (sizeOf E.P f.type).isSome) = true) (hk : K (.agg c.toArray) h) :
    RawP E l h ⟨dst, .build t ps, ty, pos, after, guard⟩ K := ⟨fun tm hv => by
  refine OpP.val ?_ hk
  simp only [evOp, hBuild, evsP_ok hv hp, hz, hu, hf, ha, if_true]⟩
theorem raw_buildSlice {t e : TypeId} {len s : Nat} {ps : Array (Nat × Operand)} {parts : List (Nat × Value)} {z : Value} {c : List Value} (hp : evsP l ps.toList = some parts) (hu : E.P.underlying t = some (.slice e)) (hz : zero E.P e = some z) (hs : sizeOf E.P e = some s)
    (hc : len * s ≤ 2 ^ 24 ∧ z.cells.toList.length = s ∧ 0 < s) (hf : fillL (fun i => some (i * s, s)) (rep z.cells.toList len) parts = some c) (hk : K (.slice (some ⟨h.next, 0, none⟩) len len) (h.push (.cells c (some e) true 0))) :
    RawP E l h ⟨dst, .buildSlice t len ps, ty, pos, after, guard⟩ K := ⟨fun tm hv => by
  refine OpP.val ?_ hk
  simp only [evOp, hBuildSlice, evsP_ok hv hp, hz, hu, hs, if_pos hc, hf]⟩
theorem raw_unrunes {src t e : TypeId} {x : Operand} {a : Addr} {n c : Nat} {vs : List Value} {rs : List Int} (hx : evL l x = some (.slice (some a) (n + 1) c)) (h1 : E.P.underlying src = some (.slice e)) (h2 : E.P.underlying t = some .string) (h3 : E.P.underlying e = some (.int .i32))
    (hr : h.read a.block a.off (n + 1) = some vs) (hb : runesOf vs = some rs) (hk : K (.string (runesBytes rs)) h) : RawP E l h ⟨dst, .convert src t x, ty, pos, after, guard⟩ K := ⟨fun tm hv => by
  refine OpP.val ?_ hk
  have q1 := evL_ok hv hx
  simp only [evOp, hConv, q1, h1, h2, hOfBytes, h3, hr, hb]⟩
end raws
end Go.Proofs.YtfgemjpoiconbaaGreatDoor.GEv

/- Numbers in texts, by symbolic runs: 'CutPrefix', 'strconv.ParseUint' at ten and sixteen. -/
namespace Go.Proofs.YtfgemjpoiconbaaGreatDoor.GEv
open Go
set_option linter.unusedSimpArgs false
set_option linter.unusedVariables false
/-- 'CutPrefix' by one byte. -/
def preV (c : UInt8) : List UInt8 → Value
  | [] => .tuple #[.string ⟨⟨[]⟩⟩, .bool false]
  | a :: t => match decide (a = c) with
    | true => .tuple #[.string ⟨⟨t⟩⟩, .bool true]
    | false => .tuple #[.string ⟨⟨a :: t⟩⟩, .bool false]
theorem intU : EM.P.underlying 3 = some (.int .i64) := by kernel_rfl
theorem uintU : EM.P.underlying 88 = some (.int .u64) := by kernel_rfl
theorem u64U : EM.P.underlying 97 = some (.int .u64) := by kernel_rfl
theorem u8U : EM.P.underlying 5 = some (.int .u8) := by kernel_rfl
theorem i32U : EM.P.underlying 21 = some (.int .i32) := by kernel_rfl
theorem errU : ∃ u, EM.P.underlying 126 = some u ∧ ∀ ms, u ≠ .interface ms := ⟨.int .i64, by kernel_rfl, fun ms h => by cases h⟩
theorem nerU : ∃ u, EM.P.underlying 128 = some u ∧ ∀ ms, u ≠ .interface ms := ⟨.pointer 134, by kernel_rfl, fun ms h => by cases h⟩
theorem wrap_u64 {n : Nat} (h : n < 18446744073709551616) : IntKind.u64.wrap (.ofNat n) = .ofNat n := by
  have e : (Int.ofNat n) % 18446744073709551616 = Int.ofNat n := Int.emod_eq_of_lt (Int.natCast_nonneg n) (Int.ofNat_lt.2 h)
  show (Int.ofNat n) % 18446744073709551616 = _
  exact e
theorem wrap_u8 {n : Nat} (h : n < 256) : IntKind.u8.wrap (.ofNat n) = .ofNat n := by
  have e : (Int.ofNat n) % 256 = Int.ofNat n := Int.emod_eq_of_lt (Int.natCast_nonneg n) (Int.ofNat_lt.2 h)
  show (Int.ofNat n) % 256 = _
  exact e
theorem wrap_i64 {n : Nat} (h : n < 9223372036854775808) : IntKind.i64.wrap (.ofNat n) = .ofNat n := by
  have e : (Int.ofNat n) % 18446744073709551616 = Int.ofNat n := Int.emod_eq_of_lt (Int.natCast_nonneg n) (Int.ofNat_lt.2 (show n < 18446744073709551616 by omega))
  unfold IntKind.wrap
  show (if (true && decide ((Int.ofNat n) % 18446744073709551616 ≥ 9223372036854775808)) = true then _ else (Int.ofNat n) % 18446744073709551616) = _
  rw [e, if_neg (by simp; omega)]
theorem wrap_i32 {n : Nat} (h : n < 2147483648) : IntKind.i32.wrap (.ofNat n) = .ofNat n := by
  have e : (Int.ofNat n) % 4294967296 = Int.ofNat n := Int.emod_eq_of_lt (Int.natCast_nonneg n) (Int.ofNat_lt.2 (show n < 4294967296 by omega))
  unfold IntKind.wrap
  show (if (true && decide ((Int.ofNat n) % 4294967296 ≥ 2147483648)) = true then _ else (Int.ofNat n) % 4294967296) = _
  rw [e, if_neg (by simp; omega)]
theorem wrap_u8s {m n : Nat} (h : m < 256) (hn : n ≤ m) : IntKind.u8.wrap (.ofNat m - .ofNat n) = .ofNat (m - n) := by
  show IntKind.u8.wrap ((m : Int) - (n : Int)) = _
  rw [← Int.ofNat_sub hn]
  exact wrap_u8 (by omega)
/-- A digit's number; -1. -/
def digI (hex : Bool) (c : Nat) : Int := match digitV hex c with
  | some d => .ofNat d
  | none => .negSucc 0
theorem eqv {K : Value → H → Prop} {h : H} {a b : Value} (hk : K a h) (e : b = a) : K b h := e ▸ hk
/-- 'lower' of a byte. -/
def lowN (c : Nat) : Nat := c ||| 32
theorem lowW : ∀ c : Fin 256, IntKind.u8.wrap ((BitVec.ofInt 8 (.ofNat c.val) ||| BitVec.ofInt 8 32).toNat : Int) = .ofNat (lowN c.val) := by decide +kernel
set_option maxRecDepth 100000
attribute [local cbv_opaque] isString isSlice isBoolT fOff iSize eqNil zero H.load H.store H.push H.dip H.put List.length List.getD Nat.add Nat.sub List.take List.drop lowN
attribute [local cbv_eval] List.length_cons List.length_nil
section
variable {E : Env} (hE : E = EM)
include hE
theorem hasPre (c : UInt8) (l : List UInt8) (h : H) (K : Value → H → Prop) (hk : K (.bool (match l with | [] => false | a :: _ => decide (a = c))) h) : CallP E 63 [.string ⟨⟨l⟩⟩, .string ⟨⟨[c]⟩⟩] h K := by
  refine CallP.ofE hE rfl Tryz.func63 rfl (Nat.le_of_ble_eq_true rfl) ?_
  have hS : isString E.1 9 = true := by rw [hE]; exact stringT
  clear hE
  cases l with
  | nil =>
    cbv
    refine And.intro hS (And.intro hS (And.intro (fun h => absurd h (by decide)) (fun _ => ?_)))
    cbv
    exact ⟨_, rfl, hk⟩
  | cons a t =>
    have h1 : 1 ≤ Nat.add t.length 1 := Nat.le_add_left _ _
    have hk : K (.bool (decide (a = c))) h := hk
    cbv
    refine And.intro hS (And.intro hS (And.intro (fun _ => ?_) (fun h => absurd h (by show ¬ (t.length + 1 < 1); omega))))
    cbv
    refine And.intro hS (And.intro hS (And.intro h1 (And.intro (fun h2 => ?_) (fun h2 => ?_))))
    all_goals cbv
    · refine ⟨_, rfl, eqb hk ?_⟩
      have h2 : [a] = [c] := h2
      simp only [List.cons.injEq, and_true] at h2
      simp [h2]
    · refine ⟨_, rfl, eqb hk ?_⟩
      have h2 : ¬ [a] = [c] := h2
      simp only [List.cons.injEq, and_true] at h2
      simp [h2]
theorem cutPre (c : UInt8) (l : List UInt8) (h : H) (K : Value → H → Prop) (hk : K (preV c l) h) : CallP E 92 [.string ⟨⟨l⟩⟩, .string ⟨⟨[c]⟩⟩] h K := by
  refine CallP.ofE hE rfl Tryz.func92 rfl (Nat.le_of_ble_eq_true rfl) ?_
  have n0 : ∀ (h : H) (K : Value → H → Prop), K (preV c l) h → CallP E 108 [.string ⟨⟨l⟩⟩, .string ⟨⟨[c]⟩⟩] h K := by
    intro h K hk
    refine CallP.ofE hE rfl Tryz.func108 rfl (Nat.le_of_ble_eq_true rfl) ?_
    have n1 := fun h K hk => hasPre hE c l h K hk
    have hS : isString E.1 9 = true := by rw [hE]; exact stringT
    clear hE
    cases l with
    | nil =>
      cbv
      refine .inl (n1 _ _ ?_)
      cbv
      exact ⟨_, rfl, hk⟩
    | cons a t =>
      simp only at n1
      have hk : K (match decide (a = c) with | true => .tuple #[.string ⟨⟨t⟩⟩, .bool true] | false => .tuple #[.string ⟨⟨a :: t⟩⟩, .bool false]) h := hk
      have h1 : Nat.le 1 (Nat.add t.length 1) := Nat.le_add_left _ _
      have l1 : List.take (Nat.sub (Nat.add t.length 1) 1) (List.drop 1 (a :: t)) = t := by
        show List.take (t.length + 1 - 1) t = t
        simp
      generalize decide (a = c) = b at n1 hk
      cases b
      · cbv
        refine .inl (n1 _ _ ?_)
        cbv
        exact ⟨_, rfl, hk⟩
      · cbv
        refine .inl (n1 _ _ ?_)
        cbv
        rw [l1]
        exact ⟨hS, hS, h1, Nat.le_refl _, _, rfl, hk⟩
  clear hE
  cases l with
  | nil =>
    cbv
    refine .inl (n0 _ _ ?_)
    cbv
    exact ⟨_, rfl, hk⟩
  | cons a t =>
    have hk : K (match decide (a = c) with | true => .tuple #[.string ⟨⟨t⟩⟩, .bool true] | false => .tuple #[.string ⟨⟨a :: t⟩⟩, .bool false]) h := hk
    have n0 : ∀ (h : H) (K : Value → H → Prop), K (match decide (a = c) with | true => .tuple #[.string ⟨⟨t⟩⟩, .bool true] | false => .tuple #[.string ⟨⟨a :: t⟩⟩, .bool false]) h → CallP E 108 [.string ⟨⟨a :: t⟩⟩, .string ⟨⟨[c]⟩⟩] h K := n0
    generalize decide (a = c) = b at n0 hk
    cases b
    all_goals cbv
    all_goals refine .inl (n0 _ _ ?_)
    all_goals cbv
    all_goals exact ⟨_, rfl, hk⟩
theorem lowC (c : Nat) (hc : c < 256) (h : H) (K : Value → H → Prop) (hk : K (.int .u8 (.ofNat (lowN c))) h) : CallP E 120 [.int .u8 (.ofNat c)] h K := by
  refine CallP.ofE hE rfl Tryz.func120 rfl (Nat.le_of_ble_eq_true rfl) ?_
  clear hE
  have hw := lowW ⟨c, hc⟩
  cbv
  refine raw_or rfl rfl hw ?_
  cbv
  exact ⟨_, rfl, hk⟩
theorem rDigit (hex : Bool) (c : Nat) (hc : c < 256) (h : H) (K : Value → H → Prop) (hk : K (.int .i64 (digI hex c)) h) : CallP E 126 [.int .u8 (.ofNat c), .bool hex] h K := by
  refine CallP.ofE hE rfl Tryz.func126 rfl (Nat.le_of_ble_eq_true rfl) ?_
  have u8 : E.P.underlying 5 = some (.int .u8) := by rw [hE]; exact u8U
  have ui : E.P.underlying 3 = some (.int .i64) := by rw [hE]; exact intU
  clear hE
  have d1 : 48 ≤ c → c ≤ 57 → digI hex c = .ofNat (c - 48) := by intro a b; simp [digI, digitV, a, b]
  have d0 : (c < 48 ∨ 57 < c) → (c < 97 ∨ 102 < c ∨ hex = false) → (c < 65 ∨ 70 < c ∨ hex = false) → digI hex c = .negSucc 0 := by
    intro a b d
    unfold digI digitV
    rw [if_neg (by omega), if_neg (by
      rintro ⟨e, x, y⟩
      rcases b with b | b | b
      · omega
      · omega
      · rw [b] at e; cases e), if_neg (by
      rintro ⟨e, x, y⟩
      rcases d with b | b | b
      · omega
      · omega
      · rw [b] at e; cases e)]
  have d2 : hex = true → 97 ≤ c → c ≤ 102 → digI hex c = .ofNat (c - 97 + 10) := by
    intro e a b
    unfold digI digitV
    rw [if_neg (by omega), if_pos ⟨e, a, b⟩]
  have d3 : hex = true → 65 ≤ c → c ≤ 70 → digI hex c = .ofNat (c - 65 + 10) := by
    intro e a b
    unfold digI digitV
    rw [if_neg (by omega), if_neg (by omega), if_pos ⟨e, a, b⟩]
  have hs : ∀ n, Nat.sub c n < 9223372036854775808 := fun n => Nat.lt_of_le_of_lt (Nat.sub_le c n) (by omega)
  have ha : ∀ n, Nat.le (Nat.add (Nat.sub c n) 10) 4611686018427387904 := fun n => by
    have := Nat.sub_le c n
    show c - n + 10 ≤ _
    omega
  generalize digI hex c = r at hk d0 d1 d2 d3
  cases hex
  all_goals cbv
  all_goals repeat' (refine And.intro (fun h1 => ?_) (fun h1 => ?_) <;> cbv)
  all_goals try (refine raw_sub rfl rfl rfl (wrap_u8s hc (by assumption)) ?_ <;> cbv)
  all_goals try (refine raw_conv rfl u8 ui (wrap_i64 (hs _)) ?_ <;> cbv)
  all_goals try (refine And.intro (ha _) ?_)
  all_goals refine ⟨_, rfl, ?_⟩
  all_goals first
    | (rw [d1 (by assumption) (by assumption)] at hk; exact hk)
    | (rw [d2 rfl (by assumption) (by assumption)] at hk; exact hk)
    | (rw [d3 rfl (by assumption) (by assumption)] at hk; exact hk)
    | (rw [d0 (by first | omega | simp) (by first | omega | simp) (by first | omega | simp)] at hk; exact hk)
    | skip
end
end Go.Proofs.YtfgemjpoiconbaaGreatDoor.GEv

/- 'strconv.ParseUint' at ten and sixteen, of seven digits at most, by a symbolic run. -/
namespace Go.Proofs.YtfgemjpoiconbaaGreatDoor.GEv
open Go
set_option linter.unusedSimpArgs false
set_option linter.unusedVariables false
theorem digLow : ∀ c : Fin 256, ¬ (48 ≤ c.val ∧ c.val ≤ 57) → ((97 ≤ lowN c.val ∧ lowN c.val ≤ 102) → digitV true c.val = some (lowN c.val - 97 + 10)) ∧ ((lowN c.val < 97 ∨ 102 < lowN c.val) → digitV true c.val = none) ∧ digitV false c.val = none := by decide +kernel
theorem digHigh (hex : Bool) (c : Nat) (h1 : 48 ≤ c) (h2 : c ≤ 57) : digitV hex c = some (c - 48) := by simp [digitV, h1, h2]
theorem drop_get {l : List UInt8} {i : Nat} (hi : i < l.length) : l.drop i = l.getD i 0 :: l.drop (i + 1) := by
  rw [List.drop_eq_getElem_cons hi, List.getD_eq_getElem?_getD, List.getElem?_eq_getElem hi]
  rfl
theorem numF_step {hex : Bool} {n : Nat} {l : List UInt8} {i : Nat} (hi : i < l.length) : numF hex n (l.drop i) = match digitV hex (l.getD i 0).toNat with
    | some d => numF hex (n * baseV hex + d) (l.drop (i + 1))
    | none => none := by
  rw [drop_get hi]
  rfl
/-- What the inner function hands back. -/
def uintV : Option Nat → Value
  | some n => .tuple #[.int .u64 (.ofNat n), .nilIface]
  | none => .tuple #[.int .u64 (.ofNat 0), .iface 126 (.int .i64 (.ofNat 2))]
set_option maxRecDepth 100000
attribute [local cbv_opaque] isString isSlice isBoolT fOff iSize eqNil zero H.load H.store H.push H.dip H.put List.length List.getD Nat.add Nat.sub Nat.mul List.take List.drop lowN UInt8.toNat bytesV
attribute [local cbv_eval] List.length_cons List.length_nil
section
variable {E : Env} (hE : E = EM)
include hE
theorem uInner (hex : Bool) (l : List UInt8) (h0 : 1 ≤ l.length) (h7 : l.length ≤ 7) (h : H) (K : Value → H → Prop) (hk : ∀ h', K (uintV (numF hex 0 l)) h') : CallP E 115 [.string ⟨⟨l⟩⟩, .int .i64 (.ofNat (baseV hex)), .int .i64 (.ofNat 32)] h K := by
  refine CallP.ofE hE rfl Tryz.func115 rfl (Nat.le_of_ble_eq_true rfl) ?_
  have hL : isSlice E.1 (some 42) = true := by rw [hE]; exact bytesT
  have hZ : iSize E.1 42 = some 1 := by rw [hE]; exact bytesZ
  have hC := fun q h dst ty pos after guard x s K hx hk => raw_bytes (E := E) (l := q) (h := h) (dst := dst) (ty := ty) (pos := pos) (after := after) (guard := guard) (x := x) (s := s) (K := K) hx (show E.P.underlying 9 = some .string by rw [hE]; exact stringU) (show E.P.underlying 42 = some (.slice 5) by rw [hE]; exact bytesU) (show E.P.underlying 5 = some (.int .u8) by rw [hE]; exact byteU) hk
  have hM := fun h l i hi => load_bytes (E := E) (h := h) (l := l) (i := i) (e := 5) (show isAgg E.P 5 = some false by rw [hE]; exact byteA) (show sizeOf E.P 5 = some 1 by rw [hE]; exact byteZ) hi
  have u8 : E.P.underlying 5 = some (.int .u8) := by rw [hE]; exact u8U
  have ui : E.P.underlying 3 = some (.int .i64) := by rw [hE]; exact intU
  have uu : E.P.underlying 88 = some (.int .u64) := by rw [hE]; exact uintU
  have u6 : E.P.underlying 97 = some (.int .u64) := by rw [hE]; exact u64U
  obtain ⟨ue, e1, e2⟩ : ∃ u, E.P.underlying 126 = some u ∧ ∀ ms, u ≠ .interface ms := by rw [hE]; exact errU
  have n1 := fun c hc h K hk => lowC hE c hc h K hk
  have hne : ¬ l = [] := by rintro rfl; simp at h0
  clear hE
  cases hex
  · cbv
    refine And.intro (fun e => absurd e hne) (fun _ => ?_)
    cbv
    repeat (first | (refine And.intro (fun e => absurd e (by decide)) (fun _ => ?_); cbv) | (refine And.intro (fun _ => ?_) (fun e => absurd e (by decide)); cbv))
    refine raw_conv rfl ui uu (r := .ofNat 32) (by decide) ?_
    cbv
    refine raw_shl rfl rfl (by decide) (r := .ofNat 4294967296) (by decide) ?_
    cbv
    refine raw_sub rfl rfl rfl (r := .ofNat 4294967295) (by decide) ?_
    cbv
    refine hC _ _ _ _ _ _ _ _ _ _ rfl ?_
    cbv
    refine And.intro hL ?_
    cbv
    refine LoopP.on (fun x : Nat × Nat => [(101, .int .i64 (.ofNat x.1)), (13, .int .u64 (.ofNat x.2)), (99, .slice (some ⟨h.next, 0, none⟩) l.length (UNK + 1)), (100, .int .i64 (.ofNat l.length)), (1, .int .i64 (.ofNat 10)), (8, .bool false), (10, .int .u64 1844674407370955162), (11, .int .u64 (.ofNat 4294967295)), (12, .bool false)]) (fun _ => h.push (.cells (bytesV ⟨⟨l⟩⟩) (some 5) false 0))
      (fun x => x.1 ≤ l.length ∧ numF false x.2 (l.drop x.1) = numF false 0 l ∧ x.2 < 16 ^ x.1) (fun x => l.length - x.1) (0, 0) rfl (Less.cons rfl (Less.cons rfl (Less.cons rfl (Less.cons rfl (Less.cons rfl (Less.cons rfl (Less.cons rfl (Less.cons rfl (Less.cons rfl (Less.nil _)))))))))) ⟨Nat.zero_le _, by simp, by decide⟩ ?_
    rintro ⟨i, n⟩ ⟨i1, i2, i3⟩
    have i1 : i ≤ l.length := i1
    have i2 : numF false n (l.drop i) = numF false 0 l := i2
    have i3 : n < 16 ^ i := i3
    by_cases hi : i < l.length
    · have hM := hM h l i hi
      have st := numF_step (hex := false) (n := n) hi
      rw [i2] at st
      have hc : (l.getD i 0).toNat < 256 := (l.getD i 0).toNat_lt
      have dl := digLow ⟨_, hc⟩
      have dh := digHigh false (l.getD i 0).toNat
      have hp : 16 ^ (i + 1) = 16 ^ i * 16 := Nat.pow_succ ..
      have hq : 16 ^ i ≤ 16 ^ 6 := Nat.pow_le_pow_right (by decide) (by omega)
      have hn : n < 16777216 := by omega
      have hs : Nat.succ i = i + 1 := rfl
      have hb : Nat.le (Nat.add i 1) 4611686018427387904 := by show i + 1 ≤ _; omega
      obtain ⟨m, hm⟩ : ∃ m, m = n * 10 := ⟨_, rfl⟩
      have hmw : IntKind.u64.wrap (.ofNat n * 10) = .ofNat m := by rw [hm]; exact wrap_u64 (n := n * 10) (by omega)
      have hmb : m ≤ 16777216 * 16 := by omega
      clear hne h0
      generalize (l.getD i 0).toNat = c at hM st hc dl dh
      have dl : ¬ (48 ≤ c ∧ c ≤ 57) → ((97 ≤ lowN c ∧ lowN c ≤ 102) → digitV true c = some (lowN c - 97 + 10)) ∧ ((lowN c < 97 ∨ 102 < lowN c) → digitV true c = none) ∧ digitV false c = none := dl
      have n1 := fun h K hk => n1 c hc h K hk
      have hl8 : lowN c < 256 := by
        have := Nat.or_lt_two_pow (n := 8) (x := c) (y := 32) hc (by decide)
        exact this
      generalize lowN c = L at n1 dl hl8
      cbv
      refine And.intro (fun _ => ?_) (fun e => absurd e (by omega))
      cbv
      refine ⟨1, hZ, by assumption, ?_⟩
      rw [Nat.mul_one, show (({ block := h.2, off := 0 } : Addr).add i) = ⟨h.2, i, none⟩ by simp [Addr.add]; exact fun e => e.symm]
      cbv
      refine ⟨_, hM, ?_⟩
      cbv
      by_cases hA : 48 ≤ c ∧ c ≤ 57
      · obtain ⟨d, hd⟩ : ∃ d, d = c - 48 := ⟨_, rfl⟩
        have hdw : IntKind.u8.wrap (.ofNat c - 48) = .ofNat d := by rw [hd]; exact wrap_u8s hc hA.1
        rw [dh hA.1 hA.2, ← hd] at st
        have st : numF false 0 l = numF false (n * 10 + d) (l.drop (i + 1)) := st
        rw [← hm] at st
        obtain ⟨m1, hm1⟩ : ∃ m1, m1 = m + d := ⟨_, rfl⟩
        have hdc : IntKind.u64.wrap (.ofNat d) = .ofNat d := wrap_u64 (by omega)
        have hm1w : IntKind.u64.wrap (.ofNat m + .ofNat d) = .ofNat m1 := by rw [hm1]; exact wrap_u64 (n := m + d) (by omega)
        rw [← hm1] at st
        refine And.intro (fun e => absurd e (by omega)) (fun _ => ?_)
        cbv
        refine And.intro (fun _ => ?_) (fun e => absurd e (by omega))
        cbv
        refine And.intro (fun _ => ?_) (fun e => absurd e (by omega))
        cbv
        refine raw_sub rfl rfl rfl hdw ?_
        cbv
        refine raw_conv rfl ui u8 (r := .ofNat 10) (by decide) ?_
        cbv
        refine And.intro (fun e => absurd e (by omega)) (fun _ => ?_)
        cbv
        refine And.intro (fun e => absurd e (by omega)) (fun _ => ?_)
        cbv
        refine raw_conv rfl ui u6 (r := .ofNat 10) (by decide) ?_
        cbv
        refine raw_mul rfl rfl rfl hmw ?_
        cbv
        refine raw_conv rfl u8 u6 hdc ?_
        cbv
        refine raw_add rfl rfl rfl hm1w ?_
        cbv
        refine And.intro (fun e => absurd e (by omega)) (fun _ => ?_)
        cbv
        refine And.intro (fun e => absurd e (by omega)) (fun _ => ?_)
        cbv
        exact ⟨hb, (i + 1, m1), Less.cons rfl (Less.cons rfl (Less.cons rfl (Less.cons rfl (Less.cons rfl (Less.cons rfl (Less.cons rfl (Less.cons rfl (Less.cons rfl (Less.nil _))))))))), rfl, ⟨hi, st.symm, (by show m1 < 16 ^ (i + 1); omega)⟩, (by show l.length - (i + 1) < l.length - i; omega)⟩
      obtain ⟨dl1, dl2, dl3⟩ := dl hA
      by_cases hB : 97 ≤ L ∧ L ≤ 122
      · obtain ⟨e0, he0⟩ : ∃ e, e = L - 97 := ⟨_, rfl⟩
        obtain ⟨d, hd⟩ : ∃ d, d = e0 + 10 := ⟨_, rfl⟩
        have hew : IntKind.u8.wrap (.ofNat L - 97) = .ofNat e0 := by rw [he0]; exact wrap_u8s hl8 hB.1
        have hdw : IntKind.u8.wrap (.ofNat e0 + 10) = .ofNat d := by rw [hd]; exact wrap_u8 (n := e0 + 10) (by omega)
        rw [dl3] at st
        have hk : ∀ h', K (uintV none) h' := by rw [st] at hk; exact hk
        refine And.intro (fun e => ?_) (fun e => ?_)
        all_goals cbv
        all_goals refine And.intro (fun h1 => ?_) (fun h1 => ?_)
        all_goals cbv
        all_goals try (refine And.intro (fun e => absurd e (by omega)) (fun _ => ?_); cbv)
        all_goals (refine .inl (n1 _ _ ?_); cbv)
        all_goals (refine And.intro (fun _ => ?_) (fun e => absurd e (by omega)); cbv)
        all_goals (refine .inl (n1 _ _ ?_); cbv)
        all_goals (refine And.intro (fun _ => ?_) (fun e => absurd e (by omega)); cbv)
        all_goals (refine .inl (n1 _ _ ?_); cbv)
        all_goals (refine raw_sub rfl rfl rfl hew ?_; cbv)
        all_goals (refine raw_add rfl rfl rfl hdw ?_; cbv)
        all_goals (refine raw_conv rfl ui u8 (r := .ofNat 10) (by decide) ?_; cbv)
        all_goals (refine And.intro (fun _ => ?_) (fun e => absurd e (by omega)); cbv)
        all_goals (refine raw_iface rfl e1 e2 ?_; cbv)
        all_goals exact ⟨_, rfl, hk _⟩
      · have hz : digitV false c = none := dl3
        rw [hz] at st
        have hk : ∀ h', K (uintV none) h' := by rw [st] at hk; exact hk
        refine And.intro (fun e => ?_) (fun e => ?_)
        all_goals cbv
        all_goals refine And.intro (fun h1 => ?_) (fun h1 => ?_)
        all_goals cbv
        all_goals try (refine And.intro (fun e => absurd e (by omega)) (fun _ => ?_); cbv)
        all_goals (refine .inl (n1 _ _ ?_); cbv)
        all_goals refine And.intro (fun h2 => ?_) (fun h2 => ?_)
        all_goals cbv
        all_goals try (refine .inl (n1 _ _ ?_); cbv; refine And.intro (fun e => absurd e (by omega)) (fun _ => ?_); cbv)
        all_goals (refine raw_iface rfl e1 e2 ?_; cbv)
        all_goals exact ⟨_, rfl, hk _⟩
    · have hi : i = l.length := by omega
      rw [hi, List.drop_eq_nil_of_le (Nat.le_refl _)] at i2
      have hk : ∀ h', K (uintV (some n)) h' := by rw [← i2] at hk; exact hk
      cbv
      refine And.intro (fun e => absurd e (by omega)) (fun _ => ?_)
      cbv
      exact ⟨_, rfl, hk _⟩
  · cbv
    refine And.intro (fun e => absurd e hne) (fun _ => ?_)
    cbv
    repeat (first | (refine And.intro (fun e => absurd e (by decide)) (fun _ => ?_); cbv) | (refine And.intro (fun _ => ?_) (fun e => absurd e (by decide)); cbv))
    refine raw_conv rfl ui uu (r := .ofNat 32) (by decide) ?_
    cbv
    refine raw_shl rfl rfl (by decide) (r := .ofNat 4294967296) (by decide) ?_
    cbv
    refine raw_sub rfl rfl rfl (r := .ofNat 4294967295) (by decide) ?_
    cbv
    refine hC _ _ _ _ _ _ _ _ _ _ rfl ?_
    cbv
    refine And.intro hL ?_
    cbv
    refine LoopP.on (fun x : Nat × Nat => [(101, .int .i64 (.ofNat x.1)), (13, .int .u64 (.ofNat x.2)), (99, .slice (some ⟨h.next, 0, none⟩) l.length (UNK + 1)), (100, .int .i64 (.ofNat l.length)), (1, .int .i64 (.ofNat 16)), (8, .bool false), (10, .int .u64 1152921504606846976), (11, .int .u64 (.ofNat 4294967295)), (12, .bool false)]) (fun _ => h.push (.cells (bytesV ⟨⟨l⟩⟩) (some 5) false 0))
      (fun x => x.1 ≤ l.length ∧ numF true x.2 (l.drop x.1) = numF true 0 l ∧ x.2 < 16 ^ x.1) (fun x => l.length - x.1) (0, 0) rfl (Less.cons rfl (Less.cons rfl (Less.cons rfl (Less.cons rfl (Less.cons rfl (Less.cons rfl (Less.cons rfl (Less.cons rfl (Less.cons rfl (Less.nil _)))))))))) ⟨Nat.zero_le _, by simp, by decide⟩ ?_
    rintro ⟨i, n⟩ ⟨i1, i2, i3⟩
    have i1 : i ≤ l.length := i1
    have i2 : numF true n (l.drop i) = numF true 0 l := i2
    have i3 : n < 16 ^ i := i3
    by_cases hi : i < l.length
    · have hM := hM h l i hi
      have st := numF_step (hex := true) (n := n) hi
      rw [i2] at st
      have hc : (l.getD i 0).toNat < 256 := (l.getD i 0).toNat_lt
      have dl := digLow ⟨_, hc⟩
      have dh := digHigh true (l.getD i 0).toNat
      have hp : 16 ^ (i + 1) = 16 ^ i * 16 := Nat.pow_succ ..
      have hq : 16 ^ i ≤ 16 ^ 6 := Nat.pow_le_pow_right (by decide) (by omega)
      have hn : n < 16777216 := by omega
      have hs : Nat.succ i = i + 1 := rfl
      have hb : Nat.le (Nat.add i 1) 4611686018427387904 := by show i + 1 ≤ _; omega
      obtain ⟨m, hm⟩ : ∃ m, m = n * 16 := ⟨_, rfl⟩
      have hmw : IntKind.u64.wrap (.ofNat n * 16) = .ofNat m := by rw [hm]; exact wrap_u64 (n := n * 16) (by omega)
      have hmb : m ≤ 16777216 * 16 := by omega
      clear hne h0
      generalize (l.getD i 0).toNat = c at hM st hc dl dh
      have dl : ¬ (48 ≤ c ∧ c ≤ 57) → ((97 ≤ lowN c ∧ lowN c ≤ 102) → digitV true c = some (lowN c - 97 + 10)) ∧ ((lowN c < 97 ∨ 102 < lowN c) → digitV true c = none) ∧ digitV false c = none := dl
      have n1 := fun h K hk => n1 c hc h K hk
      have hl8 : lowN c < 256 := by
        have := Nat.or_lt_two_pow (n := 8) (x := c) (y := 32) hc (by decide)
        exact this
      generalize lowN c = L at n1 dl hl8
      cbv
      refine And.intro (fun _ => ?_) (fun e => absurd e (by omega))
      cbv
      refine ⟨1, hZ, by assumption, ?_⟩
      rw [Nat.mul_one, show (({ block := h.2, off := 0 } : Addr).add i) = ⟨h.2, i, none⟩ by simp [Addr.add]; exact fun e => e.symm]
      cbv
      refine ⟨_, hM, ?_⟩
      cbv
      by_cases hA : 48 ≤ c ∧ c ≤ 57
      · obtain ⟨d, hd⟩ : ∃ d, d = c - 48 := ⟨_, rfl⟩
        have hdw : IntKind.u8.wrap (.ofNat c - 48) = .ofNat d := by rw [hd]; exact wrap_u8s hc hA.1
        rw [dh hA.1 hA.2, ← hd] at st
        have st : numF true 0 l = numF true (n * 16 + d) (l.drop (i + 1)) := st
        rw [← hm] at st
        obtain ⟨m1, hm1⟩ : ∃ m1, m1 = m + d := ⟨_, rfl⟩
        have hdc : IntKind.u64.wrap (.ofNat d) = .ofNat d := wrap_u64 (by omega)
        have hm1w : IntKind.u64.wrap (.ofNat m + .ofNat d) = .ofNat m1 := by rw [hm1]; exact wrap_u64 (n := m + d) (by omega)
        rw [← hm1] at st
        refine And.intro (fun e => absurd e (by omega)) (fun _ => ?_)
        cbv
        refine And.intro (fun _ => ?_) (fun e => absurd e (by omega))
        cbv
        refine And.intro (fun _ => ?_) (fun e => absurd e (by omega))
        cbv
        refine raw_sub rfl rfl rfl hdw ?_
        cbv
        refine raw_conv rfl ui u8 (r := .ofNat 16) (by decide) ?_
        cbv
        refine And.intro (fun e => absurd e (by omega)) (fun _ => ?_)
        cbv
        refine And.intro (fun e => absurd e (by omega)) (fun _ => ?_)
        cbv
        refine raw_conv rfl ui u6 (r := .ofNat 16) (by decide) ?_
        cbv
        refine raw_mul rfl rfl rfl hmw ?_
        cbv
        refine raw_conv rfl u8 u6 hdc ?_
        cbv
        refine raw_add rfl rfl rfl hm1w ?_
        cbv
        refine And.intro (fun e => absurd e (by omega)) (fun _ => ?_)
        cbv
        refine And.intro (fun e => absurd e (by omega)) (fun _ => ?_)
        cbv
        exact ⟨hb, (i + 1, m1), Less.cons rfl (Less.cons rfl (Less.cons rfl (Less.cons rfl (Less.cons rfl (Less.cons rfl (Less.cons rfl (Less.cons rfl (Less.cons rfl (Less.nil _))))))))), rfl, ⟨hi, st.symm, (by show m1 < 16 ^ (i + 1); omega)⟩, (by show l.length - (i + 1) < l.length - i; omega)⟩
      obtain ⟨dl1, dl2, dl3⟩ := dl hA
      by_cases hB : 97 ≤ L ∧ L ≤ 122
      · obtain ⟨e0, he0⟩ : ∃ e, e = L - 97 := ⟨_, rfl⟩
        obtain ⟨d, hd⟩ : ∃ d, d = e0 + 10 := ⟨_, rfl⟩
        have hew : IntKind.u8.wrap (.ofNat L - 97) = .ofNat e0 := by rw [he0]; exact wrap_u8s hl8 hB.1
        have hdw : IntKind.u8.wrap (.ofNat e0 + 10) = .ofNat d := by rw [hd]; exact wrap_u8 (n := e0 + 10) (by omega)
        by_cases hX : L ≤ 102
        · rw [dl1 ⟨hB.1, hX⟩, show L - 97 + 10 = d by omega] at st
          have st : numF true 0 l = numF true (n * 16 + d) (l.drop (i + 1)) := st
          rw [← hm] at st
          obtain ⟨m1, hm1⟩ : ∃ m1, m1 = m + d := ⟨_, rfl⟩
          have hdc : IntKind.u64.wrap (.ofNat d) = .ofNat d := wrap_u64 (by omega)
          have hm1w : IntKind.u64.wrap (.ofNat m + .ofNat d) = .ofNat m1 := by rw [hm1]; exact wrap_u64 (n := m + d) (by omega)
          rw [← hm1] at st
          refine And.intro (fun e => ?_) (fun e => ?_)
          all_goals cbv
          all_goals refine And.intro (fun h1 => ?_) (fun h1 => ?_)
          all_goals cbv
          all_goals try (refine And.intro (fun e => absurd e (by omega)) (fun _ => ?_); cbv)
          all_goals (refine .inl (n1 _ _ ?_); cbv)
          all_goals (refine And.intro (fun _ => ?_) (fun e => absurd e (by omega)); cbv)
          all_goals (refine .inl (n1 _ _ ?_); cbv)
          all_goals (refine And.intro (fun _ => ?_) (fun e => absurd e (by omega)); cbv)
          all_goals (refine .inl (n1 _ _ ?_); cbv)
          all_goals (refine raw_sub rfl rfl rfl hew ?_; cbv)
          all_goals (refine raw_add rfl rfl rfl hdw ?_; cbv)
          all_goals
            refine raw_conv rfl ui u8 (r := .ofNat 16) (by decide) ?_
            cbv
            refine And.intro (fun e => absurd e (by omega)) (fun _ => ?_)
            cbv
            refine And.intro (fun e => absurd e (by omega)) (fun _ => ?_)
            cbv
            refine raw_conv rfl ui u6 (r := .ofNat 16) (by decide) ?_
            cbv
            refine raw_mul rfl rfl rfl hmw ?_
            cbv
            refine raw_conv rfl u8 u6 hdc ?_
            cbv
            refine raw_add rfl rfl rfl hm1w ?_
            cbv
            refine And.intro (fun e => absurd e (by omega)) (fun _ => ?_)
            cbv
            refine And.intro (fun e => absurd e (by omega)) (fun _ => ?_)
            cbv
            exact ⟨hb, (i + 1, m1), Less.cons rfl (Less.cons rfl (Less.cons rfl (Less.cons rfl (Less.cons rfl (Less.cons rfl (Less.cons rfl (Less.cons rfl (Less.cons rfl (Less.nil _))))))))), rfl, ⟨hi, st.symm, (by show m1 < 16 ^ (i + 1); omega)⟩, (by show l.length - (i + 1) < l.length - i; omega)⟩
        · rw [dl2 (.inr (by omega))] at st
          have hk : ∀ h', K (uintV none) h' := by rw [st] at hk; exact hk
          refine And.intro (fun e => ?_) (fun e => ?_)
          all_goals cbv
          all_goals refine And.intro (fun h1 => ?_) (fun h1 => ?_)
          all_goals cbv
          all_goals try (refine And.intro (fun e => absurd e (by omega)) (fun _ => ?_); cbv)
          all_goals (refine .inl (n1 _ _ ?_); cbv)
          all_goals (refine And.intro (fun _ => ?_) (fun e => absurd e (by omega)); cbv)
          all_goals (refine .inl (n1 _ _ ?_); cbv)
          all_goals (refine And.intro (fun _ => ?_) (fun e => absurd e (by omega)); cbv)
          all_goals (refine .inl (n1 _ _ ?_); cbv)
          all_goals (refine raw_sub rfl rfl rfl hew ?_; cbv)
          all_goals (refine raw_add rfl rfl rfl hdw ?_; cbv)
          all_goals (refine raw_conv rfl ui u8 (r := .ofNat 16) (by decide) ?_; cbv)
          all_goals (refine And.intro (fun _ => ?_) (fun e => absurd e (by omega)); cbv)
          all_goals (refine raw_iface rfl e1 e2 ?_; cbv)
          all_goals exact ⟨_, rfl, hk _⟩
      · have hz : digitV true c = none := dl2 (by omega)
        rw [hz] at st
        have hk : ∀ h', K (uintV none) h' := by rw [st] at hk; exact hk
        refine And.intro (fun e => ?_) (fun e => ?_)
        all_goals cbv
        all_goals refine And.intro (fun h1 => ?_) (fun h1 => ?_)
        all_goals cbv
        all_goals try (refine And.intro (fun e => absurd e (by omega)) (fun _ => ?_); cbv)
        all_goals (refine .inl (n1 _ _ ?_); cbv)
        all_goals refine And.intro (fun h2 => ?_) (fun h2 => ?_)
        all_goals cbv
        all_goals try (refine .inl (n1 _ _ ?_); cbv; refine And.intro (fun e => absurd e (by omega)) (fun _ => ?_); cbv)
        all_goals (refine raw_iface rfl e1 e2 ?_; cbv)
        all_goals exact ⟨_, rfl, hk _⟩
    · have hi : i = l.length := by omega
      rw [hi, List.drop_eq_nil_of_le (Nat.le_refl _)] at i2
      have hk : ∀ h', K (uintV (some n)) h' := by rw [← i2] at hk; exact hk
      cbv
      refine And.intro (fun e => absurd e (by omega)) (fun _ => ?_)
      cbv
      exact ⟨_, rfl, hk _⟩
end
end Go.Proofs.YtfgemjpoiconbaaGreatDoor.GEv

/- 'strconv.ParseUint' of the package strconv: its errors, by a symbolic run. -/
namespace Go.Proofs.YtfgemjpoiconbaaGreatDoor.GEv
open Go
set_option linter.unusedSimpArgs false
set_option linter.unusedVariables false
theorem errA : isAgg EM.P 49 = some false := by kernel_rfl
def fieldsOf : Option TypeDesc → Array Field
  | some (.struct fs) => fs
  | _ => #[]
noncomputable def neF : Array Field := fieldsOf (EM.P.underlying 134)
noncomputable def neZ : Value := (zero EM.P 134).getD undef
theorem neU : EM.P.underlying 134 = some (.struct neF) := by kernel_rfl
theorem neZero : zero EM.P 134 = some neZ := by kernel_rfl
theorem neAll : neF.toList.all (fun f => (sizeOf EM.P f.type).isSome) = true := by kernel_rfl
theorem nePlaces : neZ.cells.toList.length = 3 ∧ (neF[0]?).map (fun f => (f.offset, sizeOf EM.P f.type)) = some (0, some 1) ∧ (neF[1]?).map (fun f => (f.offset, sizeOf EM.P f.type)) = some (1, some 1) ∧ (neF[2]?).map (fun f => (f.offset, sizeOf EM.P f.type)) = some (2, some 1) := ⟨by kernel_rfl, by kernel_rfl, by kernel_rfl, by kernel_rfl⟩
theorem place_of {P : Program} {fs : Array Field} {i o s : Nat} (h : (fs[i]?).map (fun f => (f.offset, sizeOf P f.type)) = some (o, some s)) : ((fs[i]?).bind fun f => (sizeOf P f.type).map fun s => (f.offset, s)) = some (o, s) := by
  cases hf : fs[i]? with
  | none => rw [hf] at h; cases h
  | some f =>
    rw [hf] at h
    simp only [Option.map_some, Option.some.injEq, Prod.mk.injEq] at h
    simp only [Option.bind_some, h.2, Option.map_some, h.1]
theorem fill3 {g : Nat → Option (Nat × Nat)} {c : List Value} (hc : c.length = 3) (h0 : g 0 = some (0, 1)) (h1 : g 1 = some (1, 1)) (h2 : g 2 = some (2, 1)) {a b d : Value} (ha : a.cells.toList = [a]) (hb : b.cells.toList = [b]) (hd : d.cells.toList = [d]) :
    fillL g c [(0, a), (1, b), (2, d)] = some [a, b, d] := by
  match c, hc with
  | [x, y, z], _ => simp [fillL, h0, h1, h2, ha, hb, hd, over]
/-- The region of 'syntaxError', by its parts. -/
def regionOf (c : Code) : List Oper := match c with
  | .seq _ (.seq (.region _ ops _) _) => ops.toList
  | _ => []
noncomputable def seOps : List Oper := match (Tryz.f122 : Func).body with
  | some c => regionOf c
  | none => []
noncomputable def seFront : List Oper := seOps.take 5
noncomputable def seLast : Oper := seOps.getD 5 default
noncomputable def seSet : Oper := seOps.getD 6 default
theorem ifaceEq : pureRun EM.P (eqGuard .eql 49 (.tmp 11) (.tmp 13) (.iface 126 (.int .i64 (.ofNat 2))) (.iface 126 (.int .i64 (.ofNat 2)))) = some () ∧ pureRun EM.P (binOp .eql 49 (.iface 126 (.int .i64 (.ofNat 2))) (.iface 126 (.int .i64 (.ofNat 2)))) = some (.bool true) := ⟨by kernel_rfl, by kernel_rfl⟩
theorem nilNe : pureRun EM.P (binOp .neq 49 (.iface 126 (.int .i64 (.ofNat 2))) .nilIface) = some (.bool true) ∧ pureRun EM.P (binOp .neq 49 .nilIface .nilIface) = some (.bool false) := ⟨by kernel_rfl, by kernel_rfl⟩
theorem nilGuard : pureRun EM.P (eqGuard .neq 49 (.tmp 17) (.const .nilIface) .nilIface .nilIface) = some () := by kernel_rfl
set_option maxRecDepth 100000
attribute [local cbv_opaque] isString isSlice isBoolT fOff iSize eqNil zero H.load H.store H.push H.dip H.put List.length List.getD Nat.add top
section
variable {E : Env} (hE : E = EM)
include hE
theorem cloneC (s : ByteArray) (hl : s.size ≤ 4000000000) (h : H) (K : Value → H → Prop) (hk : K (.string s) h) : CallP E 127 [.string s] h K := by
  refine CallP.memo (v := .string s) ?_ (by rw [hE]; exact ⟨_, _, Tryz.func127, rfl⟩) hk
  rw [hE]
  show cloneP [.string s] = _
  have : Nat.ble s.size 4000000000 = true := Nat.ble_eq_true_of_le hl
  simp only [cloneP, this]
theorem syntaxErr (s1 s2 : ByteArray) (hl : s2.size ≤ 4000000000) (h : H) (K : Value → H → Prop) (hk : ∀ a h', K (.pointer (some a)) h') : CallP E 122 [.string s1, .string s2] h K := by
  have n1 := fun h K hk => cloneC hE s2 hl h K hk
  have ea : isAgg E.P 49 = some false := by rw [hE]; exact errA
  have hB := fun q h dst ty pos after guard ps K (hp : evsP q ps.toList = some [(0, .string s1), (1, .string s2), (2, junk)]) hk => raw_build (E := E) (l := q) (h := h) (dst := dst) (ty := ty) (pos := pos) (after := after) (guard := guard) (t := 134) (ps := ps) (K := K) (z := neZ) (fs := neF) (c := [.string s1, .string s2, junk]) hp (by rw [hE]; exact neZero) (by rw [hE]; exact neU)
    (by rw [hE]; exact fill3 nePlaces.1 (place_of nePlaces.2.1) (place_of nePlaces.2.2.1) (place_of nePlaces.2.2.2) rfl rfl rfl) (by rw [hE]; exact neAll) hk
  refine CallP.enter (by rw [hE]; rfl) (by rw [hE]; exact Tryz.func122) rfl (Nat.le_of_ble_eq_true rfl) ?_
  refine (Ends.seq (kn := Up (retL E.P [.tmp 4] K)) (kr := Up (retL E.P [.tmp 4] K)) (ke := fun _ => Up fun _ _ => False) ?_).mono ?_ ?_ ?_
  · refine (sy_ok E _ _ _ _ h (fun l1 h1 => l1 = [(4, .pointer none), (0, .string s1), (1, .string s2)] ∧ h1 = h) (fun _ _ => False) (fun _ _ _ => False) (view_args _) ?_).mono ?_ ?_ ?_
    · exact And.intro rfl rfl
    · rintro tm h1 ⟨l1, hv, rfl, rfl⟩
      refine Ends.seq ((Ends.drawK (kn := fun l2 h2 => ∃ a, look l2 4 = some (.pointer (some a))) (kr := fun _ _ => False) (ke := fun _ _ _ => False) (K := fun l2 => look l2 9 = some (.agg #[.string s1, .string s2, junk])) (front := seFront) (o := seLast) (a := seSet) rfl (by kernel_rfl) rfl (by decide) rfl rfl hv ?_ ?_).mono ?_ ?_ ?_)
      · clear hE
        cbv
        refine .inl (n1 _ _ ⟨rfl, ?_⟩)
        cbv
        refine raw_glob rfl ea ?_
        cbv
        refine hB _ _ _ _ _ _ _ _ _ rfl ⟨rfl, ?_⟩
        cbv
      · intro l1 q9
        refine ⟨rfl, rfl, ?_⟩
        show onS (evL l1 (.tmp 9)) _
        rw [show evL l1 (.tmp 9) = some (.agg #[.string s1, .string s2, junk]) from q9]
        exact ⟨rfl, rfl, fun low h3 _ _ _ => ⟨_, rfl⟩⟩
      · rintro tm2 h2 ⟨l2, hv2, a, e⟩
        exact Ends.ret ⟨l2, hv2, [.pointer (some a)], by simp only [resL, e], hk a _⟩
      · rintro tm2 h2 ⟨_, _, q⟩; exact q.elim
      · rintro i tm2 h2 ⟨_, _, q⟩; exact q.elim
    · rintro tm h1 ⟨_, _, q⟩; exact q.elim
    · rintro i tm h1 ⟨_, _, q⟩; exact q.elim
  · rintro tm h1 ⟨l1, hv, vs, e, k⟩
    exact ⟨vs, resL_ok hv e, k⟩
  · rintro tm h1 ⟨l1, hv, vs, e, k⟩
    exact ⟨vs, resL_ok hv e, k⟩
  · rintro i tm h1 ⟨l1, hv, q⟩
    exact q
theorem toErr (s1 s2 : ByteArray) (b z : Int) (hl : s2.size ≤ 4000000000) (h : H) (K : Value → H → Prop) (hk : ∀ a h', K (.iface 128 (.pointer (some a))) h') :
    CallP E 116 [.string s1, .string s2, .int .i64 b, .int .i64 z, .iface 126 (.int .i64 (.ofNat 2))] h K := by
  refine CallP.ofE hE rfl Tryz.func116 rfl (Nat.le_of_ble_eq_true rfl) ?_
  obtain ⟨ue, e1, e2⟩ : ∃ u, E.P.underlying 126 = some u ∧ ∀ ms, u ≠ .interface ms := by rw [hE]; exact errU
  obtain ⟨un, e3, e4⟩ : ∃ u, E.P.underlying 128 = some u ∧ ∀ ms, u ≠ .interface ms := by rw [hE]; exact nerU
  have n1 := fun h K hk => syntaxErr hE s1 s2 hl h K hk
  have g1 : pureRun E.P (eqGuard .eql 49 (.tmp 11) (.tmp 13) (.iface 126 (.int .i64 (.ofNat 2))) (.iface 126 (.int .i64 (.ofNat 2)))) = some () := by rw [hE]; exact ifaceEq.1
  have g2 : pureRun E.P (binOp .eql 49 (.iface 126 (.int .i64 (.ofNat 2))) (.iface 126 (.int .i64 (.ofNat 2)))) = some (.bool true) := by rw [hE]; exact ifaceEq.2
  clear hE
  cbv
  refine raw_iface rfl e1 e2 ?_
  cbv
  refine raw_eq rfl rfl rfl (fun _ _ _ _ q => by cases q) (fun _ _ q => by cases q) g1 g2 rfl ?_
  cbv
  refine .inl (n1 _ _ fun a h' => ?_)
  cbv
  refine raw_iface rfl e3 e4 ?_
  cbv
  exact ⟨_, rfl, hk _ _⟩
theorem uOuter (hex : Bool) (l : List UInt8) (h0 : 1 ≤ l.length) (h7 : l.length ≤ 7) (h : H) (K : Value → H → Prop) (hk1 : ∀ n, numF hex 0 l = some n → ∀ h', K (.tuple #[.int .u64 (.ofNat n), .nilIface]) h')
    (hk2 : numF hex 0 l = none → ∀ a h', K (.tuple #[.int .u64 (.ofNat 0), .iface 128 (.pointer (some a))]) h') :
    CallP E 109 [.string ⟨⟨l⟩⟩, .int .i64 (.ofNat (baseV hex)), .int .i64 (.ofNat 32)] h K := by
  refine CallP.ofE hE rfl Tryz.func109 rfl (Nat.le_of_ble_eq_true rfl) ?_
  have n0 := fun h K hk => uInner hE hex l h0 h7 h K hk
  have n1 := fun h K hk => toErr hE ⟨⟨[80, 97, 114, 115, 101, 85, 105, 110, 116]⟩⟩ ⟨⟨l⟩⟩ (.ofNat (baseV hex)) (.ofNat 32) (show l.length ≤ 4000000000 by omega) h K hk
  have g1 : pureRun E.P (eqGuard .neq 49 (.tmp 17) (.const .nilIface) .nilIface .nilIface) = some () := by rw [hE]; exact nilGuard
  have g2 : pureRun E.P (binOp .neq 49 .nilIface .nilIface) = some (.bool false) := by rw [hE]; exact nilNe.2
  have g3 : pureRun E.P (binOp .neq 49 (.iface 126 (.int .i64 (.ofNat 2))) .nilIface) = some (.bool true) := by rw [hE]; exact nilNe.1
  clear hE
  generalize numF hex 0 l = r at n0 hk1 hk2
  cases r with
  | some n =>
    have hk1 := hk1 n rfl
    clear hk2 n1
    unfold uintV at n0
    cases hex
    all_goals cbv
    all_goals (refine .inl (n0 _ _ fun h' => ?_); cbv)
    all_goals (refine raw_eq rfl rfl rfl (fun _ _ _ _ q => by cases q) (fun _ _ q => by cases q) g1 g2 rfl ?_; cbv)
    all_goals exact ⟨_, rfl, hk1 _⟩
  | none =>
    have hk2 := hk2 rfl
    clear hk1
    unfold uintV at n0
    cases hex
    all_goals cbv
    all_goals (refine .inl (n0 _ _ fun h' => ?_); cbv)
    all_goals (refine raw_eq rfl rfl rfl (fun _ _ _ _ q => by cases q) (fun _ _ q => by cases q) rfl g3 rfl ?_; cbv)
    all_goals (refine .inl (n1 _ _ fun a h' => ?_); cbv)
    all_goals exact ⟨_, rfl, hk2 _ _⟩
end
end Go.Proofs.YtfgemjpoiconbaaGreatDoor.GEv

/- What stands between an & and a semicolon, by symbolic runs. -/
namespace Go.Proofs.YtfgemjpoiconbaaGreatDoor.GEv
open Go
set_option linter.unusedSimpArgs false
set_option linter.unusedVariables false
/-- A text, or nothing. -/
def optV : Option (List UInt8) → Value
  | some x => .tuple #[.string ⟨⟨x⟩⟩, .bool true]
  | none => .tuple #[.string ⟨⟨[]⟩⟩, .bool false]
theorem errIU : ∃ ms, EM.P.underlying 49 = some (.interface ms) := by
  have h : (match EM.P.underlying 49 with | some (.interface _) => true | _ => false) = true := by kernel_rfl
  split at h
  · rename_i ms q; exact ⟨ms, q⟩
  · cases h
theorem numF_sign {hex : Bool} {c : UInt8} {l : List UInt8} (h : c.toNat = 43 ∨ c.toNat = 45) : numF hex 0 (c :: l) = none := by
  have : digitV hex c.toNat = none := by
    unfold digitV
    rw [if_neg (by omega), if_neg (by rintro ⟨_, x, y⟩; omega), if_neg (by rintro ⟨_, x, y⟩; omega)]
  simp only [numF, this]
theorem numF_bound {hex : Bool} : ∀ {l : List UInt8} {n m : Nat}, numF hex n l = some m → m < (n + 1) * 16 ^ l.length
  | [], n, m, h => by
    simp only [numF, Option.some.injEq] at h
    subst h
    simp
  | c :: l, n, m, h => by
    simp only [numF] at h
    split at h
    · rename_i d hd
      have hd16 : d ≤ 15 ∧ (hex = false → d ≤ 9) := by
        unfold digitV at hd
        split at hd
        · cases hd; omega
        split at hd
        · rename_i q; cases hd; exact ⟨by omega, fun e => by rw [e] at q; exact absurd q.1 (by decide)⟩
        split at hd
        · rename_i q; cases hd; exact ⟨by omega, fun e => by rw [e] at q; exact absurd q.1 (by decide)⟩
        cases hd
      have ih := numF_bound h
      have hb : n * baseV hex + d + 1 ≤ (n + 1) * 16 := by
        cases hex
        · have := hd16.2 rfl; show n * 10 + d + 1 ≤ _; omega
        · show n * 16 + d + 1 ≤ _; omega
      calc m < (n * baseV hex + d + 1) * 16 ^ l.length := ih
        _ ≤ ((n + 1) * 16) * 16 ^ l.length := Nat.mul_le_mul_right _ hb
        _ = (n + 1) * 16 ^ (l.length + 1) := by rw [Nat.pow_succ, Nat.mul_assoc, Nat.mul_comm 16]
        _ = (n + 1) * 16 ^ (c :: l).length := by rw [List.length_cons]
    · cases h
theorem numF_small {hex : Bool} {l : List UInt8} {m : Nat} (h : numF hex 0 l = some m) (hl : l.length ≤ 7) : m < 268435456 := by
  have h1 := numF_bound h
  have h2 : 16 ^ l.length ≤ 16 ^ 7 := Nat.pow_le_pow_right (by decide) hl
  omega
theorem sign_le {n : Nat} (h : sign (.ofNat n) = true) : n ≤ 1114111 := by
  simp [sign] at h
  omega
theorem refD_some {hex : Bool} {l : List UInt8} {n : Nat} (h0 : 1 ≤ l.length) (h7 : l.length ≤ 7) (hn : numF hex 0 l = some n) : refD hex l = match sign (.ofNat n) with
    | true => some (encodeB n)
    | false => none := by
  unfold refD
  rw [if_neg (by omega)]
  simp only [hn]
  cases hs : sign (.ofNat n) with
  | true => rw [if_pos ⟨sign_le hs, rfl⟩]
  | false => rw [if_neg (by rintro ⟨_, q⟩; cases q)]
theorem refD_none {hex : Bool} {l : List UInt8} (hn : numF hex 0 l = none) : refD hex l = none := by
  unfold refD
  split
  · rfl
  · simp only [hn]
theorem refD_long {hex : Bool} {l : List UInt8} (h : l.length < 1 ∨ 7 < l.length) : refD hex l = none := by
  unfold refD
  rw [if_pos h]
theorem encG (x : ByteArray) : tup [.string x, .bool true] = .tuple #[.string ⟨⟨x.data.toList⟩⟩, .bool true] := by
  cases x
  rfl
theorem encV (n : Nat) : tup [.string (Utf8.encode (.ofNat n)), .bool true] = optV (some (encodeB n)) := by
  rw [encG (Utf8.encode (.ofNat n))]
  have e : encodeB n = (Utf8.encode (.ofNat n)).data.toList := by rw [encodeB]
  rw [← e, optV]
set_option maxRecDepth 100000
attribute [local cbv_opaque] isString isSlice isBoolT fOff iSize eqNil zero H.load H.store H.push H.dip H.put List.length List.getD Nat.add Nat.sub Nat.mul List.take List.drop lowN UInt8.toNat bytesV Utf8.encode encodeB sign
attribute [local cbv_eval] List.length_cons List.length_nil
section
variable {E : Env} (hE : E = EM)
include hE
theorem nNumb (l : List UInt8) (h : H) (K : Value → H → Prop) (hk : ∀ h', K (optV (refV l)) h') : CallP E 93 [.string ⟨⟨l⟩⟩] h K := by
  refine CallP.ofE hE rfl Tryz.func93 rfl (Nat.le_of_ble_eq_true rfl) ?_
  have hS : isString E.1 9 = true := by rw [hE]; exact stringT
  have uS : E.P.underlying 9 = some .string := by rw [hE]; exact stringU
  have u6 : E.P.underlying 97 = some (.int .u64) := by rw [hE]; exact u64U
  have i3 : E.P.underlying 21 = some (.int .i32) := by rw [hE]; exact i32U
  have g2 : pureRun E.P (binOp .neq 49 .nilIface .nilIface) = some (.bool false) := by rw [hE]; exact nilNe.2
  have eN : ∀ a, eqNil E.P 49 (.iface 128 (.pointer (some a))) .nilIface = some false := by
    obtain ⟨ms, hu⟩ := errIU
    intro a
    rw [hE]
    simp only [eqNil, hu]
  have n0 := fun h K hk => cutPre hE 120 l h K hk
  have n1 := fun hex l h0 h7 h K hk1 hk2 => uOuter hE hex l h0 h7 h K hk1 hk2
  have n2 := fun r h K hk => nChar hE r h K hk
  clear hE
  cases l with
  | nil =>
    have hk : ∀ h', K (optV none) h' := hk
    cbv
    refine .inl (n0 _ _ ?_)
    cbv
    refine And.intro (fun _ => ?_) (fun e => absurd rfl e)
    cbv
    exact ⟨_, rfl, hk _⟩
  | cons c s0 =>
  by_cases hc : c = 120
  · have hk : ∀ h', K (optV (refD true s0)) h' := by
      have e : refV (c :: s0) = refD true s0 := by simp only [refV, if_pos hc]
      rw [e] at hk
      exact hk
    have n0 : ∀ (h : H) (K : Value → H → Prop), K (.tuple #[.string ⟨⟨s0⟩⟩, .bool true]) h → CallP E 92 [.string ⟨⟨c :: s0⟩⟩, .string ⟨⟨[120]⟩⟩] h K := by
      intro h K hk
      refine n0 h K ?_
      unfold preV
      simp only [hc, decide_true]
      exact hk
    cbv
    refine .inl (n0 _ _ ?_)
    clear n0
    generalize s0 = s at hk ⊢
    by_cases h0 : s.length < 1
    · rw [refD_long (.inl h0)] at hk
      obtain rfl : s = [] := List.length_eq_zero_iff.1 (by omega)
      cbv
      refine And.intro (fun _ => ?_) (fun e => absurd rfl e)
      cbv
      exact ⟨_, rfl, hk _⟩
    have hne : ¬ s = [] := by rintro rfl; exact h0 (by simp)
    by_cases h7 : 7 < s.length
    · rw [refD_long (.inr h7)] at hk
      cbv
      refine And.intro (fun e => absurd e hne) (fun _ => ?_)
      cbv
      refine And.intro hS ?_
      refine And.intro (fun _ => ?_) (fun e => absurd e (by omega))
      cbv
      exact ⟨_, rfl, hk _⟩
    have hp : 0 < s.length := by omega
    by_cases hpm : (s.getD 0 0).toNat = 43 ∨ (s.getD 0 0).toNat = 45
    · have hnum : numF true 0 s = none := by
        cases s with
        | nil => exact absurd rfl hne
        | cons c r => exact numF_sign hpm
      rw [refD_none hnum] at hk
      cbv
      refine And.intro (fun e => absurd e hne) (fun _ => ?_)
      cbv
      refine And.intro hS ?_
      refine And.intro (fun e => absurd e (by omega)) (fun _ => ?_)
      cbv
      refine And.intro hS (And.intro hp ?_)
      refine And.intro (fun e => ?_) (fun e => ?_)
      all_goals cbv
      · exact ⟨_, rfl, hk _⟩
      refine And.intro hS (And.intro hp ?_)
      refine And.intro (fun _ => ?_) (fun e => absurd e (by omega))
      cbv
      exact ⟨_, rfl, hk _⟩
    cbv
    refine And.intro (fun e => absurd e hne) (fun _ => ?_)
    cbv
    refine And.intro hS ?_
    refine And.intro (fun e => absurd e (by omega)) (fun _ => ?_)
    cbv
    refine And.intro hS (And.intro hp ?_)
    refine And.intro (fun e => absurd e (by omega)) (fun _ => ?_)
    cbv
    refine And.intro hS (And.intro hp ?_)
    refine And.intro (fun e => absurd e (by omega)) (fun _ => ?_)
    cbv
    refine .inl (n1 true s (by omega) (by omega) _ _ (fun n hn h' => ?_) (fun hn a h' => ?_))
    · have hlt := numF_small hn (by omega)
      rw [refD_some (by omega) (by omega) hn] at hk
      have n2 := fun h K hk => n2 (.ofNat n) h K hk
      generalize sign (.ofNat n) = b at hk n2
      cbv
      refine raw_eq rfl rfl rfl (fun _ _ _ _ q => by cases q) (fun _ _ q => by cases q) rfl g2 rfl ?_
      cbv
      refine raw_conv rfl u6 i3 (wrap_i32 (by omega)) ?_
      cbv
      refine .inl (n2 _ _ ?_)
      cases b
      all_goals cbv
      · exact ⟨_, rfl, hk _⟩
      refine raw_conv rfl u6 i3 (wrap_i32 (by omega)) ?_
      cbv
      refine raw_convS rfl i3 uS ?_
      cbv
      exact ⟨_, rfl, eqv (hk _) (encV n)⟩
    · rw [refD_none hn] at hk
      cbv
      refine ⟨_, eN a, ?_⟩
      cbv
      exact ⟨_, rfl, hk _⟩
  · have hk : ∀ h', K (optV (refD false (c :: s0))) h' := by
      have e : refV (c :: s0) = refD false (c :: s0) := by simp only [refV, if_neg hc]
      rw [e] at hk
      exact hk
    have n0 : ∀ (h : H) (K : Value → H → Prop), K (.tuple #[.string ⟨⟨c :: s0⟩⟩, .bool false]) h → CallP E 92 [.string ⟨⟨c :: s0⟩⟩, .string ⟨⟨[120]⟩⟩] h K := by
      intro h K hk
      refine n0 h K ?_
      unfold preV
      simp only [hc, decide_false]
      exact hk
    cbv
    refine .inl (n0 _ _ ?_)
    clear n0
    generalize c :: s0 = s at hk ⊢
    by_cases h0 : s.length < 1
    · rw [refD_long (.inl h0)] at hk
      obtain rfl : s = [] := List.length_eq_zero_iff.1 (by omega)
      cbv
      refine And.intro (fun _ => ?_) (fun e => absurd rfl e)
      cbv
      exact ⟨_, rfl, hk _⟩
    have hne : ¬ s = [] := by rintro rfl; exact h0 (by simp)
    by_cases h7 : 7 < s.length
    · rw [refD_long (.inr h7)] at hk
      cbv
      refine And.intro (fun e => absurd e hne) (fun _ => ?_)
      cbv
      refine And.intro hS ?_
      refine And.intro (fun _ => ?_) (fun e => absurd e (by omega))
      cbv
      exact ⟨_, rfl, hk _⟩
    have hp : 0 < s.length := by omega
    by_cases hpm : (s.getD 0 0).toNat = 43 ∨ (s.getD 0 0).toNat = 45
    · have hnum : numF false 0 s = none := by
        cases s with
        | nil => exact absurd rfl hne
        | cons c r => exact numF_sign hpm
      rw [refD_none hnum] at hk
      cbv
      refine And.intro (fun e => absurd e hne) (fun _ => ?_)
      cbv
      refine And.intro hS ?_
      refine And.intro (fun e => absurd e (by omega)) (fun _ => ?_)
      cbv
      refine And.intro hS (And.intro hp ?_)
      refine And.intro (fun e => ?_) (fun e => ?_)
      all_goals cbv
      · exact ⟨_, rfl, hk _⟩
      refine And.intro hS (And.intro hp ?_)
      refine And.intro (fun _ => ?_) (fun e => absurd e (by omega))
      cbv
      exact ⟨_, rfl, hk _⟩
    cbv
    refine And.intro (fun e => absurd e hne) (fun _ => ?_)
    cbv
    refine And.intro hS ?_
    refine And.intro (fun e => absurd e (by omega)) (fun _ => ?_)
    cbv
    refine And.intro hS (And.intro hp ?_)
    refine And.intro (fun e => absurd e (by omega)) (fun _ => ?_)
    cbv
    refine And.intro hS (And.intro hp ?_)
    refine And.intro (fun e => absurd e (by omega)) (fun _ => ?_)
    cbv
    refine .inl (n1 false s (by omega) (by omega) _ _ (fun n hn h' => ?_) (fun hn a h' => ?_))
    · have hlt := numF_small hn (by omega)
      rw [refD_some (by omega) (by omega) hn] at hk
      have n2 := fun h K hk => n2 (.ofNat n) h K hk
      generalize sign (.ofNat n) = b at hk n2
      cbv
      refine raw_eq rfl rfl rfl (fun _ _ _ _ q => by cases q) (fun _ _ q => by cases q) rfl g2 rfl ?_
      cbv
      refine raw_conv rfl u6 i3 (wrap_i32 (by omega)) ?_
      cbv
      refine .inl (n2 _ _ ?_)
      cases b
      all_goals cbv
      · exact ⟨_, rfl, hk _⟩
      refine raw_conv rfl u6 i3 (wrap_i32 (by omega)) ?_
      cbv
      refine raw_convS rfl i3 uS ?_
      cbv
      exact ⟨_, rfl, eqv (hk _) (encV n)⟩
    · rw [refD_none hn] at hk
      cbv
      refine ⟨_, eN a, ?_⟩
      cbv
      exact ⟨_, rfl, hk _⟩
end
end Go.Proofs.YtfgemjpoiconbaaGreatDoor.GEv

/- What stands between an & and a semicolon: 'meant' and 'entity', by symbolic runs. -/
namespace Go.Proofs.YtfgemjpoiconbaaGreatDoor.GEv
open Go
set_option linter.unusedSimpArgs false
set_option linter.unusedVariables false
theorem entity_lit : entity [97, 109, 112] = some [38] ∧ entity [108, 116] = some [60] ∧ entity [103, 116] = some [62] ∧ entity [113, 117, 111, 116] = some [34] ∧ entity [97, 112, 111, 115] = some [39] := by decide +kernel
def restE : List UInt8 → Option (List UInt8)
  | [] => none
  | c :: t => if c = 35 then refV t else none
theorem entity_rest {l : List UInt8} (h1 : ¬ l = [97, 109, 112]) (h2 : ¬ l = [108, 116]) (h3 : ¬ l = [103, 116]) (h4 : ¬ l = [113, 117, 111, 116]) (h5 : ¬ l = [97, 112, 111, 115]) : entity l = restE l := by
  unfold entity
  rw [if_neg h1, if_neg h2, if_neg h3, if_neg h4, if_neg h5]
  cases l <;> rfl
theorem runes_one (x : Int) : runesBytes [x] = Utf8.encode x := by
  show ByteArray.empty ++ Utf8.encode x = _
  exact ByteArray.empty_append
theorem runesU2 : EM.P.underlying 65 = some (.slice 21) := by kernel_rfl
theorem i32Zero : zero EM.P 21 = some (.int .i32 0) := by kernel_rfl
theorem i32Size : sizeOf EM.P 21 = some 1 := by kernel_rfl
theorem read_one (h : H) (v : Value) (e : Option TypeId) : (h.push (.cells [v] e true 0)).read h.next 0 1 = some [v] := by
  simp only [H.read, H.push, U.get_set, if_pos, cut]
  rfl
set_option maxRecDepth 100000
attribute [local cbv_opaque] isString isSlice isBoolT fOff iSize eqNil zero H.load H.store H.push H.dip H.put List.length List.getD Nat.add Nat.sub Nat.mul List.take List.drop lowN UInt8.toNat bytesV Utf8.encode encodeB sign
attribute [local cbv_eval] List.length_cons List.length_nil
section
variable {E : Env} (hE : E = EM)
include hE
theorem nMeant (l : List UInt8) (h : H) (K : Value → H → Prop) (hk : ∀ h', K (optV (entity l)) h') : CallP E 73 [.string ⟨⟨l⟩⟩] h K := by
  refine CallP.ofE hE rfl Tryz.func73 rfl (Nat.le_of_ble_eq_true rfl) ?_
  have n0 := fun h K hk => cutPre hE 35 l h K hk
  have n1 := fun l h K hk => nNumb hE l h K hk
  clear hE
  obtain ⟨e1, e2, e3, e4, e5⟩ := entity_lit
  cbv
  refine And.intro (fun h1 => ?_) (fun h1 => ?_)
  · have h1 : l = [97, 109, 112] := h1
    subst h1
    rw [e1] at hk
    cbv
    exact ⟨_, rfl, hk _⟩
  cbv
  refine And.intro (fun h2 => ?_) (fun h2 => ?_)
  · have h2 : l = [108, 116] := h2
    subst h2
    rw [e2] at hk
    cbv
    exact ⟨_, rfl, hk _⟩
  cbv
  refine And.intro (fun h3 => ?_) (fun h3 => ?_)
  · have h3 : l = [103, 116] := h3
    subst h3
    rw [e3] at hk
    cbv
    exact ⟨_, rfl, hk _⟩
  cbv
  refine And.intro (fun h4 => ?_) (fun h4 => ?_)
  · have h4 : l = [113, 117, 111, 116] := h4
    subst h4
    rw [e4] at hk
    cbv
    exact ⟨_, rfl, hk _⟩
  cbv
  refine And.intro (fun h5 => ?_) (fun h5 => ?_)
  · have h5 : l = [97, 112, 111, 115] := h5
    subst h5
    rw [e5] at hk
    cbv
    exact ⟨_, rfl, hk _⟩
  cbv
  rw [entity_rest h1 h2 h3 h4 h5] at hk
  cases l with
  | nil =>
    refine .inl (n0 _ _ ?_)
    cbv
    exact ⟨_, rfl, hk _⟩
  | cons c t =>
    by_cases hc : c = 35
    · subst hc
      have hk : ∀ h', K (optV (refV t)) h' := hk
      refine .inl (n0 _ _ ?_)
      cbv
      refine .inl (n1 _ _ _ fun h' => ?_)
      have hk := hk h'
      generalize refV t = r at hk ⊢
      cases r
      all_goals cbv
      all_goals exact ⟨_, rfl, hk⟩
    · have hk : ∀ h', K (optV none) h' := by
        intro h'
        have := hk h'
        simp only [restE, if_neg hc] at this
        exact this
      have n0 : ∀ (h : H) (K : Value → H → Prop), K (.tuple #[.string ⟨⟨c :: t⟩⟩, .bool false]) h → CallP E 92 [.string ⟨⟨c :: t⟩⟩, .string ⟨⟨[35]⟩⟩] h K := by
        intro h K hk
        refine n0 h K ?_
        unfold preV
        simp only [hc, decide_false]
        exact hk
      refine .inl (n0 _ _ ?_)
      cbv
      exact ⟨_, rfl, hk _⟩
omit hE in
theorem digitV_le (hex : Bool) (c : Nat) : ∀ d, digitV hex c = some d → d ≤ 15 ∧ (hex = false → d ≤ 9) := by
  intro d hd
  unfold digitV at hd
  split at hd
  · cases hd; omega
  split at hd
  · rename_i q; cases hd; exact ⟨by omega, fun e => by rw [e] at q; exact absurd q.1 (by decide)⟩
  split at hd
  · rename_i q; cases hd; exact ⟨by omega, fun e => by rw [e] at q; exact absurd q.1 (by decide)⟩
  cases hd
theorem rRef (l : List UInt8) (h : H) (K : Value → H → Prop) (hk : ∀ h', K (optV (refV l)) h') : CallP E 117 [.string ⟨⟨l⟩⟩] h K := by
  refine CallP.ofE hE rfl Tryz.func117 rfl (Nat.le_of_ble_eq_true rfl) ?_
  have hS : isString E.1 9 = true := by rw [hE]; exact stringT
  have uS : E.P.underlying 9 = some .string := by rw [hE]; exact stringU
  have ui : E.P.underlying 3 = some (.int .i64) := by rw [hE]; exact intU
  have t3 : E.P.underlying 21 = some (.int .i32) := by rw [hE]; exact i32U
  have r1 : E.P.underlying 65 = some (.slice 21) := by rw [hE]; exact runesU2
  have r2 : zero E.P 21 = some (.int .i32 0) := by rw [hE]; exact i32Zero
  have r3 : sizeOf E.P 21 = some 1 := by rw [hE]; exact i32Size
  have n1 := fun hex c hc h K hk => rDigit hE hex c hc h K hk
  have n2 := fun r h K hk => rChar hE r h K hk
  clear hE
  cases l with
  | nil =>
    have hk : ∀ h', K (optV none) h' := hk
    cbv
    refine And.intro (fun _ => ?_) (fun e => absurd rfl e)
    cbv
    refine And.intro hS ?_
    refine And.intro (fun _ => ?_) (fun e => absurd e (by decide))
    cbv
    exact ⟨_, rfl, hk _⟩
  | cons c s0 =>
  have lp : Nat.le 1 (Nat.add s0.length 1) := Nat.le_add_left _ _
  have lt : Nat.lt 0 (Nat.add s0.length 1) := Nat.succ_pos _
  have l1 : List.take (Nat.sub (Nat.add s0.length 1) 1) (List.drop 1 (c :: s0)) = s0 := by
    show List.take (s0.length + 1 - 1) s0 = s0
    simp
  have hg : (List.getD (c :: s0) 0 0).toNat = c.toNat := rfl
  by_cases hc : c = 120
  · have hk : ∀ h', K (optV (refD true s0)) h' := by
      have e : refV (c :: s0) = refD true s0 := by simp only [refV, if_pos hc]
      rw [e] at hk
      exact hk
    have hcn : c.toNat = 120 := by rw [hc]; rfl
    cbv
    refine And.intro (fun e => absurd e (List.cons_ne_nil _ _)) (fun _ => ?_)
    cbv
    refine And.intro hS (And.intro lt ?_)
    rw [hg, hcn]
    refine And.intro (fun _ => ?_) (fun e => absurd rfl e)
    cbv
    refine And.intro hS (And.intro lp (And.intro (Nat.le_refl _) ?_))
    rw [l1]
    cbv
    generalize s0 = s at hk ⊢
    by_cases h0 : s.length < 1
    · rw [refD_long (.inl h0)] at hk
      refine And.intro hS ?_
      refine And.intro (fun _ => ?_) (fun e => absurd e (by omega))
      cbv
      exact ⟨_, rfl, hk _⟩
    by_cases h7 : 7 < s.length
    · rw [refD_long (.inr h7)] at hk
      refine And.intro hS ?_
      refine And.intro (fun e => absurd e (by omega)) (fun _ => ?_)
      cbv
      refine And.intro hS ?_
      refine And.intro (fun _ => ?_) (fun e => absurd e (by omega))
      cbv
      exact ⟨_, rfl, hk _⟩
    refine And.intro hS ?_
    refine And.intro (fun e => absurd e (by omega)) (fun _ => ?_)
    cbv
    refine And.intro hS ?_
    refine And.intro (fun e => absurd e (by omega)) (fun _ => ?_)
    cbv
    refine LoopP.on (fun x : Nat × Nat => [(7, .int .i64 (.ofNat x.1)), (6, .int .i64 (.ofNat x.2)), (0, .string ⟨⟨s⟩⟩), (4, .int .i64 (.ofNat 16)), (5, .bool true)]) (fun _ => h)
      (fun x => x.1 ≤ s.length ∧ numF true x.2 (s.drop x.1) = numF true 0 s ∧ x.2 < 16 ^ x.1) (fun x => s.length - x.1) (0, 0) rfl (Less.cons rfl (Less.cons rfl (Less.cons rfl (Less.cons rfl (Less.cons rfl (Less.nil _)))))) ⟨Nat.zero_le _, by simp, by decide⟩ ?_
    rintro ⟨i, n⟩ ⟨i1, i2, i3⟩
    have i1 : i ≤ s.length := i1
    have i2 : numF true n (s.drop i) = numF true 0 s := i2
    have i3 : n < 16 ^ i := i3
    by_cases hi : i < s.length
    · have st := numF_step (hex := true) (n := n) hi
      rw [i2] at st
      have hc : (s.getD i 0).toNat < 256 := (s.getD i 0).toNat_lt
      have hp : 16 ^ (i + 1) = 16 ^ i * 16 := Nat.pow_succ ..
      have hq : 16 ^ i ≤ 16 ^ 6 := Nat.pow_le_pow_right (by decide) (by omega)
      have hn : n < 16777216 := by omega
      have hb : Nat.le (Nat.add i 1) 4611686018427387904 := by show i + 1 ≤ _; omega
      obtain ⟨m, hm⟩ : ∃ m, m = n * 16 := ⟨_, rfl⟩
      have hmw : IntKind.i64.wrap (.ofNat n * 16) = .ofNat m := by rw [hm]; exact wrap_i64 (n := n * 16) (by omega)
      have n1 := fun h K hk => n1 true (s.getD i 0).toNat hc h K hk
      have hle := digitV_le true (s.getD i 0).toNat
      unfold digI at n1
      generalize hcc : (s.getD i 0).toNat = c at st n1 hle
      generalize digitV true c = r at st n1 hle
      cases r with
      | some d =>
        have st : numF true 0 s = numF true (n * 16 + d) (s.drop (i + 1)) := st
        rw [← hm] at st
        have hd := hle d rfl
        have hd : d ≤ 15 ∧ True := ⟨hd.1, trivial⟩
        have hmd : Nat.le (Nat.add m d) 4611686018427387904 := by show m + d ≤ _; omega
        cbv
        refine And.intro hS ?_
        refine And.intro (fun _ => ?_) (fun e => absurd e (by omega))
        cbv
        refine And.intro hS (And.intro (by assumption) ?_)
        rw [hcc]
        refine .inl (n1 _ _ ?_)
        cbv
        refine And.intro (fun e => absurd e (Nat.not_lt_zero _)) (fun _ => ?_)
        cbv
        refine raw_mul rfl rfl rfl hmw ?_
        cbv
        refine And.intro hmd ?_
        refine And.intro hb ?_
        exact ⟨(i + 1, m + d), Less.cons rfl (Less.cons rfl (Less.cons rfl (Less.cons rfl (Less.cons rfl (Less.nil _))))), rfl, ⟨hi, st.symm, (by show m + d < 16 ^ (i + 1); omega)⟩, (by show s.length - (i + 1) < s.length - i; omega)⟩
      | none =>
        have hk : ∀ h', K (optV none) h' := by rw [refD_none st] at hk; exact hk
        cbv
        refine And.intro hS ?_
        refine And.intro (fun _ => ?_) (fun e => absurd e (by omega))
        cbv
        refine And.intro hS (And.intro (by assumption) ?_)
        rw [hcc]
        refine .inl (n1 _ _ ?_)
        cbv
        refine And.intro (fun e => ?_) (fun e => absurd e (by decide))
        cbv
        exact ⟨_, rfl, hk _⟩
    · have hi : i = s.length := by omega
      rw [hi, List.drop_eq_nil_of_le (Nat.le_refl _)] at i2
      have hn : numF true 0 s = some n := i2.symm
      have hlt := numF_small hn (by omega)
      rw [refD_some (by omega) (by omega) hn] at hk
      have n2 := fun h K hk => n2 (.ofNat n) h K hk
      have hsl := sign_le (n := n)
      generalize sign (.ofNat n) = b at hk n2 hsl
      cbv
      refine And.intro hS ?_
      refine And.intro (fun e => absurd e (by omega)) (fun _ => ?_)
      cbv
      by_cases hbig : 1114111 < n
      · have hk : ∀ h', K (optV none) h' := by
          cases b
          · exact hk
          · exact absurd (hsl rfl) (by omega)
        refine And.intro (fun _ => ?_) (fun e => absurd e (by omega))
        cbv
        exact ⟨_, rfl, hk _⟩
      refine And.intro (fun e => absurd e (by omega)) (fun _ => ?_)
      cbv
      refine raw_conv rfl ui t3 (wrap_i32 (by omega)) ?_
      cbv
      refine .inl (n2 _ _ ?_)
      cases b
      all_goals cbv
      · exact ⟨_, rfl, hk _⟩
      refine raw_conv rfl ui t3 (wrap_i32 (by omega)) ?_
      cbv
      refine raw_buildSlice rfl r1 r2 r3 (c := [.int .i32 (.ofNat n)]) (by decide) rfl ?_
      cbv
      refine raw_unrunes rfl r1 uS t3 (rs := [.ofNat n]) (read_one _ _ _) rfl ?_
      rw [runes_one]
      cbv
      exact ⟨_, rfl, eqv (hk _) (encV n)⟩
  · have hk : ∀ h', K (optV (refD false (c :: s0))) h' := by
      have e : refV (c :: s0) = refD false (c :: s0) := by simp only [refV, if_neg hc]
      rw [e] at hk
      exact hk
    have hcn : ¬ c.toNat = 120 := fun e => hc (UInt8.toNat_inj.1 e)
    cbv
    refine And.intro (fun e => absurd e (List.cons_ne_nil _ _)) (fun _ => ?_)
    cbv
    refine And.intro hS (And.intro lt ?_)
    rw [hg]
    refine And.intro (fun e => absurd e hcn) (fun _ => ?_)
    cbv
    clear l1 lp lt hg
    have hg : (Nat.add s0.length 1) = (c :: s0).length := rfl
    simp only [hg]
    generalize c :: s0 = s at hk ⊢
    by_cases h0 : s.length < 1
    · rw [refD_long (.inl h0)] at hk
      refine And.intro hS ?_
      refine And.intro (fun _ => ?_) (fun e => absurd e (by omega))
      cbv
      exact ⟨_, rfl, hk _⟩
    by_cases h7 : 7 < s.length
    · rw [refD_long (.inr h7)] at hk
      refine And.intro hS ?_
      refine And.intro (fun e => absurd e (by omega)) (fun _ => ?_)
      cbv
      refine And.intro hS ?_
      refine And.intro (fun _ => ?_) (fun e => absurd e (by omega))
      cbv
      exact ⟨_, rfl, hk _⟩
    refine And.intro hS ?_
    refine And.intro (fun e => absurd e (by omega)) (fun _ => ?_)
    cbv
    refine And.intro hS ?_
    refine And.intro (fun e => absurd e (by omega)) (fun _ => ?_)
    cbv
    refine LoopP.on (fun x : Nat × Nat => [(7, .int .i64 (.ofNat x.1)), (6, .int .i64 (.ofNat x.2)), (0, .string ⟨⟨s⟩⟩), (4, .int .i64 (.ofNat 10)), (5, .bool false)]) (fun _ => h)
      (fun x => x.1 ≤ s.length ∧ numF false x.2 (s.drop x.1) = numF false 0 s ∧ x.2 < 16 ^ x.1) (fun x => s.length - x.1) (0, 0) rfl (Less.cons rfl (Less.cons rfl (Less.cons rfl (Less.cons rfl (Less.cons rfl (Less.nil _)))))) ⟨Nat.zero_le _, by simp, by decide⟩ ?_
    rintro ⟨i, n⟩ ⟨i1, i2, i3⟩
    have i1 : i ≤ s.length := i1
    have i2 : numF false n (s.drop i) = numF false 0 s := i2
    have i3 : n < 16 ^ i := i3
    by_cases hi : i < s.length
    · have st := numF_step (hex := false) (n := n) hi
      rw [i2] at st
      have hc : (s.getD i 0).toNat < 256 := (s.getD i 0).toNat_lt
      have hp : 16 ^ (i + 1) = 16 ^ i * 16 := Nat.pow_succ ..
      have hq : 16 ^ i ≤ 16 ^ 6 := Nat.pow_le_pow_right (by decide) (by omega)
      have hn : n < 16777216 := by omega
      have hb : Nat.le (Nat.add i 1) 4611686018427387904 := by show i + 1 ≤ _; omega
      obtain ⟨m, hm⟩ : ∃ m, m = n * 10 := ⟨_, rfl⟩
      have hmw : IntKind.i64.wrap (.ofNat n * 10) = .ofNat m := by rw [hm]; exact wrap_i64 (n := n * 10) (by omega)
      have n1 := fun h K hk => n1 false (s.getD i 0).toNat hc h K hk
      have hle := digitV_le false (s.getD i 0).toNat
      unfold digI at n1
      generalize hcc : (s.getD i 0).toNat = c at st n1 hle
      generalize digitV false c = r at st n1 hle
      cases r with
      | some d =>
        have st : numF false 0 s = numF false (n * 10 + d) (s.drop (i + 1)) := st
        rw [← hm] at st
        have hd := hle d rfl
        have hd : d ≤ 15 ∧ d ≤ 9 := ⟨hd.1, hd.2 rfl⟩
        have hmd : Nat.le (Nat.add m d) 4611686018427387904 := by show m + d ≤ _; omega
        cbv
        refine And.intro hS ?_
        refine And.intro (fun _ => ?_) (fun e => absurd e (by omega))
        cbv
        refine And.intro hS (And.intro (by assumption) ?_)
        rw [hcc]
        refine .inl (n1 _ _ ?_)
        cbv
        refine And.intro (fun e => absurd e (Nat.not_lt_zero _)) (fun _ => ?_)
        cbv
        refine raw_mul rfl rfl rfl hmw ?_
        cbv
        refine And.intro hmd ?_
        refine And.intro hb ?_
        exact ⟨(i + 1, m + d), Less.cons rfl (Less.cons rfl (Less.cons rfl (Less.cons rfl (Less.cons rfl (Less.nil _))))), rfl, ⟨hi, st.symm, (by show m + d < 16 ^ (i + 1); omega)⟩, (by show s.length - (i + 1) < s.length - i; omega)⟩
      | none =>
        have hk : ∀ h', K (optV none) h' := by rw [refD_none st] at hk; exact hk
        cbv
        refine And.intro hS ?_
        refine And.intro (fun _ => ?_) (fun e => absurd e (by omega))
        cbv
        refine And.intro hS (And.intro (by assumption) ?_)
        rw [hcc]
        refine .inl (n1 _ _ ?_)
        cbv
        refine And.intro (fun e => ?_) (fun e => absurd e (by decide))
        cbv
        exact ⟨_, rfl, hk _⟩
    · have hi : i = s.length := by omega
      rw [hi, List.drop_eq_nil_of_le (Nat.le_refl _)] at i2
      have hn : numF false 0 s = some n := i2.symm
      have hlt := numF_small hn (by omega)
      rw [refD_some (by omega) (by omega) hn] at hk
      have n2 := fun h K hk => n2 (.ofNat n) h K hk
      have hsl := sign_le (n := n)
      generalize sign (.ofNat n) = b at hk n2 hsl
      cbv
      refine And.intro hS ?_
      refine And.intro (fun e => absurd e (by omega)) (fun _ => ?_)
      cbv
      by_cases hbig : 1114111 < n
      · have hk : ∀ h', K (optV none) h' := by
          cases b
          · exact hk
          · exact absurd (hsl rfl) (by omega)
        refine And.intro (fun _ => ?_) (fun e => absurd e (by omega))
        cbv
        exact ⟨_, rfl, hk _⟩
      refine And.intro (fun e => absurd e (by omega)) (fun _ => ?_)
      cbv
      refine raw_conv rfl ui t3 (wrap_i32 (by omega)) ?_
      cbv
      refine .inl (n2 _ _ ?_)
      cases b
      all_goals cbv
      · exact ⟨_, rfl, hk _⟩
      refine raw_conv rfl ui t3 (wrap_i32 (by omega)) ?_
      cbv
      refine raw_buildSlice rfl r1 r2 r3 (c := [.int .i32 (.ofNat n)]) (by decide) rfl ?_
      cbv
      refine raw_unrunes rfl r1 uS t3 (rs := [.ofNat n]) (read_one _ _ _) rfl ?_
      rw [runes_one]
      cbv
      exact ⟨_, rfl, eqv (hk _) (encV n)⟩
theorem rEntity (l : List UInt8) (h : H) (K : Value → H → Prop) (hk : ∀ h', K (optV (entity l)) h') : CallP E 110 [.string ⟨⟨l⟩⟩] h K := by
  refine CallP.ofE hE rfl Tryz.func110 rfl (Nat.le_of_ble_eq_true rfl) ?_
  have hS : isString E.1 9 = true := by rw [hE]; exact stringT
  have n1 := fun l h K hk => rRef hE l h K hk
  clear hE
  obtain ⟨e1, e2, e3, e4, e5⟩ := entity_lit
  cbv
  refine And.intro (fun h1 => ?_) (fun h1 => ?_)
  · have h1 : l = [97, 109, 112] := h1
    subst h1
    rw [e1] at hk
    cbv
    exact ⟨_, rfl, hk _⟩
  cbv
  refine And.intro (fun h2 => ?_) (fun h2 => ?_)
  · have h2 : l = [108, 116] := h2
    subst h2
    rw [e2] at hk
    cbv
    exact ⟨_, rfl, hk _⟩
  cbv
  refine And.intro (fun h3 => ?_) (fun h3 => ?_)
  · have h3 : l = [103, 116] := h3
    subst h3
    rw [e3] at hk
    cbv
    exact ⟨_, rfl, hk _⟩
  cbv
  refine And.intro (fun h4 => ?_) (fun h4 => ?_)
  · have h4 : l = [113, 117, 111, 116] := h4
    subst h4
    rw [e4] at hk
    cbv
    exact ⟨_, rfl, hk _⟩
  cbv
  refine And.intro (fun h5 => ?_) (fun h5 => ?_)
  · have h5 : l = [97, 112, 111, 115] := h5
    subst h5
    rw [e5] at hk
    cbv
    exact ⟨_, rfl, hk _⟩
  cbv
  rw [entity_rest h1 h2 h3 h4 h5] at hk
  clear h1 h2 h3 h4 h5
  cases l with
  | nil =>
    refine And.intro (fun _ => ?_) (fun e => absurd rfl e)
    cbv
    exact ⟨_, rfl, hk _⟩
  | cons c t =>
    have lp : Nat.le 1 (Nat.add t.length 1) := Nat.le_add_left _ _
    have lt : Nat.lt 0 (Nat.add t.length 1) := Nat.succ_pos _
    have l1 : List.take (Nat.sub (Nat.add t.length 1) 1) (List.drop 1 (c :: t)) = t := by
      show List.take (t.length + 1 - 1) t = t
      simp
    have hg : (List.getD (c :: t) 0 0).toNat = c.toNat := rfl
    refine And.intro (fun e => absurd e (List.cons_ne_nil _ _)) (fun _ => ?_)
    cbv
    refine And.intro hS (And.intro lt ?_)
    rw [hg]
    by_cases hc : c = 35
    · have hk : ∀ h', K (optV (refV t)) h' := by
        intro h'
        have := hk h'
        simp only [restE, if_pos hc] at this
        exact this
      have hcn : c.toNat = 35 := by rw [hc]; rfl
      rw [hcn]
      refine And.intro (fun _ => ?_) (fun e => absurd rfl e)
      cbv
      refine And.intro hS (And.intro lp (And.intro (Nat.le_refl _) ?_))
      rw [l1]
      refine .inl (n1 _ _ _ fun h' => ?_)
      have hk := hk h'
      generalize refV t = r at hk ⊢
      cases r
      all_goals cbv
      all_goals exact ⟨_, rfl, hk⟩
    · have hk : ∀ h', K (optV none) h' := by
        intro h'
        have := hk h'
        simp only [restE, if_neg hc] at this
        exact this
      have hcn : ¬ c.toNat = 35 := fun e => hc (UInt8.toNat_inj.1 e)
      refine And.intro (fun e => absurd e hcn) (fun _ => ?_)
      cbv
      exact ⟨_, rfl, hk _⟩
end
end Go.Proofs.YtfgemjpoiconbaaGreatDoor.GEv

/- Functions that are known by what they hand back: a second environment. -/
namespace Go.Proofs.YtfgemjpoiconbaaGreatDoor.GEv
open Go
open Go.RowKit (Below)
def isLe (n m : Nat) : Bool := Nat.ble n m
def cutP : Prim
  | [.string s, .string t] => match isLe s.size 1000000, t.data.toList with
    | true, [c] => some (cutV c s.data.toList)
    | _, _ => none
  | _ => none
def meantP : Prim
  | [.string s] => some (optV (entity s.data.toList))
  | _ => none
def signsP : Prim
  | [.string s] => match isLe s.size 2000000 with
    | true => some (.bool (signs s.data.toList))
    | _ => none
  | _ => none
noncomputable def EM2 : Env := ⟨Tryz.prog, none, some 61, some 111, [(15, always (.bool true)), (35, validP), (42, replP), (127, cloneP),
  (50, cutP), (73, meantP), (110, meantP), (72, signsP), (19, signsP)]⟩
theorem optV_flat (o : Option (List UInt8)) : flat2 (optV o) = true := by cases o <;> rfl
theorem cutV_flat (c : UInt8) (l : List UInt8) : flat2 (cutV c l) = true := by
  unfold cutV
  cases cutB c l <;> rfl
/-- What a symbolic run says of the model's own calls. -/
theorem calls_of {E : Env} (hOK : E.OK) {f : FuncId} {args : List Value} {v : Value} (hr : CallP E f args h0 fun u _ => u = v) (ha : args.all flat2 = true) (hv : flat2 v = true) {W : World} (hw : WOK W) (hs : GN ≤ W.heap.size) :
    Calls E.P f args.toArray W fun e W' => e = .returned v ∧ Below W.heap.size W W' := by
  obtain ⟨n, u, h', he, rfl⟩ := hr.ex
  exact calls_flat (args := args) hOK (n := n) (by simp only [result, run, he]) hv ha hw hs
theorem cut_ok (h : EM.OK) (args : List Value) (v : Value) (hp : cutP args = some v) : args.all flat2 = true ∧ flat2 v = true ∧ ∀ w, WOK w → GN ≤ w.heap.size → Calls Tryz.prog 50 args.toArray w fun e w' => e = .returned v ∧ Below w.heap.size w w' := by
  unfold cutP at hp
  split at hp
  · rename_i s t
    split at hp
    · rename_i c hb hc
      cases hp
      refine ⟨rfl, cutV_flat _ _, fun w hw hs => ?_⟩
      obtain ⟨⟨l⟩⟩ := s
      obtain ⟨⟨t⟩⟩ := t
      have hc : t = [c] := hc
      subst hc
      exact calls_of h (cutN rfl c l (Nat.le_of_ble_eq_true hb) h0 _ fun _ => rfl) rfl (cutV_flat _ _) hw hs
    · cases hp
  · cases hp
theorem meant_ok (h : EM.OK) (f : FuncId) (hf : ∀ l, CallP EM f [.string ⟨⟨l⟩⟩] h0 fun u _ => u = optV (entity l)) (args : List Value) (v : Value) (hp : meantP args = some v) : args.all flat2 = true ∧ flat2 v = true ∧ ∀ w, WOK w → GN ≤ w.heap.size → Calls Tryz.prog f args.toArray w fun e w' => e = .returned v ∧ Below w.heap.size w w' := by
  unfold meantP at hp
  split at hp
  · rename_i s
    cases hp
    obtain ⟨⟨l⟩⟩ := s
    exact ⟨rfl, optV_flat _, fun w hw hs => calls_of h (hf l) rfl (optV_flat _) hw hs⟩
  · cases hp
theorem signs_ok (h : EM.OK) (f : FuncId) (hf : ∀ l : List UInt8, l.length ≤ 2000000 → CallP EM f [.string ⟨⟨l⟩⟩] h0 fun u _ => u = .bool (signs l)) (args : List Value) (v : Value) (hp : signsP args = some v) : args.all flat2 = true ∧ flat2 v = true ∧ ∀ w, WOK w → GN ≤ w.heap.size → Calls Tryz.prog f args.toArray w fun e w' => e = .returned v ∧ Below w.heap.size w w' := by
  unfold signsP at hp
  split at hp
  · rename_i s
    split at hp
    · rename_i hb
      cases hp
      obtain ⟨⟨l⟩⟩ := s
      exact ⟨rfl, rfl, fun w hw hs => calls_of h (hf l (Nat.le_of_ble_eq_true hb)) rfl rfl hw hs⟩
    · cases hp
  · cases hp
def PrimOK (P : Program) (f : FuncId) (p : Prim) : Prop := ∀ args v, p args = some v → args.all flat2 = true ∧ flat2 v = true ∧ ∀ w, WOK w → GN ≤ w.heap.size → Calls P f args.toArray w fun e w' => e = .returned v ∧ Below w.heap.size w w'
def PrimsOK (P : Program) (l : List (FuncId × Prim)) : Prop := ∀ f p, (f, p) ∈ l → PrimOK P f p
theorem PrimsOK.nil (P : Program) : PrimsOK P [] := fun f p h => by cases h
theorem PrimsOK.cons {P : Program} {f : FuncId} {p : Prim} {l : List (FuncId × Prim)} (h : PrimOK P f p) (hl : PrimsOK P l) : PrimsOK P ((f, p) :: l) := fun g q hm => by
  cases hm with
  | head => exact h
  | tail _ hm => exact hl g q hm
theorem PrimsOK.of {E : Env} (h : E.OK) : PrimsOK E.P E.memo := fun f p hm args v hp => h.memo f p args v hm hp
theorem emok2 (h : EM.OK) : EM2.OK := by
  have h0 : PrimsOK Tryz.prog EM.memo := PrimsOK.of h
  have hl : PrimsOK Tryz.prog EM2.memo :=
    .cons (h0 _ _ (.head _)) <| .cons (h0 _ _ (.tail _ (.head _))) <| .cons (h0 _ _ (.tail _ (.tail _ (.head _)))) <| .cons (h0 _ _ (.tail _ (.tail _ (.tail _ (.head _))))) <|
    .cons (cut_ok h) <| .cons (meant_ok h _ (fun l => nMeant rfl l GEv.h0 _ fun _ => rfl)) <| .cons (meant_ok h _ (fun l => rEntity rfl l GEv.h0 _ fun _ => rfl)) <|
    .cons (signs_ok h _ (fun l hl => nWhole rfl l hl GEv.h0 _ fun _ => rfl)) <| .cons (signs_ok h _ (fun l hl => rSigns rfl l hl GEv.h0 _ fun _ => rfl)) <| .nil _
  exact ⟨fun f p args v hm hp => hl f p hm args v hp, h.mixed, h.names, h.clone, h.same, h.room⟩
end Go.Proofs.YtfgemjpoiconbaaGreatDoor.GEv

/- strings.Builder, by symbolic runs. -/
namespace Go.Proofs.YtfgemjpoiconbaaGreatDoor.GEv
open Go
set_option linter.unusedSimpArgs false
set_option linter.unusedVariables false
/-- An environment in which the Builder goes by its own code. -/
structure BEnv (E : Env) : Prop where
  P : E.P = Tryz.prog
  same : E.same = some 61
  clone : E.clone = none
  m1 : ∀ args, memoOf E.memo 41 args = none
  m2 : ∀ args, memoOf E.memo 22 args = none
  m3 : ∀ args, memoOf E.memo 24 args = none
theorem bEnv2 : BEnv EM2 := ⟨rfl, rfl, rfl, fun _ => rfl, fun _ => rfl, fun _ => rfl⟩
/-- A builder that holds so many bytes; what was there before it (g) is as it was. -/
structure IsB (g h : H) (b : Nat) (l : List UInt8) : Prop where
  lt : b < h.next
  ge : g.next ≤ b
  gr : Grows g h
  ex : ∃ p s, h.m.get b = some (.cells [p, s] (some 47) true 0) ∧ (p = .pointer none ∨ p = .pointer (some ⟨b, 0, none⟩)) ∧
    ((l = [] ∧ s = .slice none 0 0) ∨ (∃ r, r < h.next ∧ g.next ≤ r ∧ r ≠ b ∧ l ≠ [] ∧ s = .slice (some ⟨r, 0, none⟩) l.length (UNK + 1) ∧ h.m.get r = some (.cells (bytesV ⟨⟨l⟩⟩) (some 5) false 0)))
theorem bF0 : fOff EM.P 47 0 = some 0 := by kernel_rfl
theorem bF1 : fOff EM.P 47 1 = some 1 := by kernel_rfl
theorem bA : isAgg EM.P 45 = some false := by kernel_rfl
theorem bZ : sizeOf EM.P 45 = some 1 := by kernel_rfl
theorem sA : isAgg EM.P 42 = some false := by kernel_rfl
theorem sZ : sizeOf EM.P 42 = some 1 := by kernel_rfl
theorem bS : sizeOf EM.P 47 = some 2 := by kernel_rfl
theorem bU : EM.P.underlying 45 = some (.pointer 47) := by kernel_rfl
theorem uU : EM.P.underlying 90 = some .unsafePointer := by kernel_rfl
theorem bZero : zero EM.P 47 = some (.agg #[.pointer none, .slice none 0 0]) := by kernel_rfl
theorem bLies : liesAt EM.P EM.P.depth 47 (2 / EM.P.cellsOf 47) 0 47 1 = true := by kernel_rfl
/-- A pointer asked whether it is nil. -/
theorem raw_isnil {E : Env} {l : L} {h : H} {dst ty pos after guard} {t yt e : TypeId} {x y : Operand} {K : Value → H → Prop} (hx : evL l x = some (.pointer none)) (hy : evL l y = some (.pointer none)) (ht : E.P.underlying t = some (.pointer e))
    (hk : K (.bool true) h) : RawP E l h ⟨dst, .binOp .eql t x y yt, ty, pos, after, guard⟩ K := ⟨fun tm hv => by
  refine OpP.val ?_ hk
  have q1 := evL_ok hv hx
  have q2 := evL_ok hv hy
  have h1 : allFlat tm [x, y] = true := by simp [allFlat, q1, q2, flat2, flat1, flat]
  have e1 : evA' tm x = .pointer none := by simp [evA', q1]
  have e2 : evA' tm y = .pointer none := by simp [evA', q2]
  have h0 : ∀ d, pureRun E.P (Op.equalIn (d + 1) t (.pointer none) (.pointer none)) = some true := by
    intro d
    simp only [Op.equalIn, Go.underlying, bind, Sem.bind, program, pureRun, ht, pure]
    rfl
  have h3 : pureRun E.P (Op.equal t (.pointer none) (.pointer none)) = some true := h0 9999
  have hg : pureRun E.P (eqGuard .eql t x y (.pointer none) (.pointer none)) = some () := rfl
  have h2 : pureRun E.P (execOp (evA' tm) ⟨dst, .binOp .eql t x y yt, ty, pos, after, guard⟩) = some (.value (.bool true)) := by
    simp only [execOp, e1, e2]
    have h4 : pureRun E.P (eqGuard .eql t x y (.pointer none) (.pointer none) >>= fun _ => binOp .eql t (.pointer none) (.pointer none)) = some (.bool true) := by
      rw [pureRun_bind _ hg]
      show pureRun E.P (Op.equal t (.pointer none) (.pointer none) >>= fun r => pure (Value.bool r)) = _
      rw [pureRun_bind _ h3]
      rfl
    rw [pureRun_bind _ h4]
    rfl
  have e0 : hBin E.P tm h ⟨dst, .binOp .eql t x y yt, ty, pos, after, guard⟩ .eql t x y = evPure E.P tm h ⟨dst, .binOp .eql t x y yt, ty, pos, after, guard⟩ := by
    rw [hBin_other q1 q2 (fun _ _ _ _ q => by cases q) (fun _ _ q => by cases q)]
    rfl
  simp only [evOp]
  rw [e0]
  simp only [evPure, Op.operands, h1, if_true, h2]
  rfl⟩
theorem raw_toUnsafe {E : Env} {l : L} {h : H} {dst ty pos after guard src t x} {a : Addr} {e : TypeId} {n : Nat} {c : List Value} {el f z} {K : Value → H → Prop} (hx : evL l x = some (.pointer (some a))) (h1 : E.P.underlying src = some (.pointer e)) (h2 : E.P.underlying t = some .unsafePointer) (h3 : sizeOf E.P e = some (n + 1))
    (hc : h.m.get a.block = some (.cells c el f z)) (ho : a.off < c.length) (hk : K (.pointer (some a)) h) : RawP E l h ⟨dst, .convert src t x, ty, pos, after, guard⟩ K :=
  ⟨fun tm hv => OpP.val (by
    have : Nat.blt a.off c.length = true := Nat.ble_eq_true_of_le ho
    simp only [evOp, hConv, evL_ok hv hx, h1, h2, hc, h3, this]) hk⟩
theorem raw_ofUnsafe {E : Env} {l : L} {h : H} {dst ty pos after guard src t x} {a : Addr} {u e : TypeId} {n : Nat} {c : List Value} {z} {K : Value → H → Prop} (hx : evL l x = some (.pointer (some a))) (h1 : E.P.underlying src = some .unsafePointer) (h2 : E.P.underlying t = some (.pointer u)) (h3 : sizeOf E.P u = some (n + 1))
    (hc : h.m.get a.block = some (.cells c (some e) true z)) (ho : liesAt E.P E.P.depth e (c.length / E.P.cellsOf e) a.off u 1 = true) (hk : K (.pointer (some a)) h) : RawP E l h ⟨dst, .convert src t x, ty, pos, after, guard⟩ K :=
  ⟨fun tm hv => OpP.val (by simp only [evOp, hConv, evL_ok hv hx, h1, h2, hc, h3, ho]) hk⟩
theorem raw_same {E : Env} {l : L} {h : H} {dst ty pos after guard f ts x} {v : Value} {fn : Func} {K : Value → H → Prop} (hx : evL l x = some v) (hf : E.P.funcs[f]? = some fn) (h2 : fn.body.isNone = true) (c1 : E.clone ≠ some f) (c2 : E.same = some f) (hk : K v h) :
    RawP E l h ⟨dst, .call ⟨.value (.func f), #[x], ts⟩, ty, pos, after, guard⟩ K := ⟨fun tm hv => by
  refine OpP.val ?_ hk
  have q1 := evL_ok hv hx
  have hb : fn.body = none := by simpa using h2
  have q0 : evA tm (.func f) = some (.func (.func f) #[] #[]) := rfl
  show hCallV E tm h _ (.func f) [x] = _
  simp only [hCallV, q0, evList, q1, evCall, hf, hb, if_neg c1, if_pos c2]
  rfl⟩
theorem uInfo : (EM.P.info? 5).map (fun i => (i.size, i.bytes)) = some (1, 1) := by kernel_rfl
theorem uZero : zero EM.P 5 = some (.int .u8 0) := by kernel_rfl
theorem bytes_one (l : List UInt8) : (bytesV ⟨⟨l⟩⟩).all one = true := by simp [bytesV, one]
theorem bytes_len (l : List UInt8) : (bytesV ⟨⟨l⟩⟩).length = l.length := by simp [bytesV]
theorem append_no {P : Program} {h : H} {s : Value} {a : Option Addr} {n c sT e : Nat} (hs : s = .slice a n c) (h1 : P.underlying sT = some (.slice e)) (h2 : (P.info? e).map (fun i => (i.size, i.bytes)) = some (1, 1)) (h3 : zero P e = some (.int .u8 0)) (hn : n ≤ 1000000)
    (hc : (a = none ∧ c = 0 ∧ n = 0) ∨ ∃ r, a = some ⟨r, 0, none⟩ ∧ c = UNK + 1) : append P h sT false s (.string ⟨⟨[]⟩⟩) = some (s, h) := by
  subst hs
  cases hi : P.info? e with
  | none => rw [hi] at h2; cases h2
  | some i =>
    rw [hi] at h2
    simp only [Option.map_some, Option.some.injEq, Prod.mk.injEq] at h2
    obtain ⟨i1, i2⟩ := h2
    have c0 : True ∧ 0 < i.size ∧ 0 < i.bytes ∧ (Value.int .u8 0).cells.toList.length = i.size ∧ ((n + 0) * 4 + 2048) * i.bytes ≤ 2 ^ 48 := ⟨trivial, by omega, by omega, by rw [i1]; rfl, by rw [i2]; omega⟩
    have c1 : ([] : List Value).length = 0 * i.size ∧ ([] : List Value).all one = true := by simp
    simp only [append, h1, hi, h3, lenV, show (⟨⟨[]⟩⟩ : ByteArray).size = 0 from rfl, if_pos c0, H.bears, show (⟨⟨[]⟩⟩ : ByteArray).data.toList = [] from rfl, List.map_nil, if_pos c1]
    rcases hc with ⟨rfl, rfl, rfl⟩ | ⟨r, rfl, rfl⟩
    · rfl
    · rw [if_neg (by decide)]
      simp [appendUnk]
theorem append_new {P : Program} {h : H} {t : List UInt8} {sT e : Nat} (h1 : P.underlying sT = some (.slice e)) (h2 : (P.info? e).map (fun i => (i.size, i.bytes)) = some (1, 1)) (h3 : zero P e = some (.int .u8 0)) (ht : t ≠ []) (hl : t.length ≤ 1000000) :
    append P h sT false (.slice none 0 0) (.string ⟨⟨t⟩⟩) = some (.slice (some ⟨h.next, 0, none⟩) t.length (UNK + 1), h.push (.cells (bytesV ⟨⟨t⟩⟩) (some e) false 0)) := by
  cases hi : P.info? e with
  | none => rw [hi] at h2; cases h2
  | some i =>
    rw [hi] at h2
    simp only [Option.map_some, Option.some.injEq, Prod.mk.injEq] at h2
    obtain ⟨i1, i2⟩ := h2
    have hpos : 0 < t.length := List.length_pos_iff.2 ht
    have c0 : True ∧ 0 < i.size ∧ 0 < i.bytes ∧ (Value.int .u8 0).cells.toList.length = i.size ∧ ((0 + t.length) * 4 + 2048) * i.bytes ≤ 2 ^ 48 := ⟨trivial, by omega, by omega, by rw [i1]; rfl, by rw [i2]; omega⟩
    have c1 : (bytesV ⟨⟨t⟩⟩).length = t.length * i.size ∧ (bytesV ⟨⟨t⟩⟩).all one = true := ⟨by rw [bytes_len, i1, Nat.mul_one], bytes_one t⟩
    have e1 : (⟨⟨t⟩⟩ : ByteArray).size = t.length := rfl
    have e2 : ((⟨⟨t⟩⟩ : ByteArray).data.toList.map fun b => Value.int .u8 (b.toNat : Int)) = bytesV ⟨⟨t⟩⟩ := rfl
    simp only [append, h1, hi, h3, lenV, e1, if_pos c0, H.bears, e2, if_pos c1]
    rw [if_pos (by decide), appendKnown, if_neg (by omega)]
    simp only [H.bears, if_true, List.nil_append, Nat.zero_add, i1]
theorem append_more {P : Program} {h : H} {l t : List UInt8} {r sT e : Nat} (h1 : P.underlying sT = some (.slice e)) (h2 : (P.info? e).map (fun i => (i.size, i.bytes)) = some (1, 1)) (h3 : zero P e = some (.int .u8 0)) (ht : t ≠ []) (hl : l.length + t.length ≤ 1000000)
    (hr : h.m.get r = some (.cells (bytesV ⟨⟨l⟩⟩) (some e) false 0)) :
    append P h sT false (.slice (some ⟨r, 0, none⟩) l.length (UNK + 1)) (.string ⟨⟨t⟩⟩) = some (.slice (some ⟨h.next, 0, none⟩) (l.length + t.length) (UNK + 1), (h.put r none).push (.cells (bytesV ⟨⟨l ++ t⟩⟩) (some e) false 0)) := by
  cases hi : P.info? e with
  | none => rw [hi] at h2; cases h2
  | some i =>
    rw [hi] at h2
    simp only [Option.map_some, Option.some.injEq, Prod.mk.injEq] at h2
    obtain ⟨i1, i2⟩ := h2
    have hpos : 0 < t.length := List.length_pos_iff.2 ht
    have c0 : True ∧ 0 < i.size ∧ 0 < i.bytes ∧ (Value.int .u8 0).cells.toList.length = i.size ∧ ((l.length + t.length) * 4 + 2048) * i.bytes ≤ 2 ^ 48 := ⟨trivial, by omega, by omega, by rw [i1]; rfl, by rw [i2]; omega⟩
    have c1 : (bytesV ⟨⟨t⟩⟩).length = t.length * i.size ∧ (bytesV ⟨⟨t⟩⟩).all one = true := ⟨by rw [bytes_len, i1, Nat.mul_one], bytes_one t⟩
    have e1 : (⟨⟨t⟩⟩ : ByteArray).size = t.length := rfl
    have e2 : ((⟨⟨t⟩⟩ : ByteArray).data.toList.map fun b => Value.int .u8 (b.toNat : Int)) = bytesV ⟨⟨t⟩⟩ := rfl
    have e3 : bytesV ⟨⟨l ++ t⟩⟩ = bytesV ⟨⟨l⟩⟩ ++ bytesV ⟨⟨t⟩⟩ := by simp [bytesV]
    have e4 : cut (bytesV ⟨⟨l⟩⟩) 0 (l.length * i.size) = some (bytesV ⟨⟨l⟩⟩) := by
      unfold cut
      rw [i1, Nat.mul_one, if_pos (by rw [bytes_len]; omega), List.drop_zero, List.take_of_length_le (by rw [bytes_len]; omega)]
    simp only [append, h1, hi, h3, lenV, e1, if_pos c0, H.bears, e2, if_pos c1]
    rw [if_neg (by decide)]
    simp only [appendUnk, hr, i1, Option.isNone_none, if_true]
    rw [if_neg (by omega), if_pos (by omega)]
    rw [i1] at e4
    rw [e4]
    simp only [e3, Nat.sub_zero]
theorem raw_append {E : Env} {l : L} {h h' : H} {dst ty pos after guard x y} {sT xT : TypeId} {s v w : Value} {K : Value → H → Prop} (hx : evL l x = some s) (hy : evL l y = some v) (hu : E.P.underlying xT = some .string) (ha : append E.P h sT false s v = some (w, h')) (hk : K w h') :
    RawP E l h ⟨dst, .call ⟨.builtin .append, #[x, y], #[sT, xT]⟩, ty, pos, after, guard⟩ K := ⟨fun tm hv => by
  refine OpP.val ?_ hk
  show hCallB E.P tm h _ _ _ = _
  have q : evList tm [x, y] = some [s, v] := by simp only [evList, evL_ok hv hx, evL_ok hv hy]
  have q' : evList tm (#[x, y] : Array Operand).toList = some [s, v] := q
  simp only [hCallB, q', evBuiltin]
  show (match E.P.underlying xT with
    | some (.int _) => none
    | some _ => pairR (append E.P h sT false s v)
    | none => none) = _
  rw [hu, ha]
  rfl⟩
theorem sameB : (Tryz.f61 : Func).body.isNone = true := by kernel_rfl
theorem put_get_self (h : H) (b : Nat) (o : Option AObj) : (h.put b o).m.get b = o := by rw [put_get, if_pos rfl]
set_option maxRecDepth 100000
attribute [local cbv_opaque] isString isSlice isBoolT fOff iSize eqNil zero H.load H.store H.push H.dip H.put List.length List.getD Nat.add
section
variable {E : Env} (hE : BEnv E)
include hE
theorem bCheck (b : Nat) (l : List UInt8) (g0 h : H) (hb : IsB g0 h b l) (K : Value → H → Prop) (hk : ∀ h', IsB g0 h' b l → K (.tuple #[]) h') : CallP E 41 [.pointer (some ⟨b, 0, none⟩)] h K := by
  refine CallP.of (hE.m1 _) (by rw [hE.P]; exact Tryz.func41) rfl (Nat.le_of_ble_eq_true rfl) ?_
  have f0 : fOff E.P 47 0 = some 0 := by rw [hE.P]; exact bF0
  have a0 : isAgg E.P 45 = some false := by rw [hE.P]; exact bA
  have z0 : sizeOf E.P 45 = some 1 := by rw [hE.P]; exact bZ
  have s0 : sizeOf E.P 47 = some 2 := by rw [hE.P]; exact bS
  have u0 : E.P.underlying 45 = some (.pointer 47) := by rw [hE.P]; exact bU
  have u1 : E.P.underlying 90 = some .unsafePointer := by rw [hE.P]; exact uU
  obtain ⟨p, s, g, hp, hs⟩ := hb.ex
  have ld : h.load E.P 45 ⟨b, 0, none⟩ = some p := by
    simp only [H.load, a0, z0, H.read, g, cut]
    rfl
  have st : h.store E.P 45 ⟨b, 0, none⟩ (.pointer (some ⟨b, 0, none⟩)) = some (h.put b (some (.cells [.pointer (some ⟨b, 0, none⟩), s] (some 47) true 0))) := by
    simp only [H.store, z0, H.write, g]
    rfl
  have hf : E.P.funcs[61]? = some Tryz.f61 := by rw [hE.P]; exact Tryz.func61
  have c1 : E.clone ≠ some 61 := by rw [hE.clone]; decide
  have c2 : E.same = some 61 := hE.same
  have hl : liesAt E.P E.P.depth 47 (2 / E.P.cellsOf 47) 0 47 1 = true := by rw [hE.P]; exact bLies
  rcases hp with rfl | rfl
  · have hN := fun q dst ty pos after guard x y yt K hx hy hk => raw_isnil (E := E) (l := q) (h := h) (dst := dst) (ty := ty) (pos := pos) (after := after) (guard := guard) (t := 45) (x := x) (y := y) (yt := yt) (K := K) hx hy u0 hk
    clear hE
    cbv
    refine ⟨0, f0, ?_⟩
    cbv
    refine ⟨_, ld, ?_⟩
    cbv
    refine hN _ _ _ _ _ _ _ _ _ _ rfl rfl ?_
    cbv
    refine raw_toUnsafe rfl u0 u1 s0 g (Nat.succ_pos _) ?_
    cbv
    refine .inr (raw_same rfl hf sameB c1 c2 ?_)
    cbv
    refine raw_ofUnsafe rfl u1 u0 s0 g hl ?_
    cbv
    refine ⟨0, f0, ?_⟩
    cbv
    refine ⟨_, st, ?_⟩
    cbv
    exact ⟨_, rfl, hk _ ⟨hb.lt, hb.ge, hb.gr.put hb.ge _, _, _, put_get_self .., .inr rfl, by
      rcases hs with hs | ⟨r, r1, rg, r2, r0, r3, r4⟩
      · exact .inl hs
      · exact .inr ⟨r, r1, rg, r2, r0, r3, by rw [put_get, if_neg r2]; exact r4⟩⟩⟩
  · have e1 : eqNil E.P 45 (.pointer (some ⟨b, 0, none⟩)) (.pointer none) = some false := by simp only [eqNil, u0]; rfl
    have e2 : eqNil E.P 45 (.pointer (some ⟨b, 0, none⟩)) (.pointer (some ⟨b, 0, none⟩)) = some true := by simp only [eqNil, u0, s0]; simp
    clear hE
    cbv
    refine ⟨0, f0, ?_⟩
    cbv
    refine ⟨_, ld, ?_⟩
    cbv
    refine ⟨_, e1, ?_⟩
    cbv
    refine ⟨0, f0, ?_⟩
    cbv
    refine ⟨_, ld, ?_⟩
    cbv
    refine ⟨_, e2, ?_⟩
    cbv
    exact ⟨_, rfl, hk _ hb⟩
theorem bWrite (b : Nat) (l t : List UInt8) (g0 h : H) (hb : IsB g0 h b l) (hl : l.length + t.length ≤ 1000000) (K : Value → H → Prop) (hk : ∀ v h', IsB g0 h' b (l ++ t) → K v h') : CallP E 22 [.pointer (some ⟨b, 0, none⟩), .string ⟨⟨t⟩⟩] h K := by
  refine CallP.of (hE.m2 _) (by rw [hE.P]; exact Tryz.func22) rfl (Nat.le_of_ble_eq_true rfl) ?_
  have hS : isString E.1 9 = true := by rw [hE.P]; exact stringT
  have f1 : fOff E.P 47 1 = some 1 := by rw [hE.P]; exact bF1
  have a0 : isAgg E.P 42 = some false := by rw [hE.P]; exact sA
  have z0 : sizeOf E.P 42 = some 1 := by rw [hE.P]; exact sZ
  have u0 : E.P.underlying 42 = some (.slice 5) := by rw [hE.P]; exact bytesU
  have u1 : E.P.underlying 9 = some .string := by rw [hE.P]; exact stringU
  have i0 : (E.P.info? 5).map (fun i => (i.size, i.bytes)) = some (1, 1) := by rw [hE.P]; exact uInfo
  have v0 : zero E.P 5 = some (.int .u8 0) := by rw [hE.P]; exact uZero
  have n1 := fun K hk => bCheck hE b l g0 h hb K hk
  clear hE hb
  cbv
  refine .inl (n1 _ fun g hb => ?_)
  obtain ⟨p, s, hg, hp, hs⟩ := hb.ex
  have ld : g.load E.P 42 ⟨b, 1, none⟩ = some s := by
    simp only [H.load, a0, z0, H.read, hg, cut]
    rfl
  /- what the append hands back -/
  have ha : ∃ s' g', append E.P g 42 false s (.string ⟨⟨t⟩⟩) = some (s', g') ∧ s'.cells.toList = [s'] ∧ one s' = true ∧ g'.m.get b = g.m.get b ∧ b < g'.next ∧ Grows g0 g' ∧
      ((l ++ t = [] ∧ s' = .slice none 0 0) ∨ (∃ r, r < g'.next ∧ g0.next ≤ r ∧ r ≠ b ∧ l ++ t ≠ [] ∧ s' = .slice (some ⟨r, 0, none⟩) (l ++ t).length (UNK + 1) ∧ g'.m.get r = some (.cells (bytesV ⟨⟨l ++ t⟩⟩) (some 5) false 0))) := by
    have hlt := hb.lt
    have hge := hb.ge
    have hgr := hb.gr
    have hgn := hgr.next
    by_cases ht : t = []
    · subst ht
      rcases hs with ⟨rfl, rfl⟩ | ⟨r, r1, rg, r2, r0, rfl, r4⟩
      · exact ⟨_, g, append_no rfl u0 i0 v0 (by simp) (.inl ⟨rfl, rfl, rfl⟩), rfl, rfl, rfl, hlt, hgr, .inl ⟨rfl, rfl⟩⟩
      · exact ⟨_, g, append_no rfl u0 i0 v0 (by simp at hl; omega) (.inr ⟨r, rfl, rfl⟩), rfl, rfl, rfl, hlt, hgr, .inr ⟨r, r1, rg, r2, by rw [List.append_nil]; exact r0, by rw [List.append_nil], by rw [List.append_nil]; exact r4⟩⟩
    · rcases hs with ⟨rfl, rfl⟩ | ⟨r, r1, rg, r2, r0, rfl, r4⟩
      · exact ⟨_, _, append_new u0 i0 v0 ht (by simpa using hl), rfl, rfl, by rw [push_get, if_neg (by omega)], by show b < g.next + 1; omega, hgr.push _, .inr ⟨g.next, Nat.lt_succ_self _, hgn, by omega, by simpa using ht, rfl, by rw [push_get, if_pos rfl]; rfl⟩⟩
      · exact ⟨_, _, append_more u0 i0 v0 ht hl r4, rfl, rfl, by rw [push_get, if_neg (by show ¬ b = g.next; omega), put_get, if_neg (fun e => r2 e.symm)], by show b < g.next + 1; omega, (hgr.put rg none).push _, .inr ⟨g.next, Nat.lt_succ_self _, hgn, by omega, by simp [ht], by rw [List.length_append], by rw [push_get, put_next, if_pos rfl]⟩⟩
  obtain ⟨s', g', ha, k1, k2, k3, k4, k6, k5⟩ := ha
  have st : g'.store E.P 42 ⟨b, 1, none⟩ s' = some (g'.put b (some (.cells [p, s'] (some 47) true 0))) := by
    simp only [H.store, z0, H.write, k3, hg, k1]
    simp [k2, over]
  clear n1
  cbv
  refine ⟨1, f1, ?_⟩
  cbv
  refine ⟨_, ld, ?_⟩
  cbv
  refine raw_append rfl rfl u1 ha ?_
  cbv
  refine ⟨1, f1, ?_⟩
  cbv
  refine ⟨_, st, ?_⟩
  cbv
  refine And.intro hS ?_
  cbv
  refine ⟨_, rfl, hk _ _ ⟨k4, hb.ge, k6.put hb.ge _, p, s', put_get_self .., hp, ?_⟩⟩
  rcases k5 with k5 | ⟨r, r1, rg, r2, r0, r3, r4⟩
  · exact .inl k5
  · exact .inr ⟨r, r1, rg, r2, r0, r3, by rw [put_get, if_neg r2]; exact r4⟩
end
end Go.Proofs.YtfgemjpoiconbaaGreatDoor.GEv

/- strings.Builder's String, by a symbolic run. -/
namespace Go.Proofs.YtfgemjpoiconbaaGreatDoor.GEv
open Go
set_option linter.unusedSimpArgs false
set_option linter.unusedVariables false
theorem raw_data {E : Env} {l : L} {h : H} {dst ty pos after guard x ts} {a : Addr} {n c : Nat} {K : Value → H → Prop} (hx : evL l x = some (.slice (some a) (n + 1) c)) (hk : K (.pointer (some a)) h) :
    RawP E l h ⟨dst, .call ⟨.builtin .unsafeSliceData, #[x], ts⟩, ty, pos, after, guard⟩ K := ⟨fun tm hv => by
  refine OpP.val ?_ hk
  show hCallB E.P tm h _ _ _ = _
  have q : evList tm (#[x] : Array Operand).toList = some [.slice (some a) (n + 1) c] := by
    show evList tm [x] = _
    simp only [evList, evL_ok hv hx]
  simp only [hCallB, q, evBuiltin]⟩
theorem ptrU : EM.P.underlying 71 = some (.pointer 5) := by kernel_rfl
theorem cellU : EM.P.cellsOf 5 = 1 := by kernel_rfl
theorem bytesOf_V : ∀ l : List UInt8, bytesOf (bytesV ⟨⟨l⟩⟩) = some l
  | [] => rfl
  | b :: l => by
    have h1 : Nat.ble b.toNat 255 = true := Nat.ble_eq_true_of_le (by have := b.toNat_lt; omega)
    have h2 := bytesOf_V l
    show bytesOf (.int .u8 (.ofNat b.toNat) :: bytesV ⟨⟨l⟩⟩) = _
    simp only [bytesOf, h1, h2]
    simp
theorem raw_ustr {E : Env} {l : L} {h : H} {dst ty pos after guard x y} {pt t2 e r : Nat} {bs : List UInt8} {K : Value → H → Prop} (hx : evL l x = some (.pointer (some ⟨r, 0, none⟩))) (hy : evL l y = some (.int .i64 (.ofNat bs.length))) (hn : bs ≠ []) (hl : bs.length ≤ 1000000)
    (h1 : E.P.underlying pt = some (.pointer e)) (h2 : E.P.cellsOf e = 1) (hr : h.m.get r = some (.cells (bytesV ⟨⟨bs⟩⟩) (some e) false 0)) (hk : K (.string ⟨⟨bs⟩⟩) (h.put r none)) :
    RawP E l h ⟨dst, .call ⟨.builtin .unsafeString, #[x, y], #[pt, t2]⟩, ty, pos, after, guard⟩ K := ⟨fun tm hv => by
  refine OpP.val ?_ hk
  show hCallB E.P tm h _ _ _ = _
  have q : evList tm (#[x, y] : Array Operand).toList = some [.pointer (some ⟨r, 0, none⟩), .int .i64 (.ofNat bs.length)] := by
    show evList tm [x, y] = _
    simp only [evList, evL_ok hv hx, evL_ok hv hy]
  have hc : cut (bytesV ⟨⟨bs⟩⟩) 0 bs.length = some (bytesV ⟨⟨bs⟩⟩) := by
    unfold cut
    rw [if_pos (by rw [bytes_len]; omega), List.drop_zero, List.take_of_length_le (by rw [bytes_len]; omega)]
  simp only [hCallB, q, evBuiltin]
  show evUStr E.P h pt ⟨r, 0, none⟩ bs.length = _
  obtain ⟨n, hn'⟩ : ∃ n, bs.length = n + 1 := ⟨bs.length - 1, by have := List.length_pos_iff.2 hn; omega⟩
  have hb : Nat.ble (n + 1) 9223372036854775807 = true := Nat.ble_eq_true_of_le (by omega)
  rw [hn'] at hc ⊢
  simp only [evUStr, h1, hr, h2, decide_true, hb, hc, bytesOf_V]⟩
theorem raw_data0 {E : Env} {l : L} {h : H} {dst ty pos after guard x ts} {K : Value → H → Prop} (hx : evL l x = some (.slice none 0 0)) (hk : K (.pointer none) h) :
    RawP E l h ⟨dst, .call ⟨.builtin .unsafeSliceData, #[x], ts⟩, ty, pos, after, guard⟩ K := ⟨fun tm hv => by
  refine OpP.val ?_ hk
  have q1 := evL_ok hv hx
  have e1 : evA' tm x = .slice none 0 0 := by simp only [evA', q1, Option.getD_some]
  have hp : allFlat tm [x] = true := by simp only [allFlat, q1]; rfl
  show hCallB E.P tm h _ _ _ = _
  have q : evList tm (#[x] : Array Operand).toList = some [.slice none 0 0] := by
    show evList tm [x] = _
    simp only [evList, q1]
  simp only [hCallB, q, evBuiltin, evPure]
  rw [show (Op.operands (.call ⟨.builtin .unsafeSliceData, #[x], ts⟩)).toList = [x] from rfl, hp, if_pos rfl]
  have hex : pureRun E.P (execOp (evA' tm) ⟨dst, .call ⟨.builtin .unsafeSliceData, #[x], ts⟩, ty, pos, after, guard⟩) = some (.value (.pointer none)) := by
    have hr : resolve (evA' tm) ⟨.builtin .unsafeSliceData, #[x], ts⟩ ty = pure { target := .builtin .unsafeSliceData ts ty (#[x].map fun | .const _ => true | _ => false), args := #[.slice none 0 0] } := by
      simp [resolve, e1]
      rfl
    show pureRun E.P (resolve (evA' tm) ⟨.builtin .unsafeSliceData, #[x], ts⟩ ty >>= fun d => invoke d.target d.args) = _
    rw [hr, pureRun_bind (x := { target := .builtin .unsafeSliceData ts ty (#[x].map fun | .const _ => true | _ => false), args := #[.slice none 0 0] }) _ rfl]
    rfl
  rw [hex]
  rfl⟩
theorem raw_ustr0 {E : Env} {l : L} {h : H} {dst ty pos after guard x y} {pt t2 : TypeId} {K : Value → H → Prop} (hx : evL l x = some (.pointer none)) (hy : evL l y = some (.int .i64 0)) (hk : K (.string ⟨⟨[]⟩⟩) h) :
    RawP E l h ⟨dst, .call ⟨.builtin .unsafeString, #[x, y], #[pt, t2]⟩, ty, pos, after, guard⟩ K := ⟨fun tm hv => by
  refine OpP.val ?_ hk
  have q1 := evL_ok hv hx
  have q2 := evL_ok hv hy
  have e1 : evA' tm x = .pointer none := by simp only [evA', q1, Option.getD_some]
  have e2 : evA' tm y = .int .i64 0 := by simp only [evA', q2, Option.getD_some]
  have hp : allFlat tm [x, y] = true := by simp only [allFlat, q1, q2]; rfl
  show hCallB E.P tm h _ _ _ = _
  have q : evList tm (#[x, y] : Array Operand).toList = some [.pointer none, .int .i64 0] := by
    show evList tm [x, y] = _
    simp only [evList, q1, q2]
  simp only [hCallB, q, evBuiltin, evPure]
  rw [show (Op.operands (.call ⟨.builtin .unsafeString, #[x, y], #[pt, t2]⟩)).toList = [x, y] from rfl, hp, if_pos rfl]
  have hex : pureRun E.P (execOp (evA' tm) ⟨dst, .call ⟨.builtin .unsafeString, #[x, y], #[pt, t2]⟩, ty, pos, after, guard⟩) = some (.value (.string ⟨⟨[]⟩⟩)) := by
    have hr : resolve (evA' tm) ⟨.builtin .unsafeString, #[x, y], #[pt, t2]⟩ ty = pure { target := .builtin .unsafeString #[pt, t2] ty (#[x, y].map fun | .const _ => true | _ => false), args := #[.pointer none, .int .i64 0] } := by
      simp [resolve, e1, e2]
      rfl
    show pureRun E.P (resolve (evA' tm) ⟨.builtin .unsafeString, #[x, y], #[pt, t2]⟩ ty >>= fun d => invoke d.target d.args) = _
    rw [hr, pureRun_bind (x := { target := .builtin .unsafeString #[pt, t2] ty (#[x, y].map fun | .const _ => true | _ => false), args := #[.pointer none, .int .i64 0] }) _ rfl]
    rfl
  rw [hex]
  rfl⟩
theorem Grows.over {g h h3 : H} (hg : Grows g h) (e1 : h3.m = h.m) (e2 : h3.next = h.next) (e3 : ∀ k, k ≤ h.next → k ≤ top h.next → k ≤ h.low → k ≤ h.next → k ≤ h3.low) : Grows g h3 :=
  ⟨by rw [e2]; exact hg.next, fun b hb => by rw [e1]; exact hg.keep b hb, fun k k1 k2 => by
    have := hg.next
    have := (top_ge h.next).2
    exact e3 k (by omega) (by omega) (hg.low k k1 k2) (by omega)⟩
theorem Grows.over2 {g h h3 : H} {r : Nat} (hg : Grows g h) (hr : g.next ≤ r) (e1 : h3.m = ((⟨h.m, h.next, top h.next⟩ : H).put r none).m) (e2 : h3.next = h.next)
    (e3 : ∀ k, k ≤ h.next → k ≤ ((⟨h.m, h.next, top h.next⟩ : H).put r none).low → k ≤ h.low → k ≤ h.next → k ≤ h3.low) : Grows g h3 := by
  have g1 : Grows g (⟨h.m, h.next, top h.next⟩ : H) := hg.mark
  have g2 := g1.put hr none
  refine ⟨by rw [e2]; exact hg.next, fun b hb => by rw [e1]; exact g2.keep b hb, fun k k1 k2 => ?_⟩
  have := hg.next
  refine e3 k (by omega) ?_ (hg.low k k1 k2) (by omega)
  rw [put_low]
  have := (top_ge h.next).2
  show k ≤ (if r < top h.next then r else top h.next)
  split <;> omega
/-- The region of String, by its parts. -/
def strRegion (c : Code) : List Oper := match c with
  | .seq _ (.seq (.region _ ops _) _) => ops.toList
  | _ => []
noncomputable def strOps : List Oper := match (Tryz.f24 : Func).body with
  | some c => strRegion c
  | none => []
noncomputable def strFront : List Oper := strOps.take 10
noncomputable def strLast : Oper := strOps.getD 10 default
noncomputable def strSet : Oper := strOps.getD 11 default
set_option maxRecDepth 100000
attribute [local cbv_opaque] isString isSlice isBoolT fOff iSize eqNil zero H.load H.store H.push H.dip H.put List.length List.getD Nat.add top
section
variable {E : Env} (hE : BEnv E)
include hE
theorem bString (b : Nat) (l : List UInt8) (g0 h : H) (hb : IsB g0 h b l) (hl : l.length ≤ 1000000) (K : Value → H → Prop) (hk : ∀ h', Grows g0 h' → K (.string ⟨⟨l⟩⟩) h') : CallP E 24 [.pointer (some ⟨b, 0, none⟩)] h K := by
  have f1 : fOff E.P 47 1 = some 1 := by rw [hE.P]; exact bF1
  have a0 : isAgg E.P 42 = some false := by rw [hE.P]; exact sA
  have z0 : sizeOf E.P 42 = some 1 := by rw [hE.P]; exact sZ
  have hL : isSlice E.1 (some 42) = true := by rw [hE.P]; exact bytesT
  have u2 : E.P.underlying 71 = some (.pointer 5) := by rw [hE.P]; exact ptrU
  have c2 : E.P.cellsOf 5 = 1 := by rw [hE.P]; exact cellU
  obtain ⟨p, s, hg, hp, hs⟩ := hb.ex
  have ld : ∀ low, H.load E.P ⟨h.m, h.next, low⟩ 42 ⟨b, 1, none⟩ = some s := by
    intro low
    simp only [H.load, a0, z0, H.read, hg, cut]
    rfl
  refine CallP.enter (hE.m3 _) (by rw [hE.P]; exact Tryz.func24) rfl (Nat.le_of_ble_eq_true rfl) ?_
  refine (Ends.seq (kn := Up (retL E.P [.tmp 2] K)) (kr := Up (retL E.P [.tmp 2] K)) (ke := fun _ => Up fun _ _ => False) ?_).mono ?_ ?_ ?_
  · refine (sy_ok E _ _ _ _ h (fun l1 h1 => l1 = [(2, .string ⟨⟨[]⟩⟩), (0, .pointer (some ⟨b, 0, none⟩))] ∧ h1 = h) (fun _ _ => False) (fun _ _ _ => False) (view_args _) ?_).mono ?_ ?_ ?_
    · exact And.intro rfl rfl
    · rintro tm h1 ⟨l1, hv, rfl, rfl⟩
      rcases hs with ⟨rfl, rfl⟩ | ⟨r, r1, rg, r2, r0, rfl, r4⟩
      · have hD := fun q h dst ty pos after guard x ts K hx hk => raw_data0 (E := E) (l := q) (h := h) (dst := dst) (ty := ty) (pos := pos) (after := after) (guard := guard) (x := x) (ts := ts) (K := K) hx hk
        refine Ends.seq ((Ends.drawK (kn := fun l2 h2 => look l2 2 = some (.string ⟨⟨[]⟩⟩) ∧ Grows g0 h2) (kr := fun _ _ => False) (ke := fun _ _ _ => False) (K := fun l2 => look l2 7 = some (.pointer none) ∧ look l2 12 = some (.int .i64 (.ofNat 0))) (front := strFront) (o := strLast) (a := strSet) rfl (by kernel_rfl) rfl (by decide) rfl rfl hv ?_ ?_).mono ?_ ?_ ?_)
        · cbv
          refine ⟨1, f1, ?_⟩
          cbv
          refine ⟨_, ld _, ?_⟩
          cbv
          refine hD _ _ _ _ _ _ _ _ _ _ rfl ?_
          cbv
          refine ⟨1, f1, ?_⟩
          cbv
          refine ⟨_, ld _, ?_⟩
          cbv
          first | (refine And.intro hL ?_; cbv; exact True.intro) | trace_state
        · rintro l1 ⟨q7, q12⟩
          refine ⟨rfl, rfl, ?_⟩
          refine raw_ustr0 q7 q12 ?_
          exact ⟨rfl, rfl, fun low h3 e1 e2 e3 => ⟨rfl, hb.gr.over e1 e2 e3⟩⟩
        · rintro tm2 h2 ⟨l2, hv2, e, eg⟩
          exact Ends.ret ⟨l2, hv2, [_], by simp only [resL, e], hk _ eg⟩
        · rintro tm2 h2 ⟨_, _, q⟩; exact q.elim
        · rintro i tm2 h2 ⟨_, _, q⟩; exact q.elim
      obtain ⟨n, hn⟩ : ∃ n, l.length = n + 1 := ⟨l.length - 1, by have := List.length_pos_iff.2 r0; omega⟩
      have hD := fun q h dst ty pos after guard x ts K hx hk => raw_data (E := E) (l := q) (h := h) (dst := dst) (ty := ty) (pos := pos) (after := after) (guard := guard) (x := x) (ts := ts) (a := ⟨r, 0, none⟩) (n := n) (c := UNK + 1) (K := K) hx hk
      rw [hn] at ld
      refine Ends.seq ((Ends.drawK (kn := fun l2 h2 => look l2 2 = some (.string ⟨⟨l⟩⟩) ∧ Grows g0 h2) (kr := fun _ _ => False) (ke := fun _ _ _ => False) (K := fun l2 => look l2 7 = some (.pointer (some ⟨r, 0, none⟩)) ∧ look l2 12 = some (.int .i64 (.ofNat (n + 1)))) (front := strFront) (o := strLast) (a := strSet) rfl (by kernel_rfl) rfl (by decide) rfl rfl hv ?_ ?_).mono ?_ ?_ ?_)
      · cbv
        refine ⟨1, f1, ?_⟩
        cbv
        refine ⟨_, ld _, ?_⟩
        cbv
        refine hD _ _ _ _ _ _ _ _ _ _ rfl ?_
        cbv
        refine ⟨1, f1, ?_⟩
        cbv
        refine ⟨_, ld _, ?_⟩
        cbv
        refine And.intro hL ?_
        cbv
        exact True.intro
      · rintro l1 ⟨q7, q12⟩
        refine ⟨rfl, rfl, ?_⟩
        refine raw_ustr q7 (by rw [hn]; exact q12) r0 hl u2 c2 r4 ?_
        exact ⟨rfl, rfl, fun low h3 e1 e2 e3 => ⟨rfl, hb.gr.over2 rg e1 e2 e3⟩⟩
      · rintro tm2 h2 ⟨l2, hv2, e, eg⟩
        exact Ends.ret ⟨l2, hv2, [_], by simp only [resL, e], hk _ eg⟩
      · rintro tm2 h2 ⟨_, _, q⟩; exact q.elim
      · rintro i tm2 h2 ⟨_, _, q⟩; exact q.elim
    · rintro tm h1 ⟨_, _, q⟩; exact q.elim
    · rintro i tm h1 ⟨_, _, q⟩; exact q.elim
  · rintro tm h1 ⟨l1, hv, vs, e, k⟩
    exact ⟨vs, resL_ok hv e, k⟩
  · rintro tm h1 ⟨l1, hv, vs, e, k⟩
    exact ⟨vs, resL_ok hv e, k⟩
  · rintro i tm h1 ⟨l1, hv, q⟩
    exact q
end
end Go.Proofs.YtfgemjpoiconbaaGreatDoor.GEv

/- 'entity' of the reference, and Unescape of both, by symbolic runs. -/
namespace Go.Proofs.YtfgemjpoiconbaaGreatDoor.GEv
open Go
set_option linter.unusedSimpArgs false
set_option linter.unusedVariables false
theorem unesc_none38 {l : List UInt8} (h : cutB 38 l = none) : unesc l = some l := unesc_plain l (cutB_none h)
theorem unesc_cut {l p r : List UInt8} (h : cutB 38 l = some (p, r)) : unesc l = (unesc (38 :: r)).map (p ++ ·) := by
  obtain ⟨e, hn⟩ := cutB_some h
  rw [e]
  exact unesc_pre p _ hn
theorem enc_len (n : Int) : (Utf8.encode n).data.toList.length ≤ 4 := by
  unfold Utf8.encode
  generalize (if Utf8.valid n = true then n.toNat else Utf8.runeError) = c
  dsimp only
  repeat' split
  all_goals simp
theorem ref_len {hex : Bool} {l x : List UInt8} (h : refD hex l = some x) : x.length ≤ 4 := by
  unfold refD at h
  split at h
  · cases h
  split at h
  · split at h
    · have h := Option.some.inj h
      rw [← h, encodeB]
      exact enc_len (.ofNat _)
    · cases h
  · cases h
theorem entity_len {l x : List UInt8} (h : entity l = some x) : x.length ≤ 4 := by
  unfold entity at h
  split at h
  · cases h; simp
  split at h
  · cases h; simp
  split at h
  · cases h; simp
  split at h
  · cases h; simp
  split at h
  · cases h; simp
  split at h
  · cases h
  · split at h
    · unfold refV at h
      split at h
      · cases h
      · split at h
        · exact ref_len h
        · exact ref_len h
    · cases h
theorem getD_mem_take {s : List UInt8} {i k : Nat} {c : UInt8} (h : ∀ j, i ≤ j → j < k → s.getD j 0 ≠ c) : c ∉ (s.drop i).take (k - i) := by
  intro hm
  obtain ⟨n, hn, e⟩ := List.getElem_of_mem hm
  rw [List.length_take, List.length_drop] at hn
  rw [List.getElem_take, List.getElem_drop] at e
  have := h (i + n) (by omega) (by omega)
  rw [List.getD_eq_getElem?_getD, List.getElem?_eq_getElem (by omega)] at this
  exact this e
theorem cut_at {s : List UInt8} {i k : Nat} {c : UInt8} (hik : i ≤ k) (hk : k < s.length) (h : ∀ j, i ≤ j → j < k → s.getD j 0 ≠ c) (hc : s.getD k 0 = c) : cutB c (s.drop i) = some ((s.drop i).take (k - i), s.drop (k + 1)) := by
  have e : s.drop i = (s.drop i).take (k - i) ++ c :: s.drop (k + 1) := by
    have e1 : s.drop i = (s.drop i).take (k - i) ++ (s.drop i).drop (k - i) := (List.take_append_drop _ _).symm
    rw [List.drop_drop, show i + (k - i) = k by omega, drop_get hk, hc] at e1
    exact e1
  have := cutB_of (c := c) (q := s.drop (k + 1)) (getD_mem_take h)
  rwa [← e] at this
theorem cut_end {s : List UInt8} {i : Nat} {c : UInt8} (h : ∀ j, i ≤ j → j < s.length → s.getD j 0 ≠ c) : cutB c (s.drop i) = none := by
  refine cutB_not ?_
  have := getD_mem_take h
  rwa [List.take_of_length_le (by rw [List.length_drop]; omega)] at this
set_option maxRecDepth 100000
attribute [local cbv_opaque] isString isSlice isBoolT fOff iSize eqNil zero H.load H.store H.push H.dip H.put List.length List.getD Nat.add Nat.sub Nat.mul List.take List.drop lowN UInt8.toNat bytesV Utf8.encode encodeB sign List.append
attribute [local cbv_eval] List.length_cons List.length_nil
section
variable {E : Env} (hE : E = EM2)
include hE
theorem cutC2 (c : UInt8) (l : List UInt8) (hl : l.length ≤ 1000000) (h : H) (K : Value → H → Prop) (hk : K (cutV c l) h) : CallP E 50 [.string ⟨⟨l⟩⟩, .string ⟨⟨[c]⟩⟩] h K := by
  refine CallP.memo (v := cutV c l) ?_ (by rw [hE]; exact ⟨_, _, Tryz.func50, rfl⟩) hk
  rw [hE]
  show cutP [.string ⟨⟨l⟩⟩, .string ⟨⟨[c]⟩⟩] = _
  have : isLe (⟨⟨l⟩⟩ : ByteArray).size 1000000 = true := Nat.ble_eq_true_of_le hl
  simp only [cutP, this]
theorem meantC2 (l : List UInt8) (h : H) (K : Value → H → Prop) (hk : K (optV (entity l)) h) : CallP E 73 [.string ⟨⟨l⟩⟩] h K :=
  CallP.memo (v := optV (entity l)) (by rw [hE]; rfl) (by rw [hE]; exact ⟨_, _, Tryz.func73, rfl⟩) hk
theorem entityC2 (l : List UInt8) (h : H) (K : Value → H → Prop) (hk : K (optV (entity l)) h) : CallP E 110 [.string ⟨⟨l⟩⟩] h K :=
  CallP.memo (v := optV (entity l)) (by rw [hE]; rfl) (by rw [hE]; exact ⟨_, _, Tryz.func110, rfl⟩) hk
theorem wholeC2 (l : List UInt8) (hl : l.length ≤ 2000000) (h : H) (K : Value → H → Prop) (hk : K (.bool (signs l)) h) : CallP E 72 [.string ⟨⟨l⟩⟩] h K := by
  refine CallP.memo (v := .bool (signs l)) ?_ (by rw [hE]; exact ⟨_, _, Tryz.func72, rfl⟩) hk
  rw [hE]
  show signsP [.string ⟨⟨l⟩⟩] = _
  have : isLe (⟨⟨l⟩⟩ : ByteArray).size 2000000 = true := Nat.ble_eq_true_of_le hl
  simp only [signsP, this]
theorem signsC2 (l : List UInt8) (hl : l.length ≤ 2000000) (h : H) (K : Value → H → Prop) (hk : K (.bool (signs l)) h) : CallP E 19 [.string ⟨⟨l⟩⟩] h K := by
  refine CallP.memo (v := .bool (signs l)) ?_ (by rw [hE]; exact ⟨_, _, Tryz.func19, rfl⟩) hk
  rw [hE]
  show signsP [.string ⟨⟨l⟩⟩] = _
  have : isLe (⟨⟨l⟩⟩ : ByteArray).size 2000000 = true := Nat.ble_eq_true_of_le hl
  simp only [signsP, this]
theorem nUnesc (l : List UInt8) (hl : l.length ≤ 100000) (h : H) (K : Value → H → Prop) (hk : ∀ h', K (optV (unescape l)) h') : CallP E 51 [.string ⟨⟨l⟩⟩] h K := by
  refine CallP.ofE hE rfl Tryz.func51 rfl (Nat.le_of_ble_eq_true rfl) ?_
  have n0 := fun h K hk => wholeC2 hE l (by omega) h K hk
  have zB : zero E.P 47 = some (.agg #[.pointer none, .slice none 0 0]) := by rw [hE]; exact bZero
  have n1 := fun c l hl h K hk => cutC2 hE c l hl h K hk
  have n2 := fun b l t h' hb hl K hk => bWrite (hE ▸ bEnv2) b l t h h' hb hl K hk
  have n3 := fun b l h' hb hl K hk => bString (hE ▸ bEnv2) b l h h' hb hl K hk
  have n4 := fun l h K hk => meantC2 hE l h K hk
  clear hE
  unfold unescape at hk
  generalize signs l = A at n0 hk
  cases A
  · cbv
    refine .inl (n0 _ _ ?_)
    cbv
    exact ⟨_, rfl, hk _⟩
  have hk : ∀ h', K (optV (unesc l)) h' := hk
  cbv
  refine .inl (n0 _ _ ?_)
  cbv
  refine ⟨_, zB, ?_⟩
  cbv
  have hB : IsB h (h.push (.cells [.pointer none, .slice none 0 0] (some 47) true 0)) h.next [] := ⟨Nat.lt_succ_self _, Nat.le_refl _, (Grows.refl h).push _, .pointer none, .slice none 0 0, by rw [push_get, if_pos rfl], .inl rfl, .inl ⟨rfl, rfl⟩⟩
  refine LoopP.on (fun x : H × List UInt8 × List UInt8 => [(4, .pointer (some ⟨h.next, 0, none⟩)), (0, .string ⟨⟨x.2.2⟩⟩)]) (fun x => x.1) (fun x => IsB h x.1 h.next x.2.1 ∧ x.2.1.length + 4 * x.2.2.length ≤ 400000 ∧ unesc l = (unesc x.2.2).map (x.2.1 ++ ·)) (fun x => x.2.2.length) (h.push (.cells [.pointer none, .slice none 0 0] (some 47) true 0), [], l) rfl (Less.cons rfl (Less.cons rfl (Less.nil _))) ⟨hB, by simp; omega, by simp⟩ ?_
  rintro ⟨g, w, r⟩ ⟨i1, i2, i3⟩
  have i1 : IsB h g h.next w := i1
  have i2 : w.length + 4 * r.length ≤ 400000 := i2
  have i3 : unesc l = (unesc r).map (w ++ ·) := i3
  clear hB zB n0
  have n5 := fun h K hk => n1 38 r (by omega) h K hk
  unfold cutV at n5
  cases hc : cutB 38 r with
  | none =>
    simp only [hc] at n5
    rw [i3, unesc_none38 hc] at hk
    cbv
    refine .inl (n5 _ _ ?_)
    cbv
    refine .inl (n2 _ _ _ _ i1 (by omega) _ fun v g1 hb1 => ?_)
    cbv
    refine .inl (n3 _ _ _ hb1 (by simp; omega) _ fun g2 _ => ?_)
    cbv
    exact ⟨_, rfl, hk _⟩
  | some pq =>
    obtain ⟨p, q⟩ := pq
    simp only [hc] at n5
    obtain ⟨hr, hpn⟩ := cutB_some hc
    have hlen : r.length = p.length + q.length + 1 := by rw [hr]; simp; omega
    rw [unesc_cut hc] at i3
    have n6 := fun h K hk => n1 59 q (by omega) h K hk
    unfold cutV at n6
    cases hd : cutB 59 q with
    | none =>
      simp only [hd] at n6
      rw [i3, unesc_ampN q hd] at hk
      have n7 := fun h K hk => n4 q h K hk
      generalize entity q = o at n7
      cases o
      all_goals cbv
      all_goals (refine .inl (n5 _ _ ?_); cbv)
      all_goals (refine .inl (n2 _ _ _ _ i1 (by omega) _ fun v g1 hb1 => ?_); cbv)
      all_goals (refine .inl (n6 _ _ ?_); cbv)
      all_goals (refine .inl (n7 _ _ ?_); cbv)
      all_goals exact ⟨_, rfl, hk _⟩
    | some kb =>
      obtain ⟨k, b⟩ := kb
      simp only [hd] at n6
      obtain ⟨hq, hkn⟩ := cutB_some hd
      have hlen2 : q.length = k.length + b.length + 1 := by rw [hq]; simp; omega
      rw [unesc_ampS q k b hd] at i3
      have n7 := fun h K hk => n4 k h K hk
      have hel := fun x hx => entity_len (l := k) (x := x) hx
      generalize entity k = o at n7 i3 hel
      cases o with
      | none =>
        rw [i3] at hk
        cbv
        refine .inl (n5 _ _ ?_)
        cbv
        refine .inl (n2 _ _ _ _ i1 (by omega) _ fun v g1 hb1 => ?_)
        cbv
        refine .inl (n6 _ _ ?_)
        cbv
        refine .inl (n7 _ _ ?_)
        cbv
        exact ⟨_, rfl, hk _⟩
      | some x =>
        have hel := hel x rfl
        cbv
        refine .inl (n5 _ _ ?_)
        cbv
        refine .inl (n2 _ _ _ _ i1 (by omega) _ fun v g1 hb1 => ?_)
        cbv
        refine .inl (n6 _ _ ?_)
        cbv
        refine .inl (n7 _ _ ?_)
        cbv
        refine .inl (n2 _ _ _ _ hb1 (by simp; omega) _ fun v2 g2 hb2 => ?_)
        cbv
        refine ⟨(g2, (w ++ p) ++ x, b), Less.cons rfl (Less.cons rfl (Less.nil _)), rfl, ⟨hb2, (by show ((w ++ p) ++ x).length + 4 * b.length ≤ 400000; simp; omega), ?_⟩, (by show b.length < r.length; omega)⟩
        rw [i3]
        show ((((unesc b).map (x ++ ·)).map (p ++ ·)).map (w ++ ·)) = (unesc b).map (((w ++ p) ++ x) ++ ·)
        cases unesc b <;> simp
theorem rUnesc (l : List UInt8) (hl : l.length ≤ 100000) (h : H) (K : Value → H → Prop) (hk : ∀ h', K (optV (unescape l)) h') : CallP E 94 [.string ⟨⟨l⟩⟩] h K := by
  refine CallP.ofE hE rfl Tryz.func94 rfl (Nat.le_of_ble_eq_true rfl) ?_
  have hS : isString E.1 9 = true := by rw [hE]; exact stringT
  have n0 := fun h K hk => signsC2 hE l (by omega) h K hk
  have n4 := fun l h K hk => entityC2 hE l h K hk
  clear hE
  unfold unescape at hk
  generalize signs l = A at n0 hk
  cases A
  · cbv
    refine .inl (n0 _ _ ?_)
    cbv
    exact ⟨_, rfl, hk _⟩
  have hk : ∀ h', K (optV (unesc l)) h' := hk
  cbv
  refine .inl (n0 _ _ ?_)
  cbv
  refine LoopP.on (fun x : Nat × List UInt8 => [(5, .int .i64 (.ofNat x.1)), (4, .string ⟨⟨x.2⟩⟩), (0, .string ⟨⟨l⟩⟩)]) (fun _ => h) (fun x => x.1 ≤ l.length ∧ x.2.length ≤ 4 * x.1 ∧ unesc l = (unesc (l.drop x.1)).map (x.2 ++ ·)) (fun x => l.length - x.1) (0, []) rfl (Less.cons rfl (Less.cons rfl (Less.cons rfl (Less.nil _)))) ⟨Nat.zero_le _, Nat.le_refl _, by simp⟩ ?_
  rintro ⟨i, w⟩ ⟨i1, i2, i3⟩
  have i1 : i ≤ l.length := i1
  have i2 : w.length ≤ 4 * i := i2
  have i3 : unesc l = (unesc (l.drop i)).map (w ++ ·) := i3
  clear n0
  by_cases hi : i < l.length
  · have hb : Nat.le (Nat.add i 1) 4611686018427387904 := by show i + 1 ≤ _; omega
    have hd := drop_get hi
    by_cases hc : l.getD i 0 = 38
    · have hcn : (l.getD i 0).toNat = 38 := by rw [hc]; rfl
      rw [hd, hc] at i3
      cbv
      refine And.intro hS ?_
      refine And.intro (fun _ => ?_) (fun e => absurd e (by omega))
      cbv
      refine And.intro hS (And.intro hi ?_)
      rw [hcn]
      refine And.intro (fun _ => ?_) (fun e => absurd rfl e)
      cbv
      refine And.intro hb ?_
      refine LoopP.on (fun k : Nat => [(6, .int .i64 (.ofNat k)), (5, .int .i64 (.ofNat i)), (4, .string ⟨⟨w⟩⟩), (0, .string ⟨⟨l⟩⟩)]) (fun _ => h) (fun k => i + 1 ≤ k ∧ k ≤ l.length ∧ ∀ j, i + 1 ≤ j → j < k → l.getD j 0 ≠ 59) (fun k => l.length - k) (i + 1) rfl (Less.cons rfl (Less.cons rfl (Less.cons rfl (Less.cons rfl (Less.nil _))))) ⟨Nat.le_refl _, hi, by omega⟩ ?_
      rintro k ⟨k1, k2, k3⟩
      have hkb : Nat.le (Nat.add k 1) 4611686018427387904 := by show k + 1 ≤ _; omega
      by_cases hki : k < l.length
      · by_cases hkc : l.getD k 0 = 59
        · have hkn : (l.getD k 0).toNat = 59 := by rw [hkc]; rfl
          have hcut := cut_at k1 hki k3 hkc
          rw [unesc_ampS _ _ _ hcut] at i3
          have n5 := fun h K hk => n4 ((l.drop (i + 1)).take (k - (i + 1))) h K hk
          have n5 : ∀ (h : H) (K : Value → H → Prop), K (optV (entity ((l.drop (i + 1)).take (k - (i + 1))))) h → CallP E 110 [.string ⟨⟨(l.drop (Nat.add i 1)).take (Nat.sub k (Nat.add i 1))⟩⟩] h K := n5
          have hel := fun x hx => entity_len (l := (l.drop (i + 1)).take (k - (i + 1))) (x := x) hx
          generalize entity ((l.drop (i + 1)).take (k - (i + 1))) = o at n5 i3 hel
          have hne : ¬ k = l.length := by omega
          have k1' : Nat.le (Nat.add i 1) k := k1
          have hki' : Nat.le k l.length := k2
          cases o with
          | none =>
            rw [i3] at hk
            cbv
            refine And.intro hS ?_
            refine And.intro (fun _ => ?_) (fun e => absurd e (by omega))
            cbv
            refine And.intro hS (And.intro hki ?_)
            rw [hkn]
            refine And.intro (fun _ => ?_) (fun e => absurd rfl e)
            cbv
            refine And.intro hS ?_
            refine And.intro (fun e => absurd e hne) (fun _ => ?_)
            cbv
            refine And.intro hb (And.intro hS (And.intro k1' (And.intro hki' ?_)))
            refine .inl (n5 _ _ ?_)
            cbv
            exact ⟨_, rfl, hk _⟩
          | some x =>
            have hel := hel x rfl
            have hwx : Nat.le (Nat.add w.length x.length) 4611686018427387904 := by show w.length + x.length ≤ _; omega
            cbv
            refine And.intro hS ?_
            refine And.intro (fun _ => ?_) (fun e => absurd e (by omega))
            cbv
            refine And.intro hS (And.intro hki ?_)
            rw [hkn]
            refine And.intro (fun _ => ?_) (fun e => absurd rfl e)
            cbv
            refine And.intro hS ?_
            refine And.intro (fun e => absurd e hne) (fun _ => ?_)
            cbv
            refine And.intro hb (And.intro hS (And.intro k1' (And.intro hki' ?_)))
            refine .inl (n5 _ _ ?_)
            cbv
            refine And.intro hwx ?_
            refine And.intro hkb ?_
            refine ⟨(k + 1, w ++ x), Less.cons rfl (Less.cons rfl (Less.cons rfl (Less.nil _))), rfl, ⟨hki, (by show (w ++ x).length ≤ 4 * (k + 1); simp; omega), ?_⟩, (by show l.length - (k + 1) < l.length - i; omega)⟩
            rw [i3]
            show ((unesc (l.drop (k + 1))).map (x ++ ·)).map (w ++ ·) = (unesc (l.drop (k + 1))).map ((w ++ x) ++ ·)
            cases unesc (l.drop (k + 1)) <;> simp
        · have hkn : ¬ (l.getD k 0).toNat = 59 := fun e => hkc (UInt8.toNat_inj.1 e)
          cbv
          refine And.intro hS ?_
          refine And.intro (fun _ => ?_) (fun e => absurd e (by omega))
          cbv
          refine And.intro hS (And.intro hki ?_)
          refine And.intro (fun e => absurd e hkn) (fun _ => ?_)
          cbv
          refine And.intro hkb ?_
          refine ⟨k + 1, Less.cons rfl (Less.cons rfl (Less.cons rfl (Less.cons rfl (Less.nil _)))), rfl, ⟨(by omega), hki, fun j j1 j2 => ?_⟩, (by omega)⟩
          rcases Nat.lt_or_ge j k with q | q
          · exact k3 j j1 q
          · rw [show j = k by omega]; exact hkc
      · have hke : k = l.length := by omega
        subst hke
        have hcut := cut_end k3
        rw [unesc_ampN _ hcut] at i3
        rw [i3] at hk
        cbv
        refine And.intro hS ?_
        refine And.intro (fun e => absurd e (Nat.lt_irrefl _)) (fun _ => ?_)
        cbv
        refine And.intro hS ?_
        refine And.intro (fun _ => ?_) (fun e => absurd rfl e)
        cbv
        exact ⟨_, rfl, hk _⟩
    · have hcn : ¬ (l.getD i 0).toNat = 38 := fun e => hc (UInt8.toNat_inj.1 e)
      have ht : List.take (Nat.sub (Nat.add i 1) i) (List.drop i l) = [l.getD i 0] := take_one hi
      have hii : Nat.le i (Nat.add i 1) := Nat.le_succ i
      have hil : Nat.le (Nat.add i 1) l.length := hi
      have hwx : Nat.le (Nat.add w.length (Nat.add 0 1)) 4611686018427387904 := by show w.length + 1 ≤ _; omega
      rw [hd, unesc_other _ _ hc] at i3
      cbv
      refine And.intro hS ?_
      refine And.intro (fun _ => ?_) (fun e => absurd e (by omega))
      cbv
      refine And.intro hS (And.intro hi ?_)
      refine And.intro (fun e => absurd e hcn) (fun _ => ?_)
      cbv
      refine And.intro hb (And.intro hS (And.intro hii (And.intro hil ?_)))
      rw [ht]
      refine ⟨(by show w.length + 1 ≤ _; omega), hb, (i + 1, w ++ [l.getD i 0]), Less.cons rfl (Less.cons rfl (Less.cons rfl (Less.nil _))), rfl, ⟨hi, (by show (w ++ [l.getD i 0]).length ≤ 4 * (i + 1); simp; omega), ?_⟩, (by show l.length - (i + 1) < l.length - i; omega)⟩
      rw [i3]
      show ((unesc (l.drop (i + 1))).map (l.getD i 0 :: ·)).map (w ++ ·) = (unesc (l.drop (i + 1))).map ((w ++ [l.getD i 0]) ++ ·)
      cases unesc (l.drop (i + 1)) <;> simp
  · have hi : i = l.length := by omega
    rw [hi, List.drop_eq_nil_of_le (Nat.le_refl _), unesc_nil] at i3
    rw [i3] at hk
    have hk : ∀ h', K (.tuple #[.string ⟨⟨w⟩⟩, .bool true]) h' := by
      intro h'
      have := hk h'
      simp only [Option.map_some, List.append_nil] at this
      exact this
    cbv
    refine And.intro hS ?_
    refine And.intro (fun e => absurd e (by omega)) (fun _ => ?_)
    cbv
    exact ⟨_, rfl, hk _⟩
end
end Go.Proofs.YtfgemjpoiconbaaGreatDoor.GEv

/- The reference's Split and IsQual, by symbolic runs; the third environment: all of both packages is known. -/
namespace Go.Proofs.YtfgemjpoiconbaaGreatDoor.GEv
open Go
open Go.RowKit (Below)
set_option linter.unusedSimpArgs false
set_option linter.unusedVariables false
set_option maxRecDepth 100000
attribute [local cbv_opaque] isString isSlice isBoolT fOff iSize eqNil zero H.load H.store H.push H.dip H.put List.length List.getD Nat.add Nat.sub Nat.mul List.take List.drop UInt8.toNat isName
attribute [local cbv_eval] List.length_cons List.length_nil
section
variable {E : Env} (hE : E = EM)
include hE
theorem rSplit (l : List UInt8) (hl : l.length ≤ 1000000) (h : H) (K : Value → H → Prop) (hk : ∀ h', K (splitV l) h') : CallP E 39 [.string ⟨⟨l⟩⟩] h K := by
  refine CallP.ofE hE rfl Tryz.func39 rfl (Nat.le_of_ble_eq_true rfl) ?_
  have hS : isString E.1 9 = true := by rw [hE]; exact stringT
  clear hE
  unfold splitV at hk
  cbv
  refine LoopP.on (fun i : Nat => [(4, .int .i64 (.ofNat i)), (0, .string ⟨⟨l⟩⟩)]) (fun _ => h) (fun i => i ≤ l.length ∧ ∀ j, 0 ≤ j → j < i → l.getD j 0 ≠ 58) (fun i => l.length - i) 0 rfl (Less.cons rfl (Less.cons rfl (Less.nil _))) ⟨Nat.zero_le _, by omega⟩ ?_
  rintro i ⟨i1, i2⟩
  have hb : Nat.le (Nat.add i 1) 4611686018427387904 := by show i + 1 ≤ _; omega
  by_cases hi : i < l.length
  · by_cases hc : l.getD i 0 = 58
    · have hcn : (l.getD i 0).toNat = 58 := by rw [hc]; rfl
      have hcut := cut_at (Nat.zero_le i) hi i2 hc
      rw [List.drop_zero, Nat.sub_zero] at hcut
      rw [hcut] at hk
      have hl1 : Nat.le 0 i := Nat.zero_le _
      have hl2 : Nat.le i l.length := i1
      have hl3 : Nat.le (Nat.add i 1) l.length := hi
      have t1 : List.take (Nat.sub i 0) (List.drop 0 l) = l.take i := by show List.take (i - 0) _ = _; simp
      have t2 : List.take (Nat.sub l.length (Nat.add i 1)) (List.drop (Nat.add i 1) l) = l.drop (i + 1) := by
        show List.take (l.length - (i + 1)) (List.drop (i + 1) l) = _
        exact List.take_of_length_le (by rw [List.length_drop]; omega)
      cbv
      refine And.intro hS ?_
      refine And.intro (fun _ => ?_) (fun e => absurd e (by omega))
      cbv
      refine And.intro hS (And.intro hi ?_)
      rw [hcn]
      refine And.intro (fun _ => ?_) (fun e => absurd rfl e)
      cbv
      rw [t1, t2]
      exact ⟨hS, hl1, hl2, hb, hS, hl3, Nat.le_refl _, _, rfl, hk _⟩
    · have hcn : ¬ (l.getD i 0).toNat = 58 := fun e => hc (UInt8.toNat_inj.1 e)
      cbv
      refine And.intro hS ?_
      refine And.intro (fun _ => ?_) (fun e => absurd e (by omega))
      cbv
      refine And.intro hS (And.intro hi ?_)
      refine And.intro (fun e => absurd e hcn) (fun _ => ?_)
      cbv
      refine And.intro hb ?_
      refine ⟨i + 1, Less.cons rfl (Less.cons rfl (Less.nil _)), rfl, ⟨hi, fun j _ j2 => ?_⟩, (by omega)⟩
      rcases Nat.lt_or_ge j i with q | q
      · exact i2 j (Nat.zero_le _) q
      · rw [show j = i by omega]; exact hc
  · have hi : i = l.length := by omega
    subst hi
    have hcut := cut_end i2
    rw [List.drop_zero] at hcut
    rw [hcut] at hk
    cbv
    refine And.intro hS ?_
    refine And.intro (fun e => absurd e (Nat.lt_irrefl _)) (fun _ => ?_)
    cbv
    exact ⟨_, rfl, hk _⟩
theorem rQual (l : List UInt8) (hl : l.length ≤ 1000000) (h : H) (K : Value → H → Prop) (hk : ∀ h', K (.bool (isQual l)) h') : CallP E 21 [.string ⟨⟨l⟩⟩] h K := by
  refine CallP.ofE hE rfl Tryz.func21 rfl (Nat.le_of_ble_eq_true rfl) ?_
  have hS : isString E.1 9 = true := by rw [hE]; exact stringT
  have n0 := fun h K hk => rSplit hE l hl h K hk
  have n1 : ∀ (l : List UInt8) (h : H) (K : Value → H → Prop), K (.bool (isName l)) h → CallP E 40 [.string ⟨⟨l⟩⟩] h K := fun l h K hk => rIs hE ⟨⟨l⟩⟩ h K hk
  clear hE
  unfold splitV at n0
  unfold isQual at hk
  cases hc : cutB 58 l with
  | none =>
    simp only [hc] at n0 hk
    have n1 := fun h K hk => n1 l h K hk
    generalize isName l = a at n1 hk
    cbv
    refine .inl (n0 _ _ fun h' => ?_)
    cbv
    refine And.intro hS (And.intro hS ?_)
    refine And.intro (fun _ => ?_) (fun e => absurd rfl e)
    cbv
    refine .inl (n1 _ _ ?_)
    cbv
    exact ⟨_, rfl, hk _⟩
  | some pq =>
    obtain ⟨p, q⟩ := pq
    simp only [hc] at n0 hk
    have hne : ¬ q.length = l.length := by
      obtain ⟨e, _⟩ := cutB_some hc
      rw [e]
      simp
      omega
    have n2 := fun h K hk => n1 p h K hk
    have n3 := fun h K hk => n1 q h K hk
    clear n1
    generalize isName p = a at n2 hk
    generalize isName q = b at n3 hk
    cases a <;> cases b
    all_goals cbv
    all_goals (refine .inl (n0 _ _ fun h' => ?_); cbv; refine And.intro hS (And.intro hS ?_); refine And.intro (fun e => absurd e hne) (fun _ => ?_); cbv; refine .inl (n2 _ _ ?_); cbv)
    all_goals first
      | exact ⟨_, rfl, hk _⟩
      | (refine .inl (n3 _ _ ?_); cbv; exact ⟨_, rfl, hk _⟩)
end
def lenP (p : List UInt8 → Value) (m : Nat) : Prim
  | [.string s] => match isLe s.size m with
    | true => some (p s.data.toList)
    | _ => none
  | _ => none
def lenBP (p : List UInt8 → Bool → Value) (m : Nat) : Prim
  | [.string s, .bool b] => match isLe s.size m with
    | true => some (p s.data.toList b)
    | _ => none
  | _ => none
def escV (l : List UInt8) (a : Bool) : Value := .string ⟨⟨escape a l⟩⟩
def charP : Prim
  | [.int .i32 r] => some (.bool (sign r))
  | _ => none
def nameV (l : List UInt8) : Value := .bool (isName l)
def qualV (l : List UInt8) : Value := .bool (isQual l)
def signsV (l : List UInt8) : Value := .bool (signs l)
def unescV (l : List UInt8) : Value := optV (unescape l)
noncomputable def memo3 : List (FuncId × Prim) := [(15, always (.bool true))
  , (51, lenP unescV 100000)
  , (94, lenP unescV 100000)
  , (23, lenBP escV 10000)
  , (31, lenBP escV 10000)
  , (19, lenP signsV 2000000)
  , (81, lenP nameV 1000000)
  , (40, lenP nameV 1000000)
  , (66, lenP qualV 1000000)
  , (21, lenP qualV 1000000)
  , (39, lenP splitV 1000000)
  , (91, charP)
  , (36, charP)
  ]
noncomputable def EM3 : Env := ⟨Tryz.prog, none, some 61, some 111, memo3⟩
theorem splitV_flat (l : List UInt8) : flat2 (splitV l) = true := by
  unfold splitV
  cases cutB 58 l <;> rfl
theorem lenP_ok {E : Env} (h : E.OK) {f : FuncId} {p : List UInt8 → Value} {m : Nat} (hp0 : ∀ l, flat2 (p l) = true) (hf : ∀ l : List UInt8, l.length ≤ m → CallP E f [.string ⟨⟨l⟩⟩] h0 fun u _ => u = p l) (args : List Value) (v : Value) (hp : lenP p m args = some v) : args.all flat2 = true ∧ flat2 v = true ∧ ∀ w, WOK w → GN ≤ w.heap.size → Calls E.P f args.toArray w fun e w' => e = .returned v ∧ Below w.heap.size w w' := by
  unfold lenP at hp
  split at hp
  · rename_i s
    split at hp
    · rename_i hb
      cases hp
      obtain ⟨⟨l⟩⟩ := s
      exact ⟨rfl, hp0 _, fun w hw hs => calls_of h (hf l (Nat.le_of_ble_eq_true hb)) rfl (hp0 _) hw hs⟩
    · cases hp
  · cases hp
theorem lenBP_ok {E : Env} (h : E.OK) {f : FuncId} {p : List UInt8 → Bool → Value} {m : Nat} (hp0 : ∀ l b, flat2 (p l b) = true) (hf : ∀ (l : List UInt8) (b : Bool), l.length ≤ m → CallP E f [.string ⟨⟨l⟩⟩, .bool b] h0 fun u _ => u = p l b) (args : List Value) (v : Value) (hp : lenBP p m args = some v) : args.all flat2 = true ∧ flat2 v = true ∧ ∀ w, WOK w → GN ≤ w.heap.size → Calls E.P f args.toArray w fun e w' => e = .returned v ∧ Below w.heap.size w w' := by
  unfold lenBP at hp
  split at hp
  · rename_i s b
    split at hp
    · rename_i hb
      cases hp
      obtain ⟨⟨l⟩⟩ := s
      exact ⟨rfl, hp0 _ _, fun w hw hs => calls_of h (hf l b (Nat.le_of_ble_eq_true hb)) rfl (hp0 _ _) hw hs⟩
    · cases hp
  · cases hp
theorem charP_ok {E : Env} (h : E.OK) {f : FuncId} (hf : ∀ r : Int, CallP E f [.int .i32 r] h0 fun u _ => u = .bool (sign r)) (args : List Value) (v : Value) (hp : charP args = some v) : args.all flat2 = true ∧ flat2 v = true ∧ ∀ w, WOK w → GN ≤ w.heap.size → Calls E.P f args.toArray w fun e w' => e = .returned v ∧ Below w.heap.size w w' := by
  unfold charP at hp
  split at hp
  · rename_i r
    cases hp
    exact ⟨rfl, rfl, fun w hw hs => calls_of h (hf r) rfl rfl hw hs⟩
  · cases hp
theorem emok3 (h : EM.OK) : EM3.OK := by
  have h2 := emok2 h
  have h0 : PrimsOK Tryz.prog EM.memo := PrimsOK.of h
  have hl : PrimsOK Tryz.prog memo3 :=
    .cons (h0 _ _ (.head _)) <|
    .cons (lenP_ok h2 (fun l => optV_flat _) (fun l hl => nUnesc rfl l hl GEv.h0 _ fun _ => rfl)) <|
    .cons (lenP_ok h2 (fun l => optV_flat _) (fun l hl => rUnesc rfl l hl GEv.h0 _ fun _ => rfl)) <|
    .cons (lenBP_ok h (fun l b => rfl) (fun l b hl => nEscape rfl b l hl GEv.h0 _ rfl)) <|
    .cons (lenBP_ok h (fun l b => rfl) (fun l b hl => rEscape rfl b l hl GEv.h0 _ rfl)) <|
    .cons (lenP_ok h (fun l => rfl) (fun l hl => rSigns rfl l hl GEv.h0 _ fun _ => rfl)) <|
    .cons (lenP_ok h (fun l => rfl) (fun l hl => nIs rfl ⟨⟨l⟩⟩ GEv.h0 _ fun _ => rfl)) <|
    .cons (lenP_ok h (fun l => rfl) (fun l hl => rIs rfl ⟨⟨l⟩⟩ GEv.h0 _ rfl)) <|
    .cons (lenP_ok h (fun l => rfl) (fun l hl => nQual rfl l hl GEv.h0 _ fun _ => rfl)) <|
    .cons (lenP_ok h (fun l => rfl) (fun l hl => rQual rfl l hl GEv.h0 _ fun _ => rfl)) <|
    .cons (lenP_ok h splitV_flat (fun l hl => rSplit rfl l hl GEv.h0 _ fun _ => rfl)) <|
    .cons (charP_ok h (fun r => nChar rfl r GEv.h0 _ rfl)) <|
    .cons (charP_ok h (fun r => rChar rfl r GEv.h0 _ rfl)) <|
    .nil _
  exact ⟨fun f p args v hm hp => hl f p hm args v hp, h.mixed, h.names, h.clone, h.same, h.room⟩
section
variable {E : Env} (hE : E = EM3)
include hE
end
end Go.Proofs.YtfgemjpoiconbaaGreatDoor.GEv

