/- strings.Builder, by symbolic runs. -/
import Derived.Test.YtknhcgdhfndooaaDoorGNmJ
namespace Go.Proofs.YtknhcgdhfndooaaDoor.GEv
open Go
set_option linter.unusedSimpArgs false
set_option linter.unusedVariables false
/-- A builder that holds so many bytes. -/
structure IsB (h : H) (b : Nat) (l : List UInt8) : Prop where
  lt : b < h.next
  ex : ∃ p s, h.m.get b = some (.cells [p, s] (some 44) true 0) ∧ (p = .pointer none ∨ p = .pointer (some ⟨b, 0, none⟩)) ∧
    ((l = [] ∧ s = .slice none 0 0) ∨ (∃ r, r < h.next ∧ r ≠ b ∧ l ≠ [] ∧ s = .slice (some ⟨r, 0, none⟩) l.length (UNK + 1) ∧ h.m.get r = some (.cells (bytesV ⟨⟨l⟩⟩) (some 5) false 0)))
theorem bF0 : fOff EM2.P 44 0 = some 0 := by kernel_rfl
theorem bF1 : fOff EM2.P 44 1 = some 1 := by kernel_rfl
theorem bA : isAgg EM2.P 42 = some false := by kernel_rfl
theorem bZ : sizeOf EM2.P 42 = some 1 := by kernel_rfl
theorem sA : isAgg EM2.P 36 = some false := by kernel_rfl
theorem sZ : sizeOf EM2.P 36 = some 1 := by kernel_rfl
theorem bS : sizeOf EM2.P 44 = some 2 := by kernel_rfl
theorem bU : EM2.P.underlying 42 = some (.pointer 44) := by kernel_rfl
theorem uU : EM2.P.underlying 69 = some .unsafePointer := by kernel_rfl
theorem bZero : zero EM2.P 44 = some (.agg #[.pointer none, .slice none 0 0]) := by kernel_rfl
theorem bLies : liesAt EM2.P EM2.P.depth 44 (2 / EM2.P.cellsOf 44) 0 44 1 = true := by kernel_rfl
/-- A pointer asked whether it is nil. -/
theorem raw_isnil {E : Env} {l : L} {h : H} {dst ty pos after guard} {t yt e : TypeId} {x y : Operand} {K : Value → H → Prop} (hx : evL l x = some (.pointer none)) (hy : evL l y = some (.pointer none)) (ht : E.P.underlying t = some (.pointer e))
    (hk : K (.bool true) h) : RawP E l h ⟨dst, .binOp .eql t x y yt, ty, pos, after, guard⟩ K := ⟨fun tm hv => by
  refine OpP.val ?_ hk
  have q1 := evL_ok hv hx
  have q2 := evL_ok hv hy
  have h1 : allFlat tm [x, y] = true := by simp [allFlat, q1, q2, flat2, flat1, flat]
  have e1 : evA' tm x = .pointer none := by simp [evA', q1]
  have e2 : evA' tm y = .pointer none := by simp [evA', q2]
  have h0 : ∀ d, pureRun E.P (Op.equalIn (d + 1) t (.pointer none) (.pointer none)) = some true := by
    intro d
    simp only [Op.equalIn, Go.underlying, bind, Sem.bind, program, pureRun, ht, pure]
    rfl
  have h3 : pureRun E.P (Op.equal t (.pointer none) (.pointer none)) = some true := h0 9999
  have hg : pureRun E.P (eqGuard .eql t x y (.pointer none) (.pointer none)) = some () := rfl
  have h2 : pureRun E.P (execOp (evA' tm) ⟨dst, .binOp .eql t x y yt, ty, pos, after, guard⟩) = some (.value (.bool true)) := by
    simp only [execOp, e1, e2]
    have h4 : pureRun E.P (eqGuard .eql t x y (.pointer none) (.pointer none) >>= fun _ => binOp .eql t (.pointer none) (.pointer none)) = some (.bool true) := by
      rw [pureRun_bind _ hg]
      show pureRun E.P (Op.equal t (.pointer none) (.pointer none) >>= fun r => pure (Value.bool r)) = _
      rw [pureRun_bind _ h3]
      rfl
    rw [pureRun_bind _ h4]
    rfl
  have e0 : hBin E.P tm h ⟨dst, .binOp .eql t x y yt, ty, pos, after, guard⟩ .eql t x y = evPure E.P tm h ⟨dst, .binOp .eql t x y yt, ty, pos, after, guard⟩ := by
    rw [hBin_other q1 q2 (fun _ _ _ _ q => by cases q) (fun _ _ q => by cases q)]
    rfl
  simp only [evOp]
  rw [e0]
  simp only [evPure, Op.operands, h1, if_true, h2]
  rfl⟩
theorem raw_toUnsafe {E : Env} {l : L} {h : H} {dst ty pos after guard src t x} {a : Addr} {e : TypeId} {n : Nat} {c : List Value} {el f z} {K : Value → H → Prop} (hx : evL l x = some (.pointer (some a))) (h1 : E.P.underlying src = some (.pointer e)) (h2 : E.P.underlying t = some .unsafePointer) (h3 : sizeOf E.P e = some (n + 1))
    (hc : h.m.get a.block = some (.cells c el f z)) (ho : a.off < c.length) (hk : K (.pointer (some a)) h) : RawP E l h ⟨dst, .convert src t x, ty, pos, after, guard⟩ K :=
  ⟨fun tm hv => OpP.val (by
    have : Nat.blt a.off c.length = true := Nat.ble_eq_true_of_le ho
    simp only [evOp, hConv, evL_ok hv hx, h1, h2, hc, h3, this]) hk⟩
theorem raw_ofUnsafe {E : Env} {l : L} {h : H} {dst ty pos after guard src t x} {a : Addr} {u e : TypeId} {n : Nat} {c : List Value} {z} {K : Value → H → Prop} (hx : evL l x = some (.pointer (some a))) (h1 : E.P.underlying src = some .unsafePointer) (h2 : E.P.underlying t = some (.pointer u)) (h3 : sizeOf E.P u = some (n + 1))
    (hc : h.m.get a.block = some (.cells c (some e) true z)) (ho : liesAt E.P E.P.depth e (c.length / E.P.cellsOf e) a.off u 1 = true) (hk : K (.pointer (some a)) h) : RawP E l h ⟨dst, .convert src t x, ty, pos, after, guard⟩ K :=
  ⟨fun tm hv => OpP.val (by simp only [evOp, hConv, evL_ok hv hx, h1, h2, hc, h3, ho]) hk⟩
theorem raw_same {E : Env} {l : L} {h : H} {dst ty pos after guard f ts x} {v : Value} {fn : Func} {K : Value → H → Prop} (hx : evL l x = some v) (hf : E.P.funcs[f]? = some fn) (h2 : fn.body.isNone = true) (c1 : E.clone ≠ some f) (c2 : E.same = some f) (hk : K v h) :
    RawP E l h ⟨dst, .call ⟨.value (.func f), #[x], ts⟩, ty, pos, after, guard⟩ K := ⟨fun tm hv => by
  refine OpP.val ?_ hk
  have q1 := evL_ok hv hx
  have hb : fn.body = none := by simpa using h2
  have q0 : evA tm (.func f) = some (.func (.func f) #[] #[]) := rfl
  show hCallV E tm h _ (.func f) [x] = _
  simp only [hCallV, q0, evList, q1, evCall, hf, hb, if_neg c1, if_pos c2]
  rfl⟩
theorem uInfo : (EM2.P.info? 5).map (fun i => (i.size, i.bytes)) = some (1, 1) := by kernel_rfl
theorem uZero : zero EM2.P 5 = some (.int .u8 0) := by kernel_rfl
theorem bytes_one (l : List UInt8) : (bytesV ⟨⟨l⟩⟩).all one = true := by simp [bytesV, one]
theorem bytes_len (l : List UInt8) : (bytesV ⟨⟨l⟩⟩).length = l.length := by simp [bytesV]
theorem append_no {P : Program} {h : H} {s : Value} {a : Option Addr} {n c sT e : Nat} (hs : s = .slice a n c) (h1 : P.underlying sT = some (.slice e)) (h2 : (P.info? e).map (fun i => (i.size, i.bytes)) = some (1, 1)) (h3 : zero P e = some (.int .u8 0)) (hn : n ≤ 1000000)
    (hc : (a = none ∧ c = 0 ∧ n = 0) ∨ ∃ r, a = some ⟨r, 0, none⟩ ∧ c = UNK + 1) : append P h sT false s (.string ⟨⟨[]⟩⟩) = some (s, h) := by
  subst hs
  cases hi : P.info? e with
  | none => rw [hi] at h2; cases h2
  | some i =>
    rw [hi] at h2
    simp only [Option.map_some, Option.some.injEq, Prod.mk.injEq] at h2
    obtain ⟨i1, i2⟩ := h2
    have c0 : True ∧ 0 < i.size ∧ 0 < i.bytes ∧ (Value.int .u8 0).cells.toList.length = i.size ∧ ((n + 0) * 4 + 2048) * i.bytes ≤ 2 ^ 48 := ⟨trivial, by omega, by omega, by rw [i1]; rfl, by rw [i2]; omega⟩
    have c1 : ([] : List Value).length = 0 * i.size ∧ ([] : List Value).all one = true := by simp
    simp only [append, h1, hi, h3, lenV, show (⟨⟨[]⟩⟩ : ByteArray).size = 0 from rfl, if_pos c0, H.bears, show (⟨⟨[]⟩⟩ : ByteArray).data.toList = [] from rfl, List.map_nil, if_pos c1]
    rcases hc with ⟨rfl, rfl, rfl⟩ | ⟨r, rfl, rfl⟩
    · rfl
    · rw [if_neg (by decide)]
      simp [appendUnk]
theorem append_new {P : Program} {h : H} {t : List UInt8} {sT e : Nat} (h1 : P.underlying sT = some (.slice e)) (h2 : (P.info? e).map (fun i => (i.size, i.bytes)) = some (1, 1)) (h3 : zero P e = some (.int .u8 0)) (ht : t ≠ []) (hl : t.length ≤ 1000000) :
    append P h sT false (.slice none 0 0) (.string ⟨⟨t⟩⟩) = some (.slice (some ⟨h.next, 0, none⟩) t.length (UNK + 1), h.push (.cells (bytesV ⟨⟨t⟩⟩) (some e) false 0)) := by
  cases hi : P.info? e with
  | none => rw [hi] at h2; cases h2
  | some i =>
    rw [hi] at h2
    simp only [Option.map_some, Option.some.injEq, Prod.mk.injEq] at h2
    obtain ⟨i1, i2⟩ := h2
    have hpos : 0 < t.length := List.length_pos_iff.2 ht
    have c0 : True ∧ 0 < i.size ∧ 0 < i.bytes ∧ (Value.int .u8 0).cells.toList.length = i.size ∧ ((0 + t.length) * 4 + 2048) * i.bytes ≤ 2 ^ 48 := ⟨trivial, by omega, by omega, by rw [i1]; rfl, by rw [i2]; omega⟩
    have c1 : (bytesV ⟨⟨t⟩⟩).length = t.length * i.size ∧ (bytesV ⟨⟨t⟩⟩).all one = true := ⟨by rw [bytes_len, i1, Nat.mul_one], bytes_one t⟩
    have e1 : (⟨⟨t⟩⟩ : ByteArray).size = t.length := rfl
    have e2 : ((⟨⟨t⟩⟩ : ByteArray).data.toList.map fun b => Value.int .u8 (b.toNat : Int)) = bytesV ⟨⟨t⟩⟩ := rfl
    simp only [append, h1, hi, h3, lenV, e1, if_pos c0, H.bears, e2, if_pos c1]
    rw [if_pos (by decide), appendKnown, if_neg (by omega)]
    simp only [H.bears, if_true, List.nil_append, Nat.zero_add, i1]
theorem append_more {P : Program} {h : H} {l t : List UInt8} {r sT e : Nat} (h1 : P.underlying sT = some (.slice e)) (h2 : (P.info? e).map (fun i => (i.size, i.bytes)) = some (1, 1)) (h3 : zero P e = some (.int .u8 0)) (ht : t ≠ []) (hl : l.length + t.length ≤ 1000000)
    (hr : h.m.get r = some (.cells (bytesV ⟨⟨l⟩⟩) (some e) false 0)) :
    append P h sT false (.slice (some ⟨r, 0, none⟩) l.length (UNK + 1)) (.string ⟨⟨t⟩⟩) = some (.slice (some ⟨h.next, 0, none⟩) (l.length + t.length) (UNK + 1), (h.put r none).push (.cells (bytesV ⟨⟨l ++ t⟩⟩) (some e) false 0)) := by
  cases hi : P.info? e with
  | none => rw [hi] at h2; cases h2
  | some i =>
    rw [hi] at h2
    simp only [Option.map_some, Option.some.injEq, Prod.mk.injEq] at h2
    obtain ⟨i1, i2⟩ := h2
    have hpos : 0 < t.length := List.length_pos_iff.2 ht
    have c0 : True ∧ 0 < i.size ∧ 0 < i.bytes ∧ (Value.int .u8 0).cells.toList.length = i.size ∧ ((l.length + t.length) * 4 + 2048) * i.bytes ≤ 2 ^ 48 := ⟨trivial, by omega, by omega, by rw [i1]; rfl, by rw [i2]; omega⟩
    have c1 : (bytesV ⟨⟨t⟩⟩).length = t.length * i.size ∧ (bytesV ⟨⟨t⟩⟩).all one = true := ⟨by rw [bytes_len, i1, Nat.mul_one], bytes_one t⟩
    have e1 : (⟨⟨t⟩⟩ : ByteArray).size = t.length := rfl
    have e2 : ((⟨⟨t⟩⟩ : ByteArray).data.toList.map fun b => Value.int .u8 (b.toNat : Int)) = bytesV ⟨⟨t⟩⟩ := rfl
    have e3 : bytesV ⟨⟨l ++ t⟩⟩ = bytesV ⟨⟨l⟩⟩ ++ bytesV ⟨⟨t⟩⟩ := by simp [bytesV]
    have e4 : cut (bytesV ⟨⟨l⟩⟩) 0 (l.length * i.size) = some (bytesV ⟨⟨l⟩⟩) := by
      unfold cut
      rw [i1, Nat.mul_one, if_pos (by rw [bytes_len]; omega), List.drop_zero, List.take_of_length_le (by rw [bytes_len]; omega)]
    simp only [append, h1, hi, h3, lenV, e1, if_pos c0, H.bears, e2, if_pos c1]
    rw [if_neg (by decide)]
    simp only [appendUnk, hr, i1, Option.isNone_none, if_true]
    rw [if_neg (by omega), if_pos (by omega)]
    rw [i1] at e4
    rw [e4]
    simp only [e3, Nat.sub_zero]
theorem raw_append {E : Env} {l : L} {h h' : H} {dst ty pos after guard x y} {sT xT : TypeId} {s v w : Value} {K : Value → H → Prop} (hx : evL l x = some s) (hy : evL l y = some v) (hu : E.P.underlying xT = some .string) (ha : append E.P h sT false s v = some (w, h')) (hk : K w h') :
    RawP E l h ⟨dst, .call ⟨.builtin .append, #[x, y], #[sT, xT]⟩, ty, pos, after, guard⟩ K := ⟨fun tm hv => by
  refine OpP.val ?_ hk
  show hCallB E.P tm h _ _ _ = _
  have q : evList tm [x, y] = some [s, v] := by simp only [evList, evL_ok hv hx, evL_ok hv hy]
  have q' : evList tm (#[x, y] : Array Operand).toList = some [s, v] := q
  simp only [hCallB, q', evBuiltin]
  show (match E.P.underlying xT with
    | some (.int _) => none
    | some _ => pairR (append E.P h sT false s v)
    | none => none) = _
  rw [hu, ha]
  rfl⟩
theorem sameB : (Tryd.f54 : Func).body.isNone = true := by kernel_rfl
theorem put_get_self (h : H) (b : Nat) (o : Option AObj) : (h.put b o).m.get b = o := by rw [put_get, if_pos rfl]
set_option maxRecDepth 100000
attribute [local cbv_opaque] isString isSlice isBoolT fOff iSize eqNil zero H.load H.store H.push H.dip H.put List.length List.getD Nat.add
section
variable {E : Env} (hE : E = EM2)
include hE
theorem bCheck (b : Nat) (l : List UInt8) (h : H) (hb : IsB h b l) (K : Value → H → Prop) (hk : ∀ h', IsB h' b l → K (.tuple #[]) h') : CallP E 44 [.pointer (some ⟨b, 0, none⟩)] h K := by
  refine CallP.ofE hE rfl Tryd.func44 rfl (Nat.le_of_ble_eq_true rfl) ?_
  have f0 : fOff E.P 44 0 = some 0 := by rw [hE]; exact bF0
  have a0 : isAgg E.P 42 = some false := by rw [hE]; exact bA
  have z0 : sizeOf E.P 42 = some 1 := by rw [hE]; exact bZ
  have s0 : sizeOf E.P 44 = some 2 := by rw [hE]; exact bS
  have u0 : E.P.underlying 42 = some (.pointer 44) := by rw [hE]; exact bU
  have u1 : E.P.underlying 69 = some .unsafePointer := by rw [hE]; exact uU
  obtain ⟨p, s, g, hp, hs⟩ := hb.ex
  have ld : h.load E.P 42 ⟨b, 0, none⟩ = some p := by
    simp only [H.load, a0, z0, H.read, g, cut]
    rfl
  have st : h.store E.P 42 ⟨b, 0, none⟩ (.pointer (some ⟨b, 0, none⟩)) = some (h.put b (some (.cells [.pointer (some ⟨b, 0, none⟩), s] (some 44) true 0))) := by
    simp only [H.store, z0, H.write, g]
    rfl
  have hf : E.P.funcs[54]? = some Tryd.f54 := by rw [hE]; exact Tryd.func54
  have c1 : E.clone ≠ some 54 := by rw [hE]; decide
  have c2 : E.same = some 54 := by rw [hE]; rfl
  have hl : liesAt E.P E.P.depth 44 (2 / E.P.cellsOf 44) 0 44 1 = true := by rw [hE]; exact bLies
  rcases hp with rfl | rfl
  · have hN := fun q dst ty pos after guard x y yt K hx hy hk => raw_isnil (E := E) (l := q) (h := h) (dst := dst) (ty := ty) (pos := pos) (after := after) (guard := guard) (t := 42) (x := x) (y := y) (yt := yt) (K := K) hx hy u0 hk
    clear hE
    cbv
    refine ⟨0, f0, ?_⟩
    cbv
    refine ⟨_, ld, ?_⟩
    cbv
    refine hN _ _ _ _ _ _ _ _ _ _ rfl rfl ?_
    cbv
    refine raw_toUnsafe rfl u0 u1 s0 g (Nat.succ_pos _) ?_
    cbv
    refine .inr (raw_same rfl hf sameB c1 c2 ?_)
    cbv
    refine raw_ofUnsafe rfl u1 u0 s0 g hl ?_
    cbv
    refine ⟨0, f0, ?_⟩
    cbv
    refine ⟨_, st, ?_⟩
    cbv
    exact ⟨_, rfl, hk _ ⟨hb.lt, _, _, put_get_self .., .inr rfl, by
      rcases hs with hs | ⟨r, r1, r2, r0, r3, r4⟩
      · exact .inl hs
      · exact .inr ⟨r, r1, r2, r0, r3, by rw [put_get, if_neg r2]; exact r4⟩⟩⟩
  · have e1 : eqNil E.P 42 (.pointer (some ⟨b, 0, none⟩)) (.pointer none) = some false := by simp only [eqNil, u0]; rfl
    have e2 : eqNil E.P 42 (.pointer (some ⟨b, 0, none⟩)) (.pointer (some ⟨b, 0, none⟩)) = some true := by simp only [eqNil, u0, s0]; simp
    clear hE
    cbv
    refine ⟨0, f0, ?_⟩
    cbv
    refine ⟨_, ld, ?_⟩
    cbv
    refine ⟨_, e1, ?_⟩
    cbv
    refine ⟨0, f0, ?_⟩
    cbv
    refine ⟨_, ld, ?_⟩
    cbv
    refine ⟨_, e2, ?_⟩
    cbv
    exact ⟨_, rfl, hk _ hb⟩
theorem bWrite (b : Nat) (l t : List UInt8) (h : H) (hb : IsB h b l) (hl : l.length + t.length ≤ 1000000) (K : Value → H → Prop) (hk : ∀ v h', IsB h' b (l ++ t) → K v h') : CallP E 31 [.pointer (some ⟨b, 0, none⟩), .string ⟨⟨t⟩⟩] h K := by
  refine CallP.ofE hE rfl Tryd.func31 rfl (Nat.le_of_ble_eq_true rfl) ?_
  have hS : isString E.1 9 = true := by rw [hE]; exact stringT
  have f1 : fOff E.P 44 1 = some 1 := by rw [hE]; exact bF1
  have a0 : isAgg E.P 36 = some false := by rw [hE]; exact sA
  have z0 : sizeOf E.P 36 = some 1 := by rw [hE]; exact sZ
  have u0 : E.P.underlying 36 = some (.slice 5) := by rw [hE]; exact bytesU
  have u1 : E.P.underlying 9 = some .string := by rw [hE]; exact stringU
  have i0 : (E.P.info? 5).map (fun i => (i.size, i.bytes)) = some (1, 1) := by rw [hE]; exact uInfo
  have v0 : zero E.P 5 = some (.int .u8 0) := by rw [hE]; exact uZero
  have n1 := fun K hk => bCheck hE b l h hb K hk
  clear hE hb
  cbv
  refine .inl (n1 _ fun g hb => ?_)
  obtain ⟨p, s, hg, hp, hs⟩ := hb.ex
  have ld : g.load E.P 36 ⟨b, 1, none⟩ = some s := by
    simp only [H.load, a0, z0, H.read, hg, cut]
    rfl
  /- what the append hands back -/
  have ha : ∃ s' g', append E.P g 36 false s (.string ⟨⟨t⟩⟩) = some (s', g') ∧ s'.cells.toList = [s'] ∧ one s' = true ∧ g'.m.get b = g.m.get b ∧ b < g'.next ∧
      ((l ++ t = [] ∧ s' = .slice none 0 0) ∨ (∃ r, r < g'.next ∧ r ≠ b ∧ l ++ t ≠ [] ∧ s' = .slice (some ⟨r, 0, none⟩) (l ++ t).length (UNK + 1) ∧ g'.m.get r = some (.cells (bytesV ⟨⟨l ++ t⟩⟩) (some 5) false 0))) := by
    have hlt := hb.lt
    by_cases ht : t = []
    · subst ht
      rcases hs with ⟨rfl, rfl⟩ | ⟨r, r1, r2, r0, rfl, r4⟩
      · exact ⟨_, g, append_no rfl u0 i0 v0 (by simp) (.inl ⟨rfl, rfl, rfl⟩), rfl, rfl, rfl, hlt, .inl ⟨rfl, rfl⟩⟩
      · exact ⟨_, g, append_no rfl u0 i0 v0 (by simp at hl; omega) (.inr ⟨r, rfl, rfl⟩), rfl, rfl, rfl, hlt, .inr ⟨r, r1, r2, by rw [List.append_nil]; exact r0, by rw [List.append_nil], by rw [List.append_nil]; exact r4⟩⟩
    · rcases hs with ⟨rfl, rfl⟩ | ⟨r, r1, r2, r0, rfl, r4⟩
      · exact ⟨_, _, append_new u0 i0 v0 ht (by simpa using hl), rfl, rfl, by rw [push_get, if_neg (by omega)], by show b < g.next + 1; omega, .inr ⟨g.next, Nat.lt_succ_self _, by omega, by simpa using ht, rfl, by rw [push_get, if_pos rfl]; rfl⟩⟩
      · exact ⟨_, _, append_more u0 i0 v0 ht hl r4, rfl, rfl, by rw [push_get, if_neg (by show ¬ b = g.next; omega), put_get, if_neg (fun e => r2 e.symm)], by show b < g.next + 1; omega, .inr ⟨g.next, Nat.lt_succ_self _, by omega, by simp [ht], by rw [List.length_append], by rw [push_get, put_next, if_pos rfl]⟩⟩
  obtain ⟨s', g', ha, k1, k2, k3, k4, k5⟩ := ha
  have st : g'.store E.P 36 ⟨b, 1, none⟩ s' = some (g'.put b (some (.cells [p, s'] (some 44) true 0))) := by
    simp only [H.store, z0, H.write, k3, hg, k1]
    simp [k2, over]
  clear n1
  cbv
  refine ⟨1, f1, ?_⟩
  cbv
  refine ⟨_, ld, ?_⟩
  cbv
  refine raw_append rfl rfl u1 ha ?_
  cbv
  refine ⟨1, f1, ?_⟩
  cbv
  refine ⟨_, st, ?_⟩
  cbv
  refine And.intro hS ?_
  cbv
  refine ⟨_, rfl, hk _ _ ⟨k4, p, s', put_get_self .., hp, ?_⟩⟩
  rcases k5 with k5 | ⟨r, r1, r2, r0, r3, r4⟩
  · exact .inl k5
  · exact .inr ⟨r, r1, r2, r0, r3, by rw [put_get, if_neg r2]; exact r4⟩
end
end Go.Proofs.YtknhcgdhfndooaaDoor.GEv
