/- 'NameSigns', by a symbolic run: a text with what is no sign stands for nothing. -/
import Derived.Test.YtknhcgdhfndooaaDoorGNmK
import Derived.Test.YtknhcgdhfndooaaDoorGNmW
namespace Go.Proofs.YtknhcgdhfndooaaDoor.GEv
open Go
open Go.RowKit (Below)
set_option linter.unusedSimpArgs false
set_option linter.unusedVariables false
theorem raw_unbytes {E : Env} {l : L} {h : H} {dst ty pos after guard} {K : Value → H → Prop} {src t e : TypeId} {x : Operand} {a : Addr} {n c : Nat} {vs : List Value} {bs : List UInt8} (hx : evL l x = some (.slice (some a) (n + 1) c)) (h1 : E.P.underlying src = some (.slice e)) (h2 : E.P.underlying t = some .string) (h3 : E.P.underlying e = some (.int .u8))
    (hr : h.read a.block a.off (n + 1) = some vs) (hb : bytesOf vs = some bs) (hk : K (.string ⟨bs.toArray⟩) h) : RawP E l h ⟨dst, .convert src t x, ty, pos, after, guard⟩ K := ⟨fun tm hv => by
  refine OpP.val ?_ hk
  have q1 := evL_ok hv hx
  simp only [evOp, hConv, q1, h1, h2, hOfBytes, h3, hr, hb]⟩
/-- Which bytes are signs. -/
def okB (c : Nat) : Bool := (decide (32 ≤ c) && decide (c < 128)) || decide (c = 9) || decide (c = 10) || decide (c = 13)
theorem esc_false {c : UInt8} (h1 : c ≠ 38) (h2 : c ≠ 60) (h3 : c ≠ 62) : esc false c = [c] := by
  unfold esc
  rw [if_neg h1, if_neg h2, if_neg h3]
  simp
theorem sign_ascii {c : Nat} (hc : c < 128) : sign (.ofNat c) = okB c := by
  rw [Bool.eq_iff_iff]
  simp [sign, okB]
  omega
theorem signs_last {l : List UInt8} {c : UInt8} (hl : signs l = true) : signs (escape false (l ++ [c])) = okB c.toNat ∧ (okB c.toNat = true → signs (l ++ [c]) = true) := by
  by_cases hc : c.toNat < 128
  · have h1 : signs [c] = okB c.toNat := by
      rw [signs_cons c [] hc, sign_ascii hc, signs_nil, Bool.and_true]
    refine ⟨?_, fun h => by rw [signs_join hl, h1]; exact h⟩
    rw [escape_append, signs_join (signs_esc_of hl)]
    have e : escape false [c] = esc false c := by simp [escape]
    rw [e]
    by_cases hs : okB c.toNat = true
    · rw [hs, signs_esc false c hc (by rw [sign_ascii hc]; exact hs)]
    · have n1 : c ≠ 38 := by rintro rfl; exact hs (by decide)
      have n2 : c ≠ 60 := by rintro rfl; exact hs (by decide)
      have n3 : c ≠ 62 := by rintro rfl; exact hs (by decide)
      rw [esc_false n1 n2 n3, h1]
  · have h0 : okB c.toNat = false := by
      rw [Bool.eq_false_iff]
      simp [okB]
      omega
    refine ⟨?_, fun h => by rw [h0] at h; cases h⟩
    rw [escape_append, signs_join (signs_esc_of hl), h0]
    have e : escape false [c] = esc false c := by simp [escape]
    rw [e, esc_high false c (by omega)]
    exact signs_one c (by omega)
theorem unesc_last {l : List UInt8} {c : UInt8} (hl : signs l = true) : ∃ y, optV (unescape (escape false (l ++ [c]))) = .tuple #[.string ⟨⟨y⟩⟩, .bool (okB c.toNat)] := by
  obtain ⟨h1, h2⟩ := signs_last (c := c) hl
  cases hb : okB c.toNat with
  | true =>
    rw [unescape_escape false _ (h2 hb)]
    exact ⟨_, rfl⟩
  | false =>
    rw [hb] at h1
    unfold unescape
    rw [h1]
    exact ⟨[], rfl⟩
theorem u8_of {n : Int} (w : (Lit.int .u8 n).wf = true) : ∃ c, c < 256 ∧ n = .ofNat c := by
  simp only [Lit.wf, Bool.and_eq_true, decide_eq_true_eq] at w
  have h1 : (0 : Int) ≤ n := w.1
  have h2 : n ≤ 255 := w.2
  exact ⟨n.toNat, by omega, (Int.toNat_of_nonneg h1).symm⟩
theorem u8Zero : zero EM.P 5 = some (.int .u8 0) := by kernel_rfl
set_option maxRecDepth 100000
attribute [local cbv_opaque] isString isSlice isBoolT fOff iSize eqNil zero H.load H.store H.push H.dip H.put List.length List.getD Nat.add Nat.sub Nat.mul List.take List.drop UInt8.toNat isName escape List.append okB UInt8.ofNat
attribute [local cbv_eval] List.length_cons List.length_nil
section
variable {E : Env} (hE : E = EM3)
include hE
theorem nameSigns (s : ByteArray) (c : Nat) (hc : c < 256) (h : H) : CallP E 9 [.string s, .int .u8 (.ofNat c)] h (fun v _ => v = .bool true) := by
  refine CallP.ofE hE rfl Tryd.func9 rfl (Nat.le_of_ble_eq_true rfl) ?_
  have hS : isString E.1 9 = true := by rw [hE]; exact stringT
  have hB : isBoolT E.1 4 = true := by rw [hE]; exact boolT
  have r1 : E.P.underlying 36 = some (.slice 5) := by rw [hE]; exact bytesU
  have r2 : zero E.P 5 = some (.int .u8 0) := by rw [hE]; exact u8Zero
  have r3 : sizeOf E.P 5 = some 1 := by rw [hE]; exact byteZ
  have u8 : E.P.underlying 5 = some (.int .u8) := by rw [hE]; exact u8U
  have uS : E.P.underlying 9 = some .string := by rw [hE]; exact stringU
  obtain ⟨⟨l⟩⟩ := s
  by_cases hl : 100 < l.length
  · clear hE
    cbv
    refine And.intro hS ?_
    refine And.intro (fun _ => ?_) (fun e => absurd hl (Nat.not_lt.2 e))
    cbv
    exact ⟨_, rfl, rfl⟩
  have s1 := fun h K hk => rSignsC hE l (by omega) h K hk
  have e1 := fun h K hk => nEscC hE (l ++ [UInt8.ofNat c]) false (by simp; omega) h K hk
  have hle := escape_len false (l ++ [UInt8.ofNat c])
  have hlm : (l ++ [UInt8.ofNat c]).length = l.length + 1 := by simp
  have u1 := fun h K hk => nUnescC hE (escape false (l ++ [UInt8.ofNat c])) (by omega) h K hk
  have kn := fun h K hk => knownC hE h K hk
  clear hE
  have hun := unesc_last (l := l) (c := UInt8.ofNat c)
  rw [show (UInt8.ofNat c).toNat = c by simp; omega] at hun
  have hbo : bytesOf [.int .u8 (.ofNat c)] = some [UInt8.ofNat c] := by
    have : Nat.ble c 255 = true := Nat.ble_eq_true_of_le (by omega)
    simp only [bytesOf, this]
  have hadd : Nat.le (Nat.add l.length (Nat.add 0 1)) 4611686018427387904 := by show l.length + 1 ≤ _; omega
  generalize signs l = b at s1 hun
  cases b
  · cbv
    refine And.intro hS ?_
    refine And.intro (fun e => absurd e hl) (fun _ => ?_)
    cbv
    refine .inl (s1 _ _ ?_)
    cbv
    exact ⟨_, rfl, rfl⟩
  obtain ⟨y, hun⟩ := hun rfl
  rw [hun] at u1
  have hok : okB c = ((decide (32 ≤ c) && decide (c < 128)) || decide (c = 9) || decide (c = 10) || decide (c = 13)) := rfl
  generalize okB c = o at u1 hok
  clear hun
  cbv
  refine And.intro hS ?_
  refine And.intro (fun e => absurd e hl) (fun _ => ?_)
  cbv
  refine .inl (s1 _ _ ?_)
  cbv
  repeat' (refine And.intro (fun h1 => ?_) (fun h1 => ?_) <;> cbv)
  all_goals (refine raw_buildSlice rfl r1 r2 r3 (c := [.int .u8 (.ofNat c)]) (by decide) rfl ?_; cbv)
  all_goals (refine raw_unbytes rfl r1 uS u8 (read_one _ _ _) hbo ?_; cbv)
  all_goals (refine And.intro hadd ?_; refine .inl (e1 _ _ ?_); cbv; refine .inl (u1 _ _ ?_); clear u1)
  all_goals first
    | (have ho : o = true := by (rw [hok]; simp; omega))
    | (have ho : o = false := by (rw [hok]; simp; omega))
  all_goals (subst ho; cbv; refine And.intro hB ?_; cbv; refine .inl (kn _ _ ?_); cbv; exact ⟨_, rfl, rfl⟩)
end
theorem nameSigns_calls (a0 : ByteArray) (w0 : a0.size ≤ 140737488351232) (a1 : Int) (w1 : (Lit.int .u8 a1).wf = true) (W : World) (hL : laidMetH Tryd.prog Rows.nameSignsRow.laid W) (hS : W.ShapedOpen Tryd.prog) : Calls Tryd.prog 9 #[.string a0, .int .u8 a1] W fun e W' => e = .returned (.bool true) ∧ Below W.heap.size W W' := by
  obtain ⟨c, hc, rfl⟩ := u8_of w1
  exact calls_of emok3' (nameSigns rfl a0 c hc h0) rfl rfl (wok_of hL hS) (size_of hS)
end Go.Proofs.YtknhcgdhfndooaaDoor.GEv
