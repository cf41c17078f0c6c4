/- Numbers in texts, by symbolic runs: arithmetic that the runs do not reckon, conversions. -/
import Derived.Test.YtknhcgdhfndooaaDoorGNmP
namespace Go.Proofs.YtknhcgdhfndooaaDoor.GEv
open Go
set_option linter.unusedSimpArgs false
set_option linter.unusedVariables false
theorem flat2_of1 {v : Value} (h : flat1 v = true) : flat2 v = true := by
  cases v <;> first | exact h | (simp [flat1, flat] at h; done)
section raws
variable {E : Env} {l : L} {h : H} {dst : Option Nat} {ty pos after guard} {K : Value → H → Prop}
theorem raw_bin {op : BinOp} {t : TypeId} {yt} {x y : Operand} {k k' : IntKind} {a b : Int} {v : Value} (hx : evL l x = some (.int k a)) (hy : evL l y = some (.int k' b))
    (hc : icmp op a b = none) (hi : iar k op a b = none) (hg : pureRun E.P (eqGuard op t x y (.int k a) (.int k' b)) = some ()) (hb : pureRun E.P (binOp op t (.int k a) (.int k' b)) = some v) (hf : flat2 v = true) (hk : K v h) :
    RawP E l h ⟨dst, .binOp op t x y yt, ty, pos, after, guard⟩ K := ⟨fun tm hv => by
  refine OpP.val ?_ hk
  have q1 := evL_ok hv hx
  have q2 := evL_ok hv hy
  have e1 : evA' tm x = .int k a := by simp [evA', q1]
  have e2 : evA' tm y = .int k' b := by simp [evA', q2]
  have h1 : allFlat tm [x, y] = true := by simp [allFlat, q1, q2, flat2, flat1, flat]
  have h2 : pureRun E.P (execOp (evA' tm) ⟨dst, .binOp op t x y yt, ty, pos, after, guard⟩) = some (.value v) := by
    simp only [execOp, e1, e2]
    have h4 : pureRun E.P (eqGuard op t x y (.int k a) (.int k' b) >>= fun _ => binOp op t (.int k a) (.int k' b)) = some v := by
      rw [pureRun_bind _ hg]; exact hb
    rw [pureRun_bind _ h4]
    rfl
  have e0 : evPure E.P tm h ⟨dst, .binOp op t x y yt, ty, pos, after, guard⟩ = some (.val v h) := by
    simp only [evPure, Op.operands, h1, if_true, h2, hf]
  simp only [evOp, hBin, q1, q2, hInt, hc, hi, e0]
  cases kEq k k' <;> rfl⟩
theorem raw_mul {t : TypeId} {yt} {x y : Operand} {k : IntKind} {a b r : Int} (hx : evL l x = some (.int k a)) (hy : evL l y = some (.int k b)) (hi : iar k .mul a b = none) (hw : k.wrap (a * b) = r) (hk : K (.int k r) h) :
    RawP E l h ⟨dst, .binOp .mul t x y yt, ty, pos, after, guard⟩ K :=
  raw_bin hx hy rfl hi rfl (v := .int k r) (by simp [binOp, Op.intArith, pureRun, bind, pure, Sem.bind, hw]) rfl hk
theorem raw_add {t : TypeId} {yt} {x y : Operand} {k : IntKind} {a b r : Int} (hx : evL l x = some (.int k a)) (hy : evL l y = some (.int k b)) (hi : iar k .add a b = none) (hw : k.wrap (a + b) = r) (hk : K (.int k r) h) :
    RawP E l h ⟨dst, .binOp .add t x y yt, ty, pos, after, guard⟩ K :=
  raw_bin hx hy rfl hi rfl (v := .int k r) (by simp [binOp, Op.intArith, pureRun, bind, pure, Sem.bind, hw]) rfl hk
theorem raw_sub {t : TypeId} {yt} {x y : Operand} {k : IntKind} {a b r : Int} (hx : evL l x = some (.int k a)) (hy : evL l y = some (.int k b)) (hi : iar k .sub a b = none) (hw : k.wrap (a - b) = r) (hk : K (.int k r) h) :
    RawP E l h ⟨dst, .binOp .sub t x y yt, ty, pos, after, guard⟩ K :=
  raw_bin hx hy rfl hi rfl (v := .int k r) (by simp [binOp, Op.intArith, pureRun, bind, pure, Sem.bind, hw]) rfl hk
theorem raw_or {t : TypeId} {yt} {x y : Operand} {k : IntKind} {a b r : Int} (hx : evL l x = some (.int k a)) (hy : evL l y = some (.int k b)) (hw : k.wrap ((BitVec.ofInt k.bits a ||| BitVec.ofInt k.bits b).toNat : Int) = r) (hk : K (.int k r) h) :
    RawP E l h ⟨dst, .binOp .or t x y yt, ty, pos, after, guard⟩ K :=
  raw_bin hx hy rfl (by cases k <;> rfl) rfl (v := .int k r) (by subst hw; simp [binOp, Op.intBits, pureRun, bind, pure, Sem.bind]) rfl hk
theorem raw_shl {t : TypeId} {yt} {x y : Operand} {k k' : IntKind} {a b r : Int} (hx : evL l x = some (.int k a)) (hy : evL l y = some (.int k' b)) (hb : ¬ b < 0) (hw : k.wrap (a * 2 ^ (min b.toNat k.bits)) = r) (hk : K (.int k r) h) :
    RawP E l h ⟨dst, .binOp .shl t x y yt, ty, pos, after, guard⟩ K :=
  raw_bin hx hy rfl (by cases k <;> rfl) rfl (v := .int k r) (by subst hw; simp only [binOp, Op.shift, if_neg hb]; rfl) rfl hk
/-- Two flat values that are neither numbers nor texts, compared. -/
theorem raw_eq {op : BinOp} {t : TypeId} {yt} {x y : Operand} {a b v : Value} (hx : evL l x = some a) (hy : evL l y = some b) (hf2 : (flat1 a && flat1 b) = true) (n1 : ∀ k m k' n, a = .int k m → b = .int k' n → False) (n2 : ∀ s u, a = .string s → b = .string u → False)
    (hg : pureRun E.P (eqGuard op t x y a b) = some ()) (hb : pureRun E.P (binOp op t a b) = some v) (hf : flat2 v = true) (hk : K v h) :
    RawP E l h ⟨dst, .binOp op t x y yt, ty, pos, after, guard⟩ K := ⟨fun tm hv => by
  refine OpP.val ?_ hk
  have q1 := evL_ok hv hx
  have q2 := evL_ok hv hy
  have e1 : evA' tm x = a := by simp [evA', q1]
  have e2 : evA' tm y = b := by simp [evA', q2]
  have f1 : flat2 a = true := flat2_of1 (Bool.and_eq_true _ _ ▸ hf2 : flat1 a = true ∧ flat1 b = true).1
  have f2 : flat2 b = true := flat2_of1 (Bool.and_eq_true _ _ ▸ hf2 : flat1 a = true ∧ flat1 b = true).2
  have h1 : allFlat tm [x, y] = true := by simp [allFlat, q1, q2, f1, f2]
  have h2 : pureRun E.P (execOp (evA' tm) ⟨dst, .binOp op t x y yt, ty, pos, after, guard⟩) = some (.value v) := by
    simp only [execOp, e1, e2]
    have h4 : pureRun E.P (eqGuard op t x y a b >>= fun _ => binOp op t a b) = some v := by
      rw [pureRun_bind _ hg]; exact hb
    rw [pureRun_bind _ h4]
    rfl
  have e0 : evPure E.P tm h ⟨dst, .binOp op t x y yt, ty, pos, after, guard⟩ = some (.val v h) := by
    simp only [evPure, Op.operands, h1, if_true, h2, hf]
  simp only [evOp]
  rw [hBin_other q1 q2 n1 n2, hf2]
  exact e0⟩
theorem pure_conv {tm : TM} {src t : TypeId} {x : Operand} {v r : Value} (q1 : evA tm x = some v) (hf1 : flat2 v = true) (hc : pureRun E.P (convert src t v) = some r) (hf : flat2 r = true) :
    evPure E.P tm h ⟨dst, .convert src t x, ty, pos, after, guard⟩ = some (.val r h) := by
  have e1 : evA' tm x = v := by simp [evA', q1]
  have h1 : allFlat tm [x] = true := by simp [allFlat, q1, hf1]
  have h2 : pureRun E.P (execOp (evA' tm) ⟨dst, .convert src t x, ty, pos, after, guard⟩) = some (.value r) := by
    simp only [execOp, e1]
    rw [pureRun_bind _ hc]
    rfl
  simp only [evPure, Op.operands, h1, if_true, h2, hf]
theorem raw_conv {src t : TypeId} {x : Operand} {k k1 k2 : IntKind} {a r : Int} (hx : evL l x = some (.int k a)) (h1 : E.P.underlying src = some (.int k1)) (h2 : E.P.underlying t = some (.int k2)) (hw : k2.wrap a = r) (hk : K (.int k2 r) h) :
    RawP E l h ⟨dst, .convert src t x, ty, pos, after, guard⟩ K := ⟨fun tm hv => by
  refine OpP.val ?_ hk
  have q1 := evL_ok hv hx
  have hc : pureRun E.P (convert src t (.int k a)) = some (.int k2 r) := by
    simp [convert, Go.underlying, program, pureRun, bind, pure, Sem.bind, h1, h2, Conv.intToInt, hw]
  simp only [evOp, hConv, q1]
  exact pure_conv q1 rfl hc rfl⟩
theorem raw_convS {src t : TypeId} {x : Operand} {k k1 : IntKind} {a : Int} (hx : evL l x = some (.int k a)) (h1 : E.P.underlying src = some (.int k1)) (h2 : E.P.underlying t = some .string) (hk : K (.string (Utf8.encode a)) h) :
    RawP E l h ⟨dst, .convert src t x, ty, pos, after, guard⟩ K := ⟨fun tm hv => by
  refine OpP.val ?_ hk
  have q1 := evL_ok hv hx
  have hc : pureRun E.P (convert src t (.int k a)) = some (.string (Utf8.encode a)) := by
    simp [convert, Go.underlying, program, pureRun, bind, pure, Sem.bind, h1, h2, Conv.intToString]
  simp only [evOp, hConv, q1]
  exact pure_conv q1 rfl hc rfl⟩
theorem raw_glob {t : TypeId} {g : Nat} (hg : isGL g = true) (ha : isAgg E.P t = some false) (hk : K junk h) : RawP E l h ⟨dst, .load t (.global g), ty, pos, after, guard⟩ K := ⟨fun tm hv => by
  refine OpP.val ?_ hk
  have q : evA tm (.global g) = none := rfl
  simp only [evOp, hLoad, q, hGlob, hg, ha]⟩
theorem raw_iface {t : TypeId} {x : Operand} {v : Value} {u : TypeDesc} (hx : evL l x = some v) (h1 : E.P.underlying t = some u) (h2 : ∀ ms, u ≠ .interface ms) (hk : K (.iface t v) h) : RawP E l h ⟨dst, .makeInterface t x, ty, pos, after, guard⟩ K := ⟨fun tm hv => by
  refine OpP.val ?_ hk
  have q1 := evL_ok hv hx
  simp only [evOp, hIface, q1, h1]⟩
def evsP (l : L) : List (Nat × Operand) → Option (List (Nat × Value))
  | [] => some []
  | (i, x) :: r => match evL l x, evsP l r with
    | some v, some l => some ((i, v) :: l)
    | _, _ => none
theorem evsP_ok {tm : TM} (hv : View l tm) : ∀ {xs : List (Nat × Operand)} {vs}, evsP l xs = some vs → evParts tm xs = some vs
  | [], vs, h => h
  | (i, x) :: r, vs, h => by
    simp only [evsP] at h
    split at h
    · rename_i v us hx hr
      simp only [evParts, evL_ok hv hx, evsP_ok hv hr]
      exact h
    · cases h
theorem raw_build {t : TypeId} {ps : Array (Nat × Operand)} {parts : List (Nat × Value)} {z : Value} {fs : Array Field} {c : List Value} (hp : evsP l ps.toList = some parts) (hz : zero E.P t = some z) (hu : E.P.underlying t = some (.struct fs))
    (hf : fillL (fun i => (fs[i]?).bind fun f => (sizeOf E.P f.type).map fun s => (f.offset, s)) z.cells.toList parts = some c) (ha : fs.toList.all (fun f => (sizeOf E.P f.type).isSome) = true) (hk : K (.agg c.toArray) h) :
    RawP E l h ⟨dst, .build t ps, ty, pos, after, guard⟩ K := ⟨fun tm hv => by
  refine OpP.val ?_ hk
  simp only [evOp, hBuild, evsP_ok hv hp, hz, hu, hf, ha, if_true]⟩
theorem raw_buildSlice {t e : TypeId} {len s : Nat} {ps : Array (Nat × Operand)} {parts : List (Nat × Value)} {z : Value} {c : List Value} (hp : evsP l ps.toList = some parts) (hu : E.P.underlying t = some (.slice e)) (hz : zero E.P e = some z) (hs : sizeOf E.P e = some s)
    (hc : len * s ≤ 2 ^ 24 ∧ z.cells.toList.length = s ∧ 0 < s) (hf : fillL (fun i => some (i * s, s)) (rep z.cells.toList len) parts = some c) (hk : K (.slice (some ⟨h.next, 0, none⟩) len len) (h.push (.cells c (some e) true 0))) :
    RawP E l h ⟨dst, .buildSlice t len ps, ty, pos, after, guard⟩ K := ⟨fun tm hv => by
  refine OpP.val ?_ hk
  simp only [evOp, hBuildSlice, evsP_ok hv hp, hz, hu, hs, if_pos hc, hf]⟩
theorem raw_unrunes {src t e : TypeId} {x : Operand} {a : Addr} {n c : Nat} {vs : List Value} {rs : List Int} (hx : evL l x = some (.slice (some a) (n + 1) c)) (h1 : E.P.underlying src = some (.slice e)) (h2 : E.P.underlying t = some .string) (h3 : E.P.underlying e = some (.int .i32))
    (hr : h.read a.block a.off (n + 1) = some vs) (hb : runesOf vs = some rs) (hk : K (.string (runesBytes rs)) h) : RawP E l h ⟨dst, .convert src t x, ty, pos, after, guard⟩ K := ⟨fun tm hv => by
  refine OpP.val ?_ hk
  have q1 := evL_ok hv hx
  simp only [evOp, hConv, q1, h1, h2, hOfBytes, h3, hr, hb]⟩
end raws
end Go.Proofs.YtknhcgdhfndooaaDoor.GEv
