/- The evaluator's soundness, seventh part: comparisons with nil, type assertions, maps. -/
import Derived.Test.YtknenadpkgajjaaGEvG
namespace Go.Proofs.Ytknenadpkgajjaa.GEv
open Go
set_option linter.unusedSimpArgs false
set_option linter.unusedVariables false

section
variable {E : Env} {ρ : Ren} {tm : TM} {h : H} {a : Act} {w : World} {r : Res} {dst : Option Tmp} {ty : TypeId} {pos : String} {after : Array Edge} {guard : Option (Nat × Bool)}
theorem inv_pnil {u : Value} (h : VR ρ (.pointer none) u) : u = .pointer none := by cases h; rfl
theorem inv_mnil {u : Value} (h : VR ρ (.map none) u) : u = .map none := by cases h; rfl
theorem inv_map {k : Nat} {u : Value} (h : VR ρ (.map (some k)) u) : ∃ c s z, u = .map (some c) ∧ ρ k = some (c, s, z) := by
  cases h with
  | map e => exact ⟨_, _, _, rfl, e⟩
theorem inv_fnil {u : Value} (h : VR ρ .nilFunc u) : u = .nilFunc := by cases h; rfl
theorem inv_inil {u : Value} (h : VR ρ .nilIface u) : u = .nilIface := by cases h; rfl
theorem inv_iface {t : TypeId} {v u : Value} (h : VR ρ (.iface t v) u) : ∃ v', u = .iface t v' ∧ VR ρ v v' := by
  cases h with
  | iface e => exact ⟨_, rfl, e⟩
theorem inv_string {s : ByteArray} {u : Value} (h : VR ρ (.string s) u) : u = .string s := by cases h; rfl

theorem eqIn_sound {P : Program} {t : TypeId} {v u v' u' : Value} {b : Bool} (he : eqNil P t v u = some b) (hv : VR ρ v v') (hu : VR ρ u u') (d : Nat) :
    (Op.equalIn (d + 1) t v' u').run P w = .ok b w := by
  unfold eqNil at he
  split at he
  · rename_i e x y hs
    split at he
    · rename_i sz hsz
      split at he
      · rename_i hb
        cases he
        obtain ⟨x', rfl, hx⟩ := inv_ptr hv
        obtain ⟨y', rfl, hy⟩ := inv_ptr hu
        obtain ⟨_, c, s, z, e1, rfl⟩ := hx
        obtain ⟨_, c2, s2, z2, e2, rfl⟩ := hy
        rw [hb, e2] at e1
        simp only [Option.some.injEq, Prod.mk.injEq] at e1
        obtain ⟨rfl, rfl, rfl⟩ := e1
        have hsize : (Go.sizeOf e).run P w = .ok (sz + 1) w := run_size hsz w
        have hq : ((⟨c2, s2 + x.off, none⟩ : Addr) == ⟨c2, s2 + y.off, none⟩) = Nat.beq x.off y.off := by
          cases q : Nat.beq x.off y.off with
          | true => rw [Nat.eq_of_beq_eq_true q]; simp
          | false =>
            rw [beq_eq_false_iff_ne]
            intro h
            simp only [Addr.mk.injEq, true_and, and_true] at h
            rw [show x.off = y.off by omega, Nat.beq_refl] at q
            cases q
        simp [Op.equalIn, run_und hs, hsize, sameAddr, hq]
      · cases he
    · cases he
  · rename_i e a hs
    cases he
    have := inv_pnil hu
    subst this
    cases hv <;> simp [Op.equalIn, run_und hs]
  · rename_i e a hne hs
    cases he
    have := inv_pnil hv
    subst this
    cases hu <;> simp [Op.equalIn, run_und hs]
  · rename_i e a l c l' c' hs
    cases he
    have := inv_snil hu
    subst this
    cases hv <;> simp [Op.equalIn, run_und hs]
  · rename_i k e a hs
    cases he
    have := inv_mnil hu
    subst this
    cases hv <;> simp [Op.equalIn, run_und hs]
  · rename_i hs
    cases he
    have := inv_fnil hu
    subst this
    cases hv <;> simp [Op.equalIn, run_und hs]
  · rename_i hs
    cases he
    have := inv_fnil hv
    subst this
    cases hu <;> simp [Op.equalIn, run_und hs]
  · rename_i hs
    cases he
    have := inv_inil hu
    subst this
    cases hv <;> simp [Op.equalIn, run_und hs]
  · rename_i hs
    cases he
    have := inv_inil hv
    subst this
    cases hu <;> simp [Op.equalIn, run_und hs]
  · cases he
theorem eqNil_sound {P : Program} {t : TypeId} {v u v' u' : Value} {b : Bool} {op : BinOp} {x y : Operand} (he : eqNil P t v u = some b) (hv : VR ρ v v') (hu : VR ρ u u') (hn : (flat1 v && flat1 u) ≠ true) :
    (eqGuard op t x y v' u').run P w = .ok () w ∧ (Go.binOp .eql t v' u').run P w = .ok (.bool b) w ∧ (Go.binOp .neq t v' u').run P w = .ok (.bool !b) w := by
  have hE : (Op.equal t v' u').run P w = .ok b w := eqIn_sound he hv hu 9999
  unfold eqNil at he
  split at he
  all_goals first
    | (cases he; done)
    | (cases hv <;> cases hu <;> first
        | (exact absurd rfl hn)
        | (exact ⟨by simp [eqGuard], by simp [Go.binOp, hE], by simp [Go.binOp, hE]⟩))
theorem ile_eq (a b : Int) : ile a b = decide (a ≤ b) := by
  cases a with
  | ofNat a => cases b with
    | ofNat b =>
      show Nat.ble a b = decide ((a : Int) ≤ (b : Int))
      cases h : Nat.ble a b with
      | true => exact (decide_eq_true (Int.ofNat_le.2 (Nat.le_of_ble_eq_true h))).symm
      | false => exact (decide_eq_false fun q => by rw [Nat.ble_eq_true_of_le (Int.ofNat_le.1 q)] at h; cases h).symm
    | negSucc b =>
      show false = decide ((a : Int) ≤ Int.negSucc b)
      exact (decide_eq_false (by omega)).symm
  | negSucc a => cases b with
    | ofNat b =>
      show true = decide (Int.negSucc a ≤ (b : Int))
      exact (decide_eq_true (by omega)).symm
    | negSucc b =>
      show Nat.ble b a = decide (Int.negSucc a ≤ Int.negSucc b)
      cases h : Nat.ble b a with
      | true =>
        have := Nat.le_of_ble_eq_true h
        exact (decide_eq_true (by omega)).symm
      | false =>
        exact (decide_eq_false fun q => by rw [Nat.ble_eq_true_of_le (show b ≤ a by omega)] at h; cases h).symm
theorem ieq_eq (a b : Int) : ieq a b = (a == b) := by
  have key : ∀ {c : Bool} {p : Prop}, (c = true ↔ p) → ∀ q : Bool, (q = true ↔ p) → c = q := fun {c p} h q h' => by
    cases c <;> cases q <;> simp_all
  refine key (p := a = b) ?_ _ (by simp)
  cases a with
  | ofNat a => cases b with
    | ofNat b => exact ⟨(fun h => by rw [Nat.eq_of_beq_eq_true h]), (fun h => by cases h; exact Nat.beq_refl a)⟩
    | negSucc b => exact ⟨(fun h => by cases h), (fun h => by cases h)⟩
  | negSucc a => cases b with
    | ofNat b => exact ⟨(fun h => by cases h), (fun h => by cases h)⟩
    | negSucc b => exact ⟨(fun h => by rw [Nat.eq_of_beq_eq_true h]), (fun h => by cases h; exact Nat.beq_refl a)⟩
theorem not_le_lt (m n : Int) : (!decide (n ≤ m)) = decide (m < n) := by
  by_cases h : m < n
  · simp [h, Int.not_le.2 h]
  · simp [h, Int.not_lt.1 h]
theorem run_icmp {P : Program} {op : BinOp} {t : TypeId} {k : IntKind} {m n : Int} {c : Bool} (hc : icmp op m n = some c) : (Go.binOp op t (.int k m) (.int k n)).run P w = .ok (.bool c) w := by
  cases op <;> simp only [icmp, Option.some.injEq, reduceCtorEq] at hc <;> subst hc <;> simp [Go.binOp, Op.intCmp, ieq_eq, ile_eq, bne, not_le_lt]
theorem kEq_eq {a b : IntKind} (h : kEq a b = true) : a = b := by
  cases a <;> cases b <;> first | rfl | (exact absurd h (by decide))
theorem run_iar {P : Program} {op : BinOp} {t : TypeId} {k : IntKind} {m n r : Int} (hc : icmp op m n = none) (h : iar k op m n = some r) : (Go.binOp op t (.int k m) (.int k n)).run P w = .ok (.int k r) w := by
  unfold iar at h
  split at h
  · rename_i a b
    split at h
    · rename_i q
      cases h
      have := Nat.le_of_ble_eq_true q
      have hw : IntKind.i64.wrap ((a : Int) + (b : Int)) = Int.ofNat (Nat.add a b) := by
        rw [IntWalk.i64_in _ (by
          have this' : a + b ≤ 4611686018427387904 := this
          omega)]
        rfl
      simp [Go.binOp, Op.intArith, hw]
    · cases h
  · rename_i a b
    split at h
    · rename_i q1 q2
      cases h
      have h1 := Nat.le_of_ble_eq_true q1
      have h2 := Nat.le_of_ble_eq_true q2
      have hw : IntKind.i64.wrap ((a : Int) - (b : Int)) = Int.ofNat (Nat.sub a b) := by
        rw [IntWalk.i64_in _ (by omega)]
        have : Nat.sub a b = a - b := rfl
        rw [this, Int.ofNat_eq_natCast, Int.ofNat_sub h1]
      simp [Go.binOp, Op.intArith, hw]
    · cases h
  · cases h
theorem s_binOp {op : BinOp} {t yt : TypeId} {x y : Operand} (hev : evOp E tm h ⟨dst, .binOp op t x y yt, ty, pos, after, guard⟩ = some r) (hx : OKo ρ tm a x) (hy : OKo ρ tm a y) (hR : Rel ρ h w) :
    Good E.P ρ h w ((execOp a.eval ⟨dst, .binOp op t x y yt, ty, pos, after, guard⟩).run E.P w) r := by
  have pure : ∀ r, evPure E.P tm h ⟨dst, .binOp op t x y yt, ty, pos, after, guard⟩ = some r → Good E.P ρ h w ((execOp a.eval ⟨dst, .binOp op t x y yt, ty, pos, after, guard⟩).run E.P w) r :=
    fun r hr => s_pure hr (fun z hz => by
        simp only [Op.operands, List.mem_cons, List.not_mem_nil, or_false] at hz
        rcases hz with rfl | rfl
        · exact hx
        · exact hy) (fun cs b q => by cases q) hR
  simp only [evOp, hBin] at hev
  split at hev
  · rename_i k m k' n hm hn
    split at hev
    · rename_i hk
      have hk := kEq_eq hk
      subst hk
      have e1 := inv_int (evA_sound hm hx)
      have e2 := inv_int (evA_sound hn hy)
      have hg : (eqGuard op t x y (.int k m) (.int k n)).run E.P w = .ok () w := by
        unfold eqGuard
        split <;> simp
      unfold hInt at hev
      split at hev
      · rename_i c hc
        cases hev
        exact Good.same hR (by simp only [execOp, Sem.run_bind, e1, e2, hg, run_icmp (t := t) (k := k) (w := w) hc, Result.andThen_ok, Sem.run_pure]) (.bool c)
      · rename_i hc
        split at hev
        · rename_i r0 hr0
          cases hev
          exact Good.same hR (by simp only [execOp, Sem.run_bind, e1, e2, hg, run_iar (t := t) (w := w) hc hr0, Result.andThen_ok, Sem.run_pure]) (.int k r0)
        · exact pure r hev
    · exact pure r hev
  · rename_i s u hs hu
    split at hev
    · rename_i r0 hr0
      cases hev
      have e1 := inv_string (evA_sound hs hx)
      have e2 := inv_string (evA_sound hu hy)
      have hg : (eqGuard op t x y (.string s) (.string u)).run E.P w = .ok () w := by
        unfold eqGuard
        split <;> simp
      have hb : (Go.binOp op t (.string s) (.string u)).run E.P w = .ok r0 w := by
        have := run_str (P := E.P) (w := w) hr0
        rw [← this]
        cases op <;> first | rfl | (simp only [hStr] at hr0; cases hr0)
      have hfl : flat2 r0 = true := by
        unfold hStr at hr0
        split at hr0
        · cases hr0; rfl
        · cases hr0; rfl
        · split at hr0
          · cases hr0; rfl
          · cases hr0
        · cases hr0
      exact Good.same hR (by simp only [execOp, Sem.run_bind, e1, e2, hg, hb, Result.andThen_ok, Sem.run_pure]) (VR.flat2 ρ hfl)
    · exact pure r hev
  · rename_i v u hne hne2 hv hu
    split at hev
    · exact pure r hev
    · rename_i hfl
      have h1 := evA_sound hv hx
      have h2 := evA_sound hu hy
      have hfl : (flat1 v && flat1 u) ≠ true := by rw [hfl]; simp
      unfold hNilEq at hev
      split at hev
      · obtain ⟨v', hv', rfl⟩ := valR_some hev
        cases hq : eqNil E.P t v u with
        | none => rw [hq] at hv'; cases hv'
        | some b =>
          rw [hq] at hv'; cases hv'
          obtain ⟨g1, g2, _⟩ := eqNil_sound (w := w) (op := .eql) (x := x) (y := y) hq h1 h2 hfl
          exact Good.same hR (by simp [execOp, g1, g2]) (.bool b)
      · obtain ⟨v', hv', rfl⟩ := valR_some hev
        cases hq : eqNil E.P t v u with
        | none => rw [hq] at hv'; cases hv'
        | some b =>
          rw [hq] at hv'; cases hv'
          obtain ⟨g1, _, g2⟩ := eqNil_sound (w := w) (op := .neq) (x := x) (y := y) hq h1 h2 hfl
          exact Good.same hR (by simp [execOp, g1, g2]) (.bool !b)
      · cases hev
  · cases hev
theorem s_unOp {op : UnOp} {t : TypeId} {x : Operand} (hev : evOp E tm h ⟨dst, .unOp op t x, ty, pos, after, guard⟩ = some r) (hx : OKo ρ tm a x) (hR : Rel ρ h w) :
    Good E.P ρ h w ((execOp a.eval ⟨dst, .unOp op t x, ty, pos, after, guard⟩).run E.P w) r := by
  simp only [evOp, hUn] at hev
  split at hev
  · rename_i b hb
    cases hev
    have e := inv_bool (evA_sound hb hx)
    exact Good.same hR (by simp [execOp, e, Op.unary]) (.bool (not b))
  · exact s_pure hev (fun z hz => by
      simp only [Op.operands, List.mem_cons, List.not_mem_nil, or_false] at hz
      subst hz; exact hx) (fun cs b q => by cases q) hR
theorem s_typeAssert {x : Operand} {t u : TypeId} {ok : Bool} (hev : evOp E tm h ⟨dst, .typeAssert x t u ok, ty, pos, after, guard⟩ = some r) (hx : OKo ρ tm a x) (hR : Rel ρ h w) :
    Good E.P ρ h w ((execOp a.eval ⟨dst, .typeAssert x t u ok, ty, pos, after, guard⟩).run E.P w) r := by
  have pure : ∀ r, evPure E.P tm h ⟨dst, .typeAssert x t u ok, ty, pos, after, guard⟩ = some r → Good E.P ρ h w ((execOp a.eval ⟨dst, .typeAssert x t u ok, ty, pos, after, guard⟩).run E.P w) r :=
    fun r hr => s_pure hr (fun z hz => by
      simp only [Op.operands, List.mem_cons, List.not_mem_nil, or_false] at hz
      subst hz; exact hx) (fun cs b q => by cases q) hR
  simp only [evOp, hAssert] at hev
  split at hev
  · exact pure r hev
  · rename_i d v dd hne hb hs
    split at hev
    · rename_i hd
      subst hd
      cases hev
      obtain ⟨v', e, hv⟩ := inv_iface (evA_sound hb hx)
      have hrun : (Instr.typeAssert (.iface d v') t d ok).run E.P w = .ok (if ok then .tuple #[v', .bool true] else v') w := by
        simp only [Instr.typeAssert, Sem.run_bind, run_und hs, Result.andThen_ok]
        cases dd <;> first | (simp; done) | exact absurd hs (hne _ _ _)
      refine Good.same hR (v' := if ok then .tuple #[v', .bool true] else v') (by simp [execOp, e, hrun]) ?_
      cases ok with
      | false => exact hv
      | true => exact VRL.tuple (l := [v, .bool true]) (l' := [v', .bool true]) (((VRL.nil ρ).cons (.bool true)).cons hv)
    · exact pure r hev
  · exact pure r hev

/-! ### maps -/
theorem keyFits_cases {P : Program} {t : TypeId} {k : Value} (hk : keyFits P t k = true) :
    (P.underlying t = some .string ∧ ∃ s, k = .string s) ∨ (∃ kk j n, P.underlying t = some (.int kk) ∧ k = .int j n) ∨
    (∃ fs cs, P.underlying t = some (.struct fs) ∧ k = .agg cs ∧ flat1 (.agg cs) = true ∧ (∃ x, pureRun P (Instr.checkKey true 10000 t (.agg cs)) = some x) ∧ (∃ x, pureRun P (Instr.checkKey false 10000 t (.agg cs)) = some x) ∧ Instr.sameBits 10000 (.agg cs) (.agg cs) = true) := by
  unfold keyFits at hk
  split at hk
  · rename_i s hs; exact .inl ⟨hs, s, rfl⟩
  · rename_i kk j n hs; exact .inr (.inl ⟨kk, j, n, hs, rfl⟩)
  · rename_i fs cs hs
    simp only [Bool.and_eq_true, Option.isSome_iff_exists] at hk
    exact .inr (.inr ⟨fs, cs, hs, rfl, hk.1.1.1, hk.1.1.2, hk.1.2, hk.2⟩)
  · cases hk
theorem checkKey_any {P : Program} {t : TypeId} {k : Value} (hk : (P.underlying t = some .string ∧ ∃ s, k = .string s) ∨ (∃ kk j n, P.underlying t = some (.int kk) ∧ k = .int j n)) (b : Bool) (n : Nat) : (Instr.checkKey b (n + 1) t k).run P w = .ok () w := by
  rcases hk with ⟨hs, s, rfl⟩ | ⟨kk, j, n, hs, rfl⟩
  · simp [Instr.checkKey, run_und hs]
  · simp [Instr.checkKey, run_und hs]
theorem checkKey_ok {P : Program} {t : TypeId} {k : Value} (hk : keyFits P t k = true) (b : Bool) : (Instr.checkKey b 10000 t k).run P w = .ok () w := by
  rcases keyFits_cases hk with h | h | ⟨fs, cs, hs, rfl, _, ⟨x, h1⟩, ⟨y, h2⟩, _⟩
  · exact checkKey_any (.inl h) b 9999
  · exact checkKey_any (.inr h) b 9999
  · cases b with
    | true => exact pureRun_run h1 w
    | false => exact pureRun_run h2 w
def findR (ρ : Ren) : Option (Nat × Value) → Option (Nat × Value) → Prop
  | none, none => True
  | some (i, v), some (j, v') => i = j ∧ VR ρ v v'
  | _, _ => False
theorem findL_sound {d : TypeDesc} {k : Value} (hk : (d = .string ∧ ∃ s, k = .string s) ∨ (∃ kk j n, d = .int kk ∧ k = .int j n)) : ∀ {es es' : List MapEntry} {i : Nat} {o : Option (Nat × Value)}, findL k es i = some o → ERL ρ es es' →
    ∃ o', Instr.findNow d k es' i = some o' ∧ findR ρ o o'
  | [], es', i, o, hf, he => by
    rw [he.eq_nil]
    simp only [findL, Option.some.injEq] at hf
    subst hf
    exact ⟨none, rfl, trivial⟩
  | e :: es, es', i, o, hf, he => by
    obtain ⟨e', l', rfl, h1, h2⟩ := he.uncons
    obtain ⟨_, hke, _, hval⟩ := h1
    simp only [findL] at hf
    split at hf
    · rename_i x y hx hy
      have hd : d = .string := by
        rcases hk with ⟨q, _⟩ | ⟨_, _, _, _, q⟩
        · exact q
        · cases q
      subst hd
      simp only [Instr.findNow, hke, hy, Instr.sameNow]
      split at hf
      · rename_i q; cases hf; exact ⟨some (i, e'.val), by simp [q], rfl, hval⟩
      · rename_i q
        simp only [Bool.not_eq_true] at q
        rw [q]
        exact findL_sound hk hf h2
    · rename_i j x j' y hx hy
      obtain ⟨kk, rfl⟩ : ∃ kk, d = .int kk := by
        rcases hk with ⟨_, _, q⟩ | ⟨kk, _, _, q, _⟩
        · cases q
        · exact ⟨kk, q⟩
      split at hf
      · rename_i hj
        subst hj
        simp only [Instr.findNow, hke, hy, Instr.sameNow, if_true]
        split at hf
        · rename_i q; cases hf; exact ⟨some (i, e'.val), by simp [q], rfl, hval⟩
        · rename_i q
          simp only [Bool.not_eq_true] at q
          rw [q]
          exact findL_sound hk hf h2
      · cases hf
    · cases hf
theorem keyFits_flat {P : Program} {t : TypeId} {k : Value} (h : keyFits P t k = true) : flat1 k = true := by
  rcases keyFits_cases h with ⟨_, s, rfl⟩ | ⟨_, _, _, _, rfl⟩ | ⟨_, cs, _, rfl, hf, _⟩
  · rfl
  · rfl
  · exact hf
theorem findNow_struct (fs : Array Field) (k : Value) (e : MapEntry) (es : List MapEntry) (i : Nat) : Instr.findNow (.struct fs) k (e :: es) i = none := by
  simp [Instr.findNow, Instr.sameNow]
theorem findA_sound {P : Program} {kt : TypeId} {cs : Array Value} : ∀ {es es' : List MapEntry} {i : Nat} {o : Option (Nat × Value)}, findA P kt cs es i = some o → ERL ρ es es' →
    ∃ o', (Instr.findAsking kt (.agg cs) es' i).run P w = .ok o' w ∧ findR ρ o o'
  | [], es', i, o, hf, he => by
    rw [he.eq_nil]
    simp only [findA, Option.some.injEq] at hf
    subst hf
    exact ⟨none, rfl, trivial⟩
  | e :: es, es', i, o, hf, he => by
    obtain ⟨e', l', rfl, h1, h2⟩ := he.uncons
    obtain ⟨_, hke, _, hval⟩ := h1
    simp only [findA] at hf
    split at hf
    · rename_i ks hks
      split at hf
      · rename_i hfl hq
        split at hf
        · cases hf
          exact ⟨some (i, e'.val), by simp only [Instr.findAsking, hke, hks, Sem.run_bind, pureRun_run hq w, Result.andThen_ok, if_true, Sem.run_pure], rfl, hval⟩
        · cases hf
      · rename_i hfl hq
        obtain ⟨o', q1, q2⟩ := findA_sound hf h2
        refine ⟨o', ?_, q2⟩
        simp only [Instr.findAsking, hke, hks, Sem.run_bind, pureRun_run hq w, Result.andThen_ok]
        exact q1
      · cases hf
    · cases hf
theorem run_findKey {P : Program} {kt : TypeId} {k : Value} (hk : keyFits P kt k = true) {es es' : List MapEntry} {o : Option (Nat × Value)} (hf : findK P kt k es = some o) (he : ERL ρ es es') :
    ∃ o', (Instr.findKey kt k es').run P w = .ok o' w ∧ findR ρ o o' := by
  rcases keyFits_cases hk with ⟨hs, s, rfl⟩ | ⟨kk, j, n, hs, rfl⟩ | ⟨fs, cs, hs, rfl, _⟩
  · obtain ⟨o', h1, h2⟩ := findL_sound (.inl ⟨rfl, s, rfl⟩) hf he
    exact ⟨o', by simp [Instr.findKey, run_und hs, h1], h2⟩
  · obtain ⟨o', h1, h2⟩ := findL_sound (.inr ⟨kk, j, n, rfl, rfl⟩) hf he
    exact ⟨o', by simp [Instr.findKey, run_und hs, h1], h2⟩
  · obtain ⟨o', h1, h2⟩ := findA_sound (w := w) hf he
    refine ⟨o', ?_, h2⟩
    cases es' with
    | nil =>
      rw [← h1]
      simp [Instr.findKey, run_und hs, Instr.findNow, Instr.findAsking]
    | cons e' l' => simp [Instr.findKey, run_und hs, findNow_struct, h1]
theorem run_getObj {P : Program} {c : Nat} {es : Array MapEntry} {clock : Nat} (h : w.heap[c]? = some (.map es clock)) : (getObj c).run P w = .ok (.map es clock) w := by
  simp [getObj, Sem.run, h]
def foundIn (P : Program) (w : World) (e : TypeId) (o : Option (Nat × Value)) (v : Value) (is : Bool) : Prop :=
  match o with
  | some (_, u) => v = u ∧ is = true
  | none => is = false ∧ (zeroValue e).run P w = .ok v w
theorem run_lookup {P : Program} {t kt e : TypeId} {m k v : Value} {es : Array MapEntry} {o : Option (Nat × Value)} {is ok : Bool} (hs : P.underlying t = some (.map kt e))
    (hm : (m = .map none ∧ es = #[]) ∨ ∃ c clock, m = .map (some c) ∧ w.heap[c]? = some (.map es clock)) (hck : ∀ b, (Instr.checkKey b 10000 kt k).run P w = .ok () w)
    (hf : (Instr.findKey kt k es.toList).run P w = .ok o w) (hv : foundIn P w e o v is) :
    (Instr.lookup t m k ok).run P w = .ok (if ok then .tuple #[v, .bool is] else v) w := by
  rcases hm with ⟨rfl, rfl⟩ | ⟨c, clock, rfl, hc⟩
  · cases o with
    | none => simp only [Instr.lookup, Sem.run_bind, run_und hs, Result.andThen_ok, Sem.run_pure, hck, hf, hv.2, hv.1]
    | some iu =>
      obtain ⟨i, u⟩ := iu
      obtain ⟨rfl, rfl⟩ := hv
      simp only [Instr.lookup, Sem.run_bind, run_und hs, Result.andThen_ok, Sem.run_pure, hck, hf]
  · cases o with
    | none => simp only [Instr.lookup, Sem.run_bind, run_und hs, Result.andThen_ok, Sem.run_pure, run_getObj hc, hck, hf, hv.2, hv.1]
    | some iu =>
      obtain ⟨i, u⟩ := iu
      obtain ⟨rfl, rfl⟩ := hv
      simp only [Instr.lookup, Sem.run_bind, run_und hs, Result.andThen_ok, Sem.run_pure, run_getObj hc, hck, hf]
theorem s_lookup {t : TypeId} {x k : Operand} {ok : Bool} (hev : evOp E tm h ⟨dst, .lookup t x k ok, ty, pos, after, guard⟩ = some r) (hx : OKo ρ tm a x) (hk : OKo ρ tm a k) (hR : Rel ρ h w) :
    Good E.P ρ h w ((execOp a.eval ⟨dst, .lookup t x k ok, ty, pos, after, guard⟩).run E.P w) r := by
  simp only [evOp, hLookup] at hev
  split at hev
  · rename_i kt e m kv hs hm hkv
    split at hev
    · rename_i hfit
      have ek := flat1_eq (keyFits_flat hfit) (evA_sound hkv hk)
      split at hev
      · rename_i es hes
        have key : ∃ es' : Array MapEntry, ERL ρ es es'.toList ∧ ((a.eval x = .map none ∧ es' = #[]) ∨ ∃ c clock, a.eval x = .map (some c) ∧ w.heap[c]? = some (.map es' clock)) := by
          cases m with
          | none =>
            cases hes
            exact ⟨#[], ERL.nil ρ, .inl ⟨inv_mnil (evA_sound hm hx), rfl⟩⟩
          | some rr =>
            simp only at hes
            split at hes
            · rename_i es0 clock hg
              cases hes
              obtain ⟨c, s, z, e1, e2⟩ := inv_map (evA_sound hm hx)
              obtain ⟨o, ho, es', rfl, hE⟩ := hR.ok rr _ c s z hg e2
              exact ⟨es', hE, .inr ⟨c, clock, e1, ho⟩⟩
            · cases hes
        obtain ⟨es', hE, hmv⟩ := key
        split at hev
        · rename_i i v hf
          cases hev
          obtain ⟨o', h1, h2⟩ := run_findKey (w := w) hfit hf hE
          cases o' with
          | none => exact h2.elim
          | some iv =>
            obtain ⟨j, v'⟩ := iv
            have := run_lookup (ok := ok) (v := v') (is := true) hs hmv (fun b => checkKey_ok (w := w) hfit b) h1 ⟨rfl, rfl⟩
            refine Good.same hR (v' := if ok then .tuple #[v', .bool true] else v') (by simp only [execOp, Sem.run_bind, ek, this, Result.andThen_ok, Sem.run_pure]) ?_
            cases ok with
            | false => exact h2.2
            | true => exact VRL.tuple (l := [v, .bool true]) (l' := [v', .bool true]) (((VRL.nil ρ).cons (.bool true)).cons h2.2)
        · rename_i z hf hz
          cases hev
          obtain ⟨o', h1, h2⟩ := run_findKey (w := w) hfit hf hE
          cases o' with
          | some iv => exact h2.elim
          | none =>
            have := run_lookup (ok := ok) (v := z) (is := false) hs hmv (fun b => checkKey_ok (w := w) hfit b) h1 ⟨rfl, run_zero hz w⟩
            refine Good.same hR (v' := if ok then .tuple #[z, .bool false] else z) (by simp only [execOp, Sem.run_bind, ek, this, Result.andThen_ok, Sem.run_pure]) ?_
            have hzv := VR.flat1 ρ (zero_eq hz).1
            cases ok with
            | false => exact hzv
            | true => exact VRL.tuple (l := [z, .bool false]) (l' := [z, .bool false]) (((VRL.nil ρ).cons (.bool false)).cons hzv)
        · cases hev
      · cases hev
    · cases hev
  · cases hev
end
end Go.Proofs.Ytknenadpkgajjaa.GEv
