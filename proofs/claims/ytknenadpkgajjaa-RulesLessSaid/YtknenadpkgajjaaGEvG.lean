/- The evaluator's soundness, sixth part: slices of slices, comparisons with nil, maps, operations upon values without blocks. -/
import Derived.Test.YtknenadpkgajjaaGEvF
import Derived.Laws.Concat
import Derived.Lib.Strings
namespace Go.Proofs.Ytknenadpkgajjaa.GEv
open Go
set_option linter.unusedSimpArgs false
set_option linter.unusedVariables false

theorem pureRun_run {P : Program} {α : Type} : ∀ {s : Sem α} {x : α}, pureRun P s = some x → ∀ w, s.run P w = .ok x w
  | .pure a, x, h, w => by cases h; rfl
  | .program k, x, h, w => by simp only [pureRun] at h; simp only [Sem.run]; exact pureRun_run h w
  | .mark m k, x, h, w => by simp only [pureRun] at h; simp only [Sem.run]; exact pureRun_run h w

section
variable {E : Env} {ρ : Ren} {tm : TM} {h : H} {a : Act} {w : World} {r : Res} {dst : Option Tmp} {ty : TypeId} {pos : String} {after : Array Edge} {guard : Option (Nat × Bool)}
theorem allFlat_eq : ∀ {l : List Operand}, allFlat tm l = true → (∀ x ∈ l, OKo ρ tm a x) → ∀ x ∈ l, a.eval x = evA' tm x
  | [], _, _, x, hx => by cases hx
  | y :: l, hf, hok, x, hx => by
    simp only [allFlat] at hf
    split at hf
    · rename_i v hv
      simp only [Bool.and_eq_true] at hf
      cases hx with
      | head => rw [evA'_sound hv (hok y (List.mem_cons_self ..)), flat2_eq hf.1 (evA_sound hv (hok y (List.mem_cons_self ..)))]
      | tail _ hx => exact allFlat_eq hf.2 (fun z hz => hok z (List.mem_cons_of_mem _ hz)) x hx
    · cases hf
theorem s_pure {o : Oper} (hev : evPure E.P tm h o = some r) (hx : ∀ x ∈ o.op.operands.toList, OKo ρ tm a x) (hns : ∀ cs b, o.op ≠ .select cs b) (hR : Rel ρ h w) :
    Good E.P ρ h w ((execOp a.eval o).run E.P w) r := by
  unfold evPure at hev
  split at hev
  · rename_i hf
    have he := allFlat_eq hf hx
    rw [execOp_congr (ρ := a.eval) (ρ' := evA' tm) o hns (fun x hx' => he x (Array.mem_toList_iff.2 hx'))]
    split at hev
    · rename_i v hv
      split at hev
      · rename_i hf2
        cases hev
        exact Good.same hR (pureRun_run hv w) (VR.flat2 ρ hf2)
      · cases hev
    · cases hev
  · cases hev

/-! ### bounds -/
def optR (ρ : Ren) : Option Value → Option Value → Prop
  | none, none => True
  | some v, some v' => VR ρ v v'
  | _, _ => False
theorem bnd_none {n d : Nat} : bnd n none d = some d := rfl
theorem bnd_some {n d l : Nat} {v v' : Value} (h : bnd n (some v) d = some l) (hv : VR ρ v v') : ∃ k : IntKind, v' = .int k (l : Int) ∧ l ≤ n := by
  unfold bnd at h
  split at h
  · rename_i q; cases q
  · rename_i k m q
    cases q
    split at h
    · cases h
      have := inv_int hv
      exact ⟨_, this, ‹_›⟩
    · cases h
  · cases h
theorem run_bound {P : Program} {k : IntKind} {l y : Nat} (hl : l ≤ y) (code : BoundsCode) : (Instr.sliceBound (.int k (l : Int)) y code).run P w = .ok l w := by
  simp [Instr.sliceBound, asIntOf, hl]
theorem bnd_op {n d l : Nat} {lo : Option Operand} (h : bnd n (lo.map (evA' tm)) d = some l) (hx : ∀ x, lo = some x → OKo ρ tm a x) :
    (lo = none ∧ l = d) ∨ ∃ x k, lo = some x ∧ a.eval x = .int k (l : Int) ∧ l ≤ n := by
  cases lo with
  | none => rw [Option.map_none, bnd_none] at h; cases h; exact .inl ⟨rfl, rfl⟩
  | some x =>
    right
    have hv : evA' tm x = (evA tm x).getD undef := rfl
    cases he : evA tm x with
    | none =>
      rw [Option.map_some, hv, he] at h
      unfold bnd at h
      simp [undef] at h
    | some v =>
      rw [Option.map_some, hv, he] at h
      obtain ⟨k, h1, h2⟩ := bnd_some h (evA_sound he (hx x rfl))
      exact ⟨x, k, rfl, h1, h2⟩
theorem run_sb {P : Program} {len cap hv l : Nat} {lo hi : Option Operand} (hh : (hi = none ∧ hv = len) ∨ ∃ x k, hi = some x ∧ a.eval x = .int k (hv : Int) ∧ hv ≤ cap)
    (hl : (lo = none ∧ l = 0) ∨ ∃ x k, lo = some x ∧ a.eval x = .int k (l : Int) ∧ l ≤ hv) :
    (Instr.sliceBounds true len cap (lo.map a.eval) (hi.map a.eval) none).run P w = .ok (l, hv, cap) w := by
  rcases hh with ⟨rfl, rfl⟩ | ⟨x, k, rfl, e, hc⟩
  · rcases hl with ⟨rfl, rfl⟩ | ⟨y, k', rfl, e', hc'⟩
    · simp [Instr.sliceBounds]
    · simp [Instr.sliceBounds, e', run_bound hc']
  · rcases hl with ⟨rfl, rfl⟩ | ⟨y, k', rfl, e', hc'⟩
    · simp [Instr.sliceBounds, e, run_bound hc]
    · simp [Instr.sliceBounds, e, run_bound hc, e', run_bound hc']
theorem run_sb3 {P : Program} {len cap m hv l : Nat} {lo : Option Operand} {hi mx : Operand} {k1 k2 : IntKind} (hm : a.eval mx = .int k1 (m : Int)) (hmc : m ≤ cap) (hh : a.eval hi = .int k2 (hv : Int)) (hhm : hv ≤ m)
    (hl : (lo = none ∧ l = 0) ∨ ∃ x k, lo = some x ∧ a.eval x = .int k (l : Int) ∧ l ≤ hv) :
    (Instr.sliceBounds true len cap (lo.map a.eval) (some (a.eval hi)) (some (a.eval mx))).run P w = .ok (l, hv, m) w := by
  rcases hl with ⟨rfl, rfl⟩ | ⟨y, k', rfl, e', hc'⟩
  · simp [Instr.sliceBounds, hm, run_bound hmc, hh, run_bound hhm]
  · simp [Instr.sliceBounds, hm, run_bound hmc, hh, run_bound hhm, e', run_bound hc']
theorem run_slice {P : Program} {t e : TypeId} {size : Nat} {b : Option Addr} {len cap l hv m : Nat} {lo hi mx : Option Value} (hs : P.underlying t = some (.slice e)) (hn : sizeOf P e = some size)
    (hb : (Instr.sliceBounds true len cap lo hi mx).run P w = .ok (l, hv, m) w) :
    (Instr.sliceAt t (.slice b len cap) lo hi mx).run P w = .ok (.slice (if m = l then b else b.map (·.add (l * size))) (hv - l) (m - l)) w := by
  simp only [Instr.sliceAt, Instr.slice, Sem.run_bind, run_und hs, Result.andThen_ok, hb, run_size hn, Sem.run_pure]
/-! ### texts -/
theorem beqB_eq : ∀ (l m : List UInt8), beqB l m = (l == m)
  | [], [] => rfl
  | [], _ :: _ => rfl
  | _ :: _, [] => rfl
  | a :: l, b :: m => by
    simp only [beqB]
    split
    · rename_i h
      have h := Nat.eq_of_beq_eq_true h
      have : a = b := UInt8.toNat_inj.1 h
      subst this
      rw [beqB_eq l m]
      simp
    · rename_i h
      have : a ≠ b := fun e => by subst e; rw [Nat.beq_refl] at h; cases h
      simp [this]
theorem nthB_eq : ∀ (l : List UInt8) (n : Nat), nthB l n = l[n]?
  | [], n => by cases n <;> rfl
  | a :: l, 0 => rfl
  | a :: l, n + 1 => by simp only [nthB, List.getElem?_cons_succ]; exact nthB_eq l n
theorem sL_length (s : ByteArray) : (sL s).length = s.size := by cases s; simp [sL, ByteArray.size]
theorem run_str {P : Program} {op : BinOp} {a b : ByteArray} {r : Value} (h : hStr op a b = some r) : (Op.stringOp op a b).run P w = .ok r w := by
  have ht : ∀ s : ByteArray, s.toList = sL s := fun s => Lib.toList_data s
  unfold hStr at h
  split at h
  · cases h; simp only [Op.stringOp, ht, beqB_eq]; rfl
  · cases h; simp only [Op.stringOp, ht, beqB_eq]; rfl
  · split at h
    · rename_i hb
      cases h
      have hb := Nat.le_of_ble_eq_true hb
      have hb' : a.size + b.size ≤ 4611686018427387904 := by rw [← sL_length, ← sL_length]; exact hb
      rw [run_string_add_sum w a b (by omega)]
      congr 2
    · cases h
  · cases h
theorem run_sbf {P : Program} {len hv l : Nat} {lo hi : Option Operand} (hh : (hi = none ∧ hv = len) ∨ ∃ x k, hi = some x ∧ a.eval x = .int k (hv : Int) ∧ hv ≤ len)
    (hl : (lo = none ∧ l = 0) ∨ ∃ x k, lo = some x ∧ a.eval x = .int k (l : Int) ∧ l ≤ hv) :
    (Instr.sliceBounds false len len (lo.map a.eval) (hi.map a.eval) none).run P w = .ok (l, hv, len) w := by
  rcases hh with ⟨rfl, rfl⟩ | ⟨x, k, rfl, e, hc⟩
  · rcases hl with ⟨rfl, rfl⟩ | ⟨y, k', rfl, e', hc'⟩
    · simp [Instr.sliceBounds]
    · simp [Instr.sliceBounds, e', run_bound hc']
  · rcases hl with ⟨rfl, rfl⟩ | ⟨y, k', rfl, e', hc'⟩
    · simp [Instr.sliceBounds, e, run_bound hc]
    · simp [Instr.sliceBounds, e, run_bound hc, e', run_bound hc']
theorem extract_eq (s : ByteArray) (l h : Nat) : s.extract l h = ⟨⟨((sL s).drop l).take (h - l)⟩⟩ := by
  apply ByteArray.ext
  apply Array.ext'
  simp [List.extract_eq_take_drop]
theorem s_sliceS {t : TypeId} {x : Operand} {lo hi : Option Operand} {s : ByteArray} (hs : evA tm x = some (.string s)) (hev : valR h (sliceS E.P t s (lo.map (evA' tm)) (hi.map (evA' tm))) = some r) (hx : OKo ρ tm a x)
    (hlo : ∀ y, lo = some y → OKo ρ tm a y) (hhi : ∀ y, hi = some y → OKo ρ tm a y) (hR : Rel ρ h w) : Good E.P ρ h w ((execOp a.eval ⟨dst, .slice t x lo hi none, ty, pos, after, guard⟩).run E.P w) r := by
  obtain ⟨v, hv, rfl⟩ := valR_some hev
  have e0 : a.eval x = .string s := by
    have := evA_sound hs hx
    generalize a.eval x = u at this ⊢
    cases this; rfl
  unfold sliceS at hv
  split at hv
  · rename_i ht
    split at hv
    · rename_i hv' hh
      split at hv
      · rename_i l hl
        cases hv
        have b1 := bnd_op hh hhi
        have b2 := bnd_op hl hlo
        rw [sL_length] at b1
        refine Good.same hR (v' := .string (s.extract l hv')) ?_ (by rw [extract_eq]; exact .string _)
        have := run_sbf (a := a) (P := E.P) (w := w) (len := s.size) (lo := lo) (hi := hi) b1 b2
        simp only [execOp, e0, Option.map_none, Instr.sliceAt, Instr.slice, Sem.run_bind, run_und ht, Result.andThen_ok, this, Sem.run_pure, Option.isSome_none, Bool.false_eq_true, if_false]
      · cases hv
    · cases hv
  · cases hv
theorem s_index {t : TypeId} {x i : Operand} (hev : evOp E tm h ⟨dst, .index t x i, ty, pos, after, guard⟩ = some r) (hx : ∀ y ∈ (Op.index t x i).operands.toList, OKo ρ tm a y) (hR : Rel ρ h w) :
    Good E.P ρ h w ((execOp a.eval ⟨dst, .index t x i, ty, pos, after, guard⟩).run E.P w) r := by
  simp only [evOp, hIdx] at hev
  split at hev
  · rename_i s kk k hs hk
    split at hev
    · rename_i b ht hb
      cases hev
      have e0 : a.eval x = .string s := by
        have := evA_sound hs (hx x (by simp [Op.operands]))
        generalize a.eval x = u at this ⊢
        cases this; rfl
      have e1 := inv_int (evA_sound hk (hx i (by simp [Op.operands])))
      rw [nthB_eq] at hb
      have hget : s[k]? = some b := by
        rw [← hb]
        have hlt : k < (sL s).length := (List.getElem?_eq_some_iff.1 hb).1
        have hlt' : k < s.size := by rw [← sL_length]; exact hlt
        rw [List.getElem?_eq_getElem hlt, getElem?_pos s k hlt']
        rfl
      refine Good.same hR (v' := .int .u8 b.toNat) ?_ (.int _ _)
      have h0 : (0 : Int) ≤ Int.ofNat k := by simp
      have hk' : (Int.ofNat k).toNat = k := rfl
      have : (Instr.index t (.string s) (.int kk (Int.ofNat k))).run E.P w = .ok (.int .u8 b.toNat) w := by
        simp only [Instr.index, asIntOf, Sem.run_bind, Sem.run_pure, Result.andThen_ok, run_und ht, if_pos h0, hk', hget]
      simp only [execOp, e0, e1, Sem.run_bind, this, Result.andThen_ok, Sem.run_pure]
    · cases hev
  · exact s_pure hev hx (fun cs b q => by cases q) hR
theorem s_slice {t : TypeId} {x : Operand} {lo hi mx : Option Operand} (hev : evOp E tm h ⟨dst, .slice t x lo hi mx, ty, pos, after, guard⟩ = some r) (hx : ∀ y ∈ (Op.slice t x lo hi mx).operands.toList, OKo ρ tm a y)
    (hR : Rel ρ h w) : Good E.P ρ h w ((execOp a.eval ⟨dst, .slice t x lo hi mx, ty, pos, after, guard⟩).run E.P w) r := by
  have hx0 : OKo ρ tm a x := hx x (by simp [Op.operands])
  have hlo : ∀ y, lo = some y → OKo ρ tm a y := fun y q => hx y (by subst q; simp [Op.operands])
  have hhi : ∀ y, hi = some y → OKo ρ tm a y := fun y q => hx y (by subst q; simp [Op.operands])
  have hmx : ∀ y, mx = some y → OKo ρ tm a y := fun y q => hx y (by subst q; simp [Op.operands])
  simp only [evOp, hSlice] at hev
  split at hev
  · rename_i b n c hb
    obtain ⟨v, hv, rfl⟩ := valR_some hev
    have hvr := evA_sound hb hx0
    unfold slice at hv
    split at hv
    · rename_i e b' len cap hs q
      cases q
      split at hv
      · -- no max
        rename_i size hn hm0
        have hmn : mx = none := by cases mx <;> simp_all
        subst hmn
        split at hv
        · rename_i hcap
          split at hv
          · rename_i hv' hh
            split at hv
            · rename_i l hl
              split at hv
              · rename_i hle
                cases hv
                have b1 := bnd_op hh hhi
                have b2 := bnd_op hl hlo
                cases b with
                | none =>
                  have e0 := inv_snil hvr
                  refine Good.same hR (v' := .slice none (hv' - l) (c - l)) ?_ ?_
                  · have := run_slice (P := E.P) (w := w) (b := none) hs hn (run_sb (a := a) (P := E.P) (w := w) (len := n) (cap := c) (lo := lo) (hi := hi) b1 b2)
                    simp only [execOp, e0, Option.map_none, Sem.run_bind, this, Result.andThen_ok]
                    simp
                  · simp only [Option.map_none, ite_self]; exact .snil _ _
                | some b =>
                  obtain ⟨b', c', e0, hS⟩ := inv_slice hvr
                  obtain ⟨h1, h2, h3, h4, h7⟩ := hS
                  have hcc := h4 hcap
                  subst hcc
                  refine Good.same hR (v' := .slice (some (if c' = l then b' else b'.add (l * size))) (hv' - l) (c' - l)) ?_ ?_
                  · have := run_slice (P := E.P) (w := w) (b := some b') hs hn (run_sb (a := a) (P := E.P) (w := w) (len := n) (cap := c') (lo := lo) (hi := hi) b1 b2)
                    simp only [execOp, e0, Option.map_none, Sem.run_bind, this, Result.andThen_ok, Sem.run_pure]
                    split <;> simp
                  · have hl2 : l ≤ hv' := by rcases b2 with ⟨_, q⟩ | ⟨_, _, _, _, q⟩ <;> omega
                    have hgoal : VR ρ (.slice (some (if c' = l then b else b.add (l * size))) (hv' - l) (c' - l)) (.slice (some (if c' = l then b' else b'.add (l * size))) (hv' - l) (c' - l)) := by
                      by_cases q : c' = l
                      · rw [if_pos q, if_pos q]
                        refine .slice ⟨h1, .inl ⟨by omega, by omega⟩, by omega, fun _ => rfl, .inr ⟨by omega, by omega⟩⟩
                      · rw [if_neg q, if_neg q]
                        refine .slice ⟨Addr.add_spot _ _ h1, h2.imp (fun _ => ⟨by omega, by omega⟩) (Addr.add_spot _ _), by omega, fun _ => rfl, ?_⟩
                        rcases h7 with ⟨cc, s, z, h5, h6, q1, _⟩ | ⟨q1, q2⟩
                        · exact .inl ⟨cc, s, z, by rw [Addr.add_block]; exact h5, by rw [Addr.add_block]; exact h6, by rw [Addr.add_off, Addr.add_off, q1]; omega, fun q3 => by unfold UNK at q3 hcap; omega⟩
                        · exact .inr ⟨by omega, by omega⟩
                    by_cases q : c' = l
                    · simp only [q, if_true] at hgoal ⊢; exact hgoal
                    · simp only [q, if_false, Option.map_some] at hgoal ⊢; exact hgoal
              · cases hv
            · cases hv
          · cases hv
        · rename_i hcap
          split at hv
          · cases hv
          · rename_i b
            split at hv
            · rename_i hv' hh
              split at hv
              · rename_i l hl
                split at hv
                · rename_i hcu
                  cases hv
                  have b1 := bnd_op hh hhi
                  have b2 := bnd_op hl hlo
                  obtain ⟨b', c', e0, hS⟩ := inv_slice hvr
                  obtain ⟨h1, h2, h3, h4, h7⟩ := hS
                  have b1' : (hi = none ∧ hv' = n) ∨ ∃ x k, hi = some x ∧ a.eval x = .int k (hv' : Int) ∧ hv' ≤ c' := by
                    rcases b1 with q | ⟨x, k, q1, q2, q3⟩
                    · exact .inl q
                    · exact .inr ⟨x, k, q1, q2, by omega⟩
                  have hl2 : l ≤ hv' := by rcases b2 with ⟨_, q⟩ | ⟨_, _, _, _, q⟩ <;> omega
                  have hh2 : hv' ≤ n := by rcases b1 with ⟨_, q⟩ | ⟨_, _, _, _, q⟩ <;> omega
                  refine Good.same hR (v' := .slice (some (if c' = l then b' else b'.add (l * size))) (hv' - l) (c' - l)) ?_ ?_
                  · have := run_slice (P := E.P) (w := w) (b := some b') hs hn (run_sb (a := a) (P := E.P) (w := w) (len := n) (cap := c') (lo := lo) (hi := hi) b1' b2)
                    simp only [execOp, e0, Option.map_none, Sem.run_bind, this, Result.andThen_ok, Sem.run_pure]
                    split <;> simp
                  · by_cases q : c' = l
                    · rw [if_pos q]
                      exact .slice ⟨Addr.add_spot _ _ h1, .inl ⟨by omega, by omega⟩, by omega, fun q => absurd q hcap, .inr ⟨by omega, by omega⟩⟩
                    · rw [if_neg q]
                      refine .slice ⟨Addr.add_spot _ _ h1, h2.imp (fun _ => ⟨by omega, by omega⟩) (Addr.add_spot _ _), by omega, fun q => absurd q hcap, ?_⟩
                      rcases h7 with ⟨cc, s, z, h5, h6, q1, q2⟩ | ⟨q1, q2⟩
                      · refine .inl ⟨cc, s, z, by rw [Addr.add_block]; exact h5, by rw [Addr.add_block]; exact h6, by rw [Addr.add_off, Addr.add_off, q1]; omega, fun q3 => ?_⟩
                        have q4 := q2 q3
                        rw [Addr.add_off]
                        subst hcu
                        rw [Nat.add_sub_cancel_left] at q4 ⊢
                        have : (c' - l) * size + l * size = c' * size := by rw [← Nat.add_mul]; congr 1; omega
                        omega
                      · exact .inr ⟨by omega, by omega⟩
                · cases hv
              · cases hv
            · cases hv
      · -- max
        rename_i size mv hn hm0
        obtain ⟨mo, rfl⟩ : ∃ mo, mx = some mo := by cases mx <;> simp_all
        simp only [Option.map_some, Option.some.injEq] at hm0
        subst hm0
        split at hv
        · rename_i m hiv hm hhi0
          obtain ⟨ho, rfl⟩ : ∃ ho, hi = some ho := by cases hi <;> simp_all
          simp only [Option.map_some, Option.some.injEq] at hhi0
          subst hhi0
          split at hv
          · rename_i hv' hh
            split at hv
            · rename_i l hl
              have b0 := bnd_op (ρ := ρ) (a := a) (lo := some mo) hm hmx
              have b1 := bnd_op (ρ := ρ) (a := a) (lo := some ho) hh hhi
              have b2 := bnd_op hl hlo
              simp only [reduceCtorEq, false_and, false_or, Option.some.injEq, exists_and_left] at b0 b1
              obtain ⟨_, rfl, k1, e1, hm1⟩ := b0
              obtain ⟨_, rfl, k2, e2, hh1⟩ := b1
              have hl2 : l ≤ hv' := by rcases b2 with ⟨_, q⟩ | ⟨_, _, _, _, q⟩ <;> omega
              split at hv
              · rename_i hcap
                cases hv
                rw [if_pos hcap] at hm1
                cases b with
                | none =>
                  have e0 := inv_snil hvr
                  refine Good.same hR (v' := .slice none (hv' - l) (m - l)) ?_ ?_
                  · have := run_slice (P := E.P) (w := w) (b := none) hs hn (run_sb3 (a := a) (P := E.P) (w := w) (len := n) (cap := c) (lo := lo) e1 hm1 e2 hh1 b2)
                    simp only [execOp, e0, Option.map_some, Sem.run_bind, this, Result.andThen_ok]
                    simp
                  · simp only [Option.map_none, ite_self]; exact .snil _ _
                | some b =>
                  obtain ⟨b', c', e0, hS⟩ := inv_slice hvr
                  obtain ⟨h1, h2, h3, h4, h7⟩ := hS
                  have hcc := h4 hcap
                  subst hcc
                  refine Good.same hR (v' := .slice (some (if m = l then b' else b'.add (l * size))) (hv' - l) (m - l)) ?_ ?_
                  · have := run_slice (P := E.P) (w := w) (b := some b') hs hn (run_sb3 (a := a) (P := E.P) (w := w) (len := n) (cap := c') (lo := lo) e1 hm1 e2 hh1 b2)
                    simp only [execOp, e0, Option.map_some, Sem.run_bind, this, Result.andThen_ok, Sem.run_pure]
                    split <;> simp
                  · have hgoal : VR ρ (.slice (some (if m = l then b else b.add (l * size))) (hv' - l) (m - l)) (.slice (some (if m = l then b' else b'.add (l * size))) (hv' - l) (m - l)) := by
                      by_cases q : m = l
                      · rw [if_pos q, if_pos q]
                        refine .slice ⟨h1, .inl ⟨by omega, by omega⟩, by omega, fun _ => rfl, .inr ⟨by omega, by omega⟩⟩
                      · rw [if_neg q, if_neg q]
                        refine .slice ⟨Addr.add_spot _ _ h1, h2.imp (fun _ => ⟨by omega, by omega⟩) (Addr.add_spot _ _), by omega, fun _ => rfl, ?_⟩
                        rcases h7 with ⟨cc, s, z, h5, h6, q1, _⟩ | ⟨q1, q2⟩
                        · exact .inl ⟨cc, s, z, by rw [Addr.add_block]; exact h5, by rw [Addr.add_block]; exact h6, by rw [Addr.add_off, Addr.add_off, q1]; omega, fun q3 => by unfold UNK at q3 hcap; omega⟩
                        · exact .inr ⟨by omega, by omega⟩
                    by_cases q : m = l
                    · simp only [q, if_true] at hgoal ⊢; exact hgoal
                    · simp only [q, if_false, Option.map_some] at hgoal ⊢; exact hgoal
              · rename_i hcap
                split at hv
                · cases hv
                · rename_i b
                  split at hv
                  rotate_left
                  · cases hv
                  rename_i hmu
                  cases hv
                  rw [if_neg hcap] at hm1
                  obtain ⟨b', c', e0, hS⟩ := inv_slice hvr
                  obtain ⟨h1, h2, h3, h4, h7⟩ := hS
                  refine Good.same hR (v' := .slice (some (if m = l then b' else b'.add (l * size))) (hv' - l) (m - l)) ?_ ?_
                  · have := run_slice (P := E.P) (w := w) (b := some b') hs hn (run_sb3 (a := a) (P := E.P) (w := w) (len := n) (cap := c') (lo := lo) e1 (by omega) e2 hh1 b2)
                    simp only [execOp, e0, Option.map_some, Sem.run_bind, this, Result.andThen_ok, Sem.run_pure]
                    split <;> simp
                  · by_cases q : m = l
                    · rw [if_pos q, if_pos q]
                      refine .slice ⟨h1, .inl ⟨by omega, by omega⟩, by omega, fun _ => rfl, .inr ⟨by omega, by omega⟩⟩
                    · rw [if_neg q, if_neg q]
                      refine .slice ⟨Addr.add_spot _ _ h1, h2.imp (fun _ => ⟨by omega, by omega⟩) (Addr.add_spot _ _), by omega, fun _ => rfl, ?_⟩
                      rcases h7 with ⟨cc, s, z, h5, h6, q1, _⟩ | ⟨q1, q2⟩
                      · exact .inl ⟨cc, s, z, by rw [Addr.add_block]; exact h5, by rw [Addr.add_block]; exact h6, by rw [Addr.add_off, Addr.add_off, q1]; omega, fun q3 => by omega⟩
                      · exact .inr ⟨by omega, by omega⟩
            · cases hv
          · cases hv
        · cases hv
      · cases hv
    · cases hv
  · rename_i s hs
    cases mx with
    | none => exact s_sliceS hs hev hx0 hlo hhi hR
    | some m => cases hev
  · rename_i hne
    exact s_pure hev hx (fun cs b q => by cases q) hR
end
end Go.Proofs.Ytknenadpkgajjaa.GEv
