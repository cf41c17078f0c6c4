/- Symbolic runs of a region that draws, the last but one of whose operations writes: all stand ahead of it. -/
import Derived.Test.YtknenadpkgajjaaGSyC
namespace Go.Proofs.Ytknenadpkgajjaa.GEv
open Go
set_option linter.unusedSimpArgs false
set_option linter.unusedVariables false
def SeenOk (i : Nat) (seen : List (Nat × Foot)) : Prop := ∀ p ∈ seen, p.1 < i ∧ RdF p.2
theorem SeenOk.nil (i : Nat) : SeenOk i [] := fun p h => by cases h
theorem SeenOk.cons {i : Nat} {seen : List (Nat × Foot)} {f : Foot} (hf : RdF f) (h : SeenOk i seen) : SeenOk (i + 1) ((i, f) :: seen) := by
  intro p hp
  cases hp with
  | head => exact ⟨Nat.lt_succ_self _, hf⟩
  | tail _ hp => exact ⟨Nat.lt_succ_of_lt (h p hp).1, (h p hp).2⟩
theorem SeenOk.up {i j : Nat} {seen : List (Nat × Foot)} (h : SeenOk i seen) (hj : i ≤ j) : SeenOk j seen := fun p hp => ⟨Nat.lt_of_lt_of_le (h p hp).1 hj, (h p hp).2⟩
theorem SeenOk.rd {i : Nat} : ∀ {seen : List (Nat × Foot)}, SeenOk i seen → allRd seen = true
  | [], _ => rfl
  | (j, f) :: r, h => by
    exact allRd_cons (h (j, f) (List.mem_cons_self ..)).2 (SeenOk.rd (seen := r) fun p hp => h p (List.mem_cons_of_mem _ hp))
theorem fits_all {bef i : Nat} {f : Foot} : ∀ {seen : List (Nat × Foot)}, SeenOk i seen → (∀ j, j < i → Nat.testBit bef j = true) → fits bef f seen = true
  | [], _, _ => rfl
  | (j, g) :: r, h, hb => by
    have hj := hb j (h (j, g) (List.mem_cons_self ..)).1
    simp only [fits, hj, fits_all (seen := r) (fun p hp => h p (List.mem_cons_of_mem _ hp)) hb]
    simp
section
variable {E : Env} {nt : Nat}
theorem dr_step2 {ops : Array Oper} {bef : List Nat} {o : Oper} {r : List Oper} {i : Nat} {seen : List (Nat × Foot)} {n : Nat} {tm tm1 : TM} {h : H} {v : Value} {R : St}
    (hw : wanted ops tm o = true) (hs : SeenOk i seen) (he : evFull E (ev E n) tm ⟨h.m, h.next, top h.next⟩ o = some (v, ⟨h.m, h.next, top h.next⟩)) (hp : putT tm nt o.dst v = some tm1) (hns : ∀ t x y, o.op ≠ .store t x y)
    (hr : ∀ seen', SeenOk (i + 1) seen' → evDraw E (ev E n) ops bef r (i + 1) seen' ⟨tm1, nt, h.dip⟩ = some R) : evDraw E (ev E n) ops bef (o :: r) i seen ⟨tm, nt, h⟩ = some R := by
  have hb : Nat.blt (top h.next) h.next = false := by
    rw [blt_spec]
    exact decide_eq_false (by have := (top_ge h.next).2; omega)
  simp only [evDraw, hw, if_true, he, hp]
  cases hpu : pureOp o.op with
  | true => exact hr seen (hs.up (Nat.le_succ i))
  | false =>
    have hc := foot_rd (b := Nat.blt (top h.next) h.next) (m := h.m) (m' := h.m) hpu he rfl hb hns
    simp only [Bool.false_eq_true, if_false, fits_rd hc hs.rd, if_true]
    exact hr _ (SeenOk.cons hc hs)
theorem syDr_go {ops : Array Oper} {bef : List Nat} {K : L → Prop} {Q : TM → H → Prop} (rest : List Oper) (h : H) : ∀ {r : List Oper} {i : Nat} {l : L} {tm : TM} {g : H}, (g = h ∨ g = h.dip) → View l tm → syDr E nt ops.toList r l h K →
    (∀ o ∈ r, ∀ t x y, o.op ≠ .store t x y) →
    (∀ l' tm' g', (g' = h ∨ g' = h.dip) → View l' tm' → K l' → ∃ n tm2 h2, (∀ seen, SeenOk (i + r.length) seen → evDraw E (ev E n) ops bef rest (i + r.length) seen ⟨tm', nt, g'⟩ = some ⟨tm2, nt, h2⟩) ∧ Q tm2 h2) →
    ∃ n tm2 h2, (∀ seen, SeenOk i seen → evDraw E (ev E n) ops bef (r ++ rest) i seen ⟨tm, nt, g⟩ = some ⟨tm2, nt, h2⟩) ∧ Q tm2 h2
  | [], i, l, tm, g, hg, hv, hs, _, hk => hk l tm g hg hv hs
  | o :: r, i, l, tm, g, hg, hv, hs, hns, hk => by
    have hgt : (⟨g.m, g.next, top g.next⟩ : H) = ⟨h.m, h.next, top h.next⟩ := by rcases hg with rfl | rfl <;> rfl
    have hgd : g.dip = h.dip := by rcases hg with rfl | rfl; rfl; exact dip_dip h
    have hns' : ∀ o ∈ r, ∀ t x y, o.op ≠ .store t x y := fun o ho => hns o (List.mem_cons_of_mem _ ho)
    have hk' : ∀ l' tm' g', (g' = h ∨ g' = h.dip) → View l' tm' → K l' → ∃ n tm2 h2, (∀ seen, SeenOk (i + 1 + r.length) seen → evDraw E (ev E n) ops bef rest (i + 1 + r.length) seen ⟨tm', nt, g'⟩ = some ⟨tm2, nt, h2⟩) ∧ Q tm2 h2 := by
      intro l' tm' g' q1 q2 q3
      rw [show i + 1 + r.length = i + (o :: r).length by rw [List.length_cons]; omega]
      exact hk l' tm' g' q1 q2 q3
    simp only [syDr] at hs
    split at hs
    · rename_i hd
      split at hs
      · rename_i hw
        have key : ∀ {n : Nat} {v : Value}, evFull E (ev E n) tm ⟨h.m, h.next, top h.next⟩ o = some (v, ⟨h.m, h.next, top h.next⟩) → syDr E nt ops.toList r (putL o.dst v l) h K →
            ∃ n tm2 h2, (∀ seen, SeenOk i seen → evDraw E (ev E n) ops bef (o :: (r ++ rest)) i seen ⟨tm, nt, g⟩ = some ⟨tm2, nt, h2⟩) ∧ Q tm2 h2 := by
          intro n v e1 k1
          obtain ⟨tm1, e2, hv1⟩ := put_ok (v := v) hv hd
          obtain ⟨m, tm2, h2, e3, k2⟩ := syDr_go rest h (i := i + 1) (g := h.dip) (.inr rfl) hv1 k1 hns' hk'
          refine ⟨max n m, tm2, h2, fun seen hseen => ?_, k2⟩
          refine dr_step2 (want_ok hv hw) hseen (v := v) (tm1 := tm1) (h := g) (by rw [hgt]; exact evFull_mono (ev_mono E n _ (Nat.le_max_left n m)) e1) e2 (hns o (List.mem_cons_self ..)) ?_
          rw [hgd]
          exact fun s hs => evDraw_mono (ev_mono E m _ (Nat.le_max_right n m)) (e3 s hs)
        split at hs
        · rename_i hq
          obtain ⟨n, v, h1, e1, k1⟩ := (syOp_ok hv hs).ex
          have := quiet_same hq e1
          subst this
          exact key e1 k1
        · obtain ⟨n, v, h1, e1, rfl, k1⟩ := (syOp_ok hv hs).ex
          exact key e1 k1
      · rename_i hw
        obtain ⟨tm1, e2, hv1⟩ := put_ok (v := undef) hv hd
        obtain ⟨m, tm2, h2, e3, k2⟩ := syDr_go rest h (i := i + 1) hg hv1 hs hns' hk'
        refine ⟨m, tm2, h2, fun seen hseen => ?_, k2⟩
        show evDraw E (ev E m) ops bef (o :: (r ++ rest)) i seen ⟨tm, nt, g⟩ = _
        simp only [evDraw, want_ok hv hw, Bool.false_eq_true, if_false, e2]
        exact e3 seen (hseen.up (Nat.le_succ i))
      · exact hs.elim
    · exact hs.elim
/-- A region that draws: what stands ahead, then an operation that may write, behind all; then one more. -/
theorem Ends.drawK {id : Nat} {ops : Array Oper} {front : List Oper} {o a : Oper} {l : L} {tm : TM} {h : H} {kn kr : L → H → Prop} {ke : Nat → L → H → Prop} {K : L → Prop} (hops : ops.toList = front ++ [o, a]) (hlex : Region.lexB .any ops = true)
    (hns : noStore front = true) (hbef : ∀ j, j < front.length → Nat.testBit ((befL ops.toList []).getD front.length 0) j = true) (ho : pureOp o.op = false) (ha : pureOp a.op = true)
    (hv : View l tm) (hs : syDr E nt ops.toList front l h K)
    (hk : ∀ l1, K l1 → dstOk nt o.dst = true ∧ wantL ops.toList l1 o = some true ∧ syOp E l1 ⟨h.m, h.next, top h.next⟩ o fun v h1 => dstOk nt a.dst = true ∧ wantL ops.toList (putL o.dst v l1) a = some true ∧
      ∀ low, syOp E (putL o.dst v l1) ⟨h1.m, h1.next, low⟩ a fun v2 _ => ∀ h3, h3.m = h1.m → h3.next = h1.next → (∀ k, k ≤ h1.next → k ≤ h1.low → k ≤ h.low → k ≤ h.next → k ≤ h3.low) → kn (putL a.dst v2 (putL o.dst v l1)) h3) :
    Ends E nt (.region id ops true) tm h (Up kn) (Up kr) fun i => Up (ke i) := by
  have go := syDr_go (E := E) (nt := nt) (ops := ops) (bef := befL ops.toList []) (K := K) (Q := Up kn) [o, a] h (r := front) (i := 0) (g := h) (.inl rfl) hv hs (noStore_ok hns) ?_
  · obtain ⟨n, tm2, h2, e, q⟩ := go
    refine ⟨n + 1, .normal, tm2, h2, ?_, q⟩
    have := e [] (SeenOk.nil 0)
    rw [← hops] at this
    simp only [ev, step, hlex, if_true, this, norm]
  · intro l1 tm1 g hg hv1 k1
    obtain ⟨d1, w1, s1⟩ := hk l1 k1
    have hgt : (⟨g.m, g.next, top g.next⟩ : H) = ⟨h.m, h.next, top h.next⟩ := by rcases hg with rfl | rfl <;> rfl
    obtain ⟨n1, v, h1, e1, d2, w2, s2⟩ := (syOp_ok hv1 s1).ex
    obtain ⟨tm2, p1, hv2⟩ := put_ok (v := v) hv1 d1
    have s3 := s2 (top h1.next)
    obtain ⟨n2, v2, h2, e2, k2⟩ := (syOp_ok hv2 s3).ex
    obtain ⟨tm3, p2, hv3⟩ := put_ok (v := v2) hv2 d2
    obtain ⟨rfl, _⟩ := pure_full ha e2
    refine ⟨max n1 n2, tm3, ⟨h1.m, h1.next, if top h1.next < (if h1.low < g.low then h1.low else g.low) then top h1.next else (if h1.low < g.low then h1.low else g.low)⟩, fun seen hseen => ?_, ⟨_, hv3, k2 _ rfl rfl fun k q1 q2 q3 q4 => ?_⟩⟩
    rotate_left
    · have t1 := (top_ge h1.next).2
      have t2 := (top_ge h.next).2
      have hgl : k ≤ g.low := by
        rcases hg with rfl | rfl
        · exact q3
        · show k ≤ (if top h.next < h.low then top h.next else h.low)
          split <;> omega
      have hm : k ≤ (if h1.low < g.low then h1.low else g.low) := by
        split
        · exact q2
        · exact hgl
      have ht : k ≤ top h1.next := Nat.le_trans q1 t1
      show k ≤ (if top h1.next < (if h1.low < g.low then h1.low else g.low) then top h1.next else (if h1.low < g.low then h1.low else g.low))
      generalize (if h1.low < g.low then h1.low else g.low) = X at hm ⊢
      split
      · exact ht
      · exact hm
    rw [Nat.zero_add] at hseen ⊢
    have e1' := evFull_mono (ev_mono E n1 _ (Nat.le_max_left n1 n2)) e1
    have e2' := evFull_mono (ev_mono E n2 _ (Nat.le_max_right n1 n2)) e2
    simp only [evDraw, want_ok hv1 w1, if_true, hgt, e1', p1, ho, Bool.false_eq_true, if_false, fits_all hseen hbef, want_ok hv2 w2, e2', p2, ha]
end
end Go.Proofs.Ytknenadpkgajjaa.GEv
