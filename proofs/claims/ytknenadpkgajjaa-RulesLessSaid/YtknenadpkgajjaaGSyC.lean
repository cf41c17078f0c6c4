/- Symbolic runs, third part: regions, code, loops, calls. -/
import Derived.Test.YtknenadpkgajjaaGSyB
namespace Go.Proofs.Ytknenadpkgajjaa.GEv
open Go
set_option linter.unusedSimpArgs false
set_option linter.unusedVariables false

def Up (K : L → H → Prop) (tm : TM) (h : H) : Prop := ∃ l, View l tm ∧ K l h
def putL (d : Option Nat) (v : Value) (l : L) : L := match d with
  | some d => (d, v) :: l
  | none => l
/-- Whether an operation is wanted. -/
def wantL (ops : List Oper) (l : L) (o : Oper) : Option Bool := match o.guard with
  | none => some true
  | some (j, w) => match ops[j]? with
    | some q => match q.dst with
      | some d => match look l d with
        | some (.bool b) => some (b == w)
        | some _ => some false
        | none => none
      | none => some false
    | none => some false
def dstOk (nt : Nat) (d : Option Nat) : Bool := match d with
  | none => true
  | some d => Nat.blt d nt
def syOps (E : Env) (nt : Nat) (ops : List Oper) : List Oper → L → H → (L → H → Prop) → Prop
  | [], l, h, K => K l h
  | o :: r, l, h, K => match dstOk nt o.dst with
    | true => match wantL ops l o with
      | some true => syOp E l h o fun v h => syOps E nt ops r (putL o.dst v l) h K
      | some false => syOps E nt ops r (putL o.dst undef l) h K
      | none => False
    | false => False
/-- The memory's mark, behind a region that draws. -/
def H.dip (h : H) : H := ⟨h.m, h.next, if top h.next < h.low then top h.next else h.low⟩
theorem dip_dip (h : H) : h.dip.dip = h.dip := by
  by_cases q : top h.next < h.low
  · simp [H.dip, q]
  · simp [H.dip, q]
/-- Operations of a region that draws: they look at no memory, or load. -/
def quiet (o : Op) : Bool := match o with
  | .load _ _ => true
  | o => pureOp o
def syDr (E : Env) (nt : Nat) (ops : List Oper) : List Oper → L → H → (L → Prop) → Prop
  | [], l, h, K => K l
  | o :: r, l, h, K => match dstOk nt o.dst with
    | true => match wantL ops l o with
      | some true => match quiet o.op with
        | true => syOp E l ⟨h.m, h.next, top h.next⟩ o fun v h1 => syDr E nt ops r (putL o.dst v l) h K
        | false => syDr1 E nt ops o l h fun v => syDr E nt ops r (putL o.dst v l) h K
      | some false => syDr E nt ops r (putL o.dst undef l) h K
      | none => False
    | false => False
where
  /-- An operation that leaves the memory as it is. -/
  syDr1 (E : Env) (nt : Nat) (ops : List Oper) (o : Oper) (l : L) (h : H) (K : Value → Prop) : Prop := syOp E l ⟨h.m, h.next, top h.next⟩ o fun v h1 => h1 = ⟨h.m, h.next, top h.next⟩ ∧ K v
def noStore : List Oper → Bool
  | [] => true
  | o :: r => match o.op with
    | .store _ _ _ => false
    | _ => noStore r
/-- A region that draws and does not store; its first operation comes up. -/
def drOk (l : List Oper) : Bool := match l with
  | [] => false
  | o :: r => match o.guard with
    | none => noStore (o :: r)
    | some _ => false
/-- A loop. -/
structure LoopP (E : Env) (nt : Nat) (a : Code) (l : L) (h : H) (kn kr : L → H → Prop) (ke : Nat → L → H → Prop) : Prop where
  ok : ∀ tm, View l tm → Ends E nt (.loop a) tm h (Up kn) (Up kr) fun i => Up (ke i)
/-- Any other code. -/
structure CodeP (E : Env) (nt : Nat) (a : Code) (l : L) (h : H) (kn kr : L → H → Prop) (ke : Nat → L → H → Prop) : Prop where
  ok : ∀ tm, View l tm → Ends E nt a tm h (Up kn) (Up kr) fun i => Up (ke i)
/-- **Code: what must hold so that whatever follows holds.** -/
def sy (E : Env) (nt : Nat) : Code → L → H → (L → H → Prop) → (L → H → Prop) → (Nat → L → H → Prop) → Prop
  | .skip, l, h, kn, _, _ => kn l h
  | .region _ ops false, l, h, kn, _, _ => syOps E nt ops.toList ops.toList l h kn
  | .region _ ops true, l, h, kn, _, _ => (Region.lexB .any ops && drOk ops.toList) = true ∧ syDr E nt ops.toList ops.toList l h fun l => kn l h.dip
  | .seq a b, l, h, kn, kr, ke => sy E nt a l h (fun l h => sy E nt b l h kn kr ke) kr ke
  | .cond c a b, l, h, kn, kr, ke => match evL l c with
    | some (.bool true) => sy E nt a l h kn kr ke
    | some (.bool false) => sy E nt b l h kn kr ke
    | _ => False
  | .block i a, l, h, kn, kr, ke => sy E nt a l h kn kr fun j l h => match Nat.beq j i with
    | true => kn l h
    | false => ke j l h
  | .loop a, l, h, kn, kr, ke => LoopP E nt a l h kn kr ke
  | .exit i, l, h, _, _, ke => ke i l h
  | .ret, l, h, _, kr, _ => kr l h
  | c, l, h, kn, kr, ke => CodeP E nt c l h kn kr ke

section
variable {E : Env} {nt : Nat} {l : L} {tm : TM} {h : H}
theorem want_ok {ops : Array Oper} {o : Oper} {b : Bool} (hv : View l tm) (hw : wantL ops.toList l o = some b) : wanted ops tm o = b := by
  cases hg : o.guard with
  | none =>
    simp only [wantL, hg] at hw
    cases hw
    simp only [wanted, hg]
  | some jw =>
    obtain ⟨j, w⟩ := jw
    simp only [wantL, hg, Array.getElem?_toList] at hw
    cases hj : ops[j]? with
    | none =>
      simp only [hj] at hw
      cases hw
      simp only [wanted, hg, hj, Option.bind_none]
    | some q =>
      simp only [hj] at hw
      cases hd : q.dst with
      | none =>
        simp only [hd] at hw
        cases hw
        simp only [wanted, hg, hj, Option.bind_some, hd]
      | some d =>
        simp only [hd] at hw
        split at hw
        · rename_i b' hl
          cases hw
          simp only [wanted, hg, hj, Option.bind_some, hd, hv d _ hl]
        · rename_i v hne hl
          cases hw
          simp only [wanted, hg, hj, Option.bind_some, hd, hv d _ hl]
        · cases hw
theorem put_ok {d : Option Nat} {v : Value} (hv : View l tm) (hd : dstOk nt d = true) : ∃ tm', putT tm nt d v = some tm' ∧ View (putL d v l) tm' := by
  cases d with
  | none => exact ⟨tm, rfl, hv⟩
  | some d =>
    refine ⟨tm.set d (some v), ?_, ?_⟩
    · simp only [putT]
      rw [show Nat.blt d nt = true from hd]
    · exact View.cons hv (nt := nt) (by simp only [putT]; rw [show Nat.blt d nt = true from hd])
theorem syOps_ok {ops : Array Oper} {K : L → H → Prop} : ∀ {r : List Oper} {l : L} {tm : TM} {h : H}, View l tm → syOps E nt ops.toList r l h K →
    ∃ n tm' h', evOps E (ev E n) ops r ⟨tm, nt, h⟩ = some ⟨tm', nt, h'⟩ ∧ Up K tm' h'
  | [], l, tm, h, hv, hs => ⟨0, tm, h, rfl, l, hv, hs⟩
  | o :: r, l, tm, h, hv, hs => by
    simp only [syOps] at hs
    split at hs
    · rename_i hd
      split at hs
      · rename_i hw
        obtain ⟨n, v, h1, e1, k1⟩ := (syOp_ok hv hs).ex
        obtain ⟨tm1, e2, hv1⟩ := put_ok (v := v) hv hd
        obtain ⟨m, tm2, h2, e3, k2⟩ := syOps_ok hv1 k1
        refine ⟨max n m, tm2, h2, ?_, k2⟩
        simp only [evOps, want_ok hv hw, if_true, evFull_mono (ev_mono E n _ (Nat.le_max_left n m)) e1, e2]
        exact evOps_mono (ev_mono E m _ (Nat.le_max_right n m)) e3
      · rename_i hw
        obtain ⟨tm1, e2, hv1⟩ := put_ok (v := undef) hv hd
        obtain ⟨m, tm2, h2, e3, k2⟩ := syOps_ok hv1 hs
        refine ⟨m, tm2, h2, ?_, k2⟩
        simp only [evOps, want_ok hv hw, Bool.false_eq_true, if_false, e2]
        exact e3
      · exact hs.elim
    · exact hs.elim
def allRd : List (Nat × Foot) → Bool
  | [] => true
  | (_, .rd _) :: r => allRd r
  | (_, .own) :: r => allRd r
  | _ => false
def RdF (f : Foot) : Prop := (∃ c, f = .rd c) ∨ f = .own
theorem allRd_cons {f : Foot} {i : Nat} {seen : List (Nat × Foot)} (hf : RdF f) (h : allRd seen = true) : allRd ((i, f) :: seen) = true := by
  rcases hf with ⟨c, rfl⟩ | rfl <;> exact h
theorem fits_rd {bef : Nat} {f : Foot} (hf : RdF f) : ∀ {seen : List (Nat × Foot)}, allRd seen = true → fits bef f seen = true
  | [], _ => rfl
  | (j, .rd c) :: r, h => by
    simp only [fits]
    have : clash f (.rd c) = false := by
      rcases hf with ⟨b, rfl⟩ | rfl
      · cases b <;> cases c <;> rfl
      · rfl
    rw [this, fits_rd hf (seen := r) h]
    rfl
  | (j, .own) :: r, h => by
    simp only [fits]
    have : clash f .own = false := by
      rcases hf with ⟨b, rfl⟩ | rfl
      · cases b <;> rfl
      · rfl
    rw [this, fits_rd hf (seen := r) h]
    rfl
  | (j, .wr c) :: r, h => by cases h
  | (j, .gen c d) :: r, h => by cases h
theorem foot_rd {o : Oper} {tm : TM} {n : Nat} {h h' : H} {v : Value} {b : Bool} {m m' : U AObj} (hp : pureOp o.op = false) (he : evFull E (ev E n) tm h o = some (v, h')) (hs : h'.m = h.m) (hb : b = false) (hns : ∀ t x y, o.op ≠ .store t x y) :
    RdF (foot tm o b m m') := by
  rcases foot_cases (b := b) (m := m) (m' := m') hp he with ⟨_, _, a, _, _, e, _⟩ | ⟨t, x, y, _, _, e, _⟩ | e | ⟨e, _⟩
  · exact .inl ⟨_, e⟩
  · exact absurd e (hns t x y)
  · subst hb; exact .inl ⟨none, e⟩
  · exact .inr e
theorem dr_step {ops : Array Oper} {bef : List Nat} {o : Oper} {r : List Oper} {i : Nat} {seen : List (Nat × Foot)} {n : Nat} {tm tm1 : TM} {h : H} {v : Value} {R : St}
    (hw : wanted ops tm o = true) (hs : allRd seen = true) (he : evFull E (ev E n) tm ⟨h.m, h.next, top h.next⟩ o = some (v, ⟨h.m, h.next, top h.next⟩)) (hp : putT tm nt o.dst v = some tm1) (hns : ∀ t x y, o.op ≠ .store t x y)
    (hr : ∀ seen', allRd seen' = true → evDraw E (ev E n) ops bef r (i + 1) seen' ⟨tm1, nt, h.dip⟩ = some R) : evDraw E (ev E n) ops bef (o :: r) i seen ⟨tm, nt, h⟩ = some R := by
  have hb : Nat.blt (top h.next) h.next = false := by
    rw [blt_spec]
    exact decide_eq_false (by have := (top_ge h.next).2; omega)
  simp only [evDraw, hw, if_true, he, hp]
  cases hpu : pureOp o.op with
  | true => exact hr seen hs
  | false =>
    have hc := foot_rd (b := Nat.blt (top h.next) h.next) (m := h.m) (m' := h.m) hpu he rfl hb hns
    simp only [Bool.false_eq_true, if_false, fits_rd hc hs, if_true]
    exact hr _ (allRd_cons hc hs)
theorem syOp_store_ne {o : Oper} (hq : quiet o.op = true) : ∀ t x y, o.op ≠ .store t x y := fun t x y e => by rw [e] at hq; cases hq
theorem load_val {dst ty pos after guard t x} {r : Res} (he : evOp E tm h ⟨dst, .load t x, ty, pos, after, guard⟩ = some r) : ∃ v, r = .val v h := by
  simp only [evOp, hLoad] at he
  split at he
  · obtain ⟨v, _, q⟩ := valR_some he
    exact ⟨v, q⟩
  · unfold hGlob at he
    split at he
    · split at he
      · cases he; exact ⟨_, rfl⟩
      · cases he
    · cases he
theorem quiet_same {o : Oper} {n : Nat} {tm : TM} {h h' : H} {v : Value} (hq : quiet o.op = true) (he : evFull E (ev E n) tm h o = some (v, h')) : h' = h := by
  cases hp : pureOp o.op with
  | true => exact (pure_full hp he).1
  | false =>
    obtain ⟨dst, op, ty, pos, after, guard⟩ := o
    cases op <;> first
      | (simp only [quiet, pureOp, Bool.true_eq_false, Bool.false_eq_true] at hq hp; done)
      | skip
    unfold evFull at he
    split at he
    · rename_i q
      obtain ⟨u, e⟩ := load_val q
      cases e; cases he; rfl
    · rename_i q
      obtain ⟨u, e⟩ := load_val q
      cases e
    · rename_i q
      obtain ⟨u, e⟩ := load_val q
      cases e
    · cases he
theorem dr_more {ops : Array Oper} {bef : List Nat} {r : List Oper} {i : Nat} {n m : Nat} {st R : St} (hnm : n ≤ m) (hr : ∀ seen', allRd seen' = true → evDraw E (ev E n) ops bef r i seen' st = some R) :
    ∀ seen', allRd seen' = true → evDraw E (ev E m) ops bef r i seen' st = some R := fun s hs => evDraw_mono (ev_mono E n m hnm) (hr s hs)
theorem dip_top (h : H) : (⟨h.dip.m, h.dip.next, top h.dip.next⟩ : H) = ⟨h.m, h.next, top h.next⟩ := rfl
theorem syDr_ok {ops : Array Oper} {bef : List Nat} {K : L → Prop} : ∀ {r : List Oper} {i : Nat} {l : L} {tm : TM} {h g : H}, (g = h ∨ g = h.dip) → View l tm → syDr E nt ops.toList r l h K →
    (∀ o ∈ r, ∀ t x y, o.op ≠ .store t x y) → ∃ n tm' g', ((g' = g ∨ g' = h.dip) ∧ ((∃ o r', r = o :: r' ∧ o.guard = none) → g' = h.dip)) ∧ (∀ seen, allRd seen = true → evDraw E (ev E n) ops bef r i seen ⟨tm, nt, g⟩ = some ⟨tm', nt, g'⟩) ∧ ∃ l', View l' tm' ∧ K l'
  | [], i, l, tm, h, g, hg, hv, hs, _ => ⟨0, tm, g, ⟨.inl rfl, fun ⟨_, _, q, _⟩ => by cases q⟩, fun _ _ => rfl, l, hv, hs⟩
  | o :: r, i, l, tm, h, g, hg, hv, hs, hns => by
    have hgt : (⟨g.m, g.next, top g.next⟩ : H) = ⟨h.m, h.next, top h.next⟩ := by rcases hg with rfl | rfl <;> rfl
    have hgd : g.dip = h.dip := by rcases hg with rfl | rfl; rfl; exact dip_dip h
    have hns' : ∀ o ∈ r, ∀ t x y, o.op ≠ .store t x y := fun o ho => hns o (List.mem_cons_of_mem _ ho)
    simp only [syDr] at hs
    split at hs
    · rename_i hd
      split at hs
      · rename_i hw
        have key : ∀ {n : Nat} {v : Value}, evFull E (ev E n) tm ⟨h.m, h.next, top h.next⟩ o = some (v, ⟨h.m, h.next, top h.next⟩) → syDr E nt ops.toList r (putL o.dst v l) h K →
            ∃ n tm' g', ((g' = g ∨ g' = h.dip) ∧ ((∃ o' r', o :: r = o' :: r' ∧ o'.guard = none) → g' = h.dip)) ∧ (∀ seen, allRd seen = true → evDraw E (ev E n) ops bef (o :: r) i seen ⟨tm, nt, g⟩ = some ⟨tm', nt, g'⟩) ∧ ∃ l', View l' tm' ∧ K l' := by
          intro n v e1 k1
          obtain ⟨tm1, e2, hv1⟩ := put_ok (v := v) hv hd
          obtain ⟨m, tm2, g2, ⟨hg2, _⟩, e3, k2⟩ := syDr_ok (i := i + 1) (g := h.dip) (.inr rfl) hv1 k1 hns'
          have hg3 : g2 = h.dip := by rcases hg2 with q | q <;> exact q
          refine ⟨max n m, tm2, g2, ⟨.inr hg3, fun _ => hg3⟩, fun seen hseen => ?_, k2⟩
          refine dr_step (want_ok hv hw) hseen (v := v) (tm1 := tm1) (h := g) (by rw [hgt]; exact evFull_mono (ev_mono E n _ (Nat.le_max_left n m)) e1) e2 (hns o (List.mem_cons_self ..)) ?_
          rw [hgd]
          exact dr_more (Nat.le_max_right n m) e3
        split at hs
        · rename_i hq
          obtain ⟨n, v, h1, e1, k1⟩ := (syOp_ok hv hs).ex
          have := quiet_same hq e1
          subst this
          exact key e1 k1
        · obtain ⟨n, v, h1, e1, rfl, k1⟩ := (syOp_ok hv hs).ex
          exact key e1 k1
      · rename_i hw
        obtain ⟨tm1, e2, hv1⟩ := put_ok (v := undef) hv hd
        obtain ⟨m, tm2, g2, ⟨hg2, _⟩, e3, k2⟩ := syDr_ok (i := i + 1) hg hv1 hs hns'
        refine ⟨m, tm2, g2, ⟨hg2, fun ⟨o', r', q1, q2⟩ => by cases q1; simp only [wantL, q2] at hw; cases hw⟩, fun seen hseen => ?_, k2⟩
        simp only [evDraw, want_ok hv hw, Bool.false_eq_true, if_false, e2]
        exact e3 seen hseen
      · exact hs.elim
    · exact hs.elim
theorem noStore_ok : ∀ {l : List Oper}, noStore l = true → ∀ o ∈ l, ∀ t x y, o.op ≠ .store t x y
  | [], _, o, ho, _, _, _ => by cases ho
  | q :: r, hn, o, ho, t, x, y => by
    simp only [noStore] at hn
    split at hn
    · cases hn
    · rename_i hne
      cases ho with
      | head => exact fun e => hne t x y e
      | tail _ ho => exact noStore_ok hn o ho t x y
/-- **So it is.** -/
theorem sy_ok (E : Env) (nt : Nat) : ∀ (c : Code) (l : L) (tm : TM) (h : H) (kn kr : L → H → Prop) (ke : Nat → L → H → Prop), View l tm → sy E nt c l h kn kr ke → Ends E nt c tm h (Up kn) (Up kr) fun i => Up (ke i)
  | .skip, l, tm, h, kn, kr, ke, hv, hs => Ends.skip ⟨l, hv, hs⟩
  | .region id ops false, l, tm, h, kn, kr, ke, hv, hs => by
    obtain ⟨n, tm', h', e, k⟩ := syOps_ok hv (show syOps E nt ops.toList ops.toList l h kn from hs)
    exact ⟨n + 1, .normal, tm', h', by simp only [ev, step, e, norm], k⟩
  | .region id ops true, l, tm, h, kn, kr, ke, hv, hs => by
    obtain ⟨h1, h2⟩ := (show (Region.lexB .any ops && drOk ops.toList) = true ∧ syDr E nt ops.toList ops.toList l h (fun l => kn l h.dip) from hs)
    simp only [Bool.and_eq_true] at h1
    have hd := h1.2
    unfold drOk at hd
    split at hd
    · cases hd
    · rename_i o r ho
      split at hd
      · rename_i hg
        rw [← ho] at hd
        obtain ⟨n, tm', g', ⟨_, hg'⟩, e, l', hv', k⟩ := syDr_ok (bef := befL ops.toList []) (i := 0) (g := h) (.inl rfl) hv h2 (noStore_ok hd)
        have := hg' ⟨o, r, ho, hg⟩
        subst this
        exact ⟨n + 1, .normal, tm', h.dip, by simp only [ev, step, h1.1, if_true, e [] rfl, norm], l', hv', k⟩
      · cases hd
  | .seq a b, l, tm, h, kn, kr, ke, hv, hs => by
    refine Ends.seq ((sy_ok E nt a l tm h _ kr ke hv (show sy E nt a l h (fun l h => sy E nt b l h kn kr ke) kr ke from hs)).mono ?_ (fun _ _ q => q) (fun _ _ _ q => q))
    rintro tm' h' ⟨l', hv', q⟩
    exact sy_ok E nt b l' tm' h' kn kr ke hv' q
  | .cond c a b, l, tm, h, kn, kr, ke, hv, hs => by
    simp only [sy] at hs
    split at hs
    · rename_i hc; exact Ends.cond (evL_ok hv hc) (sy_ok E nt a l tm h kn kr ke hv hs)
    · rename_i hc; exact Ends.cond (evL_ok hv hc) (sy_ok E nt b l tm h kn kr ke hv hs)
    · exact hs.elim
  | .block i a, l, tm, h, kn, kr, ke, hv, hs => by
    refine Ends.block ((sy_ok E nt a l tm h kn kr _ hv (show sy E nt a l h kn kr (fun j l h => match Nat.beq j i with | true => kn l h | false => ke j l h) from hs)).mono (fun _ _ q => q) (fun _ _ q => q) ?_)
    rintro j tm' h' ⟨l', hv', q⟩
    cases hj : Nat.beq j i with
    | true => rw [hj] at q; exact ⟨l', hv', q⟩
    | false => rw [hj] at q; exact ⟨l', hv', q⟩
  | .loop a, l, tm, h, kn, kr, ke, hv, hs => LoopP.ok hs tm hv
  | .exit i, l, tm, h, kn, kr, ke, hv, hs => Ends.exit ⟨l, hv, hs⟩
  | .ret, l, tm, h, kn, kr, ke, hv, hs => Ends.ret ⟨l, hv, hs⟩
  | .rangeFunc _ _ _ _, l, tm, h, kn, kr, ke, hv, hs => CodeP.ok hs tm hv
  | .scope _, l, tm, h, kn, kr, ke, hv, hs => CodeP.ok hs tm hv
  | .label _, l, tm, h, kn, kr, ke, hv, hs => CodeP.ok hs tm hv
  | .goto _, l, tm, h, kn, kr, ke, hv, hs => CodeP.ok hs tm hv
  | .refuse _, l, tm, h, kn, kr, ke, hv, hs => CodeP.ok hs tm hv

/-! ### less may be looked at -/
def Less (l' l : L) : Prop := ∀ n v, look l' n = some v → look l n = some v
theorem Less.refl (l : L) : Less l l := fun _ _ h => h
theorem Less.nil (l : L) : Less [] l := fun n v h => by cases h
theorem Less.cons {l' l : L} {d : Nat} {v : Value} (h : look l d = some v) (hl : Less l' l) : Less ((d, v) :: l') l := by
  intro n u hn
  simp only [look] at hn
  split at hn
  · rename_i q
    cases hn
    rw [← Nat.eq_of_beq_eq_true q]; exact h
  · exact hl n u hn
theorem Less.up {l' l : L} {tm : TM} (hl : Less l' l) (hv : View l tm) : View l' tm := hv.less hl
/-- **A loop, by what holds whenever it begins anew.** -/
theorem LoopP.on {a : Code} {l : L} {h : H} {kn kr : L → H → Prop} {ke : Nat → L → H → Prop} {α : Type} (st : α → L) (mem : α → H) (I : α → Prop) (m : α → Nat) (x0 : α) (h0 : mem x0 = h) (l0 : Less (st x0) l) (i0 : I x0)
    (step : ∀ x, I x → sy E nt a (st x) (mem x) (fun l' h' => ∃ y, Less (st y) l' ∧ mem y = h' ∧ I y ∧ m y < m x) kr ke) : LoopP E nt a l h kn kr ke := by
  subst h0
  have main : ∀ n x, m x = n → I x → ∀ tm, View (st x) tm → Ends E nt (.loop a) tm (mem x) (Up kn) (Up kr) fun i => Up (ke i) := by
    intro n
    induction n using Nat.strongRecOn with
    | _ n ih =>
      intro x hx hi tm hv
      refine Ends.loop1 ((sy_ok E nt a (st x) tm (mem x) _ kr ke hv (step x hi)).mono ?_ (fun _ _ q => q) (fun _ _ _ q => q))
      rintro tm' h' ⟨l', hv', y, hl, rfl, hy, hm⟩
      exact ih (m y) (by omega) y rfl hy tm' (hl.up hv')
  exact ⟨fun tm hv => main _ x0 rfl i0 tm (l0.up hv)⟩
/-- **A function, by its body.** -/
def resL (P : Program) (l : L) (h : H) : List ResultVar → Option (List Value)
  | [] => some []
  | .tmp t :: r => match look l t with
    | some v => match resL P l h r with
      | some vs => some (v :: vs)
      | none => none
    | none => none
  | .cell a t :: r => match look l a with
    | some (.pointer (some a)) => match h.load P t a with
      | some v => match resL P l h r with
        | some vs => some (v :: vs)
        | none => none
      | none => none
    | _ => none
theorem resL_ok {P : Program} {l : L} {tm : TM} {h : H} (hv : View l tm) : ∀ {r : List ResultVar} {vs : List Value}, resL P l h r = some vs → evResults P tm h r = some vs
  | [], vs, q => q
  | .tmp t :: r, vs, q => by
    simp only [resL] at q
    split at q
    · rename_i v hl
      split at q
      · rename_i us hr
        simp only [evResults, resL_ok hv hr, hv t v hl]; exact q
      · cases q
    · cases q
  | .cell a t :: r, vs, q => by
    simp only [resL] at q
    split at q
    · rename_i ad hl
      split at q
      · rename_i v hld
        split at q
        · rename_i us hr
          simp only [evResults, resL_ok hv hr, hv a _ hl, hld]; exact q
        · cases q
      · cases q
    · cases q
def argsL : Nat → List Value → L
  | _, [] => []
  | i, v :: r => (i, v) :: argsL (i + 1) r
theorem argsL_get : ∀ (args : List Value) (i n : Nat) (v : Value), look (argsL i args) n = some v → i ≤ n ∧ args[n - i]? = some v
  | [], i, n, v, h => by cases h
  | a :: r, i, n, v, h => by
    simp only [argsL, look] at h
    split at h
    · rename_i q
      cases h
      have q' : i = n := Nat.eq_of_beq_eq_true q
      subst q'
      exact ⟨Nat.le_refl _, by simp⟩
    · rename_i q
      obtain ⟨h1, h2⟩ := argsL_get r (i + 1) n v h
      refine ⟨by omega, ?_⟩
      rw [show n - i = (n - (i + 1)) + 1 by omega, List.getElem?_cons_succ]
      exact h2
theorem view_args (args : List Value) : View (argsL 0 args) (bindArgs 0 args .nil) := by
  intro n v h
  obtain ⟨_, h2⟩ := argsL_get args 0 n v h
  rw [bindArgs_get]
  rw [Nat.sub_zero] at h2
  have := (List.getElem?_eq_some_iff.1 h2).1
  rw [if_pos ⟨Nat.zero_le _, by omega⟩, Nat.sub_zero, h2]
  rfl
/-- What is handed back. -/
def retL (P : Program) (r : List ResultVar) (K : Value → H → Prop) (l : L) (h : H) : Prop := ∃ vs, resL P l h r = some vs ∧ K (tup vs) h
theorem CallP.of {f : FuncId} {fn : Func} {c : Code} {args : List Value} {h : H} {K : Value → H → Prop} (hm : memoOf E.memo f args = none) (hq : mprimOf E.mem f = none) (hf : E.P.funcs[f]? = some fn) (hb : fn.body = some c) (hl : args.length ≤ fn.ntmps)
    (hk : sy E fn.ntmps c (argsL 0 args) h (retL E.P fn.results.toList K) (retL E.P fn.results.toList K) (fun _ _ _ => False)) : CallP E f args h K := by
  have up : ∀ tm h, Up (retL E.P fn.results.toList K) tm h → ∃ vs, evResults E.P tm h fn.results.toList = some vs ∧ K (tup vs) h := by
    rintro tm h ⟨l, hv, vs, e, k⟩
    exact ⟨vs, resL_ok hv e, k⟩
  exact CallP.enter hm hq hf hb hl ((sy_ok E fn.ntmps c _ _ h _ _ _ (view_args args) hk).mono up up (by rintro i tm h ⟨_, _, q⟩; exact q))
end
end Go.Proofs.Ytknenadpkgajjaa.GEv
