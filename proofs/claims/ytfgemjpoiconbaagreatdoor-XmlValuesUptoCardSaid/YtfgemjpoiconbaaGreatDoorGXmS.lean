import Derived.Test.YtfgemjpoiconbaaGreatDoorGXmO
import Derived.RowKit
import Derived.WalkKit
import Derived.ProofKit
import Derived.SizedLaws
import Derived.Test.YtfgemjpoiconbaaGreatDoorRows
import Derived.Ground.NamesProg
import Derived.WalkMore
import Derived.Lib.LaidIn
import Derived.MakeChecks
import Derived.Shelf.Vars
import Derived.Stop.LaidErr
import Derived.Test.YtfgemjpoiconbaaGreatDoorShelf
import Derived.Shelf.Strings.SlTrimAscii
/- Elements that came in as data, as rows of the run's memory. -/
namespace Go.Proofs.YtfgemjpoiconbaaGreatDoor.GEv
open Go
open Go.RowKit
set_option linter.unusedSimpArgs false
set_option linter.unusedVariables false
theorem rows_of {α : Type} (Q : Nat → α → Prop) : ∀ n, (∀ i, i < n → ∃ x, Q i x) → ∃ l : List α, l.length = n ∧ ∀ i x, l[i]? = some x → Q i x := by
  intro n
  induction n with
  | zero => exact fun _ => ⟨[], rfl, fun i x h => by simp at h⟩
  | succ n ih =>
    intro h
    obtain ⟨l, hl, hq⟩ := ih (fun i hi => h i (by omega))
    obtain ⟨x, hx⟩ := h n (by omega)
    refine ⟨l ++ [x], by simp [hl], fun i y hy => ?_⟩
    by_cases hi : i < n
    · rw [List.getElem?_append_left (by omega)] at hy
      exact hq i y hy
    · by_cases e : i = n
      · subst e
        rw [List.getElem?_append_right (by omega), hl] at hy
        simp at hy
        subst hy
        exact hx
      · rw [List.getElem?_eq_none (by simp [hl]; omega)] at hy
        cases hy
theorem cells_at {W : World} {a : Addr} {n : Nat} {cs : List Value} (h : W.cells? 0 a (n + 1) = some cs) : a.spot = none ∧ cs.length = n + 1 ∧ ∃ c t f, W.heap[a.block]? = some (.cells c t f) ∧ ∀ i, i < n + 1 → c[a.off + i]? = cs[i]? := by
  unfold World.cells? at h
  rw [if_pos (Nat.zero_le _)] at h
  have hl := mapM_some_length h
  rw [List.length_range] at hl
  have hg : ∀ i, i < n + 1 → W.cell? (a.add i) = cs[i]? := fun i hi => mapM_some_get h i i (by simp [hi])
  have h0 := hg 0 (by omega)
  rw [show a.add 0 = a from rfl, List.getElem?_eq_getElem (by omega)] at h0
  unfold World.cell? at h0
  split at h0
  · rename_i c t f hh
    split at h0
    · cases h0
    · rename_i hs
      have hs : a.spot = none := by simpa using hs
      refine ⟨hs, hl, c, t, f, hh, fun i hi => ?_⟩
      have := hg i hi
      unfold World.cell? at this
      rw [Addr.add_block, hh] at this
      simp only [Addr.add_spot _ _ hs, Addr.add_off, Option.isSome_none, Bool.false_eq_true, if_false] at this
      exact this
  · cases h0
theorem emb_read {W : World} {a : Addr} {n : Nat} {cs : List Value} (h : W.cells? 0 a (n + 1) = some cs) (hg : GN ≤ a.block) : (emb W).read a.block a.off (n + 1) = some (cs.map (absV W)) := by
  obtain ⟨hs, hl, c, t, f, hh, hc⟩ := cells_at h
  unfold H.read
  rw [emb_get, if_pos hg, hh]
  show cut (c.toList.map (absV W)) a.off (n + 1) = _
  have hb : a.off + n < c.size := by
    have := hc n (by omega)
    rw [List.getElem?_eq_getElem (by omega)] at this
    exact (Array.getElem?_eq_some_iff.1 this).1
  unfold cut
  rw [if_pos (by simp; omega)]
  congr 1
  apply List.ext_getElem?
  intro i
  by_cases hi : i < n + 1
  · rw [List.getElem?_take_of_lt hi, List.getElem?_drop, List.getElem?_map, List.getElem?_map, ← hc i hi, Array.getElem?_toList]
  · rw [List.getElem?_eq_none (by simp; omega), List.getElem?_eq_none (by simp; omega)]
/-- No variable of a package is, or bears, a text. -/
def NoText (W : World) : Prop := ∀ b, b < GN → ∀ c t f, W.heap[b]? = some (.cells c t f) → ∀ (i : Nat) (s : ByteArray), c[i]? ≠ some (.string s)
section
variable {P : Program} {H : Type} {enc : TypeId × Value → H} {W : World} {sp : Nat → Bool}
theorem wts_mem_all {H : Type} {P : Program} {e : TypeId} {ds : List (DataW H)} : ∀ {i : Nat} {d : DataW H}, ds[i]? = some d → ∀ n ∈ d.weights P e, n ∈ DataW.weightsAll P e ds := by
  induction ds with
  | nil => intro i d h; simp at h
  | cons x r ih =>
    intro i d h n hn
    cases i with
    | zero => simp at h; subst h; simp [DataW.weightsAll, hn]
    | succ i => simp at h; simp [DataW.weightsAll, ih h n hn]
/-- **A row that came in as data**, whose elements begin with a text. -/
theorem open_row {α : Type} {e sT : TypeId} {m bts fuel : Nat} (Q : α → List Value → Prop) (hu : P.underlying sT = some (.slice e)) (hc : P.cellsOf e = m + 1) (hb : P.bytesOf e = bts + 1) (hsp : ∀ b, sp b = true) (hno : NoText W)
    (hel : ∀ n, n < fuel → ∀ c d p, DataW.trod enc P W 0 sp true n e c = some (d, p) → (∃ s r, c = .string s :: r) ∧ ((∀ q ∈ d.weights P e, q ≤ reachBytes) → ∃ x, Q x c))
    {cs : List Value} {d : DataW H} {p : List MemPlace} (ht : DataW.trod enc P W 0 sp true fuel sT cs = some (d, p)) (hw : ∀ q ∈ d.weights P sT, q ≤ reachBytes) :
    ∃ (l : List α) (v : Value), cs = [v] ∧ l.length ≤ reachBytes ∧ ∃ a cap, absV W v = .slice a l.length cap ∧ ((l = [] ∧ NoSpot a) ∨ ∃ b off, ∃ c : Nat → List Value, a = some ⟨b, off, none⟩ ∧ b < W.heap.size ∧
      (∀ i, i < l.length → (emb W).read b (off + i * (m + 1)) (m + 1) = some ((c i).map (absV W))) ∧ ∀ i x, l[i]? = some x → Q x (c i)) := by
  rcases DataW.trod_slice hu ht with ⟨rfl, hd⟩ | ⟨a, len, cap, elems, rest, n, rfl, rfl, hd, _, hl, hcap, hlen, he, hr, _⟩
  · exact ⟨[], _, rfl, Nat.zero_le _, none, 0, rfl, .inl ⟨rfl, fun x h => by cases h⟩⟩
  · injection hd with hd _
    subst hd
    by_cases h0 : cap = 0
    · subst h0
      obtain rfl : len = 0 := by omega
      exact ⟨[], _, rfl, Nat.zero_le _, some ⟨0, 0, none⟩, 0, rfl, .inl ⟨rfl, fun x h => by cases h; rfl⟩⟩
    · obtain ⟨hr1, hr2⟩ := hr (hsp _)
      rw [hc] at he hr2
      have hz : ∃ c y, W.cells? 0 a (m + 1) = some c ∧ DataW.trod enc P W 0 sp true n e c = some y := by
        by_cases hl0 : 0 < len
        · have := he 0 hl0
          rw [List.getElem?_eq_getElem (by omega)] at this
          obtain ⟨c, q1, q2⟩ := Option.bind_eq_some_iff.mp this
          rw [Nat.zero_mul] at q1
          exact ⟨c, _, q1, q2⟩
        · obtain rfl : len = 0 := by omega
          have := hr2 0 (by omega)
          rw [List.getElem?_eq_getElem (by omega)] at this
          obtain ⟨c, q1, q2⟩ := Option.bind_eq_some_iff.mp this
          rw [Nat.add_zero, Nat.zero_mul] at q1
          exact ⟨c, _, q1, q2⟩
      obtain ⟨c0, y0, z1, z2⟩ := hz
      obtain ⟨⟨s0, r0, rfl⟩, _⟩ := hel n (Nat.lt_succ_self n) _ y0.1 y0.2 z2
      obtain ⟨hs, hl2, c, t, f, hh, hcc⟩ := cells_at z1
      have hgn : GN ≤ a.block := by
        rcases Nat.lt_or_ge a.block GN with q | q
        · have := hcc 0 (by omega)
          exact absurd this (hno _ q c t f hh _ s0)
        · exact q
      have hbs : a.block < W.heap.size := (Array.getElem?_eq_some_iff.1 hh).1
      have hab : absV W (.slice (some a) len cap) = .slice (some a) len cap := by
        have hq : a.spot = none ∧ len ≤ cap ∧ cap < UNK ∧ GN ≤ a.block ∧ a.block < W.heap.size := ⟨hs, hl, by unfold maxLen at hcap; unfold UNK; omega, hgn, hbs⟩
        cases cap with
        | zero => exact absurd rfl h0
        | succ cap =>
          have e1 : absV W (.slice (some a) len (cap + 1)) = if a.spot = none ∧ len ≤ cap + 1 ∧ cap + 1 < UNK ∧ GN ≤ a.block ∧ a.block < W.heap.size then .slice (some a) len (cap + 1) else junk := by
            cases len <;> rfl
          rw [e1, if_pos hq]
      have hel2 : ∀ i, i < len → ∃ x : α × List Value, W.cells? 0 (a.add (i * (m + 1))) (m + 1) = some x.2 ∧ Q x.1 x.2 := by
        intro i hi
        have h1 := he i hi
        rw [List.getElem?_eq_getElem (by omega)] at h1
        obtain ⟨c, q1, q2⟩ := Option.bind_eq_some_iff.mp h1
        obtain ⟨x, hx⟩ := (hel n (Nat.lt_succ_self n) c _ _ q2).2 (fun q hq => hw q (by
          simp only [DataW.weights, hu, List.mem_cons, List.mem_append]
          exact .inr (.inl (wts_mem_all (i := i) (by rw [List.getElem?_map, List.getElem?_eq_getElem (by omega)]; rfl) q hq))))
        exact ⟨(x, c), q1, hx⟩
      obtain ⟨l, hll, hq⟩ := rows_of _ len hel2
      have hwl := hw ((elems.length + rest.length) * (bts + 1)) (by simp [DataW.weights, hu, hb])
      have hwl2 : (elems.length + rest.length) * (bts + 1) = (elems.length + rest.length) * bts + (elems.length + rest.length) := Nat.mul_succ _ _
      refine ⟨l.map (·.1), _, rfl, by rw [List.length_map]; omega, some a, cap, by rw [List.length_map, hll]; exact hab, .inr ⟨a.block, a.off, fun i => (l.map (·.2)).getD i [], by cases a; cases hs; rfl, hbs, fun i hi => ?_, fun i x hx => ?_⟩⟩
      · rw [List.length_map] at hi
        have hx := List.getElem?_eq_getElem hi
        have h1 := emb_read (hq i _ hx).1 (by rw [Addr.add_block]; exact hgn)
        rw [Addr.add_block, Addr.add_off] at h1
        rw [h1]
        simp [hi]
      · rw [List.getElem?_map] at hx
        obtain ⟨y, hy, rfl⟩ := Option.map_eq_some_iff.1 hx
        have h1 := (hq i _ hy).2
        have e2 : (l.map (·.2)).getD i [] = y.2 := by
          rw [List.getD_eq_getElem?_getD, List.getElem?_map, hy]
          rfl
        show Q y.1 ((l.map (·.2)).getD i [])
        rw [e2]
        exact h1
end
end Go.Proofs.YtfgemjpoiconbaaGreatDoor.GEv

/- Attributes and elements that came in as data. -/
namespace Go.Proofs.YtfgemjpoiconbaaGreatDoor.GEv
open Go
open Go.RowKit
set_option linter.unusedSimpArgs false
set_option linter.unusedVariables false
theorem elemFs : ∃ f1 f2 f3 f4 : Field, Tryz.prog.underlying 25 = some (.struct #[f1, f2, f3, f4]) ∧ f1.type = 9 ∧ f2.type = 22 ∧ f3.type = 23 ∧ f4.type = 3 ∧ f1.offset = 0 ∧ f2.offset = 1 ∧ f3.offset = 2 ∧ f4.offset = 3 := by
  have h1 : ((fieldsOf (Tryz.prog.underlying 25))[0]?).isSome = true := by kernel_rfl
  have h2 : ((fieldsOf (Tryz.prog.underlying 25))[1]?).isSome = true := by kernel_rfl
  have h3 : ((fieldsOf (Tryz.prog.underlying 25))[2]?).isSome = true := by kernel_rfl
  have h4 : ((fieldsOf (Tryz.prog.underlying 25))[3]?).isSome = true := by kernel_rfl
  exact ⟨_, _, _, _, (by kernel_rfl : Tryz.prog.underlying 25 = some (.struct #[((fieldsOf (Tryz.prog.underlying 25))[0]?).get h1, ((fieldsOf (Tryz.prog.underlying 25))[1]?).get h2, ((fieldsOf (Tryz.prog.underlying 25))[2]?).get h3, ((fieldsOf (Tryz.prog.underlying 25))[3]?).get h4])), by kernel_rfl, by kernel_rfl, by kernel_rfl, by kernel_rfl, by kernel_rfl, by kernel_rfl, by kernel_rfl, by kernel_rfl⟩
/-- What the readers of data must know of the types. -/
structure OpOk (P : Program) : Prop where
  at' : ∃ f1 f2 : Field, P.underlying 41 = some (.struct #[f1, f2]) ∧ f1.type = 9 ∧ f2.type = 9 ∧ f1.offset = 0 ∧ f2.offset = 1
  el : ∃ f1 f2 f3 f4 : Field, P.underlying 25 = some (.struct #[f1, f2, f3, f4]) ∧ f1.type = 9 ∧ f2.type = 22 ∧ f3.type = 23 ∧ f4.type = 3 ∧ f1.offset = 0 ∧ f2.offset = 1 ∧ f3.offset = 2 ∧ f4.offset = 3
  s : P.underlying 9 = some .string
  i : P.underlying 3 = some (.int .i64)
  la : P.underlying 22 = some (.slice 41)
  lk : P.underlying 23 = some (.slice 25)
  c0 : P.cellsOf 9 = 1
  c1 : P.cellsOf 3 = 1
  c2 : P.cellsOf 22 = 1
  c3 : P.cellsOf 23 = 1
  c4 : P.cellsOf 41 = 1 + 1
  c5 : P.cellsOf 25 = 3 + 1
  b4 : P.bytesOf 41 = 31 + 1
  b5 : P.bytesOf 25 = 71 + 1
theorem opOk : OpOk Tryz.prog := ⟨by obtain ⟨f1, f2, h, _, _, h1, h2, h3, h4⟩ := attrFs; exact ⟨f1, f2, h, h1, h2, h3, h4⟩, elemFs, by kernel_rfl, by kernel_rfl, by kernel_rfl, by kernel_rfl, by kernel_rfl, by kernel_rfl, by kernel_rfl, by kernel_rfl, by kernel_rfl, by kernel_rfl, by kernel_rfl, by kernel_rfl⟩
section
variable {P : Program} (O : OpOk P) {H : Type} {enc : TypeId × Value → H} {W : World} {sp : Nat → Bool}
include O
theorem open_attr {n : Nat} {c : List Value} {d : DataW H} {p : List MemPlace} (h : DataW.trod enc P W 0 sp true n 41 c = some (d, p)) :
    ∃ s t : ByteArray, c = [.string s, .string t] ∧ ((∀ q ∈ d.weights P 41, q ≤ reachBytes) → s.size ≤ reachBytes ∧ t.size ≤ reachBytes) := by
  obtain ⟨f1, f2, hu, t1, t2, o1, o2⟩ := O.at'
  obtain ⟨xs, m, rfl, hd, hl, hx, hr⟩ := DataW.trod_struct hu h
  injection hd with hd _
  subst hd
  rw [O.c4] at hl
  obtain ⟨u, v, rfl⟩ : ∃ u v, c = [u, v] := by
    match c, hl with
    | [u, v], _ => exact ⟨u, v, rfl⟩
  obtain ⟨x0, x1, rfl⟩ : ∃ u v, xs = [u, v] := by
    match xs, hx with
    | [u, v], _ => exact ⟨u, v, rfl⟩
  have r0 := hr 0 f1 rfl
  have r1 := hr 1 f2 rfl
  rw [t1, o1, O.c0] at r0
  rw [t2, o2, O.c0] at r1
  obtain ⟨s, e1, e2, _⟩ := DataW.trod_string O.s r0
  obtain ⟨t, e3, e4, _⟩ := DataW.trod_string O.s r1
  simp at e1 e3
  subst e1 e3 e2 e4
  refine ⟨s, t, rfl, fun hw => ?_⟩
  simp only [List.map_cons, List.map_nil, DataW.weights, hu, DataW.weightsEach, t1, t2] at hw
  have h1 := hw s.data.toList.length (by simp [DataW.weights])
  have h2 := hw t.data.toList.length (by simp [DataW.weights])
  rw [Array.length_toList] at h1 h2
  exact ⟨h1, h2⟩
theorem open_attrs (hsp : ∀ b, sp b = true) (hno : NoText W) {n : Nat} {cs : List Value} {d : DataW H} {p : List MemPlace} (ht : DataW.trod enc P W 0 sp true n 22 cs = some (d, p)) (hw : ∀ q ∈ d.weights P 22, q ≤ reachBytes) :
    ∃ (l : List (Bs × Bs)) (v : Value), cs = [v] ∧ IsAt (emb W) (fun _ => True) l (absV W v) ∧ l.length ≤ 140737488351232 ∧ ∀ x ∈ l, x.1.length ≤ 140737488351232 ∧ x.2.length ≤ 140737488351232 := by
  obtain ⟨l, v, rfl, hl, a, cap, e, q⟩ := open_row (α := Bs × Bs) (fun x c => c = [.string ⟨⟨x.1⟩⟩, .string ⟨⟨x.2⟩⟩] ∧ x.1.length ≤ 140737488351232 ∧ x.2.length ≤ 140737488351232) O.la O.c4 O.b4 hsp hno (fun n _ c d p h => by
    obtain ⟨s, t, rfl, k⟩ := open_attr O h
    refine ⟨⟨_, _, rfl⟩, fun hq => ?_⟩
    obtain ⟨⟨s⟩⟩ := s
    obtain ⟨⟨t⟩⟩ := t
    obtain ⟨k1, k2⟩ := k hq
    exact ⟨(s, t), rfl, k1, k2⟩) ht hw
  refine ⟨l, v, rfl, ⟨a, cap, e, ?_⟩, hl, ?_⟩
  · rcases q with q | ⟨b, off, c, q1, q2, q3, q4⟩
    · exact .inl q
    · refine .inr ⟨b, off, q1, trivial, q2, fun i x hx => ?_⟩
      have := q3 i (List.getElem?_eq_some_iff.1 hx).1
      rw [this, (q4 i x hx).1]
      rfl
  · intro x hx
    rcases q with ⟨rfl, _⟩ | ⟨b, off, c, q1, q2, q3, q4⟩
    · cases hx
    · obtain ⟨i, hi, rfl⟩ := List.getElem_of_mem hx
      exact (q4 i _ (List.getElem?_eq_getElem hi)).2
/-- **An element that came in as data.** -/
theorem open_el (hsp : ∀ b, sp b = true) (hno : NoText W) : ∀ (n : Nat) (c : List Value) (d : DataW H) (p : List MemPlace), DataW.trod enc P W 0 sp true n 25 c = some (d, p) →
    (∃ s r, c = .string s :: r) ∧ ((∀ q ∈ d.weights P 25, q ≤ reachBytes) → ∃ e : El, IsEl (emb W) (fun _ => True) e (c.map (absV W)) ∧ Big e) := by
  intro n
  induction n using Nat.strongRecOn with
  | _ n ih =>
  intro c d p h
  obtain ⟨f1, f2, f3, f4, hu, t1, t2, t3, t4, o1, o2, o3, o4⟩ := O.el
  obtain ⟨xs, m, rfl, hd, hl, hx, hr⟩ := DataW.trod_struct hu h
  injection hd with hd _
  subst hd
  rw [O.c5] at hl
  obtain ⟨u1, u2, u3, u4, rfl⟩ : ∃ u1 u2 u3 u4, c = [u1, u2, u3, u4] := by
    match c, hl with
    | [u1, u2, u3, u4], _ => exact ⟨u1, u2, u3, u4, rfl⟩
  obtain ⟨x1, x2, x3, x4, rfl⟩ : ∃ u1 u2 u3 u4, xs = [u1, u2, u3, u4] := by
    match xs, hx with
    | [u1, u2, u3, u4], _ => exact ⟨u1, u2, u3, u4, rfl⟩
  have r1 := hr 0 f1 rfl
  have r2 := hr 1 f2 rfl
  have r3 := hr 2 f3 rfl
  have r4 := hr 3 f4 rfl
  rw [t1, o1, O.c0] at r1
  rw [t2, o2, O.c2] at r2
  rw [t3, o3, O.c3] at r3
  rw [t4, o4, O.c1] at r4
  obtain ⟨s, e1, e2, _⟩ := DataW.trod_string O.s r1
  obtain ⟨k, e3, e4, _⟩ := DataW.trod_int O.i r4
  have k1 : u1 = .string s := by simpa using e1
  have k3 : u4 = .int .i64 k := by simpa using e3
  clear e1 e3
  subst k1
  subst k3
  refine ⟨⟨_, _, rfl⟩, fun hw => ?_⟩
  simp only [List.map_cons, List.map_nil, DataW.weights, hu, DataW.weightsEach, t1, t2, t3, t4, List.mem_append] at hw
  have w1 := hw s.data.toList.length (by rw [e2]; simp [DataW.weights])
  have w2 : ∀ q ∈ x2.1.weights P 22, q ≤ reachBytes := fun q hq => hw q (by simp [hq])
  have w3 : ∀ q ∈ x3.1.weights P 23, q ≤ reachBytes := fun q hq => hw q (by simp [hq])
  obtain ⟨at0, v2, g2, ha, hal, hax⟩ := open_attrs O hsp hno (d := x2.1) (p := x2.2) r2 w2
  have g2 : u2 = v2 := by simpa using g2
  subst g2
  obtain ⟨kd, v3, g3, hkl, a, cap, ek, q⟩ := open_row (α := El) (fun e c => IsEl (emb W) (fun _ => True) e (c.map (absV W)) ∧ Big e) O.lk O.c5 O.b5 hsp hno (fun n hn c d p h => ih n (by omega) c d p h) (d := x3.1) (p := x3.2) r3 w3
  have g3 : u3 = v3 := by simpa using g3
  subst g3
  obtain ⟨⟨s⟩⟩ := s
  have w1 : s.length ≤ reachBytes := by simpa using w1
  have w1 : s.length ≤ 140737488351232 := w1
  refine ⟨.mk s at0 kd k, ?_, ?_⟩
  · show IsEl _ _ _ [absV W (.string ⟨⟨s⟩⟩), absV W u2, absV W u3, absV W (.int .i64 k)]
    rw [ek]
    rcases q with ⟨rfl, q⟩ | ⟨b, off, c, q1, q2, q3, q4⟩
    · exact .leaf ha q
    · subst q1
      cases kd with
      | nil => exact .leaf ha (fun x h => by cases h; rfl)
      | cons y ys => exact .node (fun i => (c i).map (absV W)) ha (by simp) trivial q2 q3 (fun i e he => (q4 i e he).1)
  · refine .mk w1 hal hax hkl (fun e he => ?_)
    rcases q with ⟨rfl, _⟩ | ⟨b, off, c, q1, q2, q3, q4⟩
    · cases he
    · obtain ⟨i, hi, rfl⟩ := List.getElem_of_mem he
      exact (q4 i _ (List.getElem?_eq_getElem hi)).2
end
end Go.Proofs.YtfgemjpoiconbaaGreatDoor.GEv

/- A law upon two elements: from data to the model's calls; no variable of a package bears a text. -/
namespace Go.Proofs.YtfgemjpoiconbaaGreatDoor.GEv
open Go
open Go.RowKit (Below)
set_option linter.unusedSimpArgs false
set_option linter.unusedVariables false
def noStr (P : Program) (u : TypeId) : Bool := match P.underlying u with
  | some .string => false
  | _ => true
def globOk (P : Program) (g : Nat) : Bool := match ((begin P (fun _ _ => 0) default).world.heap[g]?).bind Obj.row? with
  | some (_, t) => P.buildable t && (match P.cellTypes P.depth t with
    | some ts => ts.all (noStr P)
    | none => true)
  | none => false
theorem glob_no {P : Program} {W : World} (h : W.ShapedOpen P) {g : Nat} (hg : g < P.globals.size) (hk : globOk P g = true) {c : Array Value} {t : TypeId} {f : Nat × Nat} (hh : W.heap[g]? = some (.cells c t f)) (i : Nat) (s : ByteArray) : c[i]? ≠ some (.string s) := by
  intro hc
  unfold globOk at hk
  split at hk
  · rename_i zero t' h0
    rw [Bool.and_eq_true] at hk
    obtain ⟨cs, h1, _, h2⟩ := h.1 g zero t' hg h0
    rw [hh] at h1
    cases h1
    obtain ⟨ts, e, _, hq⟩ := h2 hk.1
    rw [e] at hk
    obtain ⟨u, hu, hcell⟩ := hq i _ hc
    have h3 : noStr P u = true := List.all_eq_true.1 hk.2 u (List.mem_of_getElem? hu)
    unfold noStr at h3
    unfold Cell.ok at hcell
    split at hcell <;> simp_all
  · cases hk
theorem errRowX : ∀ u, (Tryz.prog).typeName? 3 u = some "*errors.errorString" → u = 137 := by
  intro u h
  have star : "*" ++ "errors.errorString" = "*errors.errorString" := by decide
  exact typeName_ptr_named (nm := "errors.errorString") (by rw [star]; kernel_rfl) (by kernel_rfl) (by decide) u (by rw [star]; exact h)
theorem errOneX : ((fieldsOf (Tryz.prog.underlying 139))[0]?).isSome = true := by kernel_rfl
noncomputable def errFldX : Field := ((fieldsOf (Tryz.prog.underlying 139))[0]?).get errOneX
theorem noText {W : World} (hL : laidMetH Tryz.prog Go.Proofs.YtfgemjpoiconbaaGreatDoor.Rows.xmlPrintsRow.laid W) (h : W.ShapedOpen Tryz.prog) : NoText W := by
  rw [MakeChecks.laidMetH_plain _ _ _ (by kernel_rfl)] at hL
  obtain ⟨ms, hms⟩ := errIU
  have h5 := Go.laid_sentinel (n := "strconv.ErrSyntax") (nm := "*errors.errorString") (g := 3) (ti := 49) (tp := 137) (te := 139) (ts := 9) (f := errFldX) hL.tail.tail.tail.tail.tail (by kernel_rfl) (by kernel_rfl) hms errRowX (by kernel_rfl) (by kernel_rfl) (by kernel_rfl) (by kernel_rfl) (by kernel_rfl) (by kernel_rfl) (by kernel_rfl)
  have h4 := Go.laid_sentinel (n := "strconv.ErrRange") (nm := "*errors.errorString") (g := 4) (ti := 49) (tp := 137) (te := 139) (ts := 9) (f := errFldX) hL.tail.tail.tail.tail (by kernel_rfl) (by kernel_rfl) hms errRowX (by kernel_rfl) (by kernel_rfl) (by kernel_rfl) (by kernel_rfl) (by kernel_rfl) (by kernel_rfl) (by kernel_rfl)
  obtain ⟨a5, s5, h5, _⟩ := h5
  obtain ⟨a4, s4, h4, _⟩ := h4
  have hg5 : Tryz.prog.globalNamed "strconv.ErrSyntax" = some 3 := by kernel_rfl
  have hg4 : Tryz.prog.globalNamed "strconv.ErrRange" = some 4 := by kernel_rfl
  have hsz : 8 ≤ Tryz.prog.globals.size := Nat.le_of_ble_eq_true (by kernel_rfl)
  have one : ∀ {g : Nat} {v : Value}, (∀ s, v ≠ .string s) → (∀ i, W.cell? ⟨g, i, none⟩ = (#[v] : Array Value)[i]?) → ∀ c t f, W.heap[g]? = some (.cells c t f) → ∀ (i : Nat) (s : ByteArray), c[i]? ≠ some (.string s) := by
    intro g v hv hc c t f hh i s q
    have := hc i
    unfold World.cell? at this
    simp only [hh, Option.isSome_none, Bool.false_eq_true, if_false] at this
    rw [q] at this
    cases i with
    | zero => simp at this; exact hv s this.symm
    | succ i => simp at this
  intro b hb c t f hh i s
  have hb : b < 8 := hb
  have cases8 : b = 0 ∨ b = 1 ∨ b = 2 ∨ b = 3 ∨ b = 4 ∨ b = 5 ∨ b = 6 ∨ b = 7 := by omega
  rcases cases8 with rfl | rfl | rfl | rfl | rfl | rfl | rfl | rfl
  · exact glob_no h (by omega) (by kernel_rfl) hh i s
  · exact glob_no h (by omega) (by kernel_rfl) hh i s
  · exact glob_no h (by omega) (by kernel_rfl) hh i s
  · exact one (fun s e => by cases e) (fun i => World.var?_cell hg5 h5 i) c t f hh i s
  · exact one (fun s e => by cases e) (fun i => World.var?_cell hg4 h4 i) c t f hh i s
  · exact glob_no h (by omega) (by kernel_rfl) hh i s
  · exact glob_no h (by omega) (by kernel_rfl) hh i s
  · exact glob_no h (by omega) (by kernel_rfl) hh i s
/-- An argument: an element. -/
theorem arg_el {H : Type} {enc : TypeId × Value → H} {W : World} {v : Value} {d : DataW H} {p : List MemPlace} {ts : List TypeId} {ds : List (DataW H)} (hno : NoText W) (hv : ∃ cs, v = .agg cs) (ht : DataW.Trod enc Tryz.prog W 0 (fun _ => true) true 25 v d p)
    (hsz : (DataW.weightsEach Tryz.prog ts ds).all (· ≤ reachBytes) = true) (j : Nat) (h1 : ts[j]? = some 25) (h2 : ds[j]? = some d) : ∃ (e : El) (cs : List Value), v = .agg cs.toArray ∧ IsEl (emb W) (fun _ => True) e (cs.map (absV W)) ∧ Big e := by
  obtain ⟨cs, rfl⟩ := hv
  obtain ⟨fuel, hf⟩ := ht
  obtain ⟨e, h3, h4⟩ := (open_el opOk (fun _ => rfl) hno fuel _ d p hf).2 (fun n hn => by
    have := List.all_eq_true.1 hsz n (DataW.weights_mem_each h1 h2 n hn)
    simpa using this)
  exact ⟨e, cs.toList, rfl, h3, h4⟩
theorem vr_agg (W : World) (cs : List Value) : VR (embR W) (.agg (cs.map (absV W)).toArray) (.agg cs.toArray) := by
  refine .agg (by simp) (fun i v v' h1 h2 => ?_)
  simp only [List.getElem?_toArray, List.getElem?_map] at h1 h2
  rw [h2] at h1
  cases h1
  exact absV_ok W v'
theorem xmlPrints_core (hOK : EMX.OK) {W : World} (hw : WOK W) (hs : GN ≤ W.heap.size) {a b : El} {ca cb : List Value} (ha : IsEl (emb W) (fun _ => True) a (ca.map (absV W))) (hb : IsEl (emb W) (fun _ => True) b (cb.map (absV W))) (ga : Big a) (gb : Big b) :
    Calls Tryz.prog 10 #[.agg ca.toArray, .agg cb.toArray] W fun e W' => e = .returned (.bool true) ∧ Below W.heap.size W W' :=
  calls_emb (args := [.agg (ca.map (absV W)).toArray, .agg (cb.map (absV W)).toArray]) (args' := [.agg ca.toArray, .agg cb.toArray]) (emokY hOK) (lPrints rfl a b _ _ (emb W) _ _ ha hb ga gb _ (fun h' g => ⟨rfl, g⟩)) (.cons (vr_agg W ca) (.cons (vr_agg W cb) (.nil _))) rfl hw hs
end Go.Proofs.YtfgemjpoiconbaaGreatDoor.GEv

/- The library's functions that chapter 2's environments know. -/
namespace Go.Proofs.YtfgemjpoiconbaaGreatDoor.GEv
open Go
open Go.RowKit (Below)
set_option linter.unusedSimpArgs false
set_option linter.unusedVariables false
theorem cutX_ok : PrimOK Tryz.prog 50 cutX := by
  intro args v hp
  unfold cutX at hp
  split at hp
  · rename_i s t
    split at hp
    · rename_i c h1 h2
      cases hp
      refine ⟨rfl, cutV_flat _ _, fun w hw _ => ?_⟩
      obtain ⟨m, hm⟩ := hw.2.1
      have hs : s.size ≤ 1000000 := Nat.le_of_ble_eq_true h1
      refine (Tryz.strings_Cut s t m w (by omega) hm).mono ?_
      rintro e w' ⟨rfl, n, rfl⟩
      rw [h2, lib_cut1]
      exact ⟨rfl, rfl, rfl, rfl, Nat.le_refl _, fun _ _ => rfl⟩
    · rename_i h1 h2
      cases hp
      refine ⟨rfl, ?_, fun w hw _ => ?_⟩
      · unfold cut2V
        cases cut2 s.data.toList <;> rfl
      obtain ⟨m, hm⟩ := hw.2.1
      have hs : s.size ≤ 1000000 := Nat.le_of_ble_eq_true h1
      refine (Tryz.strings_Cut s t m w (by omega) hm).mono ?_
      rintro e w' ⟨rfl, n, rfl⟩
      rw [h2, lib_cut2]
      exact ⟨rfl, rfl, rfl, rfl, Nat.le_refl _, fun _ _ => rfl⟩
    · cases hp
  · cases hp
theorem ba_of_list {t : ByteArray} {l : List UInt8} (h : t.data.toList = l) : t = ⟨⟨l⟩⟩ := by
  obtain ⟨⟨t⟩⟩ := t
  cases h
  rfl
theorem trim_ok : PrimOK Tryz.prog 70 trimP := by
  intro args v hp
  unfold trimP at hp
  split at hp
  · rename_i s t
    split at hp
    · rename_i h2
      cases hp
      refine ⟨rfl, rfl, fun w hw _ => ?_⟩
      refine (Any.strings_TrimLeft_laid Tryz.lays161 (by kernel_rfl) s t w (by rw [ba_of_list h2]; decide) (by
        rw [h2]
        intro j b hb
        have := List.mem_of_getElem? hb
        simp at this
        rcases this with rfl | rfl | rfl | rfl <;> decide)).mono ?_
      rintro e w' ⟨rfl, hb⟩
      rw [h2, lib_trim]
      exact ⟨rfl, hb⟩
    · cases hp
  · cases hp
theorem contains_ok : PrimOK Tryz.prog 83 containsP := by
  intro args v hp
  unfold containsP at hp
  split at hp
  · rename_i s t
    split at hp
    · rename_i h2
      cases hp
      refine ⟨rfl, rfl, fun w hw _ => ?_⟩
      obtain rfl := ba_of_list h2
      refine (Tryz.strings_Contains_one s 60 w).mono ?_
      rintro e w' ⟨rfl, rfl⟩
      rw [lib_contains]
      exact ⟨rfl, Below.refl _ _⟩
    · cases hp
  · cases hp
theorem emokX (h : EM.OK) : EMX.OK := by
  have h3 : PrimsOK Tryz.prog memo3 := PrimsOK.of (emok3 h)
  have hr : PrimOK Tryz.prog 42 replP := PrimsOK.of h _ _ (.tail _ (.tail _ (.head _)))
  have hl : PrimsOK Tryz.prog memoX := .cons cutX_ok <| .cons trim_ok <| .cons contains_ok <| .cons hr h3
  exact ⟨fun f p args v hm hp => hl f p hm args v hp, h.mixed, h.names, h.clone, h.same, h.room⟩
end Go.Proofs.YtfgemjpoiconbaaGreatDoor.GEv

