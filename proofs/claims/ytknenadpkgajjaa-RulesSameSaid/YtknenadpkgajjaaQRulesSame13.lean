/- RulesSame, part 13: the words, the walks and the plain laws that the proof rests on. -/
import Derived.Test.YtknenadpkgajjaaQRulesSame12
import Derived.RowKit
import Derived.WalkKit
import Derived.ProofKit
import Derived.SizedLaws
section
/- What came in as data reads as rows of the print's kinds: for whole numbers, bools, texts, slices, structs, and so for trees; with what the reader's own bounds give. No program's number stands here. -/
namespace Go.Proofs.Ytknenadpkgajjaa.GOpen
open Go.RowKit Go.Proofs.YtknenadpkgajjaaW.PrintWords
/-- Read with at most N steps of depth, what is told at type t is an x of the kind k, of which Wf holds. -/
structure Opens {α : Type} (P : Program) (N : Nat) (k : Kd α) (t : TypeId) (Wf : α → Prop) : Prop where
  mk :: (out : ∀ {H : Type} (enc : TypeId × Value → H) (W : World) (sp : Nat → Bool) (fuel : Nat), fuel ≤ N → ∀ (cs : List Value) (d : DataW H) (p : List MemPlace), DataW.trod enc P W 0 sp true fuel t cs = some (d, p) →
    (∀ n ∈ d.weights P t, n ≤ reachBytes) → ∃ x, k.K W x cs ∧ Wf x)
variable {P : Program} {N : Nat} {t : TypeId}
theorem Opens.zero {α : Type} (k : Kd α) (t : TypeId) (Wf : α → Prop) : Opens P 0 k t Wf := ⟨fun enc W sp fuel hf cs d p h => by
  obtain rfl : fuel = 0 := by omega
  simp [DataW.trod] at h⟩
theorem opens_int {q : IntKind} (hu : P.underlying t = some (.int q)) : Opens P N (Kd.int q) t (fun n => (Lit.int q n).wf = true) := ⟨fun enc W sp fuel _ cs d p h _ => by
  cases fuel with
  | zero => simp [DataW.trod] at h
  | succ fuel =>
    obtain ⟨a, rfl, _, hw⟩ := DataW.trod_int hu h
    exact ⟨a, rfl, hw⟩⟩
theorem opens_bool (hu : P.underlying t = some .bool) : Opens P N Kd.bool t (fun _ => True) := ⟨fun enc W sp fuel _ cs d p h _ => by
  cases fuel with
  | zero => simp [DataW.trod] at h
  | succ fuel =>
    obtain ⟨a, rfl, _⟩ := DataW.trod_bool hu h
    exact ⟨a, rfl, trivial⟩⟩
theorem opens_string (hu : P.underlying t = some .string) : Opens P N Kd.string t (fun s => s.size ≤ reachBytes) := ⟨fun enc W sp fuel _ cs d p h hw => by
  cases fuel with
  | zero => simp [DataW.trod] at h
  | succ fuel =>
    obtain ⟨s, rfl, hd, _⟩ := DataW.trod_string hu h
    injection hd with hd _
    subst hd
    refine ⟨s, rfl, ?_⟩
    have := hw s.data.toList.length (by simp [DataW.weights])
    rw [Array.length_toList] at this
    exact this⟩
theorem list_of {α : Type} (Q : Nat → α → Prop) : ∀ n, (∀ i, i < n → ∃ x, Q i x) → ∃ l : List α, l.length = n ∧ ∀ i x, l[i]? = some x → Q i x := by
  intro n
  induction n with
  | zero => exact fun _ => ⟨[], rfl, fun i x h => by simp at h⟩
  | succ n ih =>
    intro h
    obtain ⟨l, hl, hq⟩ := ih (fun i hi => h i (by omega))
    obtain ⟨x, hx⟩ := h n (by omega)
    refine ⟨l ++ [x], by simp [hl], fun i y hy => ?_⟩
    by_cases hi : i < n
    · rw [List.getElem?_append_left (by omega)] at hy
      exact hq i y hy
    · by_cases e : i = n
      · subst e
        rw [List.getElem?_append_right (by omega), hl] at hy
        simp at hy
        subst hy
        exact hx
      · rw [List.getElem?_eq_none (by simp [hl]; omega)] at hy
        cases hy
theorem cells_get {w : World} {b n : Nat} {a : Addr} {cs : List Value} (h : w.cells? b a n = some cs) : cs.length = n ∧ ∀ i u, cs[i]? = some u → w.cell? (a.add i) = some u := by
  unfold World.cells? at h
  split at h
  · have hl := mapM_some_length h
    rw [List.length_range] at hl
    refine ⟨hl, fun i u hu => ?_⟩
    have hi : i < n := by
      by_cases hi : i < n
      · exact hi
      · rw [List.getElem?_eq_none (by omega)] at hu; cases hu
    exact (mapM_some_get h i i (by simp [hi])).trans hu
  · cases h
theorem weights_mem_all {H : Type} {P : Program} {e : TypeId} {ds : List (DataW H)} : ∀ {i : Nat} {d : DataW H}, ds[i]? = some d → ∀ n ∈ d.weights P e, n ∈ DataW.weightsAll P e ds := by
  induction ds with
  | nil => intro i d h; simp at h
  | cons x r ih =>
    intro i d h n hn
    cases i with
    | zero => simp at h; subst h; simp [DataW.weightsAll, hn]
    | succ i => simp at h; simp [DataW.weightsAll, ih h n hn]
theorem opens_slice {α : Type} {k : Kd α} {e : TypeId} {Wf : α → Prop} {bts : Nat} (hu : P.underlying t = some (.slice e)) (hc : P.cellsOf e = k.sz) (hb : P.bytesOf e = bts) (h : Opens P N k e Wf) :
    Opens P (N + 1) (Kd.slice e k) t (fun l => l.length * bts ≤ reachBytes ∧ ∀ x ∈ l, Wf x) := ⟨fun enc W sp fuel hf cs d p htr hw => by
  rcases DataW.trod_slice hu htr with ⟨rfl, hd⟩ | ⟨a, len, cap, elems, rest, n, rfl, rfl, hd, _, hl, hcap, hlen, he, _⟩
  · exact ⟨[], ⟨none, 0, rfl, Nat.le_refl _, Kd.C_nil k W⟩, by simp, by simp⟩
  · injection hd with hd _
    subst hd
    have hw1 : (elems.length + rest.length) * bts ≤ reachBytes := hw _ (by simp [DataW.weights, hu, hb])
    have hel : ∀ i, i < len → ∃ x, (∃ c, c.length = k.sz ∧ k.K W x c ∧ ∀ j u, c[j]? = some u → W.cell? (a.add (i * k.sz + j)) = some u) ∧ Wf x := by
      intro i hi
      have h1 := he i hi
      rw [List.getElem?_eq_getElem (by omega)] at h1
      obtain ⟨c, hcs, htr1⟩ := Option.bind_eq_some_iff.mp h1
      rw [hc] at hcs
      obtain ⟨c1, c2⟩ := cells_get hcs
      obtain ⟨x, hx, hwf⟩ := h.out enc W sp n (by omega) c _ _ htr1 (fun q hq => hw q (by
        simp only [DataW.weights, hu, List.mem_cons, List.mem_append]
        exact .inr (.inl (weights_mem_all (i := i) (by rw [List.getElem?_map, List.getElem?_eq_getElem (by omega)]; rfl) q hq))))
      exact ⟨x, ⟨c, c1, hx, fun j u hj => by rw [← add_add]; exact c2 j u hj⟩, hwf⟩
    obtain ⟨l, hll, hq⟩ := list_of _ len hel
    refine ⟨l, ⟨some a, cap, by rw [hll], by omega, hll ▸ rfl, by have := hcap; unfold maxLen at this; omega, fun _ => ⟨a, rfl, fun j x hj => (hq j x hj).1⟩⟩, ?_, fun x hx => ?_⟩
    · refine Nat.le_trans (Nat.mul_le_mul_right _ ?_) hw1
      omega
    · obtain ⟨i, hi, rfl⟩ := List.getElem_of_mem hx
      exact (hq i _ (List.getElem?_eq_getElem hi)).2⟩
theorem Opens.mono {α : Type} {k : Kd α} {Wf : α → Prop} {M : Nat} (h : Opens P M k t Wf) (hm : N ≤ M) : Opens P N k t Wf := ⟨fun enc W sp fuel hf cs d p htr hw => h.out enc W sp fuel (by omega) cs d p htr hw⟩
/-- The fields of a struct, from one on: they are told as one value. -/
structure OpensF {α : Type} (P : Program) (N : Nat) (k : Kd α) (fs : List Field) (off : Nat) (Wf : α → Prop) : Prop where
  mk :: (out : ∀ {H : Type} (enc : TypeId × Value → H) (W : World) (sp : Nat → Bool) (fuel : Nat), fuel ≤ N → ∀ (cs : List Value) (xs : List (DataW H × List MemPlace)), cs.length = off + k.sz → xs.length = fs.length →
    (∀ (i : Nat) (f : Field), fs[i]? = some f → DataW.trod enc P W 0 sp true fuel f.type ((cs.drop f.offset).take (P.cellsOf f.type)) = xs[i]?) →
    (∀ n ∈ DataW.weightsEach P (fs.map (fun f : Field => f.type)) (xs.map (fun x => x.1)), n ≤ reachBytes) → ∃ x, k.K W x (cs.drop off) ∧ Wf x)
theorem opensF_one {α : Type} {k : Kd α} {f : Field} {off : Nat} {Wf : α → Prop} (ho : f.offset = off) (hc : P.cellsOf f.type = k.sz) (h : Opens P N k f.type Wf) : OpensF P N k [f] off Wf := ⟨fun enc W sp fuel hf cs xs hl hx hr hw => by
  have h0 := hr 0 f rfl
  obtain ⟨y, rfl⟩ : ∃ y, xs = [y] := by
    match xs, hx with
    | [y], _ => exact ⟨y, rfl⟩
  rw [ho, hc, List.take_of_length_le (by rw [List.length_drop]; omega)] at h0
  exact h.out enc W sp fuel hf _ y.1 y.2 h0 (fun n hn => hw n (by simp [DataW.weightsEach, hn]))⟩
theorem opensF_cons {α β : Type} {a : Kd α} {b : Kd β} {f : Field} {r : List Field} {off : Nat} {Wa : α → Prop} {Wb : β → Prop} (ho : f.offset = off) (hc : P.cellsOf f.type = a.sz) (h : Opens P N a f.type Wa) (hr : OpensF P N b r (off + a.sz) Wb) :
    OpensF P N (Kd.pair a b) (f :: r) off (fun x => Wa x.1 ∧ Wb x.2) := ⟨fun enc W sp fuel hf cs xs hl hx hq hw => by
  obtain ⟨y, ys, rfl⟩ : ∃ y ys, xs = y :: ys := by
    match xs, hx with
    | y :: ys, _ => exact ⟨y, ys, rfl⟩
  have hsz : (Kd.pair a b).sz = a.sz + b.sz := rfl
  rw [hsz] at hl
  have h0 := hq 0 f rfl
  rw [ho, hc] at h0
  obtain ⟨x, hx1, hx2⟩ := h.out enc W sp fuel hf _ y.1 y.2 h0 (fun n hn => hw n (by simp [DataW.weightsEach, hn]))
  obtain ⟨z, hz1, hz2⟩ := hr.out enc W sp fuel hf cs ys (by omega) (by simpa using hx) (fun i g hg => hq (i + 1) g hg) (fun n hn => hw n (by simp [DataW.weightsEach, hn]))
  refine ⟨(x, z), ⟨(cs.drop off).take a.sz, cs.drop (off + a.sz), ?_, hx1, hz1⟩, hx2, hz2⟩
  rw [← List.drop_drop, List.take_append_drop]⟩
theorem opens_struct {α β : Type} {k : Kd α} {φ : β → α} {ψ : α → β} {fs : Array Field} {Wf : α → Prop} (hu : P.underlying t = some (.struct fs)) (hc : P.cellsOf t = k.sz) (hψ : ∀ y, φ (ψ y) = y) (h : OpensF P N k fs.toList 0 Wf) :
    Opens P (N + 1) (Kd.iso k φ) t (fun x => Wf (φ x)) := ⟨fun enc W sp fuel hf cs d p htr hw => by
  obtain ⟨xs, n, rfl, hd, hl, hx, hr⟩ := DataW.trod_struct hu htr
  injection hd with hd _
  subst hd
  obtain ⟨y, hy1, hy2⟩ := h.out enc W sp n (by omega) cs xs (by omega) (by simpa using hx) (fun i f hi => hr i f (by simpa using hi)) (fun q hq => hw q (by simpa [DataW.weights, hu] using hq))
  refine ⟨ψ y, ?_, by rw [hψ]; exact hy2⟩
  show k.K W (φ (ψ y)) cs
  rw [hψ]
  simpa using hy1⟩
/-- Into another kind that reads the same cells. -/
theorem Opens.imp {α : Type} {k k' : Kd α} {Wf Wf' : α → Prop} (h : Opens P N k t Wf) (hk : ∀ W x cs, k.K W x cs → k'.K W x cs) (hw : ∀ x, Wf x → Wf' x) : Opens P N k' t Wf' := ⟨fun enc W sp fuel hf cs d p htr hwt => by
  obtain ⟨x, h1, h2⟩ := h.out enc W sp fuel hf cs d p htr hwt
  exact ⟨x, hk _ _ _ h1, hw _ h2⟩⟩
/-- at the row: an argument. -/
theorem opens_arg {α H : Type} {enc : TypeId × Value → H} {k : Kd α} {Wf : α → Prop} {W : World} {v : Value} {d : DataW H} {p : List MemPlace} {ts : List TypeId} {ds : List (DataW H)} (h : ∀ N, Opens P N k t Wf) (ht : DataW.Trod enc P W 0 (fun _ => true) true t v d p)
    (hsz : (DataW.weightsEach P ts ds).all (· ≤ reachBytes) = true) (j : Nat) (h1 : ts[j]? = some t) (h2 : ds[j]? = some d) : ∃ x, k.K W x v.cells.toList ∧ Wf x := by
  obtain ⟨fuel, hf⟩ := ht
  exact (h fuel).out enc W _ fuel (Nat.le_refl _) _ d p hf (fun n hn => by
    have := List.all_eq_true.1 hsz n (DataW.weights_mem_each h1 h2 n hn)
    simpa using this)
end Go.Proofs.Ytknenadpkgajjaa.GOpen
end
section
namespace Go.Proofs.Ytknenadpkgajjaa.OA
open Go.RowKit Go.Proofs.Ytknenadpkgajjaa.PA Go.Proofs.Ytknenadpkgajjaa.GOpen Go.Proofs.YtknenadpkgajjaaW.PrintWords Go.Proofs.YtknenadpkgajjaaW.PrintLast
def Wf39 (x : S39) : Prop := ((Lit.int .i64 x.f0).wf = true) ∧ (True)
set_option maxHeartbeats 1000000 in
theorem open39 : ∀ N, Opens Try.prog N k39 39 Wf39
  | 0 => Opens.zero _ _ _
  | N + 1 => by
    have ih : Opens Try.prog N k39 39 Wf39 := open39 N
    have o0 : Opens Try.prog N (Kd.int .i64) 3 (fun z : Int => (Lit.int .i64 z).wf = true) := (opens_int Try.underlying3)
    have o1 : Opens Try.prog N Kd.bool 4 (fun z : Bool => True) := (opens_bool Try.underlying4)
    refine Opens.imp (opens_struct (φ := fun x : S39 => (x.f0, x.f1)) (ψ := fun y => ⟨y.1, y.2⟩) Try.underlying39 (by kernel_rfl) (fun _ => rfl) (opensF_cons rfl (by kernel_rfl) o0 (opensF_one rfl (by kernel_rfl) o1))) (fun _ _ _ h => h) ?_
    exact (fun _ h => h)
def Wf41 (x : S41) : Prop := (x.f0.size ≤ reachBytes) ∧ (x.f1.size ≤ reachBytes) ∧ ((Lit.int .i64 x.f2).wf = true)
set_option maxHeartbeats 1000000 in
theorem open41 : ∀ N, Opens Try.prog N k41 41 Wf41
  | 0 => Opens.zero _ _ _
  | N + 1 => by
    have ih : Opens Try.prog N k41 41 Wf41 := open41 N
    have o0 : Opens Try.prog N Kd.string 9 (fun z : ByteArray => z.size ≤ reachBytes) := (opens_string Try.underlying9)
    have o1 : Opens Try.prog N Kd.string 9 (fun z : ByteArray => z.size ≤ reachBytes) := (opens_string Try.underlying9)
    have o2 : Opens Try.prog N (Kd.int .i64) 3 (fun z : Int => (Lit.int .i64 z).wf = true) := (opens_int Try.underlying3)
    refine Opens.imp (opens_struct (φ := fun x : S41 => (x.f0, x.f1, x.f2)) (ψ := fun y => ⟨y.1, y.2.1, y.2.2⟩) Try.underlying41 (by kernel_rfl) (fun _ => rfl) (opensF_cons rfl (by kernel_rfl) o0 (opensF_cons rfl (by kernel_rfl) o1 (opensF_one rfl (by kernel_rfl) o2)))) (fun _ _ _ h => h) ?_
    exact (fun _ h => h)
def Wf23 (x : S23) : Prop := ((Lit.int .i64 x.f0).wf = true) ∧ (True)
set_option maxHeartbeats 1000000 in
theorem open23 : ∀ N, Opens Try.prog N k23 23 Wf23
  | 0 => Opens.zero _ _ _
  | N + 1 => by
    have ih : Opens Try.prog N k23 23 Wf23 := open23 N
    have o0 : Opens Try.prog N (Kd.int .i64) 3 (fun z : Int => (Lit.int .i64 z).wf = true) := (opens_int Try.underlying3)
    have o1 : Opens Try.prog N Kd.bool 4 (fun z : Bool => True) := (opens_bool Try.underlying4)
    refine Opens.imp (opens_struct (φ := fun x : S23 => (x.f0, x.f1)) (ψ := fun y => ⟨y.1, y.2⟩) Try.underlying23 (by kernel_rfl) (fun _ => rfl) (opensF_cons rfl (by kernel_rfl) o0 (opensF_one rfl (by kernel_rfl) o1))) (fun _ _ _ h => h) ?_
    exact (fun _ h => h)
def Wf28 (x : S28) : Prop := ((Lit.int .i64 x.f0).wf = true) ∧ (x.f1.length * 16 ≤ reachBytes ∧ ∀ y0 ∈ x.f1, Wf39 y0) ∧ (x.f2.length * 40 ≤ reachBytes ∧ ∀ y0 ∈ x.f2, Wf41 y0) ∧ (x.f3.length * 16 ≤ reachBytes ∧ ∀ y0 ∈ x.f3, Wf23 y0)
set_option maxHeartbeats 1000000 in
theorem open28 : ∀ N, Opens Try.prog N k28 28 Wf28
  | 0 => Opens.zero _ _ _
  | N + 1 => by
    have ih : Opens Try.prog N k28 28 Wf28 := open28 N
    have o0 : Opens Try.prog N (Kd.int .i64) 3 (fun z : Int => (Lit.int .i64 z).wf = true) := (opens_int Try.underlying3)
    have o1 : Opens Try.prog N (Kd.slice 39 k39) 25 (fun z : List (S39) => z.length * 16 ≤ reachBytes ∧ ∀ y0 ∈ z, Wf39 y0) := ((opens_slice (bts := 16) Try.underlying25 (by kernel_rfl) (by kernel_rfl) (open39 _)).mono (Nat.le_succ _))
    have o2 : Opens Try.prog N (Kd.slice 41 k41) 26 (fun z : List (S41) => z.length * 40 ≤ reachBytes ∧ ∀ y0 ∈ z, Wf41 y0) := ((opens_slice (bts := 40) Try.underlying26 (by kernel_rfl) (by kernel_rfl) (open41 _)).mono (Nat.le_succ _))
    have o3 : Opens Try.prog N (Kd.slice 23 k23) 24 (fun z : List (S23) => z.length * 16 ≤ reachBytes ∧ ∀ y0 ∈ z, Wf23 y0) := ((opens_slice (bts := 16) Try.underlying24 (by kernel_rfl) (by kernel_rfl) (open23 _)).mono (Nat.le_succ _))
    refine Opens.imp (opens_struct (φ := fun x : S28 => (x.f0, x.f1, x.f2, x.f3)) (ψ := fun y => ⟨y.1, y.2.1, y.2.2.1, y.2.2.2⟩) Try.underlying28 (by kernel_rfl) (fun _ => rfl) (opensF_cons rfl (by kernel_rfl) o0 (opensF_cons rfl (by kernel_rfl) o1 (opensF_cons rfl (by kernel_rfl) o2 (opensF_one rfl (by kernel_rfl) o3))))) (fun _ _ _ h => h) ?_
    exact (fun _ h => h)
def Wf44 (x : S44) : Prop := ((Lit.int .i64 x.f0).wf = true) ∧ ((Lit.int .i64 x.f1).wf = true) ∧ ((Lit.int .i64 x.f2).wf = true)
set_option maxHeartbeats 1000000 in
theorem open44 : ∀ N, Opens Try.prog N k44 44 Wf44
  | 0 => Opens.zero _ _ _
  | N + 1 => by
    have ih : Opens Try.prog N k44 44 Wf44 := open44 N
    have o0 : Opens Try.prog N (Kd.int .i64) 3 (fun z : Int => (Lit.int .i64 z).wf = true) := (opens_int Try.underlying3)
    have o1 : Opens Try.prog N (Kd.int .i64) 3 (fun z : Int => (Lit.int .i64 z).wf = true) := (opens_int Try.underlying3)
    have o2 : Opens Try.prog N (Kd.int .i64) 3 (fun z : Int => (Lit.int .i64 z).wf = true) := (opens_int Try.underlying3)
    refine Opens.imp (opens_struct (φ := fun x : S44 => (x.f0, x.f1, x.f2)) (ψ := fun y => ⟨y.1, y.2.1, y.2.2⟩) Try.underlying44 (by kernel_rfl) (fun _ => rfl) (opensF_cons rfl (by kernel_rfl) o0 (opensF_cons rfl (by kernel_rfl) o1 (opensF_one rfl (by kernel_rfl) o2)))) (fun _ _ _ h => h) ?_
    exact (fun _ h => h)
def Wf46 (x : S46) : Prop := (x.f0.size ≤ reachBytes) ∧ ((Lit.int .i64 x.f1).wf = true) ∧ (x.f2.length * 16 ≤ reachBytes ∧ ∀ y0 ∈ x.f2, Wf39 y0) ∧ ((Lit.int .i64 x.f3).wf = true)
set_option maxHeartbeats 1000000 in
theorem open46 : ∀ N, Opens Try.prog N k46 46 Wf46
  | 0 => Opens.zero _ _ _
  | N + 1 => by
    have ih : Opens Try.prog N k46 46 Wf46 := open46 N
    have o0 : Opens Try.prog N Kd.string 9 (fun z : ByteArray => z.size ≤ reachBytes) := (opens_string Try.underlying9)
    have o1 : Opens Try.prog N (Kd.int .i64) 3 (fun z : Int => (Lit.int .i64 z).wf = true) := (opens_int Try.underlying3)
    have o2 : Opens Try.prog N (Kd.slice 39 k39) 25 (fun z : List (S39) => z.length * 16 ≤ reachBytes ∧ ∀ y0 ∈ z, Wf39 y0) := ((opens_slice (bts := 16) Try.underlying25 (by kernel_rfl) (by kernel_rfl) (open39 _)).mono (Nat.le_succ _))
    have o3 : Opens Try.prog N (Kd.int .i64) 3 (fun z : Int => (Lit.int .i64 z).wf = true) := (opens_int Try.underlying3)
    refine Opens.imp (opens_struct (φ := fun x : S46 => (x.f0, x.f1, x.f2, x.f3)) (ψ := fun y => ⟨y.1, y.2.1, y.2.2.1, y.2.2.2⟩) Try.underlying46 (by kernel_rfl) (fun _ => rfl) (opensF_cons rfl (by kernel_rfl) o0 (opensF_cons rfl (by kernel_rfl) o1 (opensF_cons rfl (by kernel_rfl) o2 (opensF_one rfl (by kernel_rfl) o3))))) (fun _ _ _ h => h) ?_
    exact (fun _ h => h)
def Wf120 (x : S120) : Prop := (x.f0.size ≤ reachBytes) ∧ ((Lit.int .i64 x.f1).wf = true)
set_option maxHeartbeats 1000000 in
theorem open120 : ∀ N, Opens Try.prog N k120 120 Wf120
  | 0 => Opens.zero _ _ _
  | N + 1 => by
    have ih : Opens Try.prog N k120 120 Wf120 := open120 N
    have o0 : Opens Try.prog N Kd.string 9 (fun z : ByteArray => z.size ≤ reachBytes) := (opens_string Try.underlying9)
    have o1 : Opens Try.prog N (Kd.int .i64) 3 (fun z : Int => (Lit.int .i64 z).wf = true) := (opens_int Try.underlying3)
    refine Opens.imp (opens_struct (φ := fun x : S120 => (x.f0, x.f1)) (ψ := fun y => ⟨y.1, y.2⟩) Try.underlying120 (by kernel_rfl) (fun _ => rfl) (opensF_cons rfl (by kernel_rfl) o0 (opensF_one rfl (by kernel_rfl) o1))) (fun _ _ _ h => h) ?_
    exact (fun _ h => h)
def Wf103 (x : S103) : Prop := (x.f0.length * 24 ≤ reachBytes ∧ ∀ y0 ∈ x.f0, Wf120 y0) ∧ (x.f1.length * 40 ≤ reachBytes ∧ ∀ y0 ∈ x.f1, Wf41 y0)
set_option maxHeartbeats 1000000 in
theorem open103 : ∀ N, Opens Try.prog N k103 103 Wf103
  | 0 => Opens.zero _ _ _
  | N + 1 => by
    have ih : Opens Try.prog N k103 103 Wf103 := open103 N
    have o0 : Opens Try.prog N (Kd.slice 120 k120) 101 (fun z : List (S120) => z.length * 24 ≤ reachBytes ∧ ∀ y0 ∈ z, Wf120 y0) := ((opens_slice (bts := 24) Try.underlying101 (by kernel_rfl) (by kernel_rfl) (open120 _)).mono (Nat.le_succ _))
    have o1 : Opens Try.prog N (Kd.slice 41 k41) 26 (fun z : List (S41) => z.length * 40 ≤ reachBytes ∧ ∀ y0 ∈ z, Wf41 y0) := ((opens_slice (bts := 40) Try.underlying26 (by kernel_rfl) (by kernel_rfl) (open41 _)).mono (Nat.le_succ _))
    refine Opens.imp (opens_struct (φ := fun x : S103 => (x.f0, x.f1)) (ψ := fun y => ⟨y.1, y.2⟩) Try.underlying103 (by kernel_rfl) (fun _ => rfl) (opensF_cons rfl (by kernel_rfl) o0 (opensF_one rfl (by kernel_rfl) o1))) (fun _ _ _ h => h) ?_
    exact (fun _ h => h)
def Wf57 (x : S57) : Prop := (x.f0.size ≤ reachBytes) ∧ ((Lit.int .i64 x.f1).wf = true) ∧ (x.f2.size ≤ reachBytes) ∧ (True) ∧ ((Lit.int .i64 x.f4).wf = true) ∧ (x.f5.length * 48 ≤ reachBytes ∧ ∀ y0 ∈ x.f5, Wf103 y0) ∧ (x.f6.length * 48 ≤ reachBytes ∧ ∀ y0 ∈ x.f6, Wf103 y0)
set_option maxHeartbeats 1000000 in
theorem open57 : ∀ N, Opens Try.prog N k57 57 Wf57
  | 0 => Opens.zero _ _ _
  | N + 1 => by
    have ih : Opens Try.prog N k57 57 Wf57 := open57 N
    have o0 : Opens Try.prog N Kd.string 9 (fun z : ByteArray => z.size ≤ reachBytes) := (opens_string Try.underlying9)
    have o1 : Opens Try.prog N (Kd.int .i64) 3 (fun z : Int => (Lit.int .i64 z).wf = true) := (opens_int Try.underlying3)
    have o2 : Opens Try.prog N Kd.string 9 (fun z : ByteArray => z.size ≤ reachBytes) := (opens_string Try.underlying9)
    have o3 : Opens Try.prog N Kd.bool 4 (fun z : Bool => True) := (opens_bool Try.underlying4)
    have o4 : Opens Try.prog N (Kd.int .i64) 3 (fun z : Int => (Lit.int .i64 z).wf = true) := (opens_int Try.underlying3)
    have o5 : Opens Try.prog N (Kd.slice 103 k103) 55 (fun z : List (S103) => z.length * 48 ≤ reachBytes ∧ ∀ y0 ∈ z, Wf103 y0) := ((opens_slice (bts := 48) Try.underlying55 (by kernel_rfl) (by kernel_rfl) (open103 _)).mono (Nat.le_succ _))
    have o6 : Opens Try.prog N (Kd.slice 103 k103) 55 (fun z : List (S103) => z.length * 48 ≤ reachBytes ∧ ∀ y0 ∈ z, Wf103 y0) := ((opens_slice (bts := 48) Try.underlying55 (by kernel_rfl) (by kernel_rfl) (open103 _)).mono (Nat.le_succ _))
    refine Opens.imp (opens_struct (φ := fun x : S57 => (x.f0, x.f1, x.f2, x.f3, x.f4, x.f5, x.f6)) (ψ := fun y => ⟨y.1, y.2.1, y.2.2.1, y.2.2.2.1, y.2.2.2.2.1, y.2.2.2.2.2.1, y.2.2.2.2.2.2⟩) Try.underlying57 (by kernel_rfl) (fun _ => rfl) (opensF_cons rfl (by kernel_rfl) o0 (opensF_cons rfl (by kernel_rfl) o1 (opensF_cons rfl (by kernel_rfl) o2 (opensF_cons rfl (by kernel_rfl) o3 (opensF_cons rfl (by kernel_rfl) o4 (opensF_cons rfl (by kernel_rfl) o5 (opensF_one rfl (by kernel_rfl) o6)))))))) (fun _ _ _ h => h) ?_
    exact (fun _ h => h)
def Wf36 (x : S36) : Prop := ((Lit.int .i64 x.f0).wf = true) ∧ ((Lit.int .i64 x.f1).wf = true) ∧ (x.f2.length * 8 ≤ reachBytes ∧ ∀ y0 ∈ x.f2, (Lit.int .i64 y0).wf = true) ∧ (x.f3.length * 8 ≤ reachBytes ∧ ∀ y0 ∈ x.f3, (Lit.int .i64 y0).wf = true) ∧ ((Lit.int .i64 x.f4).wf = true) ∧ (x.f5.length * 16 ≤ reachBytes ∧ ∀ y0 ∈ x.f5, y0.size ≤ reachBytes) ∧ (x.f6.length * 80 ≤ reachBytes ∧ ∀ y0 ∈ x.f6, Wf28 y0) ∧ (x.f7.length * 24 ≤ reachBytes ∧ ∀ y0 ∈ x.f7, Wf44 y0) ∧ (x.f8.length * 56 ≤ reachBytes ∧ ∀ y0 ∈ x.f8, Wf46 y0) ∧ (x.f9.length * 104 ≤ reachBytes ∧ ∀ y0 ∈ x.f9, Wf57 y0)
set_option maxHeartbeats 1000000 in
theorem open36 : ∀ N, Opens Try.prog N k36 36 Wf36
  | 0 => Opens.zero _ _ _
  | N + 1 => by
    have ih : Opens Try.prog N k36 36 Wf36 := open36 N
    have o0 : Opens Try.prog N (Kd.int .i64) 3 (fun z : Int => (Lit.int .i64 z).wf = true) := (opens_int Try.underlying3)
    have o1 : Opens Try.prog N (Kd.int .i64) 3 (fun z : Int => (Lit.int .i64 z).wf = true) := (opens_int Try.underlying3)
    have o2 : Opens Try.prog N (Kd.slice 3 (Kd.int .i64)) 29 (fun z : List Int => z.length * 8 ≤ reachBytes ∧ ∀ y0 ∈ z, (Lit.int .i64 y0).wf = true) := ((opens_slice (bts := 8) Try.underlying29 (by kernel_rfl) (by kernel_rfl) (opens_int Try.underlying3)).mono (Nat.le_succ _))
    have o3 : Opens Try.prog N (Kd.slice 3 (Kd.int .i64)) 29 (fun z : List Int => z.length * 8 ≤ reachBytes ∧ ∀ y0 ∈ z, (Lit.int .i64 y0).wf = true) := ((opens_slice (bts := 8) Try.underlying29 (by kernel_rfl) (by kernel_rfl) (opens_int Try.underlying3)).mono (Nat.le_succ _))
    have o4 : Opens Try.prog N (Kd.int .i64) 3 (fun z : Int => (Lit.int .i64 z).wf = true) := (opens_int Try.underlying3)
    have o5 : Opens Try.prog N (Kd.slice 9 Kd.string) 30 (fun z : List ByteArray => z.length * 16 ≤ reachBytes ∧ ∀ y0 ∈ z, y0.size ≤ reachBytes) := ((opens_slice (bts := 16) Try.underlying30 (by kernel_rfl) (by kernel_rfl) (opens_string Try.underlying9)).mono (Nat.le_succ _))
    have o6 : Opens Try.prog N (Kd.slice 28 k28) 31 (fun z : List (S28) => z.length * 80 ≤ reachBytes ∧ ∀ y0 ∈ z, Wf28 y0) := ((opens_slice (bts := 80) Try.underlying31 (by kernel_rfl) (by kernel_rfl) (open28 _)).mono (Nat.le_succ _))
    have o7 : Opens Try.prog N (Kd.slice 44 k44) 32 (fun z : List (S44) => z.length * 24 ≤ reachBytes ∧ ∀ y0 ∈ z, Wf44 y0) := ((opens_slice (bts := 24) Try.underlying32 (by kernel_rfl) (by kernel_rfl) (open44 _)).mono (Nat.le_succ _))
    have o8 : Opens Try.prog N (Kd.slice 46 k46) 33 (fun z : List (S46) => z.length * 56 ≤ reachBytes ∧ ∀ y0 ∈ z, Wf46 y0) := ((opens_slice (bts := 56) Try.underlying33 (by kernel_rfl) (by kernel_rfl) (open46 _)).mono (Nat.le_succ _))
    have o9 : Opens Try.prog N (Kd.slice 57 k57) 34 (fun z : List (S57) => z.length * 104 ≤ reachBytes ∧ ∀ y0 ∈ z, Wf57 y0) := ((opens_slice (bts := 104) Try.underlying34 (by kernel_rfl) (by kernel_rfl) (open57 _)).mono (Nat.le_succ _))
    refine Opens.imp (opens_struct (φ := fun x : S36 => (x.f0, x.f1, x.f2, x.f3, x.f4, x.f5, x.f6, x.f7, x.f8, x.f9)) (ψ := fun y => ⟨y.1, y.2.1, y.2.2.1, y.2.2.2.1, y.2.2.2.2.1, y.2.2.2.2.2.1, y.2.2.2.2.2.2.1, y.2.2.2.2.2.2.2.1, y.2.2.2.2.2.2.2.2.1, y.2.2.2.2.2.2.2.2.2⟩) Try.underlying36 (by kernel_rfl) (fun _ => rfl) (opensF_cons rfl (by kernel_rfl) o0 (opensF_cons rfl (by kernel_rfl) o1 (opensF_cons rfl (by kernel_rfl) o2 (opensF_cons rfl (by kernel_rfl) o3 (opensF_cons rfl (by kernel_rfl) o4 (opensF_cons rfl (by kernel_rfl) o5 (opensF_cons rfl (by kernel_rfl) o6 (opensF_cons rfl (by kernel_rfl) o7 (opensF_cons rfl (by kernel_rfl) o8 (opensF_one rfl (by kernel_rfl) o9))))))))))) (fun _ _ _ h => h) ?_
    exact (fun _ h => h)
end Go.Proofs.Ytknenadpkgajjaa.OA
end
section
/- Chapter 10's pure side: what rules.Is comes to. -/
namespace Go.Proofs.Ytknenadpkgajjaa.PA
open Go.RowKit Go.Proofs.YtknenadpkgajjaaW.PrintWords Go.Proofs.YtknenadpkgajjaaW.PrintLast
set_option linter.unusedVariables false
set_option linter.unusedSimpArgs false
/-- a loop that goes on as long as something holds. -/
theorem loop_all (F : Nat → Int → Option Bool) (n K : Nat) (P : Nat → Prop) (e : Bool)
    (hs : ∀ i, i < n → ∃ c : Bool, (c = true ↔ P i) ∧ ∀ k, K ≤ k → F (k + 1) (i : Int) = if c = true then F k ((i + 1 : Nat) : Int) else some false)
    (he : ∀ k, K ≤ k → F (k + 1) (n : Int) = some e) : ∃ b, (∀ k, K + n + 1 ≤ k → F k 0 = some b) ∧ (b = true ↔ (∀ i, i < n → P i) ∧ e = true) := by
  have main : ∀ d i, i + d = n → ∃ b, (∀ k, K + d + 1 ≤ k → F k (i : Int) = some b) ∧ (b = true ↔ (∀ j, i ≤ j → j < n → P j) ∧ e = true) := by
    intro d
    induction d with
    | zero =>
      intro i hi
      have : i = n := by omega
      subst this
      refine ⟨e, fun k hk => ?_, ⟨fun h => ⟨fun j h1 h2 => by omega, h⟩, fun h => h.2⟩⟩
      obtain ⟨k, rfl⟩ : ∃ q, k = q + 1 := ⟨k - 1, by omega⟩
      exact he k (by omega)
    | succ d ih =>
      intro i hi
      obtain ⟨c, hc, hF⟩ := hs i (by omega)
      cases c with
      | false =>
        refine ⟨false, fun k hk => ?_, ⟨fun h => absurd h (by decide), fun h => ?_⟩⟩
        · obtain ⟨k, rfl⟩ : ∃ q, k = q + 1 := ⟨k - 1, by omega⟩
          rw [hF k (by omega), if_neg (by decide)]
        · exact absurd (hc.mpr (h.1 i (Nat.le_refl _) (by omega))) (by decide)
      | true =>
        obtain ⟨b, h1, h2⟩ := ih (i + 1) (by omega)
        refine ⟨b, fun k hk => ?_, h2.trans ⟨fun h => ⟨fun j h3 h4 => ?_, h.2⟩, fun h => ⟨fun j h3 h4 => h.1 j (by omega) h4, h.2⟩⟩⟩
        · obtain ⟨k, rfl⟩ : ∃ q, k = q + 1 := ⟨k - 1, by omega⟩
          rw [hF k (by omega), if_pos rfl]
          exact h1 k (by omega)
        · by_cases hj : j = i
          · subst hj; exact hc.mp rfl
          · exact h.1 j (by omega) h4
  obtain ⟨b, h1, h2⟩ := main n 0 (by omega)
  exact ⟨b, h1, h2.trans ⟨fun h => ⟨fun i hi => h.1 i (Nat.zero_le _) hi, h.2⟩, fun h => ⟨fun j _ hj => h.1 j hj, h.2⟩⟩⟩
theorem wr_s {i : Nat} (h : i < 4611686018427387904) : wrap64 ((i : Int) + 1) = ((i + 1 : Nat) : Int) := by unfold wrap64; omega
theorem wr_p {i : Nat} (h0 : 0 < i) (h : i < 4611686018427387904) : wrap64 ((i : Int) - 1) = ((i - 1 : Nat) : Int) := by unfold wrap64; omega
theorem within_f (a b c : Int) : rules_within.f a b c = some (inB a b c) := by
  unfold rules_within.f inB
  by_cases h : a ≥ b
  · rw [if_pos h, decide_eq_true h]; rfl
  · rw [if_neg h, decide_eq_false h]; rfl
theorem inB_iff (n a b : Int) : inB n a b = true ↔ a ≤ n ∧ n < b := by unfold inB; simp
theorem rdn (l : List Int) (i : Nat) (h : i < l.length) : rd l (i : Int) = l[i] := by simp [rd, List.getD_eq_getElem?_getD, h]
theorem rd28 (l : List S28) (i : Nat) (h : i < l.length) : rd_T28 l (i : Int) = l[i] := by simp [rd_T28, List.getD_eq_getElem?_getD, h]
/-- flags below a number, rising, none twice. -/
def Rising (la : Int) (l : List Int) : Prop := ∀ i (h : i < l.length), (0 ≤ l[i] ∧ l[i] < la) ∧ (0 < i → l[i - 1] < l[i])
section
variable (p0 p1 : Int) (p2 p3 : List Int) (p4 : Int) (p5 : List ByteArray) (p6 : List S28) (p7 : List S44) (p8 : List S46) (p9 : List S57)
theorem last_f (l : List Int) (hl : l.length ≤ 1000000) : ∃ b, (∀ k, l.length + 2 ≤ k → rules_last.f k p0 p1 p2 p3 p4 p5 p6 p7 p8 p9 l = some b) ∧ (b = true ↔ Rising p1 l) := by
  obtain ⟨b, h1, h2⟩ := loop_all (fun k i => rules_last.l0 k l l (l.length : Int) i p0 p1 p2 p3 p4 p5 p6 p7 p8 p9) l.length 0 (fun i => ∃ h : i < l.length, (0 ≤ l[i] ∧ l[i] < p1) ∧ (0 < i → l[i - 1] < l[i])) true
    (fun i hi => by
      refine ⟨inB l[i] 0 p1 && (decide (i = 0) || decide (l[i - 1]'(by omega) < l[i])), ?_, fun k _ => ?_⟩
      · rw [Bool.and_eq_true, inB_iff, Bool.or_eq_true, decide_eq_true_iff, decide_eq_true_iff]
        constructor
        · rintro ⟨h1, h2⟩
          exact ⟨hi, h1, fun h => h2.resolve_left (by omega)⟩
        · rintro ⟨_, h1, h2⟩
          exact ⟨h1, by by_cases h : i = 0; exact .inl h; exact .inr (h2 (by omega))⟩
      · simp only [rules_last.l0]
        rw [if_pos (by omega), if_pos (by omega), if_pos (by omega), within_f, rdn l i hi]
        simp only [Option.bind_some]
        cases h1 : inB l[i] 0 p1 with
        | false => rw [if_neg (by decide)]; simp
        | true =>
          rw [if_pos rfl]
          by_cases h0 : i = 0
          · subst h0
            rw [if_neg (by omega), wr_s (by omega)]
            simp
          · rw [if_pos (by omega), wr_p (by omega) (by omega), if_pos (by omega), if_pos (by omega), rdn l (i - 1) (by omega), wr_s (by omega)]
            by_cases h2 : l[i - 1] < l[i]
            · rw [if_neg (by omega)]; simp [h2]
            · rw [if_pos (by omega)]; simp [h2, h0])
    (fun k _ => by
      simp only [rules_last.l0]
      rw [if_neg (by omega)])
  refine ⟨b, fun k hk => h1 k (by omega), h2.trans ⟨fun h i hi => ?_, fun h => ⟨fun i hi => ⟨hi, h i hi⟩, rfl⟩⟩⟩
  obtain ⟨_, h3⟩ := h.1 i hi
  exact h3
def FilesOk (l : List ByteArray) : Prop := (∀ i (h : i < l.length), hasText (l.take i) l[i] = false) ∧ l.length ≤ 6
theorem files_f (hl : p5.length ≤ 1000000) : ∃ b, (∀ k, 2 * p5.length + 3 ≤ k → rules_areFiles.f k p0 p1 p2 p3 p4 p5 p6 p7 p8 p9 = some b) ∧ (b = true ↔ FilesOk p5) := by
  obtain ⟨b, h1, h2⟩ := loop_all (fun k i => rules_areFiles.l0 k p5 (p5.length : Int) i p0 p1 p2 p3 p4 p5 p6 p7 p8 p9) p5.length (p5.length + 1) (fun i => ∃ h : i < p5.length, hasText (p5.take i) p5[i] = false) (decide ((p5.length : Int) ≤ 6))
    (fun i hi => by
      refine ⟨!hasText (p5.take i) p5[i], ?_, fun k hk => ?_⟩
      · constructor
        · intro h; exact ⟨hi, by simpa using h⟩
        · rintro ⟨_, h⟩; rw [h]; rfl
      · have hx : rdOf ByteArray.empty p5 (i : Int) = p5[i] := by simp [rdOf, List.getD_eq_getElem?_getD, hi]
        have hc := at_rounds (fun k => slices_Contains_string_string.mono (p5.take i) p5[i] k) (show (p5.take i).length + 1 ≤ k by rw [List.length_take]; omega) (contains_texts p5[i] (p5.take i) (by rw [List.length_take]; omega))
        simp only [rules_areFiles.l0]
        rw [if_pos (by omega), if_pos (by omega), if_pos (by omega), if_pos (by omega), hx, Int.toNat_natCast, hc]
        simp only [Option.bind_some]
        rw [wr_s (by omega)]
        cases hasText (p5.take i) p5[i] <;> simp)
    (fun k _ => by
      simp only [rules_areFiles.l0]
      rw [if_neg (by omega)])
  refine ⟨b, fun k hk => h1 k (by omega), h2.trans ⟨fun h => ⟨fun i hi => ?_, by have := h.2; simp at this; omega⟩, fun h => ⟨fun i hi => ⟨hi, h.1 i hi⟩, by have := h.2; simp; omega⟩⟩⟩
  obtain ⟨_, h3⟩ := h.1 i hi
  exact h3
def RulesOk (p0 : Int) (p5 : List ByteArray) (l : List S28) : Prop := (∀ i (h : i < l.length), isRuleF p0 p5 l[i] = true ∧ (0 < i → l[i - 1].f0 ≤ l[i].f0)) ∧ l.length ≤ 1500
theorem rules_f (hl : p6.length ≤ 1000000) : ∃ b, (∀ k, p6.length + 2 ≤ k → rules_areRules.f k p0 p1 p2 p3 p4 p5 p6 p7 p8 p9 = some b) ∧ (b = true ↔ RulesOk p0 p5 p6) := by
  obtain ⟨b, h1, h2⟩ := loop_all (fun k i => rules_areRules.l0 k p6 (p6.length : Int) i p0 p1 p2 p3 p4 p5 p6 p7 p8 p9) p6.length 0 (fun i => ∃ h : i < p6.length, isRuleF p0 p5 p6[i] = true ∧ (0 < i → p6[i - 1].f0 ≤ p6[i].f0)) (decide ((p6.length : Int) ≤ 1500))
    (fun i hi => by
      refine ⟨isRuleF p0 p5 p6[i] && (decide (i = 0) || decide ((p6[i - 1]'(by omega)).f0 ≤ p6[i].f0)), ?_, fun k _ => ?_⟩
      · rw [Bool.and_eq_true, Bool.or_eq_true, decide_eq_true_iff, decide_eq_true_iff]
        constructor
        · rintro ⟨h1, h2⟩
          exact ⟨hi, h1, fun h => h2.resolve_left (by omega)⟩
        · rintro ⟨_, h1, h2⟩
          exact ⟨h1, by by_cases h : i = 0; exact .inl h; exact .inr (h2 (by omega))⟩
      · have hr : rules_isRule.f p0 p1 p2 p3 p4 p5 p6 p7 p8 p9 p6[i].f0 p6[i].f1 p6[i].f2 p6[i].f3 = some (isRuleF p0 p5 p6[i]) := rfl
        simp only [rules_areRules.l0]
        rw [if_pos (by omega), if_pos (by omega), if_pos (by omega), rd28 p6 i hi, hr]
        simp only [Option.bind_some]
        cases h1 : isRuleF p0 p5 p6[i] with
        | false => rw [if_neg (by decide)]; simp
        | true =>
          rw [if_pos rfl]
          by_cases h0 : i = 0
          · subst h0
            rw [if_neg (by omega), wr_s (by omega)]
            simp
          · rw [if_pos (by omega), wr_p (by omega) (by omega), if_pos (by omega), if_pos (by omega), rd28 p6 (i - 1) (by omega), wr_s (by omega)]
            by_cases h2 : p6[i - 1].f0 ≤ p6[i].f0
            · rw [if_neg (by omega)]; simp [h2]
            · rw [if_pos (by omega)]; simp [h2, h0])
    (fun k _ => by
      simp only [rules_areRules.l0]
      rw [if_neg (by omega)])
  refine ⟨b, fun k hk => h1 k (by omega), h2.trans ⟨fun h => ⟨fun i hi => ?_, by have := h.2; simp at this; omega⟩, fun h => ⟨fun i hi => ⟨hi, h.1 i hi⟩, by have := h.2; simp; omega⟩⟩⟩
  obtain ⟨_, h3⟩ := h.1 i hi
  exact h3
/-- the strata in which a flag is read and written, as they are found. -/
def rdL (l : List S28) (f : Int) : List Int := strataF l (readsP f)
def wrL (l : List S28) (f : Int) : List Int := strataF l (writesP f)
def FlagOk (p1 : Int) (l : List S28) (f : Nat) : Prop := wrL l f = [] ∨ ((f : Int) < p1 ∧ rd (wrL l f) 0 = (rd_T28 l ((l.length - 1 : Nat) : Int)).f0) ∨ (p1 ≤ f ∧ (rdL l f = [] ∨ rd (wrL l f) (((wrL l f).length - 1 : Nat) : Int) < rd (rdL l f) 0))
theorem strata_len (l : List S28) (p : S28 → Bool) : (strataF l p).length ≤ l.length := by
  unfold strataF
  refine Nat.le_trans (Lib.compact_length_le _) ?_
  rw [List.length_mergeSort, List.length_map]
  exact List.length_filter_le _ _
theorem strata_nil (p : S28 → Bool) : strataF [] p = [] := List.eq_nil_of_length_eq_zero (Nat.le_zero.mp (strata_len [] p))
theorem strata_f (hl : p6.length < 1000000) (h0 : 0 ≤ p0) (h1 : p0 ≤ 1000000) : ∃ b, (∀ k, p0.toNat + 1 ≤ k → rules_areStrata.f k p0 p1 p2 p3 p4 p5 p6 p7 p8 p9 = some b) ∧ (b = true ↔ ∀ f : Nat, (f : Int) < p0 → FlagOk p1 p6 f) := by
  obtain ⟨b, h2, h3⟩ := loop_all (fun k i => rules_areStrata.l0 k p0 i p0 p1 p2 p3 p4 p5 p6 p7 p8 p9) p0.toNat 0 (fun i => FlagOk p1 p6 i) true
    (fun i hi => by
      haveI hd := Classical.propDecidable (FlagOk p1 p6 i)
      refine ⟨decide (FlagOk p1 p6 i), decide_eq_true_iff, fun k _ => ?_⟩
      have hR : rules_Reads.f p0 p1 p2 p3 p4 p5 p6 p7 p8 p9 (i : Int) = some (rdL p6 i) := by unfold rules_Reads.f; rw [if_pos hl]; rfl
      have hW : rules_Writes.f p0 p1 p2 p3 p4 p5 p6 p7 p8 p9 (i : Int) = some (wrL p6 i) := by unfold rules_Writes.f; rw [if_pos hl]; rfl
      have hlr : (rdL p6 i).length ≤ p6.length := strata_len _ _
      have hlw : (wrL p6 i).length ≤ p6.length := strata_len _ _
      simp only [rules_areStrata.l0]
      rw [if_pos (by omega), hR, hW]
      simp only [Option.bind_some]
      rw [wr_s (by omega)]
      by_cases e : wrL p6 i = []
      · rw [if_pos (by rw [e]; rfl), if_pos (decide_eq_true (.inl e))]
      · have hne : 0 < (wrL p6 i).length := by cases h : wrL p6 i with | nil => exact absurd h e | cons _ _ => simp
        rw [if_neg (by omega)]
        by_cases hp : (i : Int) < p1
        · rw [if_pos hp, if_pos (by omega), wr_p (by omega) (by omega), if_pos (by omega), if_pos (by omega)]
          by_cases hq : rd (wrL p6 i) 0 = (rd_T28 p6 ((p6.length - 1 : Nat) : Int)).f0
          · rw [if_pos hq, if_pos (decide_eq_true (.inr (.inl ⟨hp, hq⟩)))]
          · rw [if_neg hq, if_neg (fun h => by
              rcases of_decide_eq_true h with h | h | h
              · exact e h
              · exact hq h.2
              · omega)]
        · rw [if_neg hp]
          by_cases hr : rdL p6 i = []
          · rw [if_neg (by rw [hr]; simp), if_pos (decide_eq_true (.inr (.inr ⟨by omega, .inl hr⟩)))]
          · have hnr : 0 < (rdL p6 i).length := by cases h : rdL p6 i with | nil => exact absurd h hr | cons _ _ => simp
            rw [if_pos (by omega), wr_p (by omega) (by omega), if_pos (by omega), if_pos (by omega), if_pos (by omega)]
            by_cases hq : rd (wrL p6 i) (((wrL p6 i).length - 1 : Nat) : Int) < rd (rdL p6 i) 0
            · rw [if_neg (by omega), if_pos (decide_eq_true (.inr (.inr ⟨by omega, .inr hq⟩)))]
            · rw [if_pos (by omega), if_neg (fun h => by
                rcases of_decide_eq_true h with h | h | h
                · exact e h
                · omega
                · rcases h.2 with h | h
                  · exact hr h
                  · exact hq h)])
    (fun k _ => by
      simp only [rules_areStrata.l0]
      rw [if_neg (by omega)])
  refine ⟨b, fun k hk => h2 k (by omega), h3.trans ⟨fun h f hf => h.1 f (by omega), fun h => ⟨fun i hi => h i (by omega), rfl⟩⟩⟩
def IsOk : Prop := (0 ≤ p0 ∧ p0 < 801) ∧ (0 ≤ p1 ∧ p1 < p0 + 1) ∧ (1 ≤ p4 ∧ p4 < 21) ∧ Rising p1 p2 ∧ Rising p1 p3 ∧ FilesOk p5 ∧ RulesOk p0 p5 p6 ∧ p7.any (counterOdd p0 p1) = false ∧ p8.any (userOdd p0 p1) = false ∧ ∀ f : Nat, (f : Int) < p0 → FlagOk p1 p6 f
theorem is_j (k : Nat) : rules_Is.j0 (k + 1) true p0 p1 p2 p3 p4 p5 p6 p7 p8 p9 = some false := by
  simp only [rules_Is.j0]
  rw [if_pos (by trivial)]
theorem is_f (h2 : p2.length ≤ 100000) (h3 : p3.length ≤ 100000) (h5 : p5.length ≤ 100000) (h6 : p6.length ≤ 100000) : ∃ b, (∀ k, 300000 ≤ k → rules_Is.f k p0 p1 p2 p3 p4 p5 p6 p7 p8 p9 = some b) ∧ (b = true ↔ IsOk p0 p1 p2 p3 p4 p5 p6 p7 p8) := by
  by_cases c0 : 0 ≤ p0 ∧ p0 < 801
  case neg =>
    refine ⟨false, fun k hk => ?_, ⟨fun h => absurd h (by decide), fun h => absurd h.1 c0⟩⟩
    obtain ⟨k, rfl⟩ : ∃ q, k = q + 1 := ⟨k - 1, by omega⟩
    unfold rules_Is.f
    rw [within_f, show inB p0 0 801 = false from Bool.eq_false_iff.mpr (fun h => c0 ((inB_iff _ _ _).mp h))]
    simp only [Option.bind_some]
    rw [if_neg (by decide), is_j]
  by_cases c1 : 0 ≤ p1 ∧ p1 < p0 + 1
  case neg =>
    refine ⟨false, fun k hk => ?_, ⟨fun h => absurd h (by decide), fun h => absurd h.2.1 c1⟩⟩
    obtain ⟨k, rfl⟩ : ∃ q, k = q + 1 := ⟨k - 1, by omega⟩
    unfold rules_Is.f
    rw [within_f, show inB p0 0 801 = true from (inB_iff _ _ _).mpr c0]
    simp only [Option.bind_some]
    rw [if_pos (by trivial), within_f, show wrap64 (p0 + 1) = p0 + 1 by unfold wrap64; omega, show inB p1 0 (p0 + 1) = false from Bool.eq_false_iff.mpr (fun h => c1 ((inB_iff _ _ _).mp h))]
    simp only [Option.bind_some]
    rw [if_neg (by decide), is_j]
  by_cases c4 : 1 ≤ p4 ∧ p4 < 21
  case neg =>
    refine ⟨false, fun k hk => ?_, ⟨fun h => absurd h (by decide), fun h => absurd h.2.2.1 c4⟩⟩
    obtain ⟨k, rfl⟩ : ∃ q, k = q + 1 := ⟨k - 1, by omega⟩
    unfold rules_Is.f
    rw [within_f, show inB p0 0 801 = true from (inB_iff _ _ _).mpr c0]
    simp only [Option.bind_some]
    rw [if_pos (by trivial), within_f, show wrap64 (p0 + 1) = p0 + 1 by unfold wrap64; omega, show inB p1 0 (p0 + 1) = true from (inB_iff _ _ _).mpr c1]
    simp only [Option.bind_some]
    rw [if_pos (by trivial), within_f, show inB p4 1 21 = false from Bool.eq_false_iff.mpr (fun h => c4 ((inB_iff _ _ _).mp h))]
    simp only [Option.bind_some, Bool.not_false]
    rw [is_j]
  obtain ⟨b2, r2, q2⟩ := last_f p0 p1 p2 p3 p4 p5 p6 p7 p8 p9 p2 (by omega)
  obtain ⟨b3, r3, q3⟩ := last_f p0 p1 p2 p3 p4 p5 p6 p7 p8 p9 p3 (by omega)
  obtain ⟨b5, r5, q5⟩ := files_f p0 p1 p2 p3 p4 p5 p6 p7 p8 p9 (by omega)
  obtain ⟨b6, r6, q6⟩ := rules_f p0 p1 p2 p3 p4 p5 p6 p7 p8 p9 (by omega)
  obtain ⟨bs, rs, qs⟩ := strata_f p0 p1 p2 p3 p4 p5 p6 p7 p8 p9 (by omega) c0.1 (by omega)
  refine ⟨b2 && b3 && b5 && b6 && !p7.any (counterOdd p0 p1) && !p8.any (userOdd p0 p1) && bs, fun k hk => ?_, ?_⟩
  · obtain ⟨k, rfl⟩ : ∃ q, k = q + 1 := ⟨k - 1, by omega⟩
    unfold rules_Is.f
    rw [within_f, show inB p0 0 801 = true from (inB_iff _ _ _).mpr c0]
    simp only [Option.bind_some]
    rw [if_pos (by trivial), within_f, show wrap64 (p0 + 1) = p0 + 1 by unfold wrap64; omega, show inB p1 0 (p0 + 1) = true from (inB_iff _ _ _).mpr c1]
    simp only [Option.bind_some]
    rw [if_pos (by trivial), within_f, show inB p4 1 21 = true from (inB_iff _ _ _).mpr c4]
    simp only [Option.bind_some, Bool.not_true]
    simp only [rules_Is.j0]
    rw [if_neg (by decide), r2 k (by omega), r3 k (by omega), r5 k (by omega), r6 k (by omega), rs k (by omega), show rules_areCounters.f p0 p1 p2 p3 p4 p5 p6 p7 p8 p9 = some (!p7.any (counterOdd p0 p1)) from rfl, show rules_areUsers.f p0 p1 p2 p3 p4 p5 p6 p7 p8 p9 = some (!p8.any (userOdd p0 p1)) from rfl]
    simp only [Option.bind_some]
    cases b2 <;> cases b3 <;> cases b5 <;> cases b6 <;> cases p7.any (counterOdd p0 p1) <;> cases p8.any (userOdd p0 p1) <;> cases bs <;> rfl
  · simp only [Bool.and_eq_true, Bool.not_eq_true', q2, q3, q5, q6, qs]
    unfold IsOk
    constructor
    · rintro ⟨⟨⟨⟨⟨⟨a, b⟩, c⟩, d⟩, e⟩, f⟩, g⟩
      exact ⟨c0, c1, c4, a, b, c, d, e, f, g⟩
    · rintro ⟨_, _, _, a, b, c, d, e, f, g⟩
      exact ⟨⟨⟨⟨⟨⟨a, b⟩, c⟩, d⟩, e⟩, f⟩, g⟩
end
end Go.Proofs.Ytknenadpkgajjaa.PA
end
section
/- Chapter 10: the known example. -/
namespace Go.Proofs.Ytknenadpkgajjaa.PA
open Go.RowKit Go.Proofs.YtknenadpkgajjaaW.PrintWords Go.Proofs.YtknenadpkgajjaaW.PrintLast
set_option linter.unusedSimpArgs false
theorem compact_one (a : Int) : Lib.compact [a] = [a] := by simp [Lib.compact, Lib.compactUpTo, Lib.keeps, List.range_succ]
theorem strata_one (r : S28) (p : S28 → Bool) : strataF [r] p = if p r = true then [r.f0] else [] := by
  unfold strataF
  by_cases h : p r = true
  · rw [if_pos h]
    rw [show [r].filter p = [r] by simp [h]]
    simp only [List.map_cons, List.map_nil, List.mergeSort_singleton]
    exact compact_one _
  · rw [if_neg h]
    rw [show [r].filter p = [] by simp [h]]
    simp [Lib.compact, Lib.compactUpTo]
def knownR : S28 := ⟨1, [⟨1, false⟩], [], [⟨1, true⟩]⟩
theorem isok_none (n la : Int) (a b : List Int) : IsOk n la a b 1 [] [] [] [] ↔ (0 ≤ n ∧ n < 801) ∧ (0 ≤ la ∧ la < n + 1) ∧ Rising la a ∧ Rising la b := by
  unfold IsOk
  constructor
  · rintro ⟨h1, h2, _, h3, h4, _⟩
    exact ⟨h1, h2, h3, h4⟩
  · rintro ⟨h1, h2, h3, h4⟩
    exact ⟨h1, h2, by omega, h3, h4, ⟨fun i h => by simp at h, by simp⟩, ⟨fun i h => by simp at h, by simp⟩, rfl, rfl, fun f _ => .inl (strata_nil _)⟩
theorem known10 (k : Nat) (hk : 300000 ≤ k) : sentrylaw10_known.f k = some true := by
  obtain ⟨b1, h1, q1⟩ := is_f 2 1 [] [] 1 [] [knownR] [] [] [] (by simp) (by simp) (by simp) (by simp)
  obtain ⟨b2, h2, q2⟩ := is_f 0 0 [] [] 1 [] [] [] [] [] (by simp) (by simp) (by simp) (by simp)
  have hr : rdL [knownR] 1 = [1] := by unfold rdL; rw [strata_one]; rfl
  have hw : wrL [knownR] 1 = [1] := by unfold wrL; rw [strata_one]; rfl
  have e1 : b1 = false := Bool.eq_false_iff.mpr fun h => by
    have h5 := (q1.mp h).2.2.2.2.2.2.2.2.2 1 (by omega)
    rcases h5 with h5 | h5 | h5
    · rw [show ((1 : Nat) : Int) = 1 from rfl, hw] at h5; simp at h5
    · omega
    · rcases h5.2 with h5 | h5
      · rw [show ((1 : Nat) : Int) = 1 from rfl, hr] at h5; simp at h5
      · rw [show ((1 : Nat) : Int) = 1 from rfl, hr, hw] at h5; simp [rd] at h5
  have e2 : b2 = true := q2.mpr ((isok_none 0 0 [] []).mpr ⟨by omega, by omega, fun i h => by simp at h, fun i h => by simp at h⟩)
  have s1 : sentryref4_SameInts.f k [1] [1] = some true := at_rounds (fun k => sentryref4_SameInts.mono [1] [1] k) (show 3 ≤ k by omega) (by decide +kernel)
  unfold sentrylaw10_known.f
  simp only [Option.bind_some]
  rw [show [(⟨1, [(⟨1, false⟩ : S39)], [], [(⟨1, true⟩ : S23)]⟩ : S28)] = [knownR] from rfl, h1 k hk, e1]
  simp only [Option.bind_some]
  rw [if_neg (by decide), h2 k hk, e2]
  simp only [Option.bind_some]
  rw [if_pos (by trivial), show rules_Reads.f 2 1 [] [] 1 [] [knownR] [] [] [] 1 = some (rdL [knownR] 1) from rfl, hr]
  simp only [Option.bind_some]
  rw [s1]
  simp only [Option.bind_some]
  rw [if_pos (by trivial), show rules_Writes.f 2 1 [] [] 1 [] [knownR] [] [] [] 1 = some (wrL [knownR] 1) from rfl, hw]
  simp only [Option.bind_some]
  rw [s1]
  rfl
end Go.Proofs.Ytknenadpkgajjaa.PA
end
section
/- RulesSame: of any program of a bounded bulk, and of the same with one thing turned, it is told both ways that they are not one, and that the turned one is one with itself (P10.2). -/
namespace Go.Proofs.Ytknenadpkgajjaa.Pure
open Go.RowKit Go.Proofs.Ytknenadpkgajjaa.PA Go.Proofs.YtknenadpkgajjaaW.PrintWords Go.Proofs.YtknenadpkgajjaaW.PrintLast Go.Proofs.Ytknenadpkgajjaa.GFunc Go.Proofs.Ytknenadpkgajjaa.OA
set_option linter.unusedSimpArgs false
set_option linter.unusedVariables false
/-- answered so, given rounds enough. -/
def Ev (F : Nat → Option Bool) : Prop := ∃ K, ∀ k, K ≤ k → F k = some true
theorem refl_int (l : List Int) (hl : l.length < 4611686018427387904) : ∀ (d i k : Nat), i + d = l.length → d < k → slices_Equal_int_int.l0 k l l (l.length : Int) i = some true := by
  intro d
  induction d with
  | zero =>
    intro i k hi hk
    obtain ⟨k, rfl⟩ : ∃ q, k = q + 1 := ⟨k - 1, by omega⟩
    simp only [slices_Equal_int_int.l0]
    rw [if_neg (by omega)]
  | succ d ih =>
    intro i k hi hk
    obtain ⟨k, rfl⟩ : ∃ q, k = q + 1 := ⟨k - 1, by omega⟩
    simp only [slices_Equal_int_int.l0]
    rw [if_pos (by omega), if_pos (by omega), if_pos (by omega), if_pos (by omega), if_pos (by trivial), wr_s (by omega), ih (i + 1) k (by omega) (by omega)]
theorem refl_int_f (l : List Int) (hl : l.length < 4611686018427387904) (k : Nat) (hk : l.length < k) : slices_Equal_int_int.f k l l = some true := by
  unfold slices_Equal_int_int.f
  rw [if_pos (by trivial)]
  exact refl_int l hl l.length 0 k (by omega) hk
theorem refl_text (l : List ByteArray) (hl : l.length < 4611686018427387904) : ∀ (d i k : Nat), i + d = l.length → d < k → slices_Equal_string_string.l0 k l l (l.length : Int) i = some true := by
  intro d
  induction d with
  | zero =>
    intro i k hi hk
    obtain ⟨k, rfl⟩ : ∃ q, k = q + 1 := ⟨k - 1, by omega⟩
    simp only [slices_Equal_string_string.l0]
    rw [if_neg (by omega)]
  | succ d ih =>
    intro i k hi hk
    obtain ⟨k, rfl⟩ : ∃ q, k = q + 1 := ⟨k - 1, by omega⟩
    simp only [slices_Equal_string_string.l0]
    rw [if_pos (by omega), if_pos (by omega), if_pos (by omega), if_pos (by omega), if_pos (by trivial), wr_s (by omega), ih (i + 1) k (by omega) (by omega)]
theorem refl_text_f (l : List ByteArray) (hl : l.length < 4611686018427387904) (k : Nat) (hk : l.length < k) : slices_Equal_string_string.f k l l = some true := by
  unfold slices_Equal_string_string.f
  rw [if_pos (by trivial)]
  exact refl_text l hl l.length 0 k (by omega) hk
theorem refl_counter (l : List S44) (hl : l.length < 4611686018427387904) : ∀ (d i k : Nat), i + d = l.length → d < k → api_Counter_42.l0 k l l (l.length : Int) i = some true := by
  intro d
  induction d with
  | zero =>
    intro i k hi hk
    obtain ⟨k, rfl⟩ : ∃ q, k = q + 1 := ⟨k - 1, by omega⟩
    simp only [api_Counter_42.l0]
    rw [if_neg (by omega)]
  | succ d ih =>
    intro i k hi hk
    obtain ⟨k, rfl⟩ : ∃ q, k = q + 1 := ⟨k - 1, by omega⟩
    simp only [api_Counter_42.l0]
    rw [if_pos (by omega), if_pos (by omega), if_pos (by omega), if_pos (by omega), if_neg (by simp), wr_s (by omega), ih (i + 1) k (by omega) (by omega)]
theorem refl_counter_f (l : List S44) (hl : l.length < 4611686018427387904) (k : Nat) (hk : l.length < k) : api_Counter_42.f k l l = some true := by
  unfold api_Counter_42.f
  rw [if_pos (by trivial)]
  exact refl_counter l hl l.length 0 k (by omega) hk
theorem refl_lit (l : List S39) (hl : l.length < 4611686018427387904) : ∀ (d i k : Nat), i + d = l.length → d < k → api_Lit_66.l0 k l l (l.length : Int) i = some true := by
  intro d
  induction d with
  | zero =>
    intro i k hi hk
    obtain ⟨k, rfl⟩ : ∃ q, k = q + 1 := ⟨k - 1, by omega⟩
    simp only [api_Lit_66.l0]
    rw [if_neg (by omega)]
  | succ d ih =>
    intro i k hi hk
    obtain ⟨k, rfl⟩ : ∃ q, k = q + 1 := ⟨k - 1, by omega⟩
    simp only [api_Lit_66.l0]
    rw [if_pos (by omega), if_pos (by omega), if_pos (by omega), if_pos (by omega), if_neg (by simp), wr_s (by omega), ih (i + 1) k (by omega) (by omega)]
theorem refl_lit_f (l : List S39) (hl : l.length < 4611686018427387904) (k : Nat) (hk : l.length < k) : api_Lit_66.f k l l = some true := by
  unfold api_Lit_66.f
  rw [if_pos (by trivial)]
  exact refl_lit l hl l.length 0 k (by omega) hk
theorem refl_cond (l : List S41) (hl : l.length < 4611686018427387904) : ∀ (d i k : Nat), i + d = l.length → d < k → api_Cond_67.l0 k l l (l.length : Int) i = some true := by
  intro d
  induction d with
  | zero =>
    intro i k hi hk
    obtain ⟨k, rfl⟩ : ∃ q, k = q + 1 := ⟨k - 1, by omega⟩
    simp only [api_Cond_67.l0]
    rw [if_neg (by omega)]
  | succ d ih =>
    intro i k hi hk
    obtain ⟨k, rfl⟩ : ∃ q, k = q + 1 := ⟨k - 1, by omega⟩
    simp only [api_Cond_67.l0]
    rw [if_pos (by omega), if_pos (by omega), if_pos (by omega), if_pos (by omega), if_neg (by simp), wr_s (by omega), ih (i + 1) k (by omega) (by omega)]
theorem refl_cond_f (l : List S41) (hl : l.length < 4611686018427387904) (k : Nat) (hk : l.length < k) : api_Cond_67.f k l l = some true := by
  unfold api_Cond_67.f
  rw [if_pos (by trivial)]
  exact refl_cond l hl l.length 0 k (by omega) hk
theorem refl_set (l : List S23) (hl : l.length < 4611686018427387904) : ∀ (d i k : Nat), i + d = l.length → d < k → api_Set_68.l0 k l l (l.length : Int) i = some true := by
  intro d
  induction d with
  | zero =>
    intro i k hi hk
    obtain ⟨k, rfl⟩ : ∃ q, k = q + 1 := ⟨k - 1, by omega⟩
    simp only [api_Set_68.l0]
    rw [if_neg (by omega)]
  | succ d ih =>
    intro i k hi hk
    obtain ⟨k, rfl⟩ : ∃ q, k = q + 1 := ⟨k - 1, by omega⟩
    simp only [api_Set_68.l0]
    rw [if_pos (by omega), if_pos (by omega), if_pos (by omega), if_pos (by omega), if_neg (by simp), wr_s (by omega), ih (i + 1) k (by omega) (by omega)]
theorem refl_set_f (l : List S23) (hl : l.length < 4611686018427387904) (k : Nat) (hk : l.length < k) : api_Set_68.f k l l = some true := by
  unfold api_Set_68.f
  rw [if_pos (by trivial)]
  exact refl_set l hl l.length 0 k (by omega) hk
theorem refl_on (l : List S120) (hl : l.length < 4611686018427387904) : ∀ (d i k : Nat), i + d = l.length → d < k → api_On.l0 k l l (l.length : Int) i = some true := by
  intro d
  induction d with
  | zero =>
    intro i k hi hk
    obtain ⟨k, rfl⟩ : ∃ q, k = q + 1 := ⟨k - 1, by omega⟩
    simp only [api_On.l0]
    rw [if_neg (by omega)]
  | succ d ih =>
    intro i k hi hk
    obtain ⟨k, rfl⟩ : ∃ q, k = q + 1 := ⟨k - 1, by omega⟩
    simp only [api_On.l0]
    rw [if_pos (by omega), if_pos (by omega), if_pos (by omega), if_pos (by omega), if_neg (by simp), wr_s (by omega), ih (i + 1) k (by omega) (by omega)]
theorem refl_on_f (l : List S120) (hl : l.length < 4611686018427387904) (k : Nat) (hk : l.length < k) : api_On.f k l l = some true := by
  unfold api_On.f
  rw [if_pos (by trivial)]
  exact refl_on l hl l.length 0 k (by omega) hk
theorem ne_int (l l2 : List Int) (h : l.length ≠ l2.length) (k : Nat) : slices_Equal_int_int.f k l l2 = some false := by
  unfold slices_Equal_int_int.f
  rw [if_neg (by omega)]
theorem ne_text (l l2 : List ByteArray) (h : l.length ≠ l2.length) (k : Nat) : slices_Equal_string_string.f k l l2 = some false := by
  unfold slices_Equal_string_string.f
  rw [if_neg (by omega)]
theorem eqF_ne {α : Type} (p : α → α → Option Bool) (l l2 : List α) (h : l.length ≠ l2.length) : eqF p l l2 = some false := by
  unfold eqF
  rw [if_neg h]
theorem eqF_ev {α : Type} (p : Nat → α → α → Option Bool) : ∀ (l : List α), (∀ x ∈ l, Ev fun k => p k x x) → Ev fun k => eqF (p k) l l
  | [], _ => ⟨0, fun k _ => rfl⟩
  | x :: l, h => by
    obtain ⟨K1, h1⟩ := h x (List.mem_cons_self)
    obtain ⟨K2, h2⟩ := eqF_ev p l fun y hy => h y (List.mem_cons_of_mem _ hy)
    refine ⟨K1 + K2, fun k hk => ?_⟩
    have h1' : p k x x = some true := h1 k (by omega)
    have h3 : eqF (p k) l l = some true := h2 k (by omega)
    unfold eqF at h3
    rw [if_pos rfl] at h3
    show eqF (p k) (x :: l) (x :: l) = some true
    unfold eqF
    rw [if_pos rfl, eqL, h1']
    simp only [Option.bind_some]
    rw [if_pos (by trivial)]
    exact h3
def RuleSm (x : S28) : Prop := x.f1.length < 4611686018427387904 ∧ x.f2.length < 4611686018427387904 ∧ x.f3.length < 4611686018427387904
def SentrySm (x : S103) : Prop := x.f0.length < 4611686018427387904 ∧ x.f1.length < 4611686018427387904
def ItemSm (x : S57) : Prop := (∀ y ∈ x.f5, SentrySm y) ∧ ∀ y ∈ x.f6, SentrySm y
theorem rule_ev (x : S28) (h : RuleSm x) : Ev fun k => ruleEq k x x := by
  refine ⟨x.f1.length + x.f2.length + x.f3.length + 1, fun k hk => ?_⟩
  show ruleEq k x x = some true
  unfold ruleEq rules_sameRule.f
  rw [if_pos (by trivial), refl_lit_f _ h.1 k (by omega)]
  simp only [Option.bind_some]
  rw [if_pos (by trivial), refl_cond_f _ h.2.1 k (by omega)]
  simp only [Option.bind_some]
  rw [if_pos (by trivial), refl_set_f _ h.2.2 k (by omega)]
  rfl
theorem user_ev (x : S46) (h : x.f2.length < 4611686018427387904) : Ev fun k => userEq k x x := by
  refine ⟨x.f2.length + 1, fun k hk => ?_⟩
  show userEq k x x = some true
  unfold userEq rules_sameUser.f
  rw [if_pos (by trivial), if_pos (by trivial), if_pos (by trivial), refl_lit_f _ h k (by omega)]
  rfl
theorem sentry_ev (x : S103) (h : SentrySm x) : Ev fun k => sentryEq k x x := by
  refine ⟨x.f0.length + x.f1.length + 1, fun k hk => ?_⟩
  show sentryEq k x x = some true
  unfold sentryEq model_sameSentry.f
  rw [refl_on_f _ h.1 k (by omega)]
  simp only [Option.bind_some]
  rw [if_pos (by trivial), refl_cond_f _ h.2 k (by omega)]
  rfl
theorem item_ev (x : S57) (h : ItemSm x) : Ev fun k => itemEq k x x := by
  obtain ⟨K1, h1⟩ := eqF_ev sentryEq x.f5 fun y hy => sentry_ev y (h.1 y hy)
  obtain ⟨K2, h2⟩ := eqF_ev sentryEq x.f6 fun y hy => sentry_ev y (h.2 y hy)
  refine ⟨K1 + K2, fun k hk => ?_⟩
  have h1' : eqF (sentryEq k) x.f5 x.f5 = some true := h1 k (by omega)
  have h2' : eqF (sentryEq k) x.f6 x.f6 = some true := h2 k (by omega)
  show itemEq k x x = some true
  unfold itemEq model_SameItem.f model_SameSentries.f
  rw [if_pos (by trivial), if_pos (by trivial), if_pos (by trivial), if_pos (by simp), if_pos (by trivial), h1']
  simp only [Option.bind_some]
  rw [if_pos (by trivial), h2']
  rfl
/-- each of the rows is one with itself. -/
structure Refl (k : Nat) (p2 p3 : List Int) (p5 : List ByteArray) (p6 : List S28) (p7 : List S44) (p8 : List S46) (p9 : List S57) : Prop where
  e2 : slices_Equal_int_int.f k p2 p2 = some true
  e3 : slices_Equal_int_int.f k p3 p3 = some true
  e5 : slices_Equal_string_string.f k p5 p5 = some true
  e7 : api_Counter_42.f k p7 p7 = some true
  r : eqF (ruleEq k) p6 p6 = some true
  u : eqF (userEq k) p8 p8 = some true
  i : eqF (itemEq k) p9 p9 = some true
structure Sm (p2 p3 : List Int) (p5 : List ByteArray) (p6 : List S28) (p7 : List S44) (p8 : List S46) (p9 : List S57) : Prop where
  l2 : p2.length < 4611686018427387904
  l3 : p3.length < 4611686018427387904
  l5 : p5.length < 4611686018427387904
  l7 : p7.length < 4611686018427387904
  r : ∀ x ∈ p6, RuleSm x
  u : ∀ x ∈ p8, x.f2.length < 4611686018427387904
  i : ∀ x ∈ p9, ItemSm x
section
variable {p2 p3 : List Int} {p5 : List ByteArray} {p6 : List S28} {p7 : List S44} {p8 : List S46} {p9 : List S57}
theorem refl_ev (h : Sm p2 p3 p5 p6 p7 p8 p9) : ∃ K, ∀ k, K ≤ k → Refl k p2 p3 p5 p6 p7 p8 p9 := by
  obtain ⟨K1, h1⟩ := eqF_ev ruleEq p6 fun y hy => rule_ev y (h.r y hy)
  obtain ⟨K2, h2⟩ := eqF_ev userEq p8 fun y hy => user_ev y (h.u y hy)
  obtain ⟨K3, h3⟩ := eqF_ev itemEq p9 fun y hy => item_ev y (h.i y hy)
  exact ⟨K1 + K2 + K3 + p2.length + p3.length + p5.length + p7.length + 1, fun k hk => ⟨refl_int_f _ h.l2 k (by omega), refl_int_f _ h.l3 k (by omega), refl_text_f _ h.l5 k (by omega), refl_counter_f _ h.l7 k (by omega), h1 k (by omega), h2 k (by omega), h3 k (by omega)⟩⟩
variable {k : Nat} {a0 a1 a4 b0 b1 b4 : Int} {q2 q3 : List Int} {q5 : List ByteArray} {q6 : List S28} {q7 : List S44} {q8 : List S46} {q9 : List S57}
theorem same_self (h : Refl k p2 p3 p5 p6 p7 p8 p9) : rules_Same.f k a0 a1 p2 p3 a4 p5 p6 p7 p8 p9 a0 a1 p2 p3 a4 p5 p6 p7 p8 p9 = some true := by
  simp [rules_Same.f, rowsEnd2, rowsEnd3, rowsEnd5, tailF, h.e2, h.e3, h.e5, h.e7, h.r, h.u, h.i]
theorem same_num (h : Refl k p2 p3 p5 p6 p7 p8 p9) (hn : ((a0 == b0) && (a1 == b1) && (a4 == b4)) = false) : rules_Same.f k a0 a1 p2 p3 a4 p5 p6 p7 p8 p9 b0 b1 p2 p3 b4 p5 p6 p7 p8 p9 = some false := by
  unfold rules_Same.f rowsEnd2 rowsEnd3 rowsEnd5
  rw [hn]
  simp [h.e2, h.e3, h.e5, h.e7]
theorem same_2 (hne : p2.length ≠ q2.length) : rules_Same.f k a0 a1 p2 p3 a4 p5 p6 p7 p8 p9 a0 a1 q2 p3 a4 p5 p6 p7 p8 p9 = some false := by
  simp [rules_Same.f, rowsEnd2, ne_int _ _ hne]
theorem same_5 (h : Refl k p2 p3 p5 p6 p7 p8 p9) (hne : p5.length ≠ q5.length) : rules_Same.f k a0 a1 p2 p3 a4 p5 p6 p7 p8 p9 a0 a1 p2 p3 a4 q5 p6 p7 p8 p9 = some false := by
  simp [rules_Same.f, rowsEnd2, rowsEnd3, rowsEnd5, h.e2, h.e3, ne_text _ _ hne]
theorem same_6 (h : Refl k p2 p3 p5 p6 p7 p8 p9) (hne : p6.length ≠ q6.length) : rules_Same.f k a0 a1 p2 p3 a4 p5 p6 p7 p8 p9 a0 a1 p2 p3 a4 p5 q6 p7 p8 p9 = some false := by
  simp [rules_Same.f, rowsEnd2, rowsEnd3, rowsEnd5, tailF, h.e2, h.e3, h.e5, h.e7, eqF_ne _ _ _ hne]
theorem same_8 (h : Refl k p2 p3 p5 p6 p7 p8 p9) (hne : p8.length ≠ q8.length) : rules_Same.f k a0 a1 p2 p3 a4 p5 p6 p7 p8 p9 a0 a1 p2 p3 a4 p5 p6 p7 q8 p9 = some false := by
  simp [rules_Same.f, rowsEnd2, rowsEnd3, rowsEnd5, tailF, h.e2, h.e3, h.e5, h.e7, h.r, eqF_ne _ _ _ hne]
theorem same_9 (h : Refl k p2 p3 p5 p6 p7 p8 p9) (hne : p9.length ≠ q9.length) : rules_Same.f k a0 a1 p2 p3 a4 p5 p6 p7 p8 p9 a0 a1 p2 p3 a4 p5 p6 p7 p8 q9 = some false := by
  simp [rules_Same.f, rowsEnd2, rowsEnd3, rowsEnd5, tailF, h.e2, h.e3, h.e5, h.e7, h.r, h.u, eqF_ne _ _ _ hne]
end
section
variable (p0 p1 : Int) (p2 p3 : List Int) (p4 : Int) (p5 : List ByteArray) (p6 : List S28) (p7 : List S44) (p8 : List S46) (p9 : List S57)
theorem big_l1 (h8 : ∀ x ∈ p8, x.f2.length < 140737488355329) : ∀ (d i : Nat) (n : Int), i + d = p8.length → p8.length < 140737488355329 → 0 ≤ n → ∃ b, (∀ k, d < k → sentrylaw10_big.l1 k n i p0 p1 p2 p3 p4 p5 p6 p7 p8 p9 = some b) ∧ (b = false → n < 2500) := by
  intro d
  induction d with
  | zero =>
    intro i n hi h0 hn
    by_cases c : n ≥ 2500
    · refine ⟨true, fun k hk => ?_, fun h => absurd h (by decide)⟩
      obtain ⟨k, rfl⟩ : ∃ q, k = q + 1 := ⟨k - 1, by omega⟩
      simp only [sentrylaw10_big.l1]
      rw [if_neg (by omega), if_pos c]
    · refine ⟨decide (p0 > 2000), fun k hk => ?_, fun h => by omega⟩
      obtain ⟨k, rfl⟩ : ∃ q, k = q + 1 := ⟨k - 1, by omega⟩
      simp only [sentrylaw10_big.l1]
      rw [if_neg (by omega), if_neg c]
  | succ d ih =>
    intro i n hi h0 hn
    by_cases c : n < 2500
    · have hx := h8 p8[i] (List.getElem_mem (by omega))
      obtain ⟨b, h1, h2⟩ := ih (i + 1) (n + (p8[i].f2.length : Int)) (by omega) h0 (by omega)
      refine ⟨b, fun k hk => ?_, fun h => by have := h2 h; omega⟩
      obtain ⟨k, rfl⟩ : ∃ q, k = q + 1 := ⟨k - 1, by omega⟩
      simp only [sentrylaw10_big.l1]
      rw [if_pos (by omega), if_pos c, if_pos (by omega), show rd_T46 p8 (i : Int) = p8[i] by simp [rd_T46, List.getD_eq_getElem?_getD, show i < p8.length by omega], wr_s (by omega), show wrap64 (n + (p8[i].f2.length : Int)) = n + (p8[i].f2.length : Int) by unfold wrap64; omega]
      exact h1 k (by omega)
    · refine ⟨true, fun k hk => ?_, fun h => absurd h (by decide)⟩
      obtain ⟨k, rfl⟩ : ∃ q, k = q + 1 := ⟨k - 1, by omega⟩
      simp only [sentrylaw10_big.l1]
      rw [if_pos (by omega), if_neg c, if_pos (by omega)]
theorem big_j1 (h8 : ∀ x ∈ p8, x.f2.length < 140737488355329) (n : Int) (h0 : p8.length < 140737488355329) (hn : 0 ≤ n) : ∃ b, (∀ k, p8.length + 1 < k → sentrylaw10_big.j1 k n p0 p1 p2 p3 p4 p5 p6 p7 p8 p9 = some b) ∧ (b = false → n < 2500) := by
  obtain ⟨b, h1, h2⟩ := big_l1 p0 p1 p2 p3 p4 p5 p6 p7 p8 p9 h8 p8.length 0 n (by omega) h0 hn
  refine ⟨b, fun k hk => ?_, h2⟩
  obtain ⟨k, rfl⟩ : ∃ q, k = q + 1 := ⟨k - 1, by omega⟩
  simp only [sentrylaw10_big.j1]
  exact h1 k (by omega)
theorem big_l0 (h8 : ∀ x ∈ p8, x.f2.length < 140737488355329) (h6 : ∀ x ∈ p6, x.f1.length < 140737488355329 ∧ x.f2.length < 140737488355329 ∧ x.f3.length < 140737488355329) (h0 : p8.length < 140737488355329) : ∀ (d i : Nat) (n : Int), i + d = p6.length → p6.length < 140737488355329 → 0 ≤ n → ∃ b, (∀ k, p8.length + 2 + d < k → sentrylaw10_big.l0 k n i p0 p1 p2 p3 p4 p5 p6 p7 p8 p9 = some b) ∧ (b = false → n < 2500) := by
  intro d
  induction d with
  | zero =>
    intro i n hi _ hn
    obtain ⟨b, h1, h2⟩ := big_j1 p0 p1 p2 p3 p4 p5 p6 p7 p8 p9 h8 n h0 hn
    refine ⟨b, fun k hk => ?_, h2⟩
    obtain ⟨k, rfl⟩ : ∃ q, k = q + 1 := ⟨k - 1, by omega⟩
    simp only [sentrylaw10_big.l0]
    rw [if_neg (by omega)]
    exact h1 k (by omega)
  | succ d ih =>
    intro i n hi hl hn
    by_cases c : n < 2500
    · have hx := h6 p6[i] (List.getElem_mem (by omega))
      obtain ⟨b, h1, h2⟩ := ih (i + 1) (n + (p6[i].f1.length : Int) + (p6[i].f2.length : Int) + (p6[i].f3.length : Int)) (by omega) hl (by omega)
      refine ⟨b, fun k hk => ?_, fun h => by have := h2 h; omega⟩
      obtain ⟨k, rfl⟩ : ∃ q, k = q + 1 := ⟨k - 1, by omega⟩
      simp only [sentrylaw10_big.l0]
      rw [if_pos (by omega), if_pos c, if_pos (by omega), rd28 p6 i (by omega), wr_s (by omega), show wrap64 (n + (p6[i].f1.length : Int)) = n + (p6[i].f1.length : Int) by unfold wrap64; omega, show wrap64 (n + (p6[i].f1.length : Int) + (p6[i].f2.length : Int)) = n + (p6[i].f1.length : Int) + (p6[i].f2.length : Int) by unfold wrap64; omega, show wrap64 (n + (p6[i].f1.length : Int) + (p6[i].f2.length : Int) + (p6[i].f3.length : Int)) = n + (p6[i].f1.length : Int) + (p6[i].f2.length : Int) + (p6[i].f3.length : Int) by unfold wrap64; omega]
      exact h1 k (by omega)
    · obtain ⟨b, h1, h2⟩ := big_j1 p0 p1 p2 p3 p4 p5 p6 p7 p8 p9 h8 n h0 hn
      refine ⟨b, fun k hk => ?_, h2⟩
      obtain ⟨k, rfl⟩ : ∃ q, k = q + 1 := ⟨k - 1, by omega⟩
      simp only [sentrylaw10_big.l0]
      rw [if_pos (by omega), if_neg c]
      exact h1 k (by omega)
end
theorem big_f (x : S36) (wf : Wf36 x) : ∃ b K, (∀ k, K ≤ k → sentrylaw10_big.f k x.f0 x.f1 x.f2 x.f3 x.f4 x.f5 x.f6 x.f7 x.f8 x.f9 = some b) ∧ (b = false → x.f2.length + x.f3.length + x.f5.length + x.f6.length + x.f7.length + x.f8.length + x.f9.length < 2500) := by
  have hrb : reachBytes = 140737488351232 := rfl
  obtain ⟨_, _, w2, w3, _, w5, w6, w7, w8, w9⟩ := wf
  have l2 := w2.1; have l3 := w3.1; have l5 := w5.1; have l6 := w6.1; have l7 := w7.1; have l8 := w8.1; have l9 := w9.1
  obtain ⟨b, h1, h2⟩ := big_l0 x.f0 x.f1 x.f2 x.f3 x.f4 x.f5 x.f6 x.f7 x.f8 x.f9 (fun y hy => by have := (w8.2 y hy).2.2.1.1; omega) (fun y hy => by have h3 := w6.2 y hy; have := h3.2.1.1; have := h3.2.2.1.1; have := h3.2.2.2.1; omega) (by omega) x.f6.length 0 ((x.f2.length : Int) + (x.f3.length : Int) + (x.f5.length : Int) + (x.f6.length : Int) + (x.f7.length : Int) + (x.f8.length : Int) + (x.f9.length : Int)) (by omega) (by omega) (by omega)
  refine ⟨b, x.f8.length + 2 + x.f6.length + 1, fun k hk => ?_, fun h => by have := h2 h; omega⟩
  unfold sentrylaw10_big.f
  rw [show wrap64 ((x.f2.length : Int) + (x.f3.length : Int)) = (x.f2.length : Int) + (x.f3.length : Int) by unfold wrap64; omega, show wrap64 ((x.f2.length : Int) + (x.f3.length : Int) + (x.f5.length : Int)) = (x.f2.length : Int) + (x.f3.length : Int) + (x.f5.length : Int) by unfold wrap64; omega, show wrap64 ((x.f2.length : Int) + (x.f3.length : Int) + (x.f5.length : Int) + (x.f6.length : Int)) = (x.f2.length : Int) + (x.f3.length : Int) + (x.f5.length : Int) + (x.f6.length : Int) by unfold wrap64; omega, show wrap64 ((x.f2.length : Int) + (x.f3.length : Int) + (x.f5.length : Int) + (x.f6.length : Int) + (x.f7.length : Int)) = (x.f2.length : Int) + (x.f3.length : Int) + (x.f5.length : Int) + (x.f6.length : Int) + (x.f7.length : Int) by unfold wrap64; omega, show wrap64 ((x.f2.length : Int) + (x.f3.length : Int) + (x.f5.length : Int) + (x.f6.length : Int) + (x.f7.length : Int) + (x.f8.length : Int)) = (x.f2.length : Int) + (x.f3.length : Int) + (x.f5.length : Int) + (x.f6.length : Int) + (x.f7.length : Int) + (x.f8.length : Int) by unfold wrap64; omega, show wrap64 ((x.f2.length : Int) + (x.f3.length : Int) + (x.f5.length : Int) + (x.f6.length : Int) + (x.f7.length : Int) + (x.f8.length : Int) + (x.f9.length : Int)) = (x.f2.length : Int) + (x.f3.length : Int) + (x.f5.length : Int) + (x.f6.length : Int) + (x.f7.length : Int) + (x.f8.length : Int) + (x.f9.length : Int) by unfold wrap64; omega]
  exact h1 k (by omega)
theorem sentry_sm (y : S103) (h : Wf103 y) : SentrySm y := by
  have hrb : reachBytes = 140737488351232 := rfl
  have h1 := h.1.1; have h2 := h.2.1
  exact ⟨by omega, by omega⟩
theorem sm_of (x : S36) (wf : Wf36 x) : Sm x.f2 x.f3 x.f5 x.f6 x.f7 x.f8 x.f9 := by
  have hrb : reachBytes = 140737488351232 := rfl
  obtain ⟨_, _, w2, w3, _, w5, w6, w7, w8, w9⟩ := wf
  have l2 := w2.1; have l3 := w3.1; have l5 := w5.1; have l7 := w7.1
  exact ⟨by omega, by omega, by omega, by omega, fun y hy => by have h3 := w6.2 y hy; have := h3.2.1.1; have := h3.2.2.1.1; have := h3.2.2.2.1; exact ⟨by omega, by omega, by omega⟩, fun y hy => by have := (w8.2 y hy).2.2.1.1; omega, fun y hy => ⟨fun z hz => sentry_sm z ((w9.2 y hy).2.2.2.2.2.1.2 z hz), fun z hz => sentry_sm z ((w9.2 y hy).2.2.2.2.2.2.2 z hz)⟩⟩
theorem RulesSame (x0 : S36) (wf0 : Wf36 x0) (a1 : Int) (_ : (Lit.int .i64 a1).wf = true) : ∃ k, sentrylaw10_RulesSame.f k x0.f0 x0.f1 x0.f2 x0.f3 x0.f4 x0.f5 x0.f6 x0.f7 x0.f8 x0.f9 a1 = some true := by
  obtain ⟨b, K, hb, hs⟩ := big_f x0 wf0
  have sm := sm_of x0 wf0
  obtain ⟨K0, h0⟩ := refl_ev sm
  cases b with
  | true =>
    refine ⟨K, ?_⟩
    unfold sentrylaw10_RulesSame.f
    rw [hb K (Nat.le_refl _)]
    rfl
  | false =>
    have hsz := hs rfl
    have sm2 : Sm (x0.f2 ++ [1]) x0.f3 x0.f5 x0.f6 x0.f7 x0.f8 x0.f9 := ⟨by simp only [List.length_append, List.length_singleton]; omega, sm.l3, sm.l5, sm.l7, sm.r, sm.u, sm.i⟩
    have sm5 : Sm x0.f2 x0.f3 (x0.f5 ++ [⟨#[120]⟩]) x0.f6 x0.f7 x0.f8 x0.f9 := ⟨sm.l2, sm.l3, by simp only [List.length_append, List.length_singleton]; omega, sm.l7, sm.r, sm.u, sm.i⟩
    have sm6 : Sm x0.f2 x0.f3 x0.f5 (x0.f6 ++ [z28]) x0.f7 x0.f8 x0.f9 := ⟨sm.l2, sm.l3, sm.l5, sm.l7, fun y hy => by
      rcases List.mem_append.mp hy with hy | hy
      · exact sm.r y hy
      · rw [List.mem_singleton.mp hy]; exact ⟨by decide, by decide, by decide⟩, sm.u, sm.i⟩
    have sm8 : Sm x0.f2 x0.f3 x0.f5 x0.f6 x0.f7 (x0.f8 ++ [z46]) x0.f9 := ⟨sm.l2, sm.l3, sm.l5, sm.l7, sm.r, fun y hy => by
      rcases List.mem_append.mp hy with hy | hy
      · exact sm.u y hy
      · rw [List.mem_singleton.mp hy]; decide, sm.i⟩
    have sm9 : Sm x0.f2 x0.f3 x0.f5 x0.f6 x0.f7 x0.f8 (x0.f9 ++ [z57]) := ⟨sm.l2, sm.l3, sm.l5, sm.l7, sm.r, sm.u, fun y hy => by
      rcases List.mem_append.mp hy with hy | hy
      · exact sm.i y hy
      · rw [List.mem_singleton.mp hy]; exact ⟨fun z hz => (by cases hz), fun z hz => (by cases hz)⟩⟩
    obtain ⟨K2, h2⟩ := refl_ev sm2
    obtain ⟨K5, h5⟩ := refl_ev sm5
    obtain ⟨K6, h6⟩ := refl_ev sm6
    obtain ⟨K8, h8⟩ := refl_ev sm8
    obtain ⟨K9, h9⟩ := refl_ev sm9
    refine ⟨K + K0 + K2 + K5 + K6 + K8 + K9 + 300000, ?_⟩
    generalize hk : K + K0 + K2 + K5 + K6 + K8 + K9 + 300000 = k
    have hn := known10 k (by omega)
    have r0 := h0 k (by omega)
    unfold sentrylaw10_RulesSame.f
    rw [hb k (by omega)]
    simp only [Option.bind_some]
    rw [if_neg (by decide)]
    by_cases c1 : a1 < 0
    · rw [if_pos c1]
    rw [if_neg c1]
    by_cases c2 : a1 > 6
    · rw [if_pos c2]
    rw [if_neg c2, if_pos (show smallP x0.f2 x0.f5 x0.f6 x0.f8 x0.f9 from ⟨by omega, by omega, by omega, by omega, by omega⟩)]
    have fin : ∀ {b0 b1 b4 : Int} {q2 q3 : List Int} {q5 : List ByteArray} {q6 : List S28} {q7 : List S44} {q8 : List S46} {q9 : List S57}, rules_Same.f k x0.f0 x0.f1 x0.f2 x0.f3 x0.f4 x0.f5 x0.f6 x0.f7 x0.f8 x0.f9 b0 b1 q2 q3 b4 q5 q6 q7 q8 q9 = some false → rules_Same.f k b0 b1 q2 q3 b4 q5 q6 q7 q8 q9 x0.f0 x0.f1 x0.f2 x0.f3 x0.f4 x0.f5 x0.f6 x0.f7 x0.f8 x0.f9 = some false → Refl k q2 q3 q5 q6 q7 q8 q9 → sameOut k x0.f0 x0.f1 x0.f2 x0.f3 x0.f4 x0.f5 x0.f6 x0.f7 x0.f8 x0.f9 b0 b1 q2 q3 b4 q5 q6 q7 q8 q9 = some true := by
      intro b0 b1 b4 q2 q3 q5 q6 q7 q8 q9 e1 e2 e3
      unfold sameOut
      rw [e1]
      simp only [Option.bind_some]
      rw [if_pos (by trivial), e2]
      simp only [Option.bind_some]
      rw [if_pos (by trivial), same_self e3]
      simp only [Option.bind_some]
      rw [if_pos (by trivial)]
      exact hn
    have w0 : (x0.f0 == wrap64 (x0.f0 + 1)) = false := beq_eq_false_iff_ne.mpr (by unfold wrap64; omega)
    have w1 : (x0.f1 == wrap64 (x0.f1 + 1)) = false := beq_eq_false_iff_ne.mpr (by unfold wrap64; omega)
    have w0' : (wrap64 (x0.f0 + 1) == x0.f0) = false := beq_eq_false_iff_ne.mpr (by unfold wrap64; omega)
    have w1' : (wrap64 (x0.f1 + 1) == x0.f1) = false := beq_eq_false_iff_ne.mpr (by unfold wrap64; omega)
    unfold sameAll
    by_cases d0 : a1 = 0
    · rw [if_pos d0]
      exact fin (same_num r0 (by rw [w0]; rfl)) (same_num r0 (by rw [w0']; rfl)) r0
    rw [if_neg d0]
    by_cases d1 : a1 = 1
    · rw [if_pos d1]
      exact fin (same_num r0 (by rw [w1]; simp)) (same_num r0 (by rw [w1']; simp)) r0
    rw [if_neg d1]
    by_cases d2 : a1 = 2
    · rw [if_pos d2]
      exact fin (same_2 (by simp)) (same_2 (by simp)) (h2 k (by omega))
    rw [if_neg d2]
    by_cases d3 : a1 = 3
    · rw [if_pos d3]
      exact fin (same_5 r0 (by simp)) (same_5 (h5 k (by omega)) (by simp)) (h5 k (by omega))
    rw [if_neg d3]
    by_cases d4 : a1 = 4
    · rw [if_pos d4]
      exact fin (same_6 r0 (by simp)) (same_6 (h6 k (by omega)) (by simp)) (h6 k (by omega))
    rw [if_neg d4]
    by_cases d5 : a1 = 5
    · rw [if_pos d5]
      exact fin (same_8 r0 (by simp)) (same_8 (h8 k (by omega)) (by simp)) (h8 k (by omega))
    rw [if_neg d5]
    exact fin (same_9 r0 (by simp)) (same_9 (h9 k (by omega)) (by simp)) (h9 k (by omega))
end Go.Proofs.Ytknenadpkgajjaa.Pure
end
