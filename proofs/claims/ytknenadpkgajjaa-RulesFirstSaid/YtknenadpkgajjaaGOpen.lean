/- What came in as data reads as rows of the print's kinds: for whole numbers, bools, texts, slices, structs, and so for trees; with what the reader's own bounds give. No program's number stands here. -/
import Derived.Test.YtknenadpkgajjaaWMore
import Derived.RowKit
import Derived.WalkKit
import Derived.ProofKit
import Derived.SizedLaws
namespace Go.Proofs.Ytknenadpkgajjaa.GOpen
open Go.RowKit Go.Proofs.YtknenadpkgajjaaW.PrintWords

/-- Read with at most N steps of depth, what is told at type t is an x of the kind k, of which Wf holds. -/
structure Opens {α : Type} (P : Program) (N : Nat) (k : Kd α) (t : TypeId) (Wf : α → Prop) : Prop where
  mk :: (out : ∀ {H : Type} (enc : TypeId × Value → H) (W : World) (sp : Nat → Bool) (fuel : Nat), fuel ≤ N → ∀ (cs : List Value) (d : DataW H) (p : List MemPlace), DataW.trod enc P W 0 sp true fuel t cs = some (d, p) →
    (∀ n ∈ d.weights P t, n ≤ reachBytes) → ∃ x, k.K W x cs ∧ Wf x)

variable {P : Program} {N : Nat} {t : TypeId}

theorem Opens.zero {α : Type} (k : Kd α) (t : TypeId) (Wf : α → Prop) : Opens P 0 k t Wf := ⟨fun enc W sp fuel hf cs d p h => by
  obtain rfl : fuel = 0 := by omega
  simp [DataW.trod] at h⟩

theorem opens_int {q : IntKind} (hu : P.underlying t = some (.int q)) : Opens P N (Kd.int q) t (fun n => (Lit.int q n).wf = true) := ⟨fun enc W sp fuel _ cs d p h _ => by
  cases fuel with
  | zero => simp [DataW.trod] at h
  | succ fuel =>
    obtain ⟨a, rfl, _, hw⟩ := DataW.trod_int hu h
    exact ⟨a, rfl, hw⟩⟩
theorem opens_bool (hu : P.underlying t = some .bool) : Opens P N Kd.bool t (fun _ => True) := ⟨fun enc W sp fuel _ cs d p h _ => by
  cases fuel with
  | zero => simp [DataW.trod] at h
  | succ fuel =>
    obtain ⟨a, rfl, _⟩ := DataW.trod_bool hu h
    exact ⟨a, rfl, trivial⟩⟩
theorem opens_string (hu : P.underlying t = some .string) : Opens P N Kd.string t (fun s => s.size ≤ reachBytes) := ⟨fun enc W sp fuel _ cs d p h hw => by
  cases fuel with
  | zero => simp [DataW.trod] at h
  | succ fuel =>
    obtain ⟨s, rfl, hd, _⟩ := DataW.trod_string hu h
    injection hd with hd _
    subst hd
    refine ⟨s, rfl, ?_⟩
    have := hw s.data.toList.length (by simp [DataW.weights])
    rw [Array.length_toList] at this
    exact this⟩
theorem list_of {α : Type} (Q : Nat → α → Prop) : ∀ n, (∀ i, i < n → ∃ x, Q i x) → ∃ l : List α, l.length = n ∧ ∀ i x, l[i]? = some x → Q i x := by
  intro n
  induction n with
  | zero => exact fun _ => ⟨[], rfl, fun i x h => by simp at h⟩
  | succ n ih =>
    intro h
    obtain ⟨l, hl, hq⟩ := ih (fun i hi => h i (by omega))
    obtain ⟨x, hx⟩ := h n (by omega)
    refine ⟨l ++ [x], by simp [hl], fun i y hy => ?_⟩
    by_cases hi : i < n
    · rw [List.getElem?_append_left (by omega)] at hy
      exact hq i y hy
    · by_cases e : i = n
      · subst e
        rw [List.getElem?_append_right (by omega), hl] at hy
        simp at hy
        subst hy
        exact hx
      · rw [List.getElem?_eq_none (by simp [hl]; omega)] at hy
        cases hy
theorem cells_get {w : World} {b n : Nat} {a : Addr} {cs : List Value} (h : w.cells? b a n = some cs) : cs.length = n ∧ ∀ i u, cs[i]? = some u → w.cell? (a.add i) = some u := by
  unfold World.cells? at h
  split at h
  · have hl := mapM_some_length h
    rw [List.length_range] at hl
    refine ⟨hl, fun i u hu => ?_⟩
    have hi : i < n := by
      by_cases hi : i < n
      · exact hi
      · rw [List.getElem?_eq_none (by omega)] at hu; cases hu
    exact (mapM_some_get h i i (by simp [hi])).trans hu
  · cases h
theorem weights_mem_all {H : Type} {P : Program} {e : TypeId} {ds : List (DataW H)} : ∀ {i : Nat} {d : DataW H}, ds[i]? = some d → ∀ n ∈ d.weights P e, n ∈ DataW.weightsAll P e ds := by
  induction ds with
  | nil => intro i d h; simp at h
  | cons x r ih =>
    intro i d h n hn
    cases i with
    | zero => simp at h; subst h; simp [DataW.weightsAll, hn]
    | succ i => simp at h; simp [DataW.weightsAll, ih h n hn]
theorem opens_slice {α : Type} {k : Kd α} {e : TypeId} {Wf : α → Prop} {bts : Nat} (hu : P.underlying t = some (.slice e)) (hc : P.cellsOf e = k.sz) (hb : P.bytesOf e = bts) (h : Opens P N k e Wf) :
    Opens P (N + 1) (Kd.slice e k) t (fun l => l.length * bts ≤ reachBytes ∧ ∀ x ∈ l, Wf x) := ⟨fun enc W sp fuel hf cs d p htr hw => by
  rcases DataW.trod_slice hu htr with ⟨rfl, hd⟩ | ⟨a, len, cap, elems, rest, n, rfl, rfl, hd, _, hl, hcap, hlen, he, _⟩
  · exact ⟨[], ⟨none, 0, rfl, Nat.le_refl _, Kd.C_nil k W⟩, by simp, by simp⟩
  · injection hd with hd _
    subst hd
    have hw1 : (elems.length + rest.length) * bts ≤ reachBytes := hw _ (by simp [DataW.weights, hu, hb])
    have hel : ∀ i, i < len → ∃ x, (∃ c, c.length = k.sz ∧ k.K W x c ∧ ∀ j u, c[j]? = some u → W.cell? (a.add (i * k.sz + j)) = some u) ∧ Wf x := by
      intro i hi
      have h1 := he i hi
      rw [List.getElem?_eq_getElem (by omega)] at h1
      obtain ⟨c, hcs, htr1⟩ := Option.bind_eq_some_iff.mp h1
      rw [hc] at hcs
      obtain ⟨c1, c2⟩ := cells_get hcs
      obtain ⟨x, hx, hwf⟩ := h.out enc W sp n (by omega) c _ _ htr1 (fun q hq => hw q (by
        simp only [DataW.weights, hu, List.mem_cons, List.mem_append]
        exact .inr (.inl (weights_mem_all (i := i) (by rw [List.getElem?_map, List.getElem?_eq_getElem (by omega)]; rfl) q hq))))
      exact ⟨x, ⟨c, c1, hx, fun j u hj => by rw [← add_add]; exact c2 j u hj⟩, hwf⟩
    obtain ⟨l, hll, hq⟩ := list_of _ len hel
    refine ⟨l, ⟨some a, cap, by rw [hll], by omega, hll ▸ rfl, by have := hcap; unfold maxLen at this; omega, fun _ => ⟨a, rfl, fun j x hj => (hq j x hj).1⟩⟩, ?_, fun x hx => ?_⟩
    · refine Nat.le_trans (Nat.mul_le_mul_right _ ?_) hw1
      omega
    · obtain ⟨i, hi, rfl⟩ := List.getElem_of_mem hx
      exact (hq i _ (List.getElem?_eq_getElem hi)).2⟩
theorem Opens.mono {α : Type} {k : Kd α} {Wf : α → Prop} {M : Nat} (h : Opens P M k t Wf) (hm : N ≤ M) : Opens P N k t Wf := ⟨fun enc W sp fuel hf cs d p htr hw => h.out enc W sp fuel (by omega) cs d p htr hw⟩
/-- The fields of a struct, from one on: they are told as one value. -/
structure OpensF {α : Type} (P : Program) (N : Nat) (k : Kd α) (fs : List Field) (off : Nat) (Wf : α → Prop) : Prop where
  mk :: (out : ∀ {H : Type} (enc : TypeId × Value → H) (W : World) (sp : Nat → Bool) (fuel : Nat), fuel ≤ N → ∀ (cs : List Value) (xs : List (DataW H × List MemPlace)), cs.length = off + k.sz → xs.length = fs.length →
    (∀ (i : Nat) (f : Field), fs[i]? = some f → DataW.trod enc P W 0 sp true fuel f.type ((cs.drop f.offset).take (P.cellsOf f.type)) = xs[i]?) →
    (∀ n ∈ DataW.weightsEach P (fs.map (fun f : Field => f.type)) (xs.map (fun x => x.1)), n ≤ reachBytes) → ∃ x, k.K W x (cs.drop off) ∧ Wf x)
theorem opensF_one {α : Type} {k : Kd α} {f : Field} {off : Nat} {Wf : α → Prop} (ho : f.offset = off) (hc : P.cellsOf f.type = k.sz) (h : Opens P N k f.type Wf) : OpensF P N k [f] off Wf := ⟨fun enc W sp fuel hf cs xs hl hx hr hw => by
  have h0 := hr 0 f rfl
  obtain ⟨y, rfl⟩ : ∃ y, xs = [y] := by
    match xs, hx with
    | [y], _ => exact ⟨y, rfl⟩
  rw [ho, hc, List.take_of_length_le (by rw [List.length_drop]; omega)] at h0
  exact h.out enc W sp fuel hf _ y.1 y.2 h0 (fun n hn => hw n (by simp [DataW.weightsEach, hn]))⟩
theorem opensF_cons {α β : Type} {a : Kd α} {b : Kd β} {f : Field} {r : List Field} {off : Nat} {Wa : α → Prop} {Wb : β → Prop} (ho : f.offset = off) (hc : P.cellsOf f.type = a.sz) (h : Opens P N a f.type Wa) (hr : OpensF P N b r (off + a.sz) Wb) :
    OpensF P N (Kd.pair a b) (f :: r) off (fun x => Wa x.1 ∧ Wb x.2) := ⟨fun enc W sp fuel hf cs xs hl hx hq hw => by
  obtain ⟨y, ys, rfl⟩ : ∃ y ys, xs = y :: ys := by
    match xs, hx with
    | y :: ys, _ => exact ⟨y, ys, rfl⟩
  have hsz : (Kd.pair a b).sz = a.sz + b.sz := rfl
  rw [hsz] at hl
  have h0 := hq 0 f rfl
  rw [ho, hc] at h0
  obtain ⟨x, hx1, hx2⟩ := h.out enc W sp fuel hf _ y.1 y.2 h0 (fun n hn => hw n (by simp [DataW.weightsEach, hn]))
  obtain ⟨z, hz1, hz2⟩ := hr.out enc W sp fuel hf cs ys (by omega) (by simpa using hx) (fun i g hg => hq (i + 1) g hg) (fun n hn => hw n (by simp [DataW.weightsEach, hn]))
  refine ⟨(x, z), ⟨(cs.drop off).take a.sz, cs.drop (off + a.sz), ?_, hx1, hz1⟩, hx2, hz2⟩
  rw [← List.drop_drop, List.take_append_drop]⟩
theorem opens_struct {α β : Type} {k : Kd α} {φ : β → α} {ψ : α → β} {fs : Array Field} {Wf : α → Prop} (hu : P.underlying t = some (.struct fs)) (hc : P.cellsOf t = k.sz) (hψ : ∀ y, φ (ψ y) = y) (h : OpensF P N k fs.toList 0 Wf) :
    Opens P (N + 1) (Kd.iso k φ) t (fun x => Wf (φ x)) := ⟨fun enc W sp fuel hf cs d p htr hw => by
  obtain ⟨xs, n, rfl, hd, hl, hx, hr⟩ := DataW.trod_struct hu htr
  injection hd with hd _
  subst hd
  obtain ⟨y, hy1, hy2⟩ := h.out enc W sp n (by omega) cs xs (by omega) (by simpa using hx) (fun i f hi => hr i f (by simpa using hi)) (fun q hq => hw q (by simpa [DataW.weights, hu] using hq))
  refine ⟨ψ y, ?_, by rw [hψ]; exact hy2⟩
  show k.K W (φ (ψ y)) cs
  rw [hψ]
  simpa using hy1⟩
/-- Into another kind that reads the same cells. -/
theorem Opens.imp {α : Type} {k k' : Kd α} {Wf Wf' : α → Prop} (h : Opens P N k t Wf) (hk : ∀ W x cs, k.K W x cs → k'.K W x cs) (hw : ∀ x, Wf x → Wf' x) : Opens P N k' t Wf' := ⟨fun enc W sp fuel hf cs d p htr hwt => by
  obtain ⟨x, h1, h2⟩ := h.out enc W sp fuel hf cs d p htr hwt
  exact ⟨x, hk _ _ _ h1, hw _ h2⟩⟩
/-- at the row: an argument. -/
theorem opens_arg {α H : Type} {enc : TypeId × Value → H} {k : Kd α} {Wf : α → Prop} {W : World} {v : Value} {d : DataW H} {p : List MemPlace} {ts : List TypeId} {ds : List (DataW H)} (h : ∀ N, Opens P N k t Wf) (ht : DataW.Trod enc P W 0 (fun _ => true) true t v d p)
    (hsz : (DataW.weightsEach P ts ds).all (· ≤ reachBytes) = true) (j : Nat) (h1 : ts[j]? = some t) (h2 : ds[j]? = some d) : ∃ x, k.K W x v.cells.toList ∧ Wf x := by
  obtain ⟨fuel, hf⟩ := ht
  exact (h fuel).out enc W _ fuel (Nat.le_refl _) _ d p hf (fun n hn => by
    have := List.all_eq_true.1 hsz n (DataW.weights_mem_each h1 h2 n hn)
    simpa using this)
end Go.Proofs.Ytknenadpkgajjaa.GOpen
