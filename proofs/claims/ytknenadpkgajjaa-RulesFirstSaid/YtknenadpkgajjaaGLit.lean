/- A block that is known by its cells reads as a row. No program's number stands here. -/
import Derived.Test.YtknenadpkgajjaaWMore
import Derived.RowKit
import Derived.WalkKit
import Derived.ProofKit
namespace Go.Proofs.Ytknenadpkgajjaa.GLit
open Go.RowKit Go.Proofs.YtknenadpkgajjaaW.PrintWords
variable {α : Type} {d : Kd α} {w : World}
inductive Els (d : Kd α) (w : World) : List α → List Value → Prop
  | nil : Els d w [] []
  | cons {x : α} {c : List Value} {xs : List α} {l : List Value} : d.K w x c → c.length = d.sz → Els d w xs l → Els d w (x :: xs) (c ++ l)
theorem Els.c1 {x : α} {a : Value} {xs : List α} {l : List Value} (h : d.K w x [a]) (hs : d.sz = 1) (r : Els d w xs l) : Els d w (x :: xs) (a :: l) := .cons h hs.symm r
theorem Els.c2 {x : α} {a b : Value} {xs : List α} {l : List Value} (h : d.K w x [a, b]) (hs : d.sz = 2) (r : Els d w xs l) : Els d w (x :: xs) (a :: b :: l) := .cons h hs.symm r
theorem Els.c3 {x : α} {a b c : Value} {xs : List α} {l : List Value} (h : d.K w x [a, b, c]) (hs : d.sz = 3) (r : Els d w xs l) : Els d w (x :: xs) (a :: b :: c :: l) := .cons h hs.symm r
theorem Els.c4 {x : α} {a b c e : Value} {xs : List α} {l : List Value} (h : d.K w x [a, b, c, e]) (hs : d.sz = 4) (r : Els d w xs l) : Els d w (x :: xs) (a :: b :: c :: e :: l) := .cons h hs.symm r
theorem Els.c5 {x : α} {a b c e f : Value} {xs : List α} {l : List Value} (h : d.K w x [a, b, c, e, f]) (hs : d.sz = 5) (r : Els d w xs l) : Els d w (x :: xs) (a :: b :: c :: e :: f :: l) := .cons h hs.symm r
theorem Els.get {xs : List α} {l : List Value} (h : Els d w xs l) : ∀ j x, xs[j]? = some x → ∃ c, c.length = d.sz ∧ d.K w x c ∧ ∀ i u, c[i]? = some u → l[j * d.sz + i]? = some u := by
  induction h with
  | nil => intro j x h; simp at h
  | @cons x0 c xs l hK hl _ ih =>
    intro j x hj
    cases j with
    | zero =>
      simp only [List.getElem?_cons_zero, Option.some.injEq] at hj
      subst hj
      refine ⟨c, hl, hK, fun i u hi => ?_⟩
      have : i < c.length := by
        by_cases hh : i < c.length
        · exact hh
        · rw [List.getElem?_eq_none (by omega)] at hi; cases hi
      rw [Nat.zero_mul, Nat.zero_add, List.getElem?_append_left this]
      exact hi
    | succ j =>
      simp only [List.getElem?_cons_succ] at hj
      obtain ⟨c', h1, h2, h3⟩ := ih j x hj
      refine ⟨c', h1, h2, fun i u hi => ?_⟩
      rw [List.getElem?_append_right (by rw [Nat.succ_mul, hl]; omega), ← h3 i u hi]
      congr 1
      rw [Nat.succ_mul, hl]
      omega
theorem C_block {g t : Nat} {cs : Array Value} {xs : List α} (hg : w.heap[g]? = some (.cells cs t (0, 0))) (h : Els d w xs cs.toList) (hn : xs.length ≤ maxLen) : d.C w (some ⟨g, 0, none⟩) xs.length xs := by
  refine ⟨rfl, hn, fun _ => ⟨⟨g, 0, none⟩, rfl, fun j x hj => ?_⟩⟩
  obtain ⟨c, h1, h2, h3⟩ := h.get j x hj
  refine ⟨c, h1, h2, fun i u hi => ?_⟩
  have h4 := h3 i u hi
  have h5 : (⟨g, 0, none⟩ : Addr).add (j * d.sz + i) = ⟨g, j * d.sz + i, none⟩ := by
    generalize j * d.sz = q
    simp [Addr.add]
    omega
  rw [h5]
  exact (blk_cell hg _).trans (by simpa using h4)
theorem alloc_at {w : World} {o : Obj} {g : Nat} (h : g = w.heap.size) : (w.alloc o).heap[g]? = some o := by rw [h]; exact (MapKept.heap_alloc w o).1
end Go.Proofs.Ytknenadpkgajjaa.GLit
