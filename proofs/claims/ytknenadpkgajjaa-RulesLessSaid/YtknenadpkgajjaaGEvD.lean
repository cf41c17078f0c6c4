/- The evaluator's soundness, third part: loads and stores. -/
import Derived.Test.YtknenadpkgajjaaGEvC
import Derived.Laws.Sem
import Derived.Laws.Entries
namespace Go.Proofs.Ytknenadpkgajjaa.GEv
open Go
set_option linter.unusedSimpArgs false
set_option linter.unusedVariables false
variable {P : Program}

theorem run_und {t : TypeId} {d : TypeDesc} (h : P.underlying t = some d) (w : World) : (underlying t).run P w = .ok d w := run_underlying h w
theorem run_size {t : TypeId} {n : Nat} (h : sizeOf P t = some n) (w : World) : (Go.sizeOf t).run P w = .ok n w := by
  unfold GEv.sizeOf at h
  cases hi : P.info? t with
  | none => rw [hi] at h; cases h
  | some i => rw [hi] at h; cases h; simp [Go.sizeOf, typeInfo, hi]
theorem run_info {t : TypeId} {i : TypeInfo} (h : P.info? t = some i) (w : World) : (typeInfo t).run P w = .ok i w := by simp [typeInfo, h]
theorem run_agg {t : TypeId} {b : Bool} (h : isAgg P t = some b) (w : World) : (Go.isAgg t).run P w = .ok b w := by
  unfold GEv.isAgg at h
  cases hi : P.underlying t with
  | none => rw [hi] at h; cases h
  | some i =>
    rw [hi] at h
    simp only [Option.map_some, Option.some.injEq] at h
    subst h
    simp only [Go.isAgg, Sem.run_bind, run_und hi, Result.andThen_ok]
    cases i <;> simp
theorem zero_eq {t : TypeId} {z : Value} (h : zero P t = some z) : flat1 z = true ∧ ∃ i, P.info? t = some i ∧ i.zero = some z := by
  unfold zero at h
  cases hi : P.info? t with
  | none => rw [hi] at h; cases h
  | some i =>
    rw [hi] at h
    simp only [Option.bind_some] at h
    cases hz : i.zero with
    | none => rw [hz] at h; cases h
    | some y =>
      rw [hz] at h
      simp only at h
      split at h
      · rename_i hf; cases h; exact ⟨hf, i, rfl, hz⟩
      · cases h
theorem run_zero {t : TypeId} {z : Value} (h : zero P t = some z) (w : World) : (zeroValue t).run P w = .ok z w := by
  obtain ⟨_, i, h1, h2⟩ := zero_eq h
  simp [zeroValue, typeInfo, h1, h2]

/-! ### cells -/
theorem cell_of {w : World} {g : Nat} {c : Array Value} {e : TypeId} {f : Nat × Nat} (hg : w.heap[g]? = some (.cells c e f)) (i : Nat) : w.cell? ⟨g, i, none⟩ = c[i]? := by
  simp [World.cell?, hg]
theorem add_none (g o i : Nat) : (⟨g, o, none⟩ : Addr).add i = ⟨g, o + i, none⟩ := by
  unfold Addr.add
  split
  · rename_i h; subst h; rfl
  · rfl
theorem run_cells {w : World} {g off n : Nat} {c : Array Value} {e : TypeId} {f : Nat × Nat} (hg : w.heap[g]? = some (.cells c e f)) (hn : off + n ≤ c.size) :
    (loadCells ⟨g, off, none⟩ n).run P w = .ok ((c.toList.drop off).take n).toArray w := by
  have hl : ((c.toList.drop off).take n).length = n := by simp; omega
  have h := run_loadCells_list (P := P) (w := w) ⟨g, off, none⟩ ((c.toList.drop off).take n) (fun j v hj => by
    rw [add_none, cell_of hg]
    rw [List.getElem?_take] at hj
    split at hj
    · rw [List.getElem?_drop] at hj; simpa using hj
    · cases hj)
  rw [hl] at h
  exact h
theorem run_cells_none {w : World} (a : Addr) : (loadCells a 0).run P w = .ok #[] w := rfl

theorem over_get {l new : List Value} {off : Nat} (h : off ≤ l.length) (i : Nat) :
    (over l off new)[i]? = if i < off then l[i]? else if i < off + new.length then new[i - off]? else l[i]? := by
  unfold over
  rw [List.append_assoc, List.getElem?_append]
  have h1 : (l.take off).length = off := by simp; omega
  rw [h1]
  split
  · rename_i hi; rw [List.getElem?_take, if_pos hi]
  · rename_i hi
    rw [List.getElem?_append]
    split
    · rename_i h2; rw [if_pos (by omega)]
    · rename_i h2
      rw [if_neg (by omega), List.getElem?_drop]
      congr 1; omega
theorem over_part {l new : List Value} {s off k : Nat} (h : off + new.length ≤ k) (hk : s + k ≤ l.length) :
    ((over l (s + off) new).drop s).take k = over ((l.drop s).take k) off new := by
  apply List.ext_getElem?
  intro i
  have hlen : ((l.drop s).take k).length = k := by simp; omega
  rw [List.getElem?_take, over_get (by omega)]
  by_cases hi : i < k
  · rw [if_pos hi, List.getElem?_drop, over_get (by omega), List.getElem?_take, if_pos hi, List.getElem?_drop]
    by_cases h1 : i < off
    · rw [if_pos (by omega), if_pos h1]
    · rw [if_neg (by omega), if_neg h1]
      by_cases h2 : i < off + new.length
      · rw [if_pos (by omega), if_pos h2]; congr 1; omega
      · rw [if_neg (by omega), if_neg h2]
  · rw [if_neg hi, if_neg (by omega), if_neg (by omega), List.getElem?_take, if_neg hi]

/-- A block put in another's place. -/
def sb (w : World) (g : Nat) (o : Obj) : World := { w with heap := w.heap.setIfInBounds g o }
theorem sb_self {w : World} {g : Nat} {o : Obj} (h : w.heap[g]? = some o) : sb w g o = w := by
  unfold sb
  have : w.heap.setIfInBounds g o = w.heap := by
    apply Array.ext_getElem?
    intro i
    rw [Array.getElem?_setIfInBounds]
    split
    · rename_i hi
      subst hi
      rw [h]
      have : g < w.heap.size := by
        rcases Nat.lt_or_ge g w.heap.size with hh | hh
        · exact hh
        · rw [Array.getElem?_eq_none hh] at h; cases h
      simp [this]
    · rfl
  rw [this]
theorem sb_sb (w : World) (g : Nat) (o o' : Obj) : sb (sb w g o) g o' = sb w g o' := by
  unfold sb
  simp
theorem sb_get {w : World} {g : Nat} (o : Obj) (h : g < w.heap.size) : (sb w g o).heap[g]? = some o := by
  unfold sb; simp [h]
theorem sb_ne {w : World} {g k : Nat} (o : Obj) (h : k ≠ g) : (sb w g o).heap[k]? = w.heap[k]? := by
  unfold sb
  rw [Array.getElem?_setIfInBounds_ne (Ne.symm h)]
theorem sb_size (w : World) (g : Nat) (o : Obj) : (sb w g o).heap.size = w.heap.size := by unfold sb; simp
theorem lt_of_heap {w : World} {g : Nat} {o : Obj} (h : w.heap[g]? = some o) : g < w.heap.size := by
  rcases Nat.lt_or_ge g w.heap.size with hh | hh
  · exact hh
  · rw [Array.getElem?_eq_none hh] at h; cases h
theorem setCell_sb {w : World} {g i : Nat} {c : Array Value} {e : TypeId} {f : Nat × Nat} (hg : w.heap[g]? = some (.cells c e f)) (v : Value) :
    w.setCell ⟨g, i, none⟩ v = sb w g (.cells (c.setIfInBounds i v) e f) := by
  unfold World.setCell sb
  congr 1
  apply Array.ext_getElem?
  intro k
  rw [Array.getElem?_modify, Array.getElem?_setIfInBounds]
  have hlt := lt_of_heap hg
  by_cases hk : g = k
  · subst hk
    have hx : w.heap[g] = .cells c e f := by rw [Array.getElem?_eq_getElem hlt] at hg; exact Option.some.inj hg
    simp [hlt, hx]
  · simp [hk]
theorem run_stores {g o : Nat} {e : TypeId} {f : Nat × Nat} : ∀ (vs : List Value) (i : Nat) (cur : Array Value) (w : World),
    w.heap[g]? = some (.cells cur e f) → o + i + vs.length ≤ cur.size → (∀ j, o + i ≤ j → j < o + i + vs.length → ¬ (f.1 ≤ j ∧ j < f.2)) → vs.all one = true →
    (storeCells ⟨g, o, none⟩ vs i).run P w = .ok () (sb w g (.cells (over cur.toList (o + i) vs).toArray e f))
  | [], i, cur, w, hg, _, _, _ => by
    rw [over_nil]
    simp only [storeCells, Array.toArray_toList]
    rw [sb_self hg]; rfl
  | v :: rest, i, cur, w, hg, hl, hf, h1 => by
    simp only [List.length_cons] at hl hf
    simp only [List.all_cons, Bool.and_eq_true] at h1
    have hi : o + i < cur.size := by omega
    have hcell : w.cell? ⟨g, o + i, none⟩ = some cur[o + i] := by rw [cell_of hg]; simp [hi]
    have hfro : w.frozen? ⟨g, o + i, none⟩ = false := by
      have := hf (o + i) (Nat.le_refl _) (by omega)
      obtain ⟨lo, hi'⟩ := f
      simp only [World.frozen?, hg, Bool.and_eq_false_iff, decide_eq_false_iff_not]
      simp only at this
      omega
    have hst : (store ((⟨g, o, none⟩ : Addr).add i) v).run P w = .ok () (sb w g (.cells (cur.setIfInBounds (o + i) v) e f)) := by
      rw [add_none, ← setCell_sb hg]
      have h2 := h1.1
      cases v <;> first | (simp [one] at h2; done) | simp [store, Sem.run, hcell, hfro]
    simp only [storeCells, Sem.run_bind, hst, Result.andThen_ok]
    have hg' := sb_get (w := w) (.cells (cur.setIfInBounds (o + i) v) e f) (lt_of_heap hg)
    rw [run_stores rest (i + 1) (cur.setIfInBounds (o + i) v) _ hg' (by simp; omega) (fun j a b => hf j (by omega) (by omega)) h1.2, sb_sb]
    congr 3
    apply Array.ext'
    simp only
    apply List.ext_getElem?
    intro k
    rw [over_get (l := (cur.setIfInBounds (o + i) v).toList) (new := rest) (off := o + (i + 1)) (by simp only [Array.toList_setIfInBounds, List.length_set, Array.length_toList]; omega) k,
      over_get (l := cur.toList) (new := v :: rest) (off := o + i) (by simp only [Array.length_toList]; omega) k]
    simp only [List.length_cons, Array.toList_setIfInBounds, List.getElem?_set]
    by_cases a : k < o + i
    · rw [if_pos (show k < o + (i + 1) by omega), if_pos a, if_neg (show ¬ o + i = k by omega)]
    · by_cases b : k = o + i
      · subst b
        rw [if_pos (show o + i < o + (i + 1) by omega), if_neg (Nat.lt_irrefl (o + i)), if_pos (show o + i < o + i + (rest.length + 1) by omega)]
        simp [hi]
      · rw [if_neg (by omega), if_neg a]
        by_cases d : k < o + (i + 1) + rest.length
        · rw [if_pos d, if_pos (by omega)]
          obtain ⟨q, hq⟩ : ∃ q, k - (o + i) = q + 1 := ⟨k - (o + i) - 1, by omega⟩
          rw [hq, List.getElem?_cons_succ]
          congr 1; omega
        · rw [if_neg d, if_neg (by omega), if_neg (by omega)]

/-! ### the evaluator's loads and stores -/
theorem read_sound {ρ : Ren} {h : H} {w : World} (hR : Rel ρ h w) {b off n c s z : Nat} {l : List Value} (hr : h.read b off n = some l) (hb : ρ b = some (c, s, z)) :
    ∃ l', (∀ P : Program, (loadCells ⟨c, s + off, none⟩ n).run P w = .ok l'.toArray w) ∧ VRL ρ l l' ∧ (∀ i, i < n → w.cell? ⟨c, s + off + i, none⟩ = l'[i]?) := by
  unfold H.read at hr
  split at hr
  · rename_i cl el full fz hg
    obtain ⟨o, ho, c', e, f, rfl, hz, he, hsz, hfull, hfz, hv⟩ := hR.ok b _ c s z hg hb
    have hlen := cut_eq hr
    obtain ⟨l', hl', hvl⟩ := hv.cut hr
    refine ⟨l', fun P => ?_, hvl, ?_⟩
    · have : l' = (c'.toList.drop (s + off)).take n := by
        obtain ⟨_, rfl⟩ := cut_eq hl'
        rw [List.drop_take, List.take_take, List.drop_drop]
        congr 1
        omega
      rw [this]
      exact run_cells ho (by omega)
    · intro i hi
      rw [cell_of ho]
      obtain ⟨_, rfl⟩ := cut_eq hl'
      rw [List.getElem?_take, if_pos hi, List.getElem?_drop, List.getElem?_take, if_pos (by omega), List.getElem?_drop]
      simp [Nat.add_assoc]
  · cases hr
theorem load_sound {ρ : Ren} {h : H} {w : World} (hR : Rel ρ h w) {t : TypeId} {a a' : Addr} {v : Value} (hl : h.load P t a = some v) (ha : AR ρ a a') :
    ∃ v', (loadVar t a').run P w = .ok v' w ∧ VR ρ v v' := by
  obtain ⟨_, c, s, z, hb, rfl⟩ := ha
  unfold H.load at hl
  split at hl
  · rename_i n hag hsz
    split at hl
    · rename_i l hr
      cases hl
      obtain ⟨l', h1, h2, _⟩ := read_sound hR hr hb
      refine ⟨.agg l'.toArray, ?_, h2.agg⟩
      simp only [loadVar, Sem.run_bind, run_agg hag, Result.andThen_ok, if_true, run_size hsz, h1]
      rfl
    · cases hl
  · rename_i n hag hsz
    split at hl
    · rename_i x hr
      cases hl
      obtain ⟨l', _, h2, h3⟩ := read_sound hR hr hb
      obtain ⟨v', l'', rfl, hv, _⟩ := h2.uncons
      refine ⟨v', ?_, hv⟩
      have h4 := h3 0 (by omega)
      simp only [Nat.add_zero, List.getElem?_cons_zero] at h4
      simp only [loadVar, Sem.run_bind, run_agg hag, Result.andThen_ok, Bool.false_eq_true, if_false]
      simp [load, Sem.run, h4]
    · cases hl
  · cases hl
theorem write_sound {ρ : Ren} {h h' : H} {w : World} (hR : Rel ρ h w) {b off c s z : Nat} {new new' : List Value} (hw : h.write b off new = some h') (hb : ρ b = some (c, s, z)) (hn : VRL ρ new new') :
    ∃ w', (∀ P : Program, (storeCells ⟨c, s + off, none⟩ new').run P w = .ok () w') ∧ Rel ρ h' w' ∧ Ext ρ ρ h h' w w' := by
  unfold H.write at hw
  split at hw
  · rename_i cl el full fz hg
    split at hw
    · rename_i hc
      split at hw
      · rename_i h1
        cases hw
        obtain ⟨o, ho, c', e, f, rfl, hz, he, hsz, hfull, hfz, hv⟩ := hR.ok b _ c s z hg hb
        have hnl := hn.1
        have hcl : c'.toList.length = z := by simpa using hz
        refine ⟨sb w c (.cells (over c'.toList (s + off) new').toArray e f), fun P => ?_, ?_⟩
        · exact run_stores (P := P) new' 0 c' w ho (by omega) (fun j a b ⟨p, q⟩ => by
            have := hfz (j - s) (by omega) (by omega) (by omega)
            omega) (by rw [hn.one]; exact h1)
        · refine hR.upd _ _ (by rw [hg]; simp) hb ?_ (sb_get _ (lt_of_heap ho)) (fun k hk => sb_ne _ hk) (sb_size _ _ _) rfl rfl rfl
          refine ⟨_, e, f, rfl, ?_, he, ?_, ?_, hfz, ?_⟩
          · simp only [List.size_toArray]
            rw [over_length (by omega)]; exact hcl
          · rw [over_length (by omega)]; exact hsz
          · intro hf
            rw [over_length (by omega)]; exact hfull hf
          · simp only
            rw [over_length (by omega), over_part (by omega) (by omega)]
            exact hv.over hn off
      · cases hw
    · cases hw
  · cases hw
theorem store_sound {ρ : Ren} {h h' : H} {w : World} (hR : Rel ρ h w) {t : TypeId} {a a' : Addr} {v v' : Value} (hs : h.store P t a v = some h') (ha : AR ρ a a') (hv : VR ρ v v') :
    ∃ w', (storeVar t a' v').run P w = .ok () w' ∧ Rel ρ h' w' ∧ Ext ρ ρ h h' w w' := by
  obtain ⟨_, c, s, z, hb, rfl⟩ := ha
  unfold H.store at hs
  split at hs
  · rename_i n hsz
    split at hs
    · rename_i hn
      obtain ⟨w', h1, h2⟩ := write_sound hR hs hb hv.cells
      refine ⟨w', ?_, h2⟩
      have hl : v'.cells.size = n := by have := hv.cells.1; simp only [Array.length_toList] at this hn; omega
      simp only [storeVar, Sem.run_bind, run_size hsz, Result.andThen_ok, hl, ne_eq, not_true_eq_false, if_false]
      simp [h1]
    · cases hs
  · cases hs
end Go.Proofs.Ytknenadpkgajjaa.GEv
