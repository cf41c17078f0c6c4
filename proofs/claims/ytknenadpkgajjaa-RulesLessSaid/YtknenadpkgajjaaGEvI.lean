/- The evaluator's soundness, eighth part: stores into maps, append, clear, copy, len. -/
import Derived.Test.YtknenadpkgajjaaGEvH
namespace Go.Proofs.Ytknenadpkgajjaa.GEv
open Go
set_option linter.unusedSimpArgs false
set_option linter.unusedVariables false

section
variable {E : Env} {ρ : Ren} {tm : TM} {h : H} {a : Act} {w : World} {r : Res} {dst : Option Tmp} {ty : TypeId} {pos : String} {after : Array Edge} {guard : Option (Nat × Bool)}

theorem ba_beq (a b : ByteArray) : (a == b) = true ↔ a = b := by
  cases a with | mk a => cases b with | mk b =>
  show (a == b) = true ↔ _
  simp

/-! ### maps -/
theorem findL_found {k : Value} : ∀ {es : List MapEntry} {i j : Nat} {v : Value}, findL k es i = some (some (j, v)) → i ≤ j ∧ ∃ e, es[j - i]? = some e ∧ e.key = k
  | [], i, j, v, hf => by simp [findL] at hf
  | e :: es, i, j, v, hf => by
    have next : findL k es (i + 1) = some (some (j, v)) → i ≤ j ∧ ∃ e', (e :: es)[j - i]? = some e' ∧ e'.key = k := fun q => by
      obtain ⟨h1, e', h2, h3⟩ := findL_found q
      refine ⟨by omega, e', ?_, h3⟩
      rw [show j - i = (j - (i + 1)) + 1 by omega, List.getElem?_cons_succ]
      exact h2
    simp only [findL] at hf
    split at hf
    · rename_i hx hy
      split at hf
      · rename_i q
        simp only [Option.some.injEq, Prod.mk.injEq] at hf
        obtain ⟨rfl, _⟩ := hf
        exact ⟨Nat.le_refl _, e, by simp, by rw [hy, (ba_beq _ _).1 q]⟩
      · exact next hf
    · rename_i hx hy
      split at hf
      · rename_i q0
        subst q0
        split at hf
        · rename_i q
          simp only [Option.some.injEq, Prod.mk.injEq] at hf
          obtain ⟨rfl, _⟩ := hf
          exact ⟨Nat.le_refl _, e, by simp, by rw [hy, eq_of_beq q]⟩
        · exact next hf
      · cases hf
    · cases hf
theorem sameBits_self {P : Program} {t : TypeId} {k : Value} (hk : keyFits P t k = true) : Instr.sameBits 10000 k k = true := by
  rcases keyFits_cases hk with ⟨_, s, rfl⟩ | ⟨_, _, _, _, rfl⟩ | ⟨_, cs, _, rfl, _, _, _, h⟩
  · show Instr.sameBits (9999 + 1) _ _ = true
    simp [Instr.sameBits, ba_beq]
  · show Instr.sameBits (9999 + 1) _ _ = true
    simp [Instr.sameBits]
  · exact h
theorem sameV_eq : ∀ {a b : Value}, sameV a b = true → a = b := by
  intro a b h
  unfold sameV at h
  split at h
  · simp at h; rw [h]
  · rename_i j x k y
    simp only [Bool.and_eq_true] at h
    have : j = k := by
      have q := Nat.eq_of_beq_eq_true h.1
      cases j <;> cases k <;> first | rfl | (exact absurd q (by decide))
    rw [this, eq_of_beq h.2]
  · rw [(ba_beq _ _).1 h]
  · rfl
  · rename_i x y
    simp only [Bool.and_eq_true, Option.isNone_iff_eq_none] at h
    obtain ⟨x1, x2, x3⟩ := x
    obtain ⟨y1, y2, y3⟩ := y
    have h1 := Nat.eq_of_beq_eq_true h.1.1.1
    have h2 := Nat.eq_of_beq_eq_true h.1.1.2
    have h3 := h.1.2
    have h4 := h.2
    simp only at h1 h2 h3 h4
    rw [h1, h2, h3, h4]
  · simp only [Bool.and_eq_true] at h
    rw [Nat.eq_of_beq_eq_true h.1, Nat.eq_of_beq_eq_true h.2]
  · rename_i x l c y l' c'
    simp only [Bool.and_eq_true, Option.isNone_iff_eq_none] at h
    obtain ⟨x1, x2, x3⟩ := x
    obtain ⟨y1, y2, y3⟩ := y
    have h1 := Nat.eq_of_beq_eq_true h.1.1.1.1.1
    have h2 := Nat.eq_of_beq_eq_true h.1.1.1.1.2
    have h3 := h.1.1.1.2
    have h4 := h.1.1.2
    have h5 := Nat.eq_of_beq_eq_true h.1.2
    have h6 := Nat.eq_of_beq_eq_true h.2
    simp only at h1 h2 h3 h4
    rw [h1, h2, h3, h4, h5, h6]
  · rfl
  · rw [Nat.eq_of_beq_eq_true h]
  · cases h
theorem sameVs_eq : ∀ {l m : List Value}, sameVs l m = true → l = m
  | [], [], _ => rfl
  | a :: l, b :: m, h => by
    simp only [sameVs, Bool.and_eq_true] at h
    rw [sameV_eq h.1, sameVs_eq h.2]
  | [], _ :: _, h => by cases h
  | _ :: _, [], h => by cases h
theorem findA_found {P : Program} {kt : TypeId} {cs : Array Value} : ∀ {es : List MapEntry} {i j : Nat} {v : Value}, findA P kt cs es i = some (some (j, v)) → i ≤ j ∧ ∃ e, es[j - i]? = some e ∧ e.key = .agg cs
  | [], i, j, v, hf => by simp [findA] at hf
  | e :: es, i, j, v, hf => by
    simp only [findA] at hf
    split at hf
    · rename_i ks hks
      split at hf
      · split at hf
        · rename_i q
          simp only [Option.some.injEq, Prod.mk.injEq] at hf
          obtain ⟨rfl, _⟩ := hf
          exact ⟨Nat.le_refl _, e, by simp, by rw [hks, Array.ext' (sameVs_eq q)]⟩
        · cases hf
      · obtain ⟨h1, e', h2, h3⟩ := findA_found hf
        refine ⟨by omega, e', ?_, h3⟩
        rw [show j - i = (j - (i + 1)) + 1 by omega, List.getElem?_cons_succ]
        exact h2
      · cases hf
    · cases hf
theorem findK_found {P : Program} {kt : TypeId} {k v : Value} {es : List MapEntry} {j : Nat} (h : findK P kt k es = some (some (j, v))) : ∃ e, es[j]? = some e ∧ e.key = k := by
  unfold findK at h
  split at h
  · obtain ⟨_, e, q1, q2⟩ := findA_found h
    exact ⟨e, by simpa using q1, q2⟩
  · obtain ⟨_, e, q1, q2⟩ := findL_found h
    exact ⟨e, by simpa using q1, q2⟩
theorem setVal_get (v : Value) : ∀ (es : List MapEntry) (i j : Nat), (setVal es i v)[j]? = if j = i then (es[j]?).map fun e => { e with val := v } else es[j]?
  | [], i, j => by simp [setVal]
  | e :: es, 0, j => by
    cases j with
    | zero => simp [setVal]
    | succ j => simp [setVal]
  | e :: es, i + 1, j => by
    cases j with
    | zero => simp [setVal]
    | succ j => simp [setVal, setVal_get v es i j]
theorem setVal_length (v : Value) : ∀ (es : List MapEntry) (i : Nat), (setVal es i v).length = es.length
  | [], i => rfl
  | e :: es, 0 => rfl
  | e :: es, i + 1 => by simp [setVal, setVal_length v es i]
theorem ERL.set {es : List MapEntry} {es' : Array MapEntry} (hE : ERL ρ es es'.toList) {i : Nat} {k v v' : Value} (hv : VR ρ v v') (hk : ∀ e, es[i]? = some e → e.key = k) :
    ERL ρ (setVal es i v) (es'.modify i fun e => { e with key := k, val := v' }).toList := by
  refine ⟨by rw [setVal_length]; simp [hE.1], fun j e e' h1 h2 => ?_⟩
  rw [setVal_get] at h1
  rw [Array.getElem?_toList, Array.getElem?_modify] at h2
  by_cases hj : j = i
  · subst hj
    rw [if_pos rfl] at h1 h2
    obtain ⟨e0, q1, rfl⟩ := Option.map_eq_some_iff.1 h1
    obtain ⟨e0', q2, rfl⟩ := Option.map_eq_some_iff.1 h2
    obtain ⟨p1, p2, p3, p4⟩ := hE.2 j e0 e0' q1 (by simpa using q2)
    exact ⟨p1, (hk e0 q1).symm, p3, hv⟩
  · rw [if_neg hj] at h1
    rw [if_neg (Ne.symm hj)] at h2
    exact hE.2 j e e' h1 (by simpa using h2)
theorem run_setObj {P : Program} {c : Nat} {es : Array MapEntry} {clock : Nat} (h : w.heap[c]? = some (.map es clock)) (o : Obj) : (setObj c o).run P w = .ok () (sb w c o) := by
  simp [setObj, Sem.run, h, sb]
theorem mapUpdate_sound (hR : Rel ρ h w) {t kt e : TypeId} {rr clock : Nat} {k v v' : Value} {es : List MapEntry} {m' : Value} {h' : H} (hs : E.P.underlying t = some (.map kt e)) (hfit : keyFits E.P kt k = true)
    (hg : h.m.get rr = some (.map es clock)) (hm : VR ρ (.map (some rr)) m') (hv : VR ρ v v')
    (hev : (match findK E.P kt k es with
      | some (some (i, _)) => some (Res.skip (h.put rr (some (.map (setVal es i v) clock))))
      | some none => some (.skip (h.put rr (some (.map (es ++ [{ key := k, val := v, born := clock }]) (clock + 1)))))
      | none => none) = some (.skip h')) :
    ∃ w', (Instr.mapUpdate t m' k v').run E.P w = .ok () w' ∧ Rel ρ h' w' ∧ Ext ρ ρ h h' w w' := by
  obtain ⟨c, s, z, e1, e2⟩ := inv_map hm
  obtain ⟨o, ho, es', rfl, hE⟩ := hR.ok rr _ c s z hg e2
  subst e1
  have hflat := keyFits_flat hfit
  have hl : h.m.get rr ≠ none := by rw [hg]; simp
  split at hev
  · rename_i i u hf
    simp only [Option.some.injEq, Res.skip.injEq] at hev
    subst hev
    obtain ⟨e0, q1, q2⟩ := findK_found hf
    obtain ⟨o', h1, h2⟩ := run_findKey (w := w) hfit hf hE
    cases o' with
    | none => exact h2.elim
    | some iv =>
      obtain ⟨j, v0⟩ := iv
      obtain ⟨rfl, _⟩ := h2
      have hlt : i < es'.size := by
        have := (List.getElem?_eq_some_iff.1 q1).1
        have := hE.1; simp at this; omega
      obtain ⟨_, p2, _, _⟩ := hE.2 i e0 es'[i] q1 (by simp [hlt])
      refine ⟨sb w c (.map (es'.modify i fun e => { e with key := k, val := v' }) clock), ?_, ?_⟩
      · have hst : (Instr.keyThatStays k k).run E.P w = .ok k w := by simp only [Instr.keyThatStays, sameBits_self hfit, if_true, Sem.run_pure]
        have hkk : ((es'[i]?).map (·.key)).getD k = k := by simp [hlt, p2, q2]
        simp only [Instr.mapUpdate, Sem.run_bind, run_und hs, Result.andThen_ok, run_getObj ho, checkKey_ok (w := w) hfit, h1, hkk, hst, run_setObj ho]
      · exact hR.upd _ _ hl e2 ⟨_, rfl, hE.set hv (fun e q => by rw [q1] at q; cases q; exact q2)⟩ (sb_get _ (lt_of_heap ho)) (fun k hk => sb_ne _ hk) (sb_size _ _ _) rfl rfl rfl
  · rename_i hf
    simp only [Option.some.injEq, Res.skip.injEq] at hev
    subst hev
    obtain ⟨o', h1, h2⟩ := run_findKey (w := w) hfit hf hE
    cases o' with
    | some iv => exact h2.elim
    | none =>
      refine ⟨sb w c (.map (es'.push { key := k, val := v', born := clock }) (clock + 1)), ?_, ?_⟩
      · simp only [Instr.mapUpdate, Sem.run_bind, run_und hs, Result.andThen_ok, run_getObj ho, checkKey_ok (w := w) hfit, h1, run_setObj ho]
      · refine hR.upd _ _ hl e2 ⟨_, rfl, ?_⟩ (sb_get _ (lt_of_heap ho)) (fun k hk => sb_ne _ hk) (sb_size _ _ _) rfl rfl rfl
        rw [Array.toList_push]
        exact hE.append ((ERL.nil ρ).cons ⟨hflat, rfl, rfl, hv⟩)
  · cases hev
theorem mapRes {o : Option (Option (Nat × Value))} {k v : Value} {es : List MapEntry} {clock rr : Nat} (hev : (match o with
      | some (some (i, _)) => some (Res.skip (h.put rr (some (.map (setVal es i v) clock))))
      | some none => some (.skip (h.put rr (some (.map (es ++ [{ key := k, val := v, born := clock }]) (clock + 1)))))
      | none => none) = some r) : ∃ h', r = .skip h' := by
  split at hev
  · cases hev; exact ⟨_, rfl⟩
  · cases hev; exact ⟨_, rfl⟩
  · cases hev
theorem s_mapUpdate {t : TypeId} {x k v : Operand} (hev : evOp E tm h ⟨dst, .mapUpdate t x k v, ty, pos, after, guard⟩ = some r) (hx : OKo ρ tm a x) (hk : OKo ρ tm a k) (hv : OKo ρ tm a v) (hR : Rel ρ h w) :
    Good E.P ρ h w ((execOp a.eval ⟨dst, .mapUpdate t x k v, ty, pos, after, guard⟩).run E.P w) r := by
  simp only [evOp, hMapUpd] at hev
  split at hev
  · rename_i kt e rr kv vv hs hm hkv hvv
    split at hev
    · rename_i hfit
      split at hev
      · rename_i es clock hg
        obtain ⟨h', rfl⟩ := mapRes hev
        have ek := flat1_eq (keyFits_flat hfit) (evA_sound hkv hk)
        obtain ⟨w', h1, h2⟩ := mapUpdate_sound hR hs hfit hg (evA_sound hm hx) (evA_sound hvv hv) hev
        exact fun _ => ⟨w', ρ, by simp only [execOp, Sem.run_bind, ek, h1, Result.andThen_ok, Sem.run_pure], h2⟩
      · cases hev
    · cases hev
  · cases hev
theorem s_insert {t : TypeId} {x k v : Operand} (hev : evOp E tm h ⟨dst, .insert t x k v, ty, pos, after, guard⟩ = some r) (hx : OKo ρ tm a x) (hk : OKo ρ tm a k) (hv : OKo ρ tm a v) (hR : Rel ρ h w) :
    Good E.P ρ h w ((execOp a.eval ⟨dst, .insert t x k v, ty, pos, after, guard⟩).run E.P w) r := by
  simp only [evOp, hMapUpd] at hev
  split at hev
  · rename_i kt e rr kv vv hs hm hkv hvv
    split at hev
    · rename_i hfit
      split at hev
      · rename_i es clock hg
        obtain ⟨h', rfl⟩ := mapRes hev
        have ek := flat1_eq (keyFits_flat hfit) (evA_sound hkv hk)
        obtain ⟨w', h1, h2⟩ := mapUpdate_sound hR hs hfit hg (evA_sound hm hx) (evA_sound hvv hv) hev
        exact fun _ => ⟨w', ρ, by simp only [execOp, Sem.run_bind, ek, h1, Result.andThen_ok, Sem.run_pure], h2⟩
      · cases hev
    · cases hev
  · cases hev

/-! ### what a slice bears -/
theorem SR.addr {x x' : Addr} {l c c' : Nat} (h : SR ρ x l c x' c') : (∃ cc s z, ρ x.block = some (cc, s, z) ∧ x' = ⟨cc, s + x.off, none⟩ ∧ (UNK ≤ c → s + x.off + c' * (c - UNK) = z)) ∨ (l = 0 ∧ c' = 0) := by
  obtain ⟨h1, h2, h3, h4, h7⟩ := h
  rcases h2 with q | h2
  · exact .inr q
  rcases h7 with ⟨cc, s, z, h5, h6, q1, q2⟩ | q
  · exact .inl ⟨cc, s, z, h5, by cases x'; simp_all, q2⟩
  · exact .inr q
theorem run_len {P : Program} {x x' : Value} {n : Nat} (hn : lenV x = some n) (hx : VR ρ x x') : (Builtin.lenOf x').run P w = .ok n w := by
  unfold lenV at hn
  split at hn
  · cases hn
    cases hx <;> simp [Builtin.lenOf]
  · cases hn
    cases hx; simp [Builtin.lenOf]
  · cases hn
theorem bears_sound {P : Program} {x x' : Value} {n size : Nat} {l : List Value} (hR : Rel ρ h w) (hb : h.bears size x = some l) (hn : lenV x = some n) (hl : l.length = n * size) (hx : VR ρ x x') :
    ∃ l', (Builtin.firstCells size n x').run P w = .ok l'.toArray w ∧ VRL ρ l l' := by
  unfold H.bears at hb
  split at hb
  · split at hb
    · cases hb
      have := inv_snil hx
      subst this
      exact ⟨[], by simp [Builtin.firstCells], VRL.nil ρ⟩
    · cases hb
  · rename_i b m c
    simp only [lenV, Option.some.injEq] at hn
    subst hn
    split at hb
    · rename_i q0
      subst q0
      cases hb
      obtain ⟨b', c', rfl, hS⟩ := inv_slice hx
      exact ⟨[], by simp [Builtin.firstCells, run_cells_none], VRL.nil ρ⟩
    split at hb
    · obtain ⟨b', c', rfl, hS⟩ := inv_slice hx
      rcases hS.addr with ⟨cc, s, z, h1, rfl, _⟩ | ⟨h1, h2⟩
      · obtain ⟨l', q1, q2, _⟩ := read_sound hR hb h1
        exact ⟨l', by simp [Builtin.firstCells, q1], q2⟩
      · subst h1
        rw [Nat.zero_mul] at hl hb
        have : l = [] := List.length_eq_zero_iff.1 hl
        subst this
        exact ⟨[], by simp [Builtin.firstCells, run_cells_none], VRL.nil ρ⟩
    · cases hb
  · rename_i s
    simp only [lenV, Option.some.injEq] at hn
    subst hn
    cases hb
    have := inv_string hx
    subst this
    refine ⟨s.data.toList.map fun b => .int .u8 b.toNat, ?_, ⟨rfl, fun i v v' q q' => by rw [q] at q'; cases q'; simp at q; obtain ⟨b, _, rfl⟩ := q; exact .int _ _⟩⟩
    have he : s.extract 0 s.size = s := ByteArray.extract_zero_size
    have hm : (s.data.map fun b => Value.int .u8 b.toNat) = (s.data.toList.map fun b => Value.int .u8 b.toNat).toArray := Array.ext' (by simp)
    simp only [Builtin.firstCells, he, hm]
    rfl
  · cases hb
end
end Go.Proofs.Ytknenadpkgajjaa.GEv
