/- The evaluator's soundness, fifth part: literals, slices, indices. -/
import Derived.Test.YtknenadpkgajjaaGEvE
import Derived.IntWalk
namespace Go.Proofs.Ytknenadpkgajjaa.GEv
open Go
set_option linter.unusedSimpArgs false
set_option linter.unusedVariables false

theorem rep_length (z : List Value) : ∀ n, (rep z n).length = n * z.length
  | 0 => by simp [rep]
  | n + 1 => by simp [rep, rep_length z n, Nat.succ_mul, Nat.add_comm]
theorem rep_get (z : List Value) : ∀ (n i : Nat), (rep z n)[i]? = if i < n * z.length then z[i % z.length]? else none
  | 0, i => by simp [rep]
  | n + 1, i => by
    rw [rep, List.getElem?_append, rep_get z n, Nat.succ_mul]
    by_cases h : i < z.length
    · rw [if_pos h, if_pos (by omega), Nat.mod_eq_of_lt h]
    · rw [if_neg h, show i % z.length = (i - z.length) % z.length from Nat.mod_eq_sub_mod (by omega)]
      by_cases h2 : i - z.length < n * z.length
      · rw [if_pos h2, if_pos (by omega)]
      · rw [if_neg h2, if_neg (by omega)]
theorem range_rep (z : Array Value) (n : Nat) (hz : 0 < z.size) : ((Array.range (n * z.size)).map fun i => z[i % z.size]!).toList = rep z.toList n := by
  apply List.ext_getElem?
  intro i
  rw [rep_get]
  simp only [Array.toList_map, Array.toList_range, List.getElem?_map, Array.length_toList]
  by_cases h : i < n * z.size
  · rw [if_pos h, List.getElem?_range h]
    have hm := Nat.mod_lt i hz
    simp [hm, getElem!_def]
  · rw [if_neg h, List.getElem?_eq_none (by simp; omega)]; rfl
theorem run_mapM_places {P : Program} {w : World} : ∀ (l : List Field), l.all (fun (f : Field) => (sizeOf P f.type).isSome) = true →
    (l.mapM fun (f : Field) => (do pure (f.offset, ← Go.sizeOf f.type) : Sem (Nat × Nat))).run P w = .ok (l.map fun (f : Field) => (f.offset, (sizeOf P f.type).getD 0)) w
  | [], _ => rfl
  | f :: l, h => by
    simp only [List.all_cons, Bool.and_eq_true] at h
    obtain ⟨n, hn⟩ := Option.isSome_iff_exists.1 h.1
    simp only [List.mapM_cons, Sem.run_bind, run_size hn, Result.andThen_ok, Sem.run_pure, run_mapM_places l h.2, List.map_cons, hn, Option.getD_some]
theorem run_places {P : Program} {w : World} (fs : Array Field) (h : fs.toList.all (fun (f : Field) => (sizeOf P f.type).isSome) = true) :
    ∃ ps : Array (Nat × Nat), (fs.mapM fun (f : Field) => (do pure (f.offset, ← Go.sizeOf f.type) : Sem (Nat × Nat))).run P w = .ok ps w ∧
      (fun (i : Nat) => ps[i]?) = fun (i : Nat) => (fs[i]?).bind fun (f : Field) => (sizeOf P f.type).map fun s => (f.offset, s) := by
  refine ⟨(fs.toList.map fun (f : Field) => (f.offset, (sizeOf P f.type).getD 0)).toArray, ?_, ?_⟩
  · rw [Array.mapM_eq_mapM_toList]
    simp only [Sem.run_bind, Sem.run_map, run_mapM_places _ h, Result.andThen_ok, Sem.run_pure]
  · funext i
    simp only [List.getElem?_toArray, List.getElem?_map, Array.getElem?_toList]
    cases hi : fs[i]? with
    | none => rfl
    | some f =>
      have hm : f ∈ fs.toList := by
        have : fs.toList[i]? = some f := by simpa using hi
        exact List.mem_of_getElem? this
      have := List.all_eq_true.1 h f hm
      obtain ⟨n, hn⟩ := Option.isSome_iff_exists.1 this
      simp [hn]

section
variable {E : Env} {ρ : Ren} {tm : TM} {h : H} {a : Act} {w : World} {r : Res} {dst : Option Tmp} {ty : TypeId} {pos : String} {after : Array Edge} {guard : Option (Nat × Bool)}
theorem s_build {t : TypeId} {ps : Array (Nat × Operand)} (hev : evOp E tm h ⟨dst, .build t ps, ty, pos, after, guard⟩ = some r) (hx : ∀ x ∈ ps.toList, OKo ρ tm a x.2) (hR : Rel ρ h w) :
    Good E.P ρ h w ((execOp a.eval ⟨dst, .build t ps, ty, pos, after, guard⟩).run E.P w) r := by
  simp only [evOp, hBuild] at hev
  split at hev
  · rename_i parts z fs hp hz hs
    split at hev
    · rename_i c hc
      split at hev
      · rename_i hall
        cases hev
        obtain ⟨places, h1, h2⟩ := run_places (w := w) fs hall
        obtain ⟨r', h3, h4⟩ := fill_sound _ hc (evParts_sound hp hx) (VR.flat1 ρ (zero_eq hz).1).cells
        rw [← h2] at h3
        refine Good.same hR (v' := .agg r') ?_ ?_
        · simp only [execOp, Instr.build, Sem.run_bind, run_zero hz, Result.andThen_ok, run_und hs, h1, Array.toList_map, h3]
          rfl
        · have := h4.agg; rwa [Array.toArray_toList] at this
      · cases hev
    · cases hev
  · cases hev
theorem s_buildSlice {t : TypeId} {len : Nat} {ps : Array (Nat × Operand)} (hev : evOp E tm h ⟨dst, .buildSlice t len ps, ty, pos, after, guard⟩ = some r) (hx : ∀ x ∈ ps.toList, OKo ρ tm a x.2) (hR : Rel ρ h w) :
    Good E.P ρ h w ((execOp a.eval ⟨dst, .buildSlice t len ps, ty, pos, after, guard⟩).run E.P w) r := by
  simp only [evOp, hBuildSlice] at hev
  split at hev
  · rename_i parts e hp hs
    split at hev
    · rename_i z s hz hn
      split at hev
      · rename_i hb
        obtain ⟨hb1, hb2, hb3⟩ := hb
        split at hev
        · rename_i c hc
          cases hev
          have hzs : z.cells.size = s := by simpa using hb2
          have hrep : VRL ρ (rep z.cells.toList len) ((Array.range (len * s)).map fun i => z.cells[i % z.cells.size]!).toList := by
            have := range_rep z.cells len (by omega)
            rw [hzs] at this
            rw [hzs, this]
            exact (VR.flat1 ρ (zero_eq hz).1).cells.rep len
          obtain ⟨r', h3, h4⟩ := fill_sound _ hc (evParts_sound hp hx) hrep
          intro hF
          have := new_sound hR (hF _ (Nat.le_refl _) (Nat.lt_succ_self _)) h4 e
          have hlen : len < UNK := by
            have : len * 1 ≤ len * s := Nat.mul_le_mul_left _ hb3
            unfold UNK; omega
          refine ⟨_, _, _, ?_, new_slice ρ h.next w.heap.size r'.size len len (Nat.le_refl _) hlen, this⟩
          simp only [execOp, Instr.buildSlice, Sem.run_bind, run_und hs, Result.andThen_ok, run_size hn, newRow]
          rw [if_neg (by omega)]
          by_cases h0 : len * s = 0
          · have hl0 : len = 0 := by
              rcases Nat.mul_eq_zero.1 h0 with q | q
              · exact q
              · omega
            subst hl0
            have e0 : ∀ f : Nat → Value, (Array.range (0 * s)).map f = #[] := fun f => Array.ext' (by simp)
            have e1 : ∀ f : Nat → Value, (Array.range 0).map f = #[] := fun f => Array.ext' (by simp)
            rw [e0] at h3
            simp only [h0, if_true, Sem.run_pure, Result.andThen_ok, e0, e1, Array.toList_map, h3, run_newObj, Sem.run_bind]
          · simp only [h0, if_false, Sem.run_bind, run_zero hz, Result.andThen_ok, Sem.run_pure, Array.toList_map, h3, run_newObj]
        · cases hev
      · cases hev
    · cases hev
  · cases hev
theorem s_indexAddr {t : TypeId} {x i : Operand} (hev : evOp E tm h ⟨dst, .indexAddr t x i, ty, pos, after, guard⟩ = some r) (hx : OKo ρ tm a x) (hi : OKo ρ tm a i) (hR : Rel ρ h w) :
    Good E.P ρ h w ((execOp a.eval ⟨dst, .indexAddr t x i, ty, pos, after, guard⟩).run E.P w) r := by
  simp only [evOp, hIndexAddr] at hev
  split at hev
  · rename_i e b len cap kd k hs hb hk
    obtain ⟨b', c', eb, hS⟩ := inv_slice (evA_sound hb hx)
    have ek := inv_int (evA_sound hk hi)
    split at hev
    · rename_i s hn
      split at hev
      · rename_i hlt
        cases hev
        obtain ⟨h1, h2, h3, h4, h7⟩ := hS
        have hA : AR ρ b b' := by
          rcases h2 with h2 | h2
          · omega
          rcases h7 with ⟨c, sh, z, h5, h6, q, _⟩ | ⟨q, _⟩
          · exact ⟨h1, c, sh, z, h5, by cases b'; simp_all⟩
          · omega
        refine Good.same hR ?_ (.ptr (hA.add _))
        simp only [execOp, Instr.indexAt, Sem.run_bind, ek, eb, asIntOf, run_und hs, Result.andThen_ok, Sem.run_pure]
        simp [hlt, run_size hn]
      · cases hev
    · cases hev
  · rename_i len e b kd k hs hb hk
    obtain ⟨b', eb, hA⟩ := inv_ptr (evA_sound hb hx)
    have ek := inv_int (evA_sound hk hi)
    split at hev
    · rename_i s hn
      split at hev
      · rename_i hlt
        cases hev
        refine Good.same hR ?_ (.ptr (hA.add _))
        simp only [execOp, Instr.indexAt, Sem.run_bind, ek, eb, asIntOf, run_und hs, Result.andThen_ok, Sem.run_pure, Instr.sureAddr]
        simp [hlt, run_size hn]
      · cases hev
    · cases hev
  · cases hev
theorem wrap_nat {n : Nat} (h : n < 2 ^ 40) : IntKind.i64.wrap (n : Int) = n := IntWalk.i64_in _ (by omega)
theorem s_makeSlice {t : TypeId} {l c : Operand} (hev : evOp E tm h ⟨dst, .makeSlice t l c, ty, pos, after, guard⟩ = some r) (hl : OKo ρ tm a l) (hc : OKo ρ tm a c) (hR : Rel ρ h w) :
    Good E.P ρ h w ((execOp a.eval ⟨dst, .makeSlice t l c, ty, pos, after, guard⟩).run E.P w) r := by
  simp only [evOp, hMakeSlice] at hev
  split at hev
  · rename_i e l' c' hs hl' hc'
    have el := inv_int (evA_sound hl' hl)
    have ec := inv_int (evA_sound hc' hc)
    split at hev
    · rename_i z i hz hi
      split at hev
      · rename_i hb
        obtain ⟨h1, h2, h3, h4, h5⟩ := hb
        cases hev
        have hzs : z.cells.size = i.size := by simpa using h4
        have hsz : sizeOf E.P e = some i.size := by simp [GEv.sizeOf, hi]
        have hrep : VRL ρ (rep z.cells.toList c') ((Array.range (c' * i.size)).map fun j => z.cells[j % z.cells.size]!).toList := by
          have := range_rep z.cells c' (by omega)
          rw [hzs] at this
          rw [hzs, this]
          exact (VR.flat1 ρ (zero_eq hz).1).cells.rep c'
        intro hF
        have := new_sound hR (hF _ (Nat.le_refl _) (Nat.lt_succ_self _)) hrep e
        refine ⟨_, _, _, ?_, new_slice ρ h.next w.heap.size _ l' c' h1 (by unfold UNK; omega), this⟩
        have hw1 : IntKind.i64.wrap (Int.ofNat l') = (l' : Int) := wrap_nat (by omega)
        have hw2 : IntKind.i64.wrap (Int.ofNat c') = (c' : Int) := wrap_nat h3
        have hbytes : ((i.bytes : Int) * (c' : Int)) ≤ 2 ^ 48 := by
          have h2' : i.bytes * c' ≤ 1099511627776 := h2
          have h3' := Int.ofNat_le.2 h2'
          rw [Int.natCast_mul] at h3'
          omega
        simp only [execOp, Instr.makeSlice, Sem.run_bind, run_und hs, el, ec, asInt, asIntOf, Result.andThen_ok, Sem.run_pure, run_info hi, hw1, hw2, newRow]
        rw [if_neg (by simp only [Bool.or_eq_true, decide_eq_true_eq, not_or]; omega)]
        simp only [Sem.run_bind, run_askRoom, Result.andThen_ok, Int.toNat_natCast, run_size hsz]
        by_cases h0 : c' * i.size = 0
        · have hc0 : c' = 0 := by
            rcases Nat.mul_eq_zero.1 h0 with q | q
            · exact q
            · omega
          subst hc0
          have e0 : ∀ f : Nat → Value, (Array.range (0 * i.size)).map f = #[] := fun f => Array.ext' (by simp)
          have e1 : ∀ f : Nat → Value, (Array.range 0).map f = #[] := fun f => Array.ext' (by simp)
          rw [if_pos h0]
          simp only [Sem.run_bind, Sem.run_pure, Result.andThen_ok, e0, run_newObj]
        · simp only [h0, if_false, Sem.run_pure, Result.andThen_ok, run_zero hz, run_newObj, Sem.run_bind]
      · cases hev
    · cases hev
  · cases hev
end
end Go.Proofs.Ytknenadpkgajjaa.GEv
