import Derived.Test.YtknenadpkgajjaaGGsb
import Derived.Shelf.Sort.Plain
import Derived.Shelf.Slices.In.SortNone
import Derived.Shelf.Slices.CompactI
import Derived.Test.YtknenadpkgajjaaGEvT
import Derived.Ground.NamesProg
import Derived.Ground.Names2Prog
import Derived.Shelf.Lay
/- The library's Sort and Compact at []int: what they do to the memory is sound. -/
namespace Go.Proofs.Ytknenadpkgajjaa.GEv
open Go
open Go.Sort (Holds putRow grow)
set_option linter.unusedSimpArgs false
set_option linter.unusedVariables false
theorem intsV_eq : ∀ {l : List Value} {zs : List Int}, intsV l = some zs → l = encIs zs
  | [], zs, h => by cases h; rfl
  | v :: r, zs, h => by
    unfold intsV at h
    split at h
    · split at h
      · rename_i n l hl
        cases h
        rw [intsV_eq hl]
        rfl
      · cases h
    · cases h
theorem vrl_ints {ρ : Ren} : ∀ {zs : List Int} {l' : List Value}, VRL ρ (encIs zs) l' → l' = encIs zs
  | [], l', h => by
    have := h.1
    exact List.eq_nil_of_length_eq_zero this.symm
  | a :: zs, l', h => by
    obtain ⟨v', l'', rfl, hv, hl⟩ := h.uncons
    rw [inv_int hv, vrl_ints hl]
    rfl
theorem ints_vrl (ρ : Ren) : ∀ zs : List Int, VRL ρ (encIs zs) (encIs zs)
  | [] => VRL.nil ρ
  | a :: zs => VRL.cons (.int .i64 a) (ints_vrl ρ zs)
/-- More blocks behind. -/
theorem Rel.grown {ρ : Ren} {h : H} {w : World} (hR : Rel ρ h w) (os : Array Obj) : Rel ρ h (grow w os) ∧ Ext ρ ρ h h w (grow w os) := by
  have hs : (grow w os).heap.size = w.heap.size + os.size := Go.Sort.size_grow w os
  have ho : ∀ k, k < w.heap.size → (grow w os).heap[k]? = w.heap[k]? := fun k hk => Go.Sort.heap_grow_old w os hk
  refine ⟨⟨hR.wf, fun b c s z e => by have := hR.dom b c s z e; omega, fun b obj c s z hg e => ?_, hR.inj, hR.glob.heap (by omega) (fun c hc => ho c (Nat.lt_of_lt_of_le hc hR.glob.size))⟩, ⟨Sub.refl ρ, fun _ _ _ _ e => .inl e, Nat.le_refl _, Nat.le_refl _, by omega, rfl, rfl, rfl, fun c hc _ => ho c hc, fun _ _ _ => rfl, fun _ _ e => e⟩⟩
  rw [ho c (hR.dom b c s z e)]
  exact hR.ok b obj c s z hg e
theorem get_bang {zs : List Int} {j : Nat} (h : j < zs.length) : zs.toArray[j]! = zs[j] := by
  rw [getElem!_pos zs.toArray j (by simpa using h)]
  simp
theorem row_holds {ρ : Ren} {h : H} {w : World} (hR : Rel ρ h w) {b c s z o n fz : Nat} {cs : List Value} {el : Option TypeId} {fu : Bool} {zs : List Int} (hg : h.m.get b = some (.cells cs el fu fz)) (hb : ρ b = some (c, s, z)) (hcut : cut cs o n = some (encIs zs)) (hfz : fz ≤ o) :
    Holds (Value.int .i64) w c (s + o) zs.toArray ∧ c < w.heap.size := by
  obtain ⟨ob, ho, c', e, f, rfl, hz, he, hsz, hfull, hfr, hv⟩ := hR.ok b _ c s z hg hb
  obtain ⟨hn, hcq⟩ := cut_eq hcut
  obtain ⟨l', hl', hvl⟩ := hv.cut hcut
  have hli := vrl_ints hvl
  subst hli
  have hzn : zs.length = n := by
    have := congrArg List.length hcq
    rw [encIs_len, List.length_take, List.length_drop] at this
    omega
  refine ⟨fun j hj => ?_, hR.dom b c s z hb⟩
  have hj : j < zs.length := by simpa using hj
  rw [get_bang hj]
  constructor
  · rw [cell_of ho]
    obtain ⟨_, e2⟩ := cut_eq hl'
    have : (encIs zs)[j]? = some (.int .i64 zs[j]) := by unfold encIs; rw [List.getElem?_map, List.getElem?_eq_getElem hj]; rfl
    rw [← this, e2, List.getElem?_take, if_pos (by omega), List.getElem?_drop, List.getElem?_take, if_pos (by omega), List.getElem?_drop]
    simp [Nat.add_assoc]
  · obtain ⟨lo, hi⟩ := f
    simp only [World.frozen?, ho, Bool.and_eq_false_iff, decide_eq_false_iff_not]
    have hcl : c'.size = z := hz
    by_cases q : lo ≤ s + o + j ∧ s + o + j < hi
    · have := hfr (o + j) (by simp only; omega) (by simp only; omega) (by omega)
      omega
    · simp only [not_and, Nat.not_lt] at q
      omega
theorem row_put {ρ : Ren} {h : H} {w : World} (hR : Rel ρ h w) {b c s z o n fz : Nat} {cs : List Value} {el : Option TypeId} {fu : Bool} {zs zs' : List Int} (hg : h.m.get b = some (.cells cs el fu fz)) (hb : ρ b = some (c, s, z)) (hcut : cut cs o n = some (encIs zs)) (hl : zs'.length = zs.length) (q : Nat) (os : Array Obj) :
    Rel ρ (h.put b (some (.cells (over cs o (encIs zs')) el fu fz))) (grow (putRow (Value.int .i64) (Go.Sort.ahead w q) c (s + o) zs'.toArray) os) ∧ Ext ρ ρ h (h.put b (some (.cells (over cs o (encIs zs')) el fu fz))) w (grow (putRow (Value.int .i64) (Go.Sort.ahead w q) c (s + o) zs'.toArray) os) := by
  obtain ⟨ob, ho, c', e, f, rfl, hz, he, hsz, hfull, hfr, hv⟩ := hR.ok b _ c s z hg hb
  obtain ⟨hn, hcq⟩ := cut_eq hcut
  have hzn : zs.length = n := by
    have := congrArg List.length hcq
    rw [encIs_len, List.length_take, List.length_drop] at this
    omega
  have hol : (over cs o (encIs zs')).length = cs.length := over_length (by rw [encIs_len]; omega)
  have hcl : c'.toList.length = z := by simpa using hz
  have hpc : (Go.Sort.putCells (Value.int .i64) (s + o) zs'.toArray c').toList = over c'.toList (s + o) (encIs zs') := by
    apply List.ext_getElem?
    intro k
    unfold Go.Sort.putCells
    rw [Array.toList_mapIdx, List.getElem?_mapIdx, over_get (by omega), encIs_len]
    by_cases h1 : k < s + o
    · rw [if_pos h1]
      cases hk : c'.toList[k]? with
      | none => rfl
      | some v => simp only [Option.map_some]; rw [if_neg (by omega)]
    · rw [if_neg h1]
      by_cases h2 : k < s + o + zs'.length
      · rw [if_pos h2]
        have hk : k < c'.toList.length := by omega
        rw [List.getElem?_eq_getElem hk]
        simp only [Option.map_some]
        rw [if_pos (by simp only [List.size_toArray]; omega), get_bang (by omega)]
        unfold encIs
        rw [List.getElem?_map, List.getElem?_eq_getElem (by omega)]
        rfl
      · rw [if_neg h2]
        cases hk : c'.toList[k]? with
        | none => rfl
        | some v => simp only [Option.map_some]; rw [if_neg (by simp only [List.size_toArray]; omega)]
  have hw1 : (putRow (Value.int .i64) (Go.Sort.ahead w q) c (s + o) zs'.toArray).heap = w.heap.modify c (Go.Sort.onCells (Go.Sort.putCells (Value.int .i64) (s + o) zs'.toArray)) := rfl
  obtain ⟨R1, X1⟩ := hR.upd (w' := putRow (Value.int .i64) (Go.Sort.ahead w q) c (s + o) zs'.toArray) (.cells (over cs o (encIs zs')) el fu fz) (.cells (Go.Sort.putCells (Value.int .i64) (s + o) zs'.toArray c') e f) (by rw [hg]; simp) hb (by
    refine ⟨_, e, f, rfl, ?_, he, by rw [hol]; exact hsz, fun q => by rw [hol]; exact hfull q, hfr, ?_⟩
    · have := congrArg List.length hpc
      rw [Array.length_toList, over_length (by rw [encIs_len]; omega)] at this
      omega
    · rw [hpc, hol, over_part (by rw [encIs_len]; omega) (by omega)]
      exact hv.over (ints_vrl ρ zs') o) (by rw [hw1, Array.getElem?_modify, if_pos rfl, ho]; rfl) (fun k hk => by rw [hw1, Array.getElem?_modify, if_neg (Ne.symm hk)]) (by rw [hw1, Array.size_modify]) rfl rfl rfl
  obtain ⟨R2, X2⟩ := R1.grown os
  exact ⟨R2, X1.trans (fun b h1 h2 => by rw [put_next] at h2; omega) R1 X2⟩
/-- A block put as it was. -/
theorem put_same {ρ : Ren} {h : H} {w : World} (hR : Rel ρ h w) {b : Nat} {o : AObj} (hg : h.m.get b = some o) : Rel ρ (h.put b (some o)) w ∧ Ext ρ ρ h (h.put b (some o)) w w := by
  have hget : ∀ k, (h.put b (some o)).m.get k = h.m.get k := fun k => by
    rw [put_get]
    split
    · rename_i e; rw [e, hg]
    · rfl
  refine ⟨⟨fun k hk => by rw [hget]; exact hR.wf k hk, hR.dom, fun k obj c s z hk e => hR.ok k obj c s z (by rw [← hget]; exact hk) e, fun k k' c c' s s' z z' hne e e' h1 h2 => hR.inj k k' c c' s s' z z' hne e e' (by rw [← hget]; exact h1) (by rw [← hget]; exact h2), hR.glob⟩, ⟨Sub.refl ρ, fun _ _ _ _ e => .inl e, Nat.le_refl _, (put_low_le _ _ _).2, Nat.le_refl _, rfl, rfl, rfl, fun _ _ _ => rfl, fun k _ _ => hget k, fun k _ e => by rw [hget]; exact e⟩⟩
theorem over_none (cs : List Value) (o : Nat) : over cs o [] = cs := by
  unfold over
  rw [List.append_nil, List.length_nil, Nat.add_zero, List.take_append_drop]
end Go.Proofs.Ytknenadpkgajjaa.GEv

/- The environment of chapters 10 and 11 is sound. -/
namespace Go.Proofs
open Go
shelf_lay Lays.n189 Nm 189 at Try as Try.laysSortG
shelf_lay Lays2.n20 Nm2 20 at Try as Try.laysCompG
end Go.Proofs
namespace Go.Proofs.Ytknenadpkgajjaa.GEv
open Go
open Go.Sort (Holds putRow grow)
set_option linter.unusedSimpArgs false
set_option linter.unusedVariables false
theorem sort_ok (ρ : Ren) (args args' : List Value) (h h' : H) (r : MOut) (v : Value) (w : World) (hp : sortP args h = some r) (hm : mOn h r = some (v, h')) (ha : VRL ρ args args') (hR : Rel ρ h w) :
    Calls Try.prog 62 args'.toArray w fun e w' => ∃ v' ρ', e = .returned v' ∧ VR ρ' v v' ∧ Rel ρ' h' w' ∧ Ext ρ ρ' h h' w w' := by
  unfold sortP at hp
  split at hp
  · rename_i hh n c
    obtain ⟨v1, l1, rfl, hv, hl⟩ := ha.uncons
    obtain rfl := hl.eq_nil
    obtain rfl := inv_snil hv
    cases n with
    | succ n => cases hp
    | zero =>
      cases hp
      simp only [mOn, H.puts, H.news] at hm
      cases hm
      refine (Any.slices_Sort_int_none Try.laysSortG none c w).mono ?_
      rintro e w' ⟨rfl, rfl⟩
      exact ⟨_, ρ, rfl, .tuple rfl (fun i v v' h => by simp at h), hR, Ext.refl ρ h w'⟩
  · rename_i hh b o n c
    obtain ⟨v1, l1, rfl, hv, hl⟩ := ha.uncons
    obtain rfl := hl.eq_nil
    obtain ⟨a', c', rfl, hs⟩ := inv_slice hv
    split at hp
    · rename_i cs el fu fz hg
      split at hp
      · rename_i l hc hcut
        split at hp
        · rename_i zs hz
          cases hp
          simp only [mOn, H.puts, H.news, hg] at hm
          cases hm
          obtain rfl := intsV_eq hz
          simp only [Bool.and_eq_true] at hc
          obtain ⟨⟨hc1, hc2⟩, hc3⟩ := hc
          have hc1 := Nat.le_of_ble_eq_true hc1
          have hc2 := Nat.le_of_ble_eq_true hc2
          obtain ⟨hn, hcq⟩ := cut_eq hcut
          have hzn : zs.length = n := by
            have := congrArg List.length hcq
            rw [encIs_len, List.length_take, List.length_drop] at this
            omega
          have hlen : (sortL zs).length = zs.length := List.length_mergeSort _
          by_cases h0 : n = 0
          · subst h0
            obtain rfl := List.eq_nil_of_length_eq_zero hzn
            have e0 : sortL [] = [] := List.eq_nil_of_length_eq_zero hlen
            refine (Any.slices_Sort_int_none Try.laysSortG (some a') c' w).mono ?_
            rintro e w' ⟨rfl, rfl⟩
            rw [e0, show encIs [] = [] from rfl, over_none]
            obtain ⟨q1, q2⟩ := put_same hR hg
            exact ⟨_, ρ, rfl, .tuple rfl (fun i v v' h => by simp at h), q1, q2⟩
          · obtain ⟨h1, h2, h3, h4, h5⟩ := hs
            obtain ⟨g, s, z, hb, e1, e2, _⟩ : ∃ c s z, ρ b = some (c, s, z) ∧ a'.block = c ∧ a'.off = s + o ∧ (UNK ≤ c → True) := by
              rcases h5 with ⟨c1, s1, z1, q1, q2, q3, _⟩ | ⟨q, _⟩
              · exact ⟨c1, s1, z1, q1, q2, q3, fun _ => trivial⟩
              · exact absurd q h0
            have hsp : a'.spot = none := by
              rcases h2 with ⟨q, _⟩ | q
              · exact absurd q h0
              · exact q
            obtain ⟨ab, ao, sp⟩ := a'
            simp only at hsp e1 e2
            subst hsp e1 e2
            obtain ⟨hH, hlt⟩ := row_holds hR hg hb hcut hc1
            subst hzn
            refine (Any.slices_Sort_int Try.laysSortG ab (s + o) c' zs w hH hlt (by omega)).mono ?_
            rintro e w' ⟨rfl, q, os, rfl⟩
            obtain ⟨q1, q2⟩ := row_put hR hg hb hcut hlen q os
            exact ⟨_, ρ, rfl, .tuple rfl (fun i v v' h => by simp at h), q1, q2⟩
        · cases hp
      · cases hp
    · cases hp
  · cases hp
theorem comp_ok (ρ : Ren) (args args' : List Value) (h h' : H) (r : MOut) (v : Value) (w : World) (hp : compP args h = some r) (hm : mOn h r = some (v, h')) (ha : VRL ρ args args') (hR : Rel ρ h w) :
    Calls Try.prog 63 args'.toArray w fun e w' => ∃ v' ρ', e = .returned v' ∧ VR ρ' v v' ∧ Rel ρ' h' w' ∧ Ext ρ ρ' h h' w w' := by
  unfold compP at hp
  split at hp
  · rename_i hh n c
    obtain ⟨v1, l1, rfl, hv, hl⟩ := ha.uncons
    obtain rfl := hl.eq_nil
    obtain rfl := inv_snil hv
    cases n with
    | succ n => cases hp
    | zero =>
      cases hp
      simp only [mOn, H.puts, H.news] at hm
      cases hm
      refine (Any.slices_Compact_int_empty Try.laysCompG none c w).mono ?_
      rintro e w' ⟨rfl, rfl⟩
      exact ⟨_, ρ, rfl, .snil _ _, hR, Ext.refl ρ h w'⟩
  · rename_i hh b o n c
    obtain ⟨v1, l1, rfl, hv, hl⟩ := ha.uncons
    obtain rfl := hl.eq_nil
    obtain ⟨a', c', rfl, hs⟩ := inv_slice hv
    split at hp
    · rename_i cs el fu fz hg
      split at hp
      · rename_i l hc hcut
        split at hp
        · rename_i zs hz
          cases hp
          simp only [mOn, H.puts, H.news, hg] at hm
          cases hm
          obtain rfl := intsV_eq hz
          simp only [Bool.and_eq_true] at hc
          obtain ⟨⟨hc1, hc2⟩, hc3⟩ := hc
          have hc1 := Nat.le_of_ble_eq_true hc1
          have hc2 := Nat.le_of_ble_eq_true hc2
          obtain ⟨hn, hcq⟩ := cut_eq hcut
          have hzn : zs.length = n := by
            have := congrArg List.length hcq
            rw [encIs_len, List.length_take, List.length_drop] at this
            omega
          have hcl : (Lib.compact zs).length ≤ zs.length := compact_le zs
          have hlen : (Lib.compact zs ++ List.replicate (zs.length - (Lib.compact zs).length) 0).length = zs.length := by
            rw [List.length_append, List.length_replicate]; omega
          obtain ⟨h1, h2, h3, h4, h5⟩ := hs
          by_cases h0 : n = 0
          · subst h0
            obtain rfl := List.eq_nil_of_length_eq_zero hzn
            refine (Any.slices_Compact_int_empty Try.laysCompG (some a') c' w).mono ?_
            rintro e w' ⟨rfl, rfl⟩
            have e0 : Lib.compact ([] : List Int) = [] := List.eq_nil_of_length_eq_zero (by simpa using hcl)
            rw [e0]
            obtain ⟨q1, q2⟩ := put_same hR hg
            refine ⟨_, ρ, rfl, .slice ⟨h1, h2, h3, h4, h5⟩, ?_, ?_⟩
            · show Rel ρ (h.put b (some (.cells (over cs o []) el fu fz))) w'
              rw [over_none]
              exact q1
            · show Ext ρ ρ h (h.put b (some (.cells (over cs o []) el fu fz))) w' w'
              rw [over_none]
              exact q2
          · obtain ⟨g, s, z, hb, e1, e2, e3⟩ : ∃ c1 s z, ρ b = some (c1, s, z) ∧ a'.block = c1 ∧ a'.off = s + o ∧ (UNK ≤ c → s + o + c' * (c - UNK) = z) := by
              rcases h5 with q | ⟨q, _⟩
              · exact q
              · exact absurd q h0
            have hsp : a'.spot = none := by
              rcases h2 with ⟨q, _⟩ | q
              · exact absurd q h0
              · exact q
            obtain ⟨ab, ao, sp⟩ := a'
            simp only at hsp e1 e2
            subst hsp e1 e2
            obtain ⟨hH, hlt⟩ := row_holds hR hg hb hcut hc1
            subst hzn
            refine (Any.slices_Compact_int Try.laysCompG ab (s + o) c' zs w hH (by omega) h3).mono ?_
            rintro e w' ⟨rfl, q, rfl⟩
            obtain ⟨q1, q2⟩ := row_put hR hg hb hcut hlen q #[]
            rw [Go.Sort.grow_empty] at q1 q2
            refine ⟨_, ρ, rfl, .slice ⟨rfl, .inr rfl, by omega, h4, .inl ⟨ab, s, z, hb, rfl, rfl, e3⟩⟩, q1, q2⟩
        · cases hp
      · cases hp
    · cases hp
  · cases hp
theorem gok_of (kok : EK.OK) : EG.OK := ⟨kok.memo, (fun f p args h r v h' hin hp hm ρ args' w ha hR _ => by
  cases hin with
  | head => exact sort_ok ρ args args' h h' r v w hp hm ha hR
  | tail _ hin =>
    cases hin with
    | head => exact comp_ok ρ args args' h h' r v w hp hm ha hR
    | tail _ hin => cases hin), kok.mixed, kok.names, kok.clone, kok.same, kok.room⟩
end Go.Proofs.Ytknenadpkgajjaa.GEv

