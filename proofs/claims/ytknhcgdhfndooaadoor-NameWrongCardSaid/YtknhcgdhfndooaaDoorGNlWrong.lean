/- 'NameWrong', by a symbolic run: an & that begins none of these stands for nothing. -/
import Derived.Test.YtknhcgdhfndooaaDoorGNmK
import Derived.Test.YtknhcgdhfndooaaDoorGNmW
namespace Go.Proofs.YtknhcgdhfndooaaDoor.GEv
open Go
open Go.RowKit (Below)
set_option linter.unusedSimpArgs false
set_option linter.unusedVariables false
/-- The texts that stand for nothing. -/
def wrongs : List (List UInt8) := [[38], [38, 59], [38, 97, 109, 112], [38, 65, 109, 112, 59], [38, 102, 111, 111, 59], [38, 35, 59], [38, 35, 120, 59], [38, 35, 120, 103, 59], [38, 35, 45, 49, 59], [38, 35, 32, 49, 59], [38, 35, 48, 59], [38, 35, 120, 100, 56, 48, 48, 59], [38, 35, 120, 102, 102, 102, 101, 59], [38, 35, 57, 57, 57, 57, 57, 57, 57, 57, 59], [38, 32, 97, 109, 112, 59]]
theorem wrongs_none : ∀ w ∈ wrongs, unesc w = none := by decide +kernel
theorem wrongs_short : ∀ w ∈ wrongs, w.length ≤ 12 := by decide +kernel
theorem unescape_wrong {l w : List UInt8} (hw : unesc w = none) : optV (unescape (escape false l ++ w)) = .tuple #[.string ⟨⟨[]⟩⟩, .bool false] := by
  unfold unescape
  rw [unesc_escape false l w, hw]
  cases signs (escape false l ++ w) <;> rfl
theorem stringsU : EM.P.underlying 32 = some (.slice 9) := by kernel_rfl
theorem stringsT : isSlice EM.P (some 32) = true := by kernel_rfl
theorem stringsZ : iSize EM.P 32 = some 1 := by kernel_rfl
theorem strZero : zero EM.P 9 = some (.string ⟨⟨[]⟩⟩) := by kernel_rfl
theorem strSize : sizeOf EM.P 9 = some 1 := by kernel_rfl
theorem strA : isAgg EM.P 9 = some false := by kernel_rfl
theorem load_row {E : Env} {h : H} {l : List Value} {i : Nat} {v : Value} {e : TypeId} {low : Nat} (h1 : isAgg E.P e = some false) (h2 : sizeOf E.P e = some 1) (hi : l[i]? = some v) :
    H.load E.P ⟨(h.push (.cells l (some e) true 0)).m, (h.push (.cells l (some e) true 0)).next, low⟩ e ⟨h.next, i, none⟩ = some v := by
  simp only [H.load, h1, h2, H.read, H.push, U.get_set, if_pos, cut]
  have hlt := (List.getElem?_eq_some_iff.1 hi).1
  rw [if_pos (by omega)]
  have : (l.drop i).take 1 = [v] := by
    rw [List.drop_eq_getElem_cons hlt, List.take_succ_cons, List.take_zero, (List.getElem?_eq_some_iff.1 hi).2]
  rw [this]
theorem append_nilE {α : Type} (l : List α) : List.append [] l = l := rfl
theorem append_consE {α : Type} (a : α) (l m : List α) : List.append (a :: l) m = a :: List.append l m := rfl
set_option maxRecDepth 100000
attribute [local cbv_opaque] isString isSlice isBoolT fOff iSize eqNil zero H.load H.store H.push H.dip H.put List.length List.getD Nat.add Nat.sub List.take List.drop UInt8.toNat isName escape top List.append
attribute [local cbv_eval] List.length_cons List.length_nil append_nilE append_consE
section
variable {E : Env} (hE : E = EM3)
include hE
theorem nameWrong (way : Int) (s : ByteArray) (h : H) : CallP E 6 [.int .i64 way, .string s] h (fun v _ => v = .bool true) := by
  refine CallP.ofE hE rfl Tryd.func6 rfl (Nat.le_of_ble_eq_true rfl) ?_
  have hS : isString E.1 9 = true := by rw [hE]; exact stringT
  have hL : isSlice E.1 (some 32) = true := by rw [hE]; exact stringsT
  have hZ : iSize E.1 32 = some 1 := by rw [hE]; exact stringsZ
  have r1 : E.P.underlying 32 = some (.slice 9) := by rw [hE]; exact stringsU
  have r2 : zero E.P 9 = some (.string ⟨⟨[]⟩⟩) := by rw [hE]; exact strZero
  have r3 : sizeOf E.P 9 = some 1 := by rw [hE]; exact strSize
  have r4 : isAgg E.P 9 = some false := by rw [hE]; exact strA
  obtain ⟨⟨l⟩⟩ := s
  cases way with
  | negSucc k =>
    clear hE
    cbv
    refine raw_buildSlice rfl r1 r2 r3 (c := wrongs.map fun w => .string ⟨⟨w⟩⟩) (by decide) rfl ?_
    cbv
    refine And.intro (fun _ => ?_) (fun e => absurd e (by omega))
    cbv
    exact ⟨_, rfl, rfl⟩
  | ofNat k =>
  by_cases hk : 15 ≤ k
  · clear hE
    cbv
    refine raw_buildSlice rfl r1 r2 r3 (c := wrongs.map fun w => .string ⟨⟨w⟩⟩) (by decide) rfl ?_
    cbv
    refine And.intro (fun e => absurd e (Nat.not_lt_zero _)) (fun _ => ?_)
    cbv
    refine And.intro hL ?_
    refine And.intro (fun _ => ?_) (fun e => absurd hk (Nat.not_le.2 e))
    cbv
    exact ⟨_, rfl, rfl⟩
  by_cases hl : 100 < l.length
  · clear hE
    cbv
    refine raw_buildSlice rfl r1 r2 r3 (c := wrongs.map fun w => .string ⟨⟨w⟩⟩) (by decide) rfl ?_
    cbv
    refine And.intro (fun e => absurd e (Nat.not_lt_zero _)) (fun _ => ?_)
    cbv
    refine And.intro hL ?_
    refine And.intro (fun e => absurd e hk) (fun _ => ?_)
    cbv
    refine And.intro hS ?_
    refine And.intro (fun _ => ?_) (fun e => absurd hl (Nat.not_lt.2 e))
    cbv
    exact ⟨_, rfl, rfl⟩
  have s1 := fun h K hk => rSignsC hE l (by omega) h K hk
  have e1 := fun h K hk => rEscC hE l false (by omega) h K hk
  have hle := escape_len false l
  have hwk : k < wrongs.length := by show k < 15; omega
  obtain ⟨w, hw⟩ : ∃ w, wrongs[k]? = some w := ⟨_, List.getElem?_eq_getElem hwk⟩
  have hwm : w ∈ wrongs := List.mem_of_getElem? hw
  have hws := wrongs_short w hwm
  have u1 := fun h K hk => nUnescC hE (escape false l ++ w) (by simp; omega) h K hk
  rw [unescape_wrong (wrongs_none w hwm)] at u1
  have kn := fun h K hk => knownC hE h K hk
  clear hE
  have hld := fun h low => load_row (E := E) (h := h) (l := wrongs.map fun w => .string ⟨⟨w⟩⟩) (i := k) (v := .string ⟨⟨w⟩⟩) (e := 9) (low := low) r4 r3 (by rw [List.getElem?_map, hw]; rfl)
  have hadd : Nat.le (Nat.add (escape false l).length w.length) 4611686018427387904 := by show (escape false l).length + w.length ≤ _; omega
  have hk15 : k < 15 := by omega
  generalize signs l = b at s1
  cases b
  · cbv
    refine raw_buildSlice rfl r1 r2 r3 (c := wrongs.map fun w => .string ⟨⟨w⟩⟩) (by decide) rfl ?_
    cbv
    refine And.intro (fun e => absurd e (Nat.not_lt_zero _)) (fun _ => ?_)
    cbv
    refine And.intro hL ?_
    refine And.intro (fun e => absurd e hk) (fun _ => ?_)
    cbv
    refine And.intro hS ?_
    refine And.intro (fun e => absurd e hl) (fun _ => ?_)
    cbv
    refine .inl (s1 _ _ ?_)
    cbv
    exact ⟨_, rfl, rfl⟩
  cbv
  refine raw_buildSlice rfl r1 r2 r3 (c := wrongs.map fun w => .string ⟨⟨w⟩⟩) (by decide) rfl ?_
  generalize wrongs.map (fun w => Value.string ⟨⟨w⟩⟩) = row at hld ⊢
  have hld := hld h
  generalize h.push (.cells row (some 9) true 0) = g at hld ⊢
  cbv
  refine And.intro (fun e => absurd e (Nat.not_lt_zero _)) (fun _ => ?_)
  cbv
  refine And.intro hL ?_
  refine And.intro (fun e => absurd e hk) (fun _ => ?_)
  cbv
  refine And.intro hS ?_
  refine And.intro (fun e => absurd e hl) (fun _ => ?_)
  cbv
  refine .inl (s1 _ _ ?_)
  cbv
  refine .inl (e1 _ _ ⟨rfl, ?_⟩)
  cbv
  refine ⟨1, hZ, hk15, ?_⟩
  rw [Nat.mul_one, show (({ block := h.2, off := 0 } : Addr).add k) = ⟨h.2, k, none⟩ by simp [Addr.add]; exact fun e => e.symm]
  cbv
  refine ⟨_, hld _, ?_⟩
  cbv
  refine And.intro hadd ?_
  refine .inl (u1 _ _ ⟨rfl, ?_⟩)
  cbv
  refine And.intro (fun _ => ?_) (fun e => absurd rfl e)
  cbv
  refine .inl (kn _ _ ?_)
  cbv
  exact ⟨_, rfl, rfl⟩
end
theorem nameWrong_calls (a0 : Int) (w0 : (Lit.int .i64 a0).wf = true) (a1 : ByteArray) (w1 : a1.size ≤ 140737488351232) (W : World) (hL : laidMetH Tryd.prog Rows.nameWrongRow.laid W) (hS : W.ShapedOpen Tryd.prog) : Calls Tryd.prog 6 #[.int .i64 a0, .string a1] W fun e W' => e = .returned (.bool true) ∧ Below W.heap.size W W' := by
  exact calls_of emok3' (nameWrong rfl a0 a1 h0) rfl rfl (wok_of hL hS) (size_of hS)
end Go.Proofs.YtknhcgdhfndooaaDoor.GEv
