/- 'NameJoin', by a symbolic run: what is written of two texts stands for both. -/
import Derived.Test.YtknhcgdhfndooaaDoorGNmK
import Derived.Test.YtknhcgdhfndooaaDoorGNmW
namespace Go.Proofs.YtknhcgdhfndooaaDoor.GEv
open Go
open Go.RowKit (Below)
set_option linter.unusedSimpArgs false
set_option linter.unusedVariables false
set_option maxRecDepth 100000
attribute [local cbv_opaque] isString isSlice isBoolT fOff iSize eqNil zero H.load H.store H.push H.dip H.put List.length List.getD Nat.add Nat.sub Nat.mul List.take List.drop UInt8.toNat isName escape List.append
attribute [local cbv_eval] List.length_cons List.length_nil
section
variable {E : Env} (hE : E = EM3)
include hE
theorem nameJoin (s t : ByteArray) (a : Bool) (hs : s.size ≤ 140737488351232) (ht : t.size ≤ 140737488351232) (h : H) : CallP E 8 [.string s, .string t, .bool a] h (fun v _ => v = .bool true) := by
  refine CallP.ofE hE rfl Tryd.func8 rfl (Nat.le_of_ble_eq_true rfl) ?_
  have hS : isString E.1 9 = true := by rw [hE]; exact stringT
  have hB : isBoolT E.1 4 = true := by rw [hE]; exact boolT
  obtain ⟨⟨l⟩⟩ := s
  obtain ⟨⟨m⟩⟩ := t
  have hs : l.length ≤ 140737488351232 := hs
  have ht : m.length ≤ 140737488351232 := ht
  have hb : Nat.le (Nat.add l.length m.length) 4611686018427387904 := by show l.length + m.length ≤ _; omega
  by_cases hl : 300 < l.length + m.length
  · clear hE
    cbv
    refine And.intro hS (And.intro hS (And.intro hb ?_))
    refine And.intro (fun _ => ?_) (fun e => absurd hl (Nat.not_lt.2 e))
    cbv
    exact ⟨_, rfl, rfl⟩
  have s1 := fun h K hk => rSignsC hE l (by omega) h K hk
  have s2 := fun h K hk => rSignsC hE m (by omega) h K hk
  have e1 := fun h K hk => nEscC hE l a (by omega) h K hk
  have e2 := fun h K hk => nEscC hE m a (by omega) h K hk
  have e3 := fun h K hk => nEscC hE (l ++ m) a (by simp; omega) h K hk
  have hle := escape_len a (l ++ m)
  have hlm : (l ++ m).length = l.length + m.length := List.length_append
  have u1 := fun h K hk => nUnescC hE (escape a (l ++ m)) (by omega) h K hk
  have kn := fun h K hk => knownC hE h K hk
  clear hE
  have heb : Nat.le (Nat.add (escape a l).length (escape a m).length) 4611686018427387904 := by
    have h1 := escape_len a l
    have h2 := escape_len a m
    show (escape a l).length + (escape a m).length ≤ _
    omega
  have hne : ¬ 300 < Nat.add l.length m.length := hl
  have hx : (escape a l).append (escape a m) = escape a (l ++ m) := (escape_append a l m).symm
  have hun : signs l = true → signs m = true → optV (unescape (escape a (l ++ m))) = .tuple #[.string ⟨⟨l ++ m⟩⟩, .bool true] := by
    intro h1 h2
    rw [unescape_escape a (l ++ m) (by rw [signs_join h1]; exact h2)]
    rfl
  generalize hb1 : signs l = b1 at s1 hun
  generalize hb2 : signs m = b2 at s2 hun
  cases b1
  · cbv
    refine And.intro hS (And.intro hS (And.intro hb ?_))
    refine And.intro (fun e => absurd e hne) (fun _ => ?_)
    cbv
    refine .inl (s1 _ _ ?_)
    cbv
    exact ⟨_, rfl, rfl⟩
  cases b2
  · cbv
    refine And.intro hS (And.intro hS (And.intro hb ?_))
    refine And.intro (fun e => absurd e hne) (fun _ => ?_)
    cbv
    refine .inl (s1 _ _ ?_)
    cbv
    refine .inl (s2 _ _ ?_)
    cbv
    exact ⟨_, rfl, rfl⟩
  rw [hun rfl rfl] at u1
  clear hun
  cbv
  refine And.intro hS (And.intro hS (And.intro hb ?_))
  refine And.intro (fun e => absurd e hne) (fun _ => ?_)
  cbv
  refine .inl (s1 _ _ ?_)
  cbv
  refine .inl (s2 _ _ ?_)
  cbv
  refine .inl (e1 _ _ ?_)
  cbv
  refine .inl (e2 _ _ ?_)
  cbv
  refine And.intro heb ?_
  rw [hx]
  refine .inl (u1 _ _ ?_)
  cbv
  refine And.intro hb ?_
  refine .inl (e3 _ _ ?_)
  cbv
  refine And.intro (fun _ => ?_) (fun e => absurd rfl e)
  cbv
  refine And.intro hb ?_
  refine And.intro (fun _ => ?_) (fun e => absurd rfl e)
  cbv
  refine .inl (kn _ _ ?_)
  cbv
  exact ⟨_, rfl, rfl⟩
end
theorem nameJoin_calls (a0 : ByteArray) (w0 : a0.size ≤ 140737488351232) (a1 : ByteArray) (w1 : a1.size ≤ 140737488351232) (a2 : Bool) (W : World) (hL : laidMetH Tryd.prog Rows.nameJoinRow.laid W) (hS : W.ShapedOpen Tryd.prog) : Calls Tryd.prog 8 #[.string a0, .string a1, .bool a2] W fun e W' => e = .returned (.bool true) ∧ Below W.heap.size W W' := by
  exact calls_of emok3' (nameJoin rfl a0 a1 a2 w0 w1 h0) rfl rfl (wok_of hL hS) (size_of hS)
end Go.Proofs.YtknhcgdhfndooaaDoor.GEv
