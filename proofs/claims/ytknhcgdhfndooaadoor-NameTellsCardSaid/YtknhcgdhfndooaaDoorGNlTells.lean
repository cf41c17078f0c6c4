/- 'NameTells', by a symbolic run: of any text both answer alike. -/
import Derived.Test.YtknhcgdhfndooaaDoorGNmK
import Derived.Test.YtknhcgdhfndooaaDoorGNmW
namespace Go.Proofs.YtknhcgdhfndooaaDoor.GEv
open Go
open Go.RowKit (Below)
set_option linter.unusedSimpArgs false
set_option linter.unusedVariables false
set_option maxRecDepth 100000
attribute [local cbv_opaque] isString isSlice isBoolT fOff iSize eqNil zero H.load H.store H.push H.dip H.put List.length List.getD Nat.add Nat.sub Nat.mul List.take List.drop UInt8.toNat isName escape
attribute [local cbv_eval] List.length_cons List.length_nil
section
variable {E : Env} (hE : E = EM3)
include hE
theorem nameTells (s : ByteArray) (a : Bool) (h : H) : CallP E 10 [.string s, .bool a] h (fun v _ => v = .bool true) := by
  refine CallP.ofE hE rfl Tryd.func10 rfl (Nat.le_of_ble_eq_true rfl) ?_
  have hS : isString E.1 9 = true := by rw [hE]; exact stringT
  have hB : isBoolT E.1 4 = true := by rw [hE]; exact boolT
  obtain ⟨⟨l⟩⟩ := s
  by_cases hl : 300 < l.length
  · clear hE
    cbv
    refine And.intro hS ?_
    refine And.intro (fun _ => ?_) (fun e => absurd e (by omega))
    cbv
    exact ⟨_, rfl, rfl⟩
  have p1 := fun h K hk => nSplitC hE l (by omega) h K hk
  have p2 := fun h K hk => rSplitC hE l (by omega) h K hk
  have u1 := fun h K hk => nUnescC hE l (by omega) h K hk
  have u2 := fun h K hk => rUnescC hE l (by omega) h K hk
  have i1 := fun h K hk => nIsC hE l (by omega) h K hk
  have i2 := fun h K hk => rIsC hE l (by omega) h K hk
  have q1 := fun h K hk => nQualC hE l (by omega) h K hk
  have q2 := fun h K hk => rQualC hE l (by omega) h K hk
  have e1 := fun h K hk => nEscC hE l a (by omega) h K hk
  have e2 := fun h K hk => rEscC hE l a (by omega) h K hk
  have kn := fun h K hk => knownC hE h K hk
  clear hE
  generalize isName l = b1 at i1 i2
  generalize isQual l = b2 at q1 q2
  generalize escape a l = x at e1 e2
  have hsp : ∃ p q, splitV l = .tuple #[.string ⟨⟨p⟩⟩, .string ⟨⟨q⟩⟩] := by
    unfold splitV
    cases cutB 58 l with
    | none => exact ⟨_, _, rfl⟩
    | some pq => exact ⟨_, _, rfl⟩
  obtain ⟨p, q, hsp⟩ := hsp
  rw [hsp] at p1 p2
  have hun : ∃ y c, optV (unescape l) = .tuple #[.string ⟨⟨y⟩⟩, .bool c] := by
    cases unescape l with
    | none => exact ⟨_, _, rfl⟩
    | some pq => exact ⟨_, _, rfl⟩
  obtain ⟨y, c, hun⟩ := hun
  rw [hun] at u1 u2
  cases b1 <;> cases b2 <;> cases c
  all_goals cbv
  all_goals refine And.intro hS ?_
  all_goals refine And.intro (fun e => absurd e (by omega)) (fun _ => ?_)
  all_goals (cbv; refine .inl (p1 _ _ ?_); cbv; refine .inl (p2 _ _ ?_); cbv; refine .inl (u1 _ _ ?_); cbv; refine .inl (u2 _ _ ?_); cbv)
  all_goals (refine .inl (i1 _ _ ?_); cbv; refine .inl (i2 _ _ ?_); cbv; refine And.intro hB ?_; cbv)
  all_goals (refine .inl (q1 _ _ ?_); cbv; refine .inl (q2 _ _ ?_); cbv; refine And.intro hB ?_; cbv)
  all_goals (refine And.intro (fun _ => ?_) (fun e => absurd rfl e); cbv)
  all_goals (refine And.intro (fun _ => ?_) (fun e => absurd rfl e); cbv)
  all_goals (refine .inl (e1 _ _ ?_); cbv; refine .inl (e2 _ _ ?_); cbv)
  all_goals (refine And.intro (fun _ => ?_) (fun e => absurd rfl e); cbv)
  all_goals (refine And.intro (fun _ => ?_) (fun e => absurd rfl e); cbv)
  all_goals (refine And.intro hB ?_; cbv)
  all_goals (refine .inl (kn _ _ ?_); cbv)
  all_goals exact ⟨_, rfl, rfl⟩
end
theorem nameTells_calls (a0 : ByteArray) (w0 : a0.size ≤ 140737488351232) (a1 : Bool) (W : World) (hL : laidMetH Tryd.prog Rows.nameTellsRow.laid W) (hS : W.ShapedOpen Tryd.prog) : Calls Tryd.prog 10 #[.string a0, .bool a1] W fun e W' => e = .returned (.bool true) ∧ Below W.heap.size W W' := by
  exact calls_of emok3' (nameTells rfl a0 a1 h0) rfl rfl (wok_of hL hS) (size_of hS)
end Go.Proofs.YtknhcgdhfndooaaDoor.GEv
