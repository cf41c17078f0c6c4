/- 'NameBack', by a symbolic run: what is written stands for what it was. -/
import Derived.Test.YtknhcgdhfndooaaDoorGNmK
import Derived.Test.YtknhcgdhfndooaaDoorGNmW
namespace Go.Proofs.YtknhcgdhfndooaaDoor.GEv
open Go
open Go.RowKit (Below)
set_option linter.unusedSimpArgs false
set_option linter.unusedVariables false
/-- Bytes that may stand in what is written. -/
def plainB (a : Bool) (c : Nat) : Bool := decide (c ≠ 60) && decide (c ≠ 62) && (!a || (decide (c ≠ 34) && decide (c ≠ 9) && decide (c ≠ 10) && decide (c ≠ 13)))
theorem esc_plain (a : Bool) (c : UInt8) : (esc a c).all (fun b => plainB a b.toNat) = true := by
  rw [esc_nat]
  cases a
  all_goals (repeat' split)
  all_goals first
    | decide
    | (simp [plainB]; omega)
    | (simp_all [plainB])
theorem escape_plain (a : Bool) (l : List UInt8) (i : Nat) (h : i < (escape a l).length) : plainB a ((escape a l).getD i 0).toNat = true := by
  rw [List.getD_eq_getElem?_getD, List.getElem?_eq_getElem h, Option.getD_some]
  have hm := List.getElem_mem h
  unfold escape at hm
  obtain ⟨c, _, hc⟩ := List.mem_flatMap.1 hm
  exact List.all_eq_true.1 (esc_plain a c) _ hc
set_option maxRecDepth 100000
attribute [local cbv_opaque] isString isSlice isBoolT fOff iSize eqNil zero H.load H.store H.push H.dip H.put List.length List.getD Nat.add Nat.sub Nat.mul List.take List.drop UInt8.toNat isName escape List.append
attribute [local cbv_eval] List.length_cons List.length_nil
section
variable {E : Env} (hE : E = EM3)
include hE
theorem nameBack (s : ByteArray) (a : Bool) (h : H) : CallP E 4 [.string s, .bool a] h (fun v _ => v = .bool true) := by
  refine CallP.ofE hE rfl Tryd.func4 rfl (Nat.le_of_ble_eq_true rfl) ?_
  have hS : isString E.1 9 = true := by rw [hE]; exact stringT
  obtain ⟨⟨l⟩⟩ := s
  by_cases hl : 300 < l.length
  · clear hE
    cbv
    refine And.intro hS ?_
    refine And.intro (fun _ => ?_) (fun e => absurd hl (Nat.not_lt.2 e))
    cbv
    exact ⟨_, rfl, rfl⟩
  have s1 := fun h K hk => rSignsC hE l (by omega) h K hk
  have e1 := fun h K hk => nEscC hE l a (by omega) h K hk
  have hle := escape_len a l
  have u1 := fun h K hk => nUnescC hE (escape a l) (by omega) h K hk
  have kn := fun h K hk => knownC hE h K hk
  clear hE
  have hun : signs l = true → optV (unescape (escape a l)) = .tuple #[.string ⟨⟨l⟩⟩, .bool true] := fun h1 => by
    rw [unescape_escape a l h1]
    rfl
  generalize signs l = b at s1 hun
  cases b
  · cbv
    refine And.intro hS ?_
    refine And.intro (fun e => absurd e hl) (fun _ => ?_)
    cbv
    refine .inl (s1 _ _ ?_)
    cbv
    exact ⟨_, rfl, rfl⟩
  rw [hun rfl] at u1
  clear hun
  have hp := escape_plain a l
  generalize escape a l = x at e1 u1 hp hle
  cases a
  all_goals cbv
  all_goals refine And.intro hS ?_
  all_goals refine And.intro (fun e => absurd e hl) (fun _ => ?_)
  all_goals cbv
  all_goals (refine .inl (s1 _ _ ?_); cbv; refine .inl (e1 _ _ ?_); cbv; refine .inl (u1 _ _ ?_); cbv)
  · refine LoopP.on (fun i : Nat => [(8, .int .i64 (.ofNat i)), (5, .string ⟨⟨x⟩⟩), (1, .bool false), (0, .string ⟨⟨l⟩⟩), (6, .string ⟨⟨l⟩⟩), (7, .bool true)]) (fun _ => h) (fun i => i ≤ x.length) (fun i => x.length - i) 0 rfl (Less.cons rfl (Less.cons rfl (Less.cons rfl (Less.cons rfl (Less.cons rfl (Less.cons rfl (Less.nil _))))))) (Nat.zero_le _) ?_
    intro i i1
    by_cases hi : i < x.length
    · have hb : Nat.le (Nat.add i 1) 4611686018427387904 := by show i + 1 ≤ _; omega
      have hp := hp i hi
      simp only [plainB, Bool.and_eq_true, decide_eq_true_eq] at hp
      obtain ⟨⟨h60, h62⟩, _⟩ := hp
      cbv
      refine And.intro hS ?_
      refine And.intro (fun _ => ?_) (fun e => absurd e (Nat.not_le.2 hi))
      cbv
      refine And.intro hS (And.intro hi ?_)
      refine And.intro (fun e => absurd e h60) (fun _ => ?_)
      cbv
      refine And.intro hS (And.intro hi ?_)
      refine And.intro (fun e => absurd e h62) (fun _ => ?_)
      cbv
      refine And.intro hb ?_
      exact ⟨i + 1, Less.cons rfl (Less.cons rfl (Less.cons rfl (Less.cons rfl (Less.cons rfl (Less.cons rfl (Less.nil _)))))), rfl, hi, (by show x.length - (i + 1) < x.length - i; omega)⟩
    · cbv
      refine And.intro hS ?_
      refine And.intro (fun e => absurd e hi) (fun _ => ?_)
      cbv
      refine And.intro (fun _ => ?_) (fun e => absurd rfl e)
      cbv
      refine .inl (kn _ _ ?_)
      cbv
      exact ⟨_, rfl, rfl⟩
  · refine LoopP.on (fun i : Nat => [(8, .int .i64 (.ofNat i)), (5, .string ⟨⟨x⟩⟩), (1, .bool true), (0, .string ⟨⟨l⟩⟩), (6, .string ⟨⟨l⟩⟩), (7, .bool true)]) (fun _ => h) (fun i => i ≤ x.length) (fun i => x.length - i) 0 rfl (Less.cons rfl (Less.cons rfl (Less.cons rfl (Less.cons rfl (Less.cons rfl (Less.cons rfl (Less.nil _))))))) (Nat.zero_le _) ?_
    intro i i1
    by_cases hi : i < x.length
    · have hb : Nat.le (Nat.add i 1) 4611686018427387904 := by show i + 1 ≤ _; omega
      have hp := hp i hi
      simp only [plainB, Bool.and_eq_true, decide_eq_true_eq, Bool.not_true, Bool.false_or] at hp
      obtain ⟨⟨h60, h62⟩, ⟨⟨h34, h9⟩, h10⟩, h13⟩ := hp
      cbv
      refine And.intro hS ?_
      refine And.intro (fun _ => ?_) (fun e => absurd e (Nat.not_le.2 hi))
      cbv
      refine And.intro hS (And.intro hi ?_)
      refine And.intro (fun e => absurd e h60) (fun _ => ?_)
      cbv
      refine And.intro hS (And.intro hi ?_)
      refine And.intro (fun e => absurd e h62) (fun _ => ?_)
      cbv
      refine And.intro hS (And.intro hi ?_)
      refine And.intro (fun e => absurd e h34) (fun _ => ?_)
      cbv
      refine And.intro hS (And.intro hi ?_)
      refine And.intro (fun e => absurd e h9) (fun _ => ?_)
      cbv
      refine And.intro hS (And.intro hi ?_)
      refine And.intro (fun e => absurd e h10) (fun _ => ?_)
      cbv
      refine And.intro hS (And.intro hi ?_)
      refine And.intro (fun e => absurd e h13) (fun _ => ?_)
      cbv
      refine And.intro hb ?_
      exact ⟨i + 1, Less.cons rfl (Less.cons rfl (Less.cons rfl (Less.cons rfl (Less.cons rfl (Less.cons rfl (Less.nil _)))))), rfl, hi, (by show x.length - (i + 1) < x.length - i; omega)⟩
    · cbv
      refine And.intro hS ?_
      refine And.intro (fun e => absurd e hi) (fun _ => ?_)
      cbv
      refine And.intro (fun _ => ?_) (fun e => absurd rfl e)
      cbv
      refine .inl (kn _ _ ?_)
      cbv
      exact ⟨_, rfl, rfl⟩
end
theorem nameBack_calls (a0 : ByteArray) (w0 : a0.size ≤ 140737488351232) (a1 : Bool) (W : World) (hL : laidMetH Tryd.prog Rows.nameBackRow.laid W) (hS : W.ShapedOpen Tryd.prog) : Calls Tryd.prog 4 #[.string a0, .bool a1] W fun e W' => e = .returned (.bool true) ∧ Below W.heap.size W W' := by
  exact calls_of emok3' (nameBack rfl a0 a1 h0) rfl rfl (wok_of hL hS) (size_of hS)
end Go.Proofs.YtknhcgdhfndooaaDoor.GEv
