import Derived.Test.YtfgemjpoiconbaaGreatDoorGXmxF
import Derived.Test.YtfgemjpoiconbaaGreatDoorGXmpA
/- XmlLong, by a symbolic run. -/
namespace Go.Proofs.YtfgemjpoiconbaaGreatDoor.GEv
open Go
set_option linter.unusedSimpArgs false
set_option linter.unusedVariables false
set_option maxRecDepth 100000
set_option maxHeartbeats 2000000
theorem parse_longJ {s : Bs} (h : 8000 < s.length) (f : Nat) : parseS f s = some (nothing, 0, 3) := by
  unfold parseS
  rw [if_pos h]
abbrev oneE : El := .mk [97] [] [] 0
theorem read_tail {u s : Bs} (hu : u.all blankB = true) (hs : s = [60, 97, 47, 62] ++ u) (hl : s.length ≤ 8000) : ∃ e', parseS 1000 s = some (e', s.length, 0) := by
  have hF : fairS oneE 0 = true := by decide +kernel
  have hp : gapE [] oneE = [60, 97, 47, 62] := by decide +kernel
  have h : At s ⟨0, 0, 0, 0⟩ (gapE [] oneE ++ u) := ⟨rfl, Nat.zero_le _, by rw [hp]; exact hs⟩
  have q1 := fill_nil h (f := 1000) (by rw [hp]; exact stop_of (by decide)) (by decide)
  obtain ⟨e', q2, q3⟩ := readE Fill.nil oneE s u _ 0 1000 hF h (by show 0 + _ ≤ _; decide) (by decide)
  have h2 := h.stE (szE oneE)
  have h2' : At s (stE ⟨0, 0, 0, 0⟩ (gapE [] oneE).length (szE oneE)) (u ++ []) := by rw [List.append_nil]; exact h2
  have q4 : ∃ st, remarksS s 1000 (stE ⟨0, 0, 0, 0⟩ (gapE [] oneE).length (szE oneE)) = some st ∧ At s st [] := by
    by_cases hn : u = []
    · subst hn
      exact ⟨_, fill_nil h2' ⟨rfl, by simp⟩ (by decide), h2'⟩
    · exact ⟨_, fill_blanks hu hn h2' ⟨rfl, by simp⟩ (by decide), h2'.go⟩
  obtain ⟨st, q4, q5⟩ := q4
  refine ⟨e', ?_⟩
  unfold parseS
  rw [if_neg (by omega)]
  simp only [q1, q2, q4, q5.rest, if_true, q5.err]
attribute [local cbv_opaque] isString isSlice isBoolT fOff iSize eqNil zero H.load H.store H.push H.dip H.put List.length List.getD Nat.add Nat.sub Nat.mul List.take List.drop top Addr.add mixH cmpJ ariJ List.append
attribute [local cbv_eval] List.length_cons List.length_nil addr_add mixH_top
theorem lLong {E : Env} (hE : E = EMY) (z : Int) (h : H) (K : Value → H → Prop) (hk : ∀ h', Grows h h' → K (.bool true) h') :
    CallP E 9 [.int .i64 z] h K := by
  have T : TyOk E.P := by rw [hE]; exact tyOk
  have zE : zero E.P 25 = some (.agg #[.string ⟨⟨[]⟩⟩, .slice none 0 0, .slice none 0 0, .int .i64 0]) := by rw [hE]; exact zElem
  refine CallP.ofXE hE rfl Tryz.func9 rfl (Nat.le_of_ble_eq_true rfl) ?_
  have pS := fun s hs h e n er hp K hk => xParse hE 1000 (by decide) s hs h e n er hp K hk
  have kn := fun h K hk => knownY hE h K hk
  clear hE
  cbv
  refine cmpJ_of (And.intro (fun q2 => ?_) (fun q2 => ?_))
  · cbv
    exact ⟨_, rfl, hk _ (Grows.refl h)⟩
  cbv
  refine cmpJ_of (And.intro (fun q3 => ?_) (fun q3 => ?_))
  · cbv
    exact ⟨_, rfl, hk _ (Grows.refl h)⟩
  obtain ⟨k, rfl⟩ : ∃ k : Nat, z = .ofNat k := ⟨z.toNat, (Int.toNat_of_nonneg q2).symm⟩
  have hk3 : k ≤ 20 := by have : ((k : Nat) : Int) ≤ 20 := q3; omega
  cbv
  refine LoopP.onX (fun x : Nat => [(3, .string ⟨⟨[60, 97, 47, 62] ++ List.replicate x 32⟩⟩), (0, .int .i64 (.ofNat k))]) (fun _ => h) (fun x => x + 4 ≤ 7990 + k) (fun x => 9000 - x) 0 rfl (Less.cons rfl (Less.cons rfl (Less.nil _))) (by omega) ?_
  intro j i1
  have i1 : j + 4 ≤ 7990 + k := i1
  have hrep : ([60, 97, 47, 62] ++ List.replicate j 32 : Bs) ++ [32] = [60, 97, 47, 62] ++ List.replicate (j + 1) 32 := by
    rw [List.append_assoc]
    congr 1
    rw [List.replicate_succ']
  have hlen : ([60, 97, 47, 62] ++ List.replicate j 32 : Bs).length = 4 + j := by rw [List.length_append, List.length_replicate]; rfl
  have hall : (List.replicate j 32 : Bs).all blankB = true := by
    rw [List.all_eq_true]
    intro c hc
    rw [(List.mem_replicate.1 hc).2]
    rfl
  obtain ⟨s, hs⟩ : ∃ s, s = ([60, 97, 47, 62] ++ List.replicate j 32 : Bs) := ⟨_, rfl⟩
  rw [← hs] at hrep hlen ⊢
  cbv
  refine And.intro T.str ?_
  refine And.intro (by show 7990 + k ≤ _; omega) ?_
  refine And.intro (fun q => ?_) (fun q => ?_)
  · have q : s.length < 7990 + k := q
    cbv
    refine And.intro (by show s.length + 1 ≤ _; omega) ?_
    refine ⟨j + 1, Less.cons ?_ (Less.cons rfl (Less.nil _)), rfl, (by omega), (by show 9000 - (j + 1) < 9000 - j; omega)⟩
    show some (Value.string ⟨⟨s ++ [32]⟩⟩) = _
    rw [hrep]
  · have q : 7990 + k ≤ s.length := q
    by_cases hl : 8000 < s.length
    · cbv
      refine .inl (pS s (by omega) h nothing 0 3 (parse_longJ hl 1000) _ (fun c m4 g4 e4 => ?_))
      cbv
      refine ⟨_, zE, ?_⟩
      cbv
      refine ⟨_, st_agg T.eS (box_get _ _) rfl e4.len e4.one, ?_⟩
      obtain ⟨j0, j1, j2, j3⟩ := laid g4 (boxO [.string ⟨⟨[]⟩⟩, .slice none 0 0, .slice none 0 0, .int .i64 0]) c (some 25) true
      generalize (m4.push (boxO [.string ⟨⟨[]⟩⟩, .slice none 0 0, .slice none 0 0, .int .i64 0])).put m4.next (some (.cells c (some 25) true 0)) = m5 at j0 j1 j2 j3 ⊢
      cbv
      refine And.intro T.str ?_
      refine And.intro (fun _ => ?_) (fun q => absurd hl (Nat.not_lt.2 q))
      cbv
      refine And.intro (fun _ => ?_) (fun q => absurd rfl q)
      cbv
      refine And.intro (fun _ => ?_) (fun q => absurd rfl q)
      cbv
      refine .inl (kn _ _ ?_)
      cbv
      exact ⟨_, rfl, hk _ j0⟩
    · obtain ⟨x, hp⟩ := read_tail hall hs (by omega)
      cbv
      refine .inl (pS s (by omega) h x s.length 0 hp _ (fun c m4 g4 e4 => ?_))
      cbv
      refine ⟨_, zE, ?_⟩
      cbv
      refine ⟨_, st_agg T.eS (box_get _ _) rfl e4.len e4.one, ?_⟩
      obtain ⟨j0, j1, j2, j3⟩ := laid g4 (boxO [.string ⟨⟨[]⟩⟩, .slice none 0 0, .slice none 0 0, .int .i64 0]) c (some 25) true
      generalize (m4.push (boxO [.string ⟨⟨[]⟩⟩, .slice none 0 0, .slice none 0 0, .int .i64 0])).put m4.next (some (.cells c (some 25) true 0)) = m5 at j0 j1 j2 j3 ⊢
      cbv
      refine And.intro T.str ?_
      refine And.intro (fun q => absurd q hl) (fun _ => ?_)
      cbv
      refine And.intro T.str ?_
      refine And.intro (fun _ => ?_) (fun q => absurd rfl q)
      cbv
      refine And.intro (fun _ => ?_) (fun q => absurd rfl q)
      cbv
      refine .inl (kn _ _ ?_)
      cbv
      exact ⟨_, rfl, hk _ j0⟩
end Go.Proofs.YtfgemjpoiconbaaGreatDoor.GEv

