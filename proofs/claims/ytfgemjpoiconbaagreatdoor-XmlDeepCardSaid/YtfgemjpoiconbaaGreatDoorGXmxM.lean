import Derived.Test.YtfgemjpoiconbaaGreatDoorGXmxF
import Derived.Test.YtfgemjpoiconbaaGreatDoorGXmzK
import Derived.Test.YtfgemjpoiconbaaGreatDoorGXmpF
/- XmlDeep, by a symbolic run. -/
namespace Go.Proofs.YtfgemjpoiconbaaGreatDoor.GEv
open Go
set_option linter.unusedSimpArgs false
set_option linter.unusedVariables false
set_option maxRecDepth 100000
set_option maxHeartbeats 4000000
/-- A text, so often. -/
def repT (x : Bs) : Nat → Bs
  | 0 => []
  | k + 1 => repT x k ++ x
theorem repT_comm (x : Bs) : ∀ k, repT x k ++ x = x ++ repT x k
  | 0 => by simp [repT]
  | k + 1 => by
    rw [repT, repT_comm x k, List.append_assoc, repT_comm x k]
theorem repT_len (x : Bs) : ∀ k, (repT x k).length = x.length * k
  | 0 => rfl
  | k + 1 => by rw [repT, List.length_append, repT_len x k, Nat.mul_succ]
theorem bsT_rep : ∀ w, bsT w = repT bT w
  | 0 => rfl
  | w + 1 => by rw [bsT, bsT_rep w, repT, repT_comm]
theorem con_rep (w : Nat) : ∀ k, con k w = repT aT k ++ repT bT w ++ repT cT k
  | 0 => by rw [con, bsT_rep]; simp [repT]
  | k + 1 => by
    rw [con, con_rep w k, repT, repT_comm, repT]
    simp only [List.append_assoc]
attribute [local cbv_opaque] isString isSlice isBoolT fOff iSize eqNil zero H.load H.store H.push H.dip H.put List.length List.getD Nat.add Nat.sub Nat.mul List.take List.drop top Addr.add mixH List.append append repT con cmpJ ariJ
attribute [local cbv_eval] List.length_cons List.length_nil addr_add mixH_top
theorem lDeep {E : Env} (hE : E = EMY) (z zs : Int) (h : H) (K : Value → H → Prop) (hk : ∀ h', Grows h h' → K (.bool true) h') :
    CallP E 5 [.int .i64 z, .int .i64 zs] h K := by
  have T : TyOk E.P := by rw [hE]; exact tyOk
  have zE : zero E.P 25 = some (.agg #[.string ⟨⟨[]⟩⟩, .slice none 0 0, .slice none 0 0, .int .i64 0]) := by rw [hE]; exact zElem
  refine CallP.ofXE hE rfl Tryz.func5 rfl (Nat.le_of_ble_eq_true rfl) ?_
  have pS := fun s hs h e n er hp K hk => xParse hE 1000 (by decide) s hs h e n er hp K hk
  have pR := fun s hs h n er hp K hk => rParseK hE 1000 (by decide) s hs h n er hp K hk
  have kn := fun h K hk => knownY hE h K hk
  clear hE
  cbv
  refine cmpJ_of (And.intro (fun q1 => ?_) (fun q1 => ?_))
  · cbv
    exact ⟨_, rfl, hk _ (Grows.refl h)⟩
  cbv
  refine cmpJ_of (And.intro (fun q2 => ?_) (fun q2 => ?_))
  · cbv
    exact ⟨_, rfl, hk _ (Grows.refl h)⟩
  cbv
  refine cmpJ_of (And.intro (fun q3 => ?_) (fun q3 => ?_))
  · cbv
    exact ⟨_, rfl, hk _ (Grows.refl h)⟩
  cbv
  refine cmpJ_of (And.intro (fun q4 => ?_) (fun q4 => ?_))
  · cbv
    exact ⟨_, rfl, hk _ (Grows.refl h)⟩
  have q1 : (1 : Int) ≤ z := q1
  have q3 : (0 : Int) ≤ zs := q3
  obtain ⟨n, rfl⟩ : ∃ k : Nat, z = .ofNat k := ⟨z.toNat, (Int.toNat_of_nonneg (by omega)).symm⟩
  obtain ⟨w, rfl⟩ : ∃ k : Nat, zs = .ofNat k := ⟨zs.toNat, (Int.toNat_of_nonneg q3).symm⟩
  have hn1 : 1 ≤ n := by have : (1 : Int) ≤ ((n : Nat) : Int) := q1; omega
  have hn : n ≤ 20 := by have : ((n : Nat) : Int) ≤ 20 := q2; omega
  have hw : w ≤ 500 := by have : ((w : Nat) : Int) ≤ 500 := q4; omega
  clear q1 q2 q3 q4
  cbv
  refine LoopP.onX (fun x : Nat => [(7, .int .i64 (.ofNat x)), (5, .string ⟨⟨repT aT x⟩⟩), (6, .string ⟨⟨repT cT x⟩⟩), (0, .int .i64 (.ofNat n)), (1, .int .i64 (.ofNat w))]) (fun _ => h) (fun x => x ≤ n) (fun x => n - x) 0 rfl (Less.cons rfl (Less.cons rfl (Less.cons rfl (Less.cons rfl (Less.cons rfl (Less.nil _)))))) (Nat.zero_le _) ?_
  intro i i1
  have i1 : i ≤ n := i1
  have ha : (repT aT i).length ≤ 60 := by
    rw [repT_len]
    show 3 * i ≤ 60
    omega
  have hc : (repT cT i).length ≤ 80 := by
    rw [repT_len]
    show 4 * i ≤ 80
    omega
  by_cases hi : i < n
  · cbv
    refine And.intro (fun _ => ?_) (fun e => absurd hi (Nat.not_lt.2 e))
    cbv
    refine And.intro (Nat.le_trans (Nat.add_le_add_right ha 3) (by decide)) ?_
    refine And.intro (Nat.le_trans (Nat.add_le_add_right hc 4) (by decide)) ?_
    refine And.intro (by show i + 1 ≤ _; omega) ?_
    exact ⟨i + 1, Less.cons rfl (Less.cons rfl (Less.cons rfl (Less.cons rfl (Less.cons rfl (Less.nil _))))), rfl, hi, (by show n - (i + 1) < n - i; omega)⟩
  · obtain rfl : i = n := by omega
    obtain ⟨A, hA⟩ : ∃ A, A = repT aT i := ⟨_, rfl⟩
    obtain ⟨C, hC⟩ : ∃ C, C = repT cT i := ⟨_, rfl⟩
    rw [← hA] at ha ⊢
    rw [← hC] at hc ⊢
    cbv
    refine And.intro (fun e => absurd e hi) (fun _ => ?_)
    cbv
    refine LoopP.onX (fun x : Nat => [(8, .int .i64 (.ofNat x)), (5, .string ⟨⟨A ++ repT bT x⟩⟩), (6, .string ⟨⟨C⟩⟩), (0, .int .i64 (.ofNat i)), (1, .int .i64 (.ofNat w))]) (fun _ => h) (fun x => x ≤ w) (fun x => w - x) 0 rfl (Less.cons rfl (Less.cons (by show some (Value.string ⟨⟨A⟩⟩) = some (.string ⟨⟨A ++ []⟩⟩); rw [List.append_nil]) (Less.cons rfl (Less.cons rfl (Less.cons rfl (Less.nil _)))))) (Nat.zero_le _) ?_
    intro j j1
    have j1 : j ≤ w := j1
    have hb : (repT bT j).length ≤ 2000 := by
      rw [repT_len]
      show 4 * j ≤ 2000
      omega
    by_cases hj : j < w
    · have hab : (A ++ repT bT j).length ≤ 10000 := by rw [List.length_append]; omega
      have hnx : A ++ repT bT (j + 1) = (A ++ repT bT j) ++ bT := by rw [repT, List.append_assoc]
      generalize hs : A ++ repT bT j = s at hab hnx
      cbv
      refine And.intro (fun _ => ?_) (fun e => absurd hj (Nat.not_lt.2 e))
      cbv
      refine And.intro (by show s.length + 4 ≤ _; omega) ?_
      refine And.intro (by show j + 1 ≤ _; omega) ?_
      exact ⟨j + 1, Less.cons rfl (Less.cons (by show some (Value.string ⟨⟨s ++ bT⟩⟩) = _; rw [← hnx]) (Less.cons rfl (Less.cons rfl (Less.cons rfl (Less.nil _))))), rfl, hj, (by show w - (j + 1) < w - j; omega)⟩
    · obtain rfl : j = w := by omega
      obtain ⟨k, rfl⟩ : ∃ k, i = k + 1 := ⟨i - 1, by omega⟩
      have hcon : con (k + 1) j = A ++ repT bT j ++ C := by rw [con_rep, hA, hC]
      obtain ⟨x, mm, rr, x1, x2, y⟩ := deep_same k j (by omega) hw _ rfl
      have hll : (con (k + 1) j).length ≤ 8000 := by rw [con_len]; omega
      have cs : (rr = 0 ∧ k + 1 ≤ 12 ∧ k + 1 + j ≤ 400 ∧ j = 0) ∨ (rr = 0 ∧ k + 1 ≤ 12 ∧ k + 1 + j ≤ 400 ∧ j ≠ 0 ∧ k + 1 < 12) ∨ (rr ≠ 0 ∧ 12 < k + 1) ∨ (rr ≠ 0 ∧ 400 < k + 1 + j) ∨ (rr ≠ 0 ∧ j ≠ 0 ∧ 12 ≤ k + 1) := by
        by_cases a : k + 1 ≤ 12
        · by_cases b : k + 1 + j ≤ 400
          · by_cases c : j = 0
            · exact .inl ⟨y.2 ⟨a, b, .inl c⟩, a, b, c⟩
            · by_cases d : k + 1 < 12
              · exact .inr (.inl ⟨y.2 ⟨a, b, .inr d⟩, a, b, c, d⟩)
              · exact .inr (.inr (.inr (.inr ⟨fun q => (y.1 q).2.2.elim c d, c, Nat.le_of_not_lt d⟩)))
          · exact .inr (.inr (.inr (.inl ⟨fun q => b (y.1 q).2.1, Nat.lt_of_not_le b⟩)))
        · exact .inr (.inr (.inl ⟨fun q => a (y.1 q).1, Nat.lt_of_not_le a⟩))
      clear y
      rw [hcon] at x1 x2 hll
      have hl1 : (A ++ repT bT j).length + C.length ≤ 8000 := by rwa [← List.length_append]
      generalize A ++ repT bT j = S at x1 x2 hll hl1
      obtain ⟨s, hs⟩ : ∃ s, s = S ++ C := ⟨_, rfl⟩
      rw [← hs] at x1 x2 hll
      cbv
      refine And.intro (fun e => absurd e hj) (fun _ => ?_)
      cbv
      refine And.intro (by show S.length + C.length ≤ _; omega) ?_
      rw [show S.append C = s from hs.symm]
      refine .inl (pS s (by omega) h x mm rr x1 _ (fun c m4 g4 e4 => ?_))
      cbv
      refine ⟨_, zE, ?_⟩
      cbv
      refine ⟨_, st_agg T.eS (box_get _ _) rfl e4.len e4.one, ?_⟩
      obtain ⟨j0, jj1, j2, j3⟩ := laid g4 (boxO zC) c (some 25) true
      generalize (m4.push (boxO zC)).put m4.next (some (.cells c (some 25) true 0)) = m5 at j0 jj1 j2 j3 ⊢
      cbv
      refine And.intro (by show S.length + C.length ≤ _; omega) ?_
      rw [show S.append C = s from hs.symm]
      refine .inl (pR s (by omega) m5 mm rr x2 _ (fun c' m6 g6 c4 c1 => ?_))
      cbv
      refine ⟨_, zE, ?_⟩
      cbv
      refine ⟨_, st_agg T.eS (box_get _ _) rfl c4 c1, ?_⟩
      obtain ⟨i0', i1', i2', i3'⟩ := laid (j0.trans g6) (boxO zC) c' (some 25) true
      generalize (m6.push (boxO zC)).put m6.next (some (.cells c' (some 25) true 0)) = m7 at i0' i1' i2' i3' ⊢
      cbv
      rcases cs with ⟨y1, y2, y3, y4⟩ | ⟨y1, y2, y3, y4, y5⟩ | ⟨y1, y2⟩ | ⟨y1, y2⟩ | ⟨y1, y2, y3⟩
      all_goals repeat' (first
        | (refine And.intro T.bool ?_; cbv)
        | (refine And.intro (show k + 1 + j ≤ 4611686018427387904 by omega) ?_; cbv)
        | (refine cmpJ_of (And.intro (fun h1 => ?_) (fun h1 => ?_)) <;> (try simp only [Int.ofNat_eq_natCast, Nat.add_eq] at h1) <;> first | (exfalso; omega) | cbv)
        | (refine And.intro (fun h1 => ?_) (fun h1 => ?_) <;> (try simp only [Int.ofNat_eq_natCast, Nat.add_eq] at h1) <;> first | (exfalso; omega) | cbv))
      all_goals
        refine .inl (kn _ _ ?_)
        cbv
        exact ⟨_, rfl, hk _ i0'⟩
end Go.Proofs.YtfgemjpoiconbaaGreatDoor.GEv

