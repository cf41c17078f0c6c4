import Derived.Test.YtfgemjpoiconbaaGreatDoorGNmK
import Derived.Test.YtfgemjpoiconbaaGreatDoorGSyE
import Derived.Test.YtfgemjpoiconbaaGreatDoorGSyF
import Derived.Lib.SlTrimSet
import Derived.Lib.IndexMore
/- Elements as texts, in plain Lean: what chapter 2 says. -/
namespace Go.Proofs.YtfgemjpoiconbaaGreatDoor.GEv
open Go
set_option linter.unusedSimpArgs false
set_option linter.unusedVariables false
abbrev Bs := List UInt8
/-- An element: its name, its attributes, what stands in it, its place. -/
inductive El where
  | mk (name : Bs) (attrs : List (Bs × Bs)) (kids : List El) (at' : Int)
namespace El
def name : El → Bs | .mk n _ _ _ => n
def attrs : El → List (Bs × Bs) | .mk _ a _ _ => a
def kids : El → List El | .mk _ _ k _ => k
def at' : El → Int | .mk _ _ _ p => p
end El
/-! ### as it is written -/
/-! ### as it is read -/
/-- Where a reader is: its place, how many elements there were, the first error (0: none), its place. -/
structure Rd where
  at' : Nat
  elems : Nat
  err : Nat
  out : Nat
deriving DecidableEq
def failS (a e : Nat) (st : Rd) : Rd := if st.err = 0 then { st with err := e, out := a } else st
def restS (s : Bs) (st : Rd) : Bs := if st.err = 0 then s.drop st.at' else []
def goS (n : Nat) (st : Rd) : Rd := { st with at' := st.at' + n }
def isS (s p : Bs) (st : Rd) : Bool × Rd := if (restS s st).take p.length = p then (true, goS p.length st) else (false, st)
def mustS (s p : Bs) (st : Rd) : Rd := match isS s p st with
  | (true, st) => st
  | (false, st) => failS st.at' 2 st
def blankB (c : UInt8) : Bool := c == 32 || c == 9 || c == 13 || c == 10
def blanksN (s : Bs) (st : Rd) : Nat := ((restS s st).takeWhile blankB).length
def signB (c : UInt8) : Bool := byte c.toNat || c == 58
def qualS (s : Bs) (st : Rd) : Bs × Rd :=
  let q := (restS s st).takeWhile signB
  (q, goS q.length (if isQual q then st else failS st.at' 2 st))
/-- A value, as it is written: what it is, how long it stands there. -/
def valueV (r : Bs) : Option (Bs × Nat) := match r with
  | [] => none
  | q :: r => if q = 34 ∨ q = 39 then (match cutB q r with
      | some (w, _) => match unescape w with
        | some v => if (60 : UInt8) ∈ w ∨ 60 < v.length then none else some (v, w.length + 2)
        | none => none
      | none => none) else none
def valueS (s : Bs) (st : Rd) : Bs × Rd := match valueV (restS s st) with
  | some (v, n) => (v, goS n st)
  | none => ([], failS st.at' 2 st)
def attrsS (s : Bs) : Nat → List (Bs × Bs) → Rd → Option (List (Bs × Bs) × Rd)
  | 0, _, _ => none
  | f + 1, l, st =>
    let n := blanksN s st
    let st := goS n st
    if n = 0 then some (l, st) else
    match restS s st with
    | [] => some (l, st)
    | c :: _ =>
      if c = 47 ∨ c = 62 then some (l, st) else
      if 8 ≤ l.length then some (l, failS st.at' 4 st) else
      let p := st.at'
      let (k, st) := qualS s st
      let st := if l.any (fun x => x.1 == k) then failS p 2 st else st
      let st := mustS s [61] st
      let (v, st) := valueS s st
      attrsS s f (l ++ [(k, v)]) st
def cut2 : Bs → Option (Bs × Bs)
  | [] => none
  | [_] => none
  | a :: b :: l => if a = 45 ∧ b = 45 then some ([], l) else (cut2 (b :: l)).map fun p => (a :: p.1, p.2)
def remarksS (s : Bs) : Nat → Rd → Option Rd
  | 0, _ => none
  | f + 1, st =>
    let n := blanksN s st
    let st := goS n st
    match isS s [60, 33, 45, 45] st with
    | (false, _) => if n = 0 then some st else remarksS s f st
    | (true, st1) => match cut2 (restS s st1) with
      | none => some (failS st.at' 2 st1)
      | some (t, _) => if (unescape (t.filter (· ≠ 38))).isSome then (match isS s [45, 45, 62] (goS t.length st1) with
          | (true, st2) => remarksS s f st2
          | (false, st2) => remarksS s f (failS st.at' 2 st2)) else some (failS st.at' 2 st1)
mutual
def elementS (s : Bs) : Nat → Nat → Rd → Option (El × Rd)
  | 0, _, _ => none
  | f + 1, d, st =>
    let p := st.at'
    if (restS s st).take 1 = [60] then
      let st := { st with elems := st.elems + 1 }
      if 12 ≤ d ∨ 400 < st.elems then some (.mk [] [] [] p, failS p 4 st) else
      let (n, st) := qualS s (goS 1 st)
      match attrsS s f [] st with
      | none => none
      | some (a, st) => match isS s [47, 62] st with
        | (true, st) => some (.mk n a [] p, st)
        | (false, st) => match kidsS s f n (d + 1) [] (mustS s [62] st) with
          | some (k, st) => some (.mk n a k p, st)
          | none => none
    else some (.mk [] [] [] p, failS p 2 st)
def kidsS (s : Bs) : Nat → Bs → Nat → List El → Rd → Option (List El × Rd)
  | 0, _, _, _, _ => none
  | f + 1, n, d, l, st =>
    if st.err ≠ 0 then some (l, st) else
    match remarksS s f st with
    | none => none
    | some st => match isS s [60, 47] st with
      | (true, st1) =>
        let (e, st2) := qualS s st1
        let st2 := if e = n then st2 else failS st.at' 2 st2
        let st2 := goS (blanksN s st2) st2
        some (l, mustS s [62] st2)
      | (false, st) => match elementS s f d st with
        | some (e, st) => kidsS s f n d (l ++ [e]) st
        | none => none
end
def nothing : El := .mk [] [] [] 0
/-- A text's element, how long it is, or where it is wrong, and how. -/
def parseS (f : Nat) (s : Bs) : Option (El × Nat × Nat) :=
  if 8000 < s.length then some (nothing, 0, 3) else
  match remarksS s f ⟨0, 0, 0, 0⟩ with
  | none => none
  | some st => match elementS s f 0 st with
    | none => none
    | some (e, st) => match remarksS s f st with
      | none => none
      | some st =>
        let st := if restS s st = [] then st else failS st.at' 2 st
        if st.err = 0 then some (e, s.length, 0) else some (nothing, st.out, st.err)
end Go.Proofs.YtfgemjpoiconbaaGreatDoor.GEv

/- Elements in the run's memory. -/
namespace Go.Proofs.YtfgemjpoiconbaaGreatDoor.GEv
open Go
set_option linter.unusedSimpArgs false
set_option linter.unusedVariables false
def attrC (x : Bs × Bs) : List Value := [.string ⟨⟨x.1⟩⟩, .string ⟨⟨x.2⟩⟩]
def NoSpot (a : Option Addr) : Prop := ∀ x, a = some x → x.spot = none
/-- A row of attributes, in blocks of S. -/
def IsAt (h : H) (S : Nat → Prop) (l : List (Bs × Bs)) (v : Value) : Prop :=
  ∃ a cap, v = .slice a l.length cap ∧ ((l = [] ∧ NoSpot a) ∨ ∃ b off, a = some ⟨b, off, none⟩ ∧ S b ∧ b < h.next ∧ ∀ i x, l[i]? = some x → h.read b (off + i * 2) 2 = some (attrC x))
/-- An element, in blocks of S. -/
inductive IsEl (h : H) (S : Nat → Prop) : El → List Value → Prop where
  | leaf {n a p va x cap} (ha : IsAt h S a va) (hx : NoSpot x) : IsEl h S (.mk n a [] p) [.string ⟨⟨n⟩⟩, va, .slice x 0 cap, .int .i64 p]
  | node {n a k p va b off cap} (c : Nat → List Value) (ha : IsAt h S a va) (hne : k ≠ []) (hb : S b) (hlt : b < h.next) (hr : ∀ i, i < k.length → h.read b (off + i * 4) 4 = some (c i))
      (hk : ∀ i e, k[i]? = some e → IsEl h S e (c i)) : IsEl h S (.mk n a k p) [.string ⟨⟨n⟩⟩, va, .slice (some ⟨b, off, none⟩) k.length cap, .int .i64 p]
theorem read_keep {h h' : H} {b off n : Nat} {l : List Value} (hg : h'.m.get b = h.m.get b) (hr : h.read b off n = some l) : h'.read b off n = some l := by
  unfold H.read at hr ⊢
  rw [hg]
  exact hr
theorem IsAt.mono {h h' : H} {S S' : Nat → Prop} {l : List (Bs × Bs)} {v : Value} (hS : ∀ b, S b → b < h.next → S' b) (hk : ∀ b, S b → b < h.next → h'.m.get b = h.m.get b) (hn : h.next ≤ h'.next) (hi : IsAt h S l v) : IsAt h' S' l v := by
  obtain ⟨a, cap, e, q⟩ := hi
  refine ⟨a, cap, e, ?_⟩
  rcases q with q | ⟨b, off, q1, q2, q3, q4⟩
  · exact .inl q
  · exact .inr ⟨b, off, q1, hS b q2 q3, Nat.lt_of_lt_of_le q3 hn, fun i x hx => read_keep (hk b q2 q3) (q4 i x hx)⟩
theorem IsEl.mono {h h' : H} {S S' : Nat → Prop} {e : El} {c : List Value} (hS : ∀ b, S b → b < h.next → S' b) (hk : ∀ b, S b → b < h.next → h'.m.get b = h.m.get b) (hn : h.next ≤ h'.next) (hi : IsEl h S e c) : IsEl h' S' e c := by
  induction hi with
  | leaf ha hx => exact .leaf (ha.mono hS hk hn) hx
  | node c ha hne hb hlt hr _ ih => exact .node c (ha.mono hS hk hn) hne (hS _ hb hlt) (Nat.lt_of_lt_of_le hlt hn) (fun i hi => read_keep (hk _ hb hlt) (hr i hi)) ih
theorem IsEl.grows {h h' : H} {S : Nat → Prop} {e : El} {c : List Value} (g : Grows h h') (hi : IsEl h S e c) : IsEl h' S e c := hi.mono (fun _ q _ => q) (fun b _ hb => g.keep b hb) g.next
theorem IsAt.grows {h h' : H} {S : Nat → Prop} {l : List (Bs × Bs)} {v : Value} (g : Grows h h') (hi : IsAt h S l v) : IsAt h' S l v := hi.mono (fun _ q _ => q) (fun b _ hb => g.keep b hb) g.next
theorem IsEl.len {h : H} {S : Nat → Prop} {e : El} {c : List Value} (hi : IsEl h S e c) : c.length = 4 := by
  cases hi <;> rfl
/-- What an element's value is made of. -/
theorem IsEl.parts {h : H} {S : Nat → Prop} {e : El} {c : List Value} (hi : IsEl h S e c) : ∃ va vk, c = [.string ⟨⟨e.name⟩⟩, va, vk, .int .i64 e.at'] ∧ IsAt h S e.attrs va ∧
    ∃ a cap, vk = .slice a e.kids.length cap ∧ ((e.kids = [] ∧ NoSpot a) ∨ ∃ b off, ∃ d : Nat → List Value, a = some ⟨b, off, none⟩ ∧ S b ∧ b < h.next ∧ (∀ i, i < e.kids.length → h.read b (off + i * 4) 4 = some (d i)) ∧ ∀ i x, e.kids[i]? = some x → IsEl h S x (d i)) := by
  cases hi with
  | leaf ha hx => exact ⟨_, _, rfl, ha, _, _, rfl, .inl ⟨rfl, hx⟩⟩
  | node d ha hne hb hlt hr hk => exact ⟨_, _, rfl, ha, _, _, rfl, .inr ⟨_, _, d, rfl, hb, hlt, hr, hk⟩⟩
end Go.Proofs.YtfgemjpoiconbaaGreatDoor.GEv

/- Chapter 2's environments: what the reader calls of the library. -/
namespace Go.Proofs.YtfgemjpoiconbaaGreatDoor.GEv
open Go
open Go.RowKit (Below)
set_option linter.unusedSimpArgs false
set_option linter.unusedVariables false
def cut2V (l : Bs) : Value := match cut2 l with
  | some (p, q) => .tuple #[.string ⟨⟨p⟩⟩, .string ⟨⟨q⟩⟩, .bool true]
  | none => .tuple #[.string ⟨⟨l⟩⟩, .string ⟨⟨[]⟩⟩, .bool false]
def cutX : Prim
  | [.string s, .string t] => match isLe s.size 1000000, t.data.toList with
    | true, [c] => some (cutV c s.data.toList)
    | true, [45, 45] => some (cut2V s.data.toList)
    | _, _ => none
  | _ => none
def trimP : Prim
  | [.string s, .string t] => match t.data.toList with
    | [32, 9, 13, 10] => some (.string ⟨⟨s.data.toList.dropWhile blankB⟩⟩)
    | _ => none
  | _ => none
def containsP : Prim
  | [.string s, .string t] => match t.data.toList with
    | [60] => some (.bool (decide ((60 : UInt8) ∈ s.data.toList)))
    | _ => none
  | _ => none
noncomputable def memoX : List (FuncId × Prim) := (50, cutX) :: (70, trimP) :: (83, containsP) :: (42, replP) :: memo3
noncomputable def EMX : Env := ⟨Tryz.prog, none, some 61, some 111, memoX⟩
/-- 'TrimLeftFunc' by 'isSign'. -/
def tlfP : Prim
  | [.string s, .func (.func f) a b] => match Nat.beq f 65, a.toList, b.toList, isLe s.size 1000000 with
    | true, [], [], true => some (.string ⟨⟨s.data.toList.dropWhile signB⟩⟩)
    | _, _, _, _ => none
  | _ => none
noncomputable def EMY : Env := ⟨Tryz.prog, none, some 61, some 111, (64, tlfP) :: memoX⟩
/-! ### library's words -/
theorem cut2_index : ∀ (l : Bs), (match cut2 l with | some (p, q) => Lib.index l [45, 45] = p.length ∧ l = p ++ 45 :: 45 :: q | none => Lib.index l [45, 45] = -1)
  | [] => by simp [cut2, Lib.index]
  | [a] => by simp [cut2, Lib.index, List.isPrefixOf]
  | a :: b :: l => by
    have ih := cut2_index (b :: l)
    unfold cut2
    by_cases h : a = 45 ∧ b = 45
    · rw [if_pos h]
      obtain ⟨rfl, rfl⟩ := h
      simp [Lib.index, List.isPrefixOf]
    · rw [if_neg h]
      have hp : List.isPrefixOf [45, 45] (a :: b :: l) = false := by
        simp only [List.isPrefixOf]
        rw [Bool.eq_false_iff]
        intro q
        simp at q
        exact h ⟨q.1.symm, q.2.symm⟩
      cases hc : cut2 (b :: l) with
      | none =>
        rw [hc] at ih
        simp only [Option.map_none]
        rw [Lib.index, hp]
        simp [ih]
      | some pq =>
        obtain ⟨p, q⟩ := pq
        rw [hc] at ih
        simp only [Option.map_some]
        rw [Lib.index, hp, ih.1]
        refine ⟨?_, by rw [ih.2]; rfl⟩
        rw [if_neg (by simp), if_neg (by simp)]
        simp
theorem lib_cut2 (l : Bs) : (Value.tuple #[.string ⟨(Lib.cut l [45, 45]).1.toArray⟩, .string ⟨(Lib.cut l [45, 45]).2.1.toArray⟩, .bool (Lib.cut l [45, 45]).2.2]) = cut2V l := by
  have h := cut2_index l
  unfold cut2V Lib.cut
  cases hc : cut2 l with
  | none =>
    rw [hc] at h
    have h : Lib.index l [45, 45] = -1 := h
    simp only [h]
    rfl
  | some pq =>
    obtain ⟨p, q⟩ := pq
    rw [hc] at h
    obtain ⟨h1, h2⟩ := h
    simp only [h1]
    rw [if_pos (by omega)]
    subst h2
    simp
theorem lib_cut1 (c : UInt8) (l : Bs) : (Value.tuple #[.string ⟨(Lib.cut l [c]).1.toArray⟩, .string ⟨(Lib.cut l [c]).2.1.toArray⟩, .bool (Lib.cut l [c]).2.2]) = cutV c l := by
  have h : ∀ l : Bs, (match cutB c l with | some (p, q) => Lib.index l [c] = p.length ∧ l = p ++ c :: q | none => Lib.index l [c] = -1) := by
    intro l
    induction l with
    | nil => simp [cutB, Lib.index]
    | cons a l ih =>
      unfold cutB
      by_cases ha : a = c
      · subst ha
        simp [Lib.index, List.isPrefixOf]
      · have hp : List.isPrefixOf [c] (a :: l) = false := by
          simp only [List.isPrefixOf, Bool.and_true]
          exact beq_eq_false_iff_ne.2 fun e => ha e.symm
        rw [if_neg ha]
        cases hc : cutB c l with
        | none => rw [hc] at ih; simp only [Option.map_none]; rw [Lib.index, hp]; simp [ih]
        | some pq =>
          obtain ⟨p, q⟩ := pq
          rw [hc] at ih
          simp only [Option.map_some]
          rw [Lib.index, hp, ih.1]
          refine ⟨?_, by rw [ih.2]; rfl⟩
          rw [if_neg (by simp), if_neg (by simp)]
          simp
  have h := h l
  unfold cutV Lib.cut
  cases hc : cutB c l with
  | none =>
    rw [hc] at h
    have h : Lib.index l [c] = -1 := h
    simp only [h]
    rfl
  | some pq =>
    obtain ⟨p, q⟩ := pq
    rw [hc] at h
    obtain ⟨h1, h2⟩ := h
    simp only [h1]
    rw [if_pos (by omega)]
    subst h2
    simp
theorem lib_contains (l : Bs) (c : UInt8) : decide (0 ≤ Lib.indexByte l c) = decide (c ∈ l) := by
  have h : ∀ l : Bs, (0 ≤ Lib.indexByte l c ↔ c ∈ l) ∧ -1 ≤ Lib.indexByte l c := by
    intro l
    induction l with
    | nil => simp [Lib.indexByte]
    | cons b l ih =>
      obtain ⟨i1, i2⟩ := ih
      unfold Lib.indexByte
      by_cases hb : b = c
      · subst hb; simp
      · rw [if_neg (by simpa using hb)]
        by_cases hm : Lib.indexByte l c = -1
        · rw [if_pos (by simpa using hm)]
          have : c ∉ l := fun q => by have := i1.2 q; omega
          simp [this]
          exact fun e => hb e.symm
        · rw [if_neg (by simpa using hm)]
          have h0 : 0 ≤ Lib.indexByte l c := by omega
          exact ⟨⟨fun _ => List.mem_cons_of_mem _ (i1.1 h0), fun _ => by omega⟩, by omega⟩
  by_cases hc : c ∈ l
  · simp [hc, (h l).1.2 hc]
  · have : ¬ 0 ≤ Lib.indexByte l c := fun q => hc ((h l).1.1 q)
    simp [hc, this]
theorem lib_trim (l : Bs) : (Lib.trimLeftS l [32, 9, 13, 10]) = l.dropWhile blankB := by
  unfold Lib.trimLeftS
  congr 1
  funext c
  rw [Bool.eq_iff_iff]
  simp [blankB, or_assoc]
end Go.Proofs.YtfgemjpoiconbaaGreatDoor.GEv

/- 'TrimLeftFunc' by 'isSign', by symbolic runs; the environments are sound. -/
namespace Go.Proofs.YtfgemjpoiconbaaGreatDoor.GEv
open Go
open Go.RowKit (Below)
set_option linter.unusedSimpArgs false
set_option linter.unusedVariables false
def signR (n : Nat) : Bool := decide (n < 128) && (decide (n = 58) || byte n)
theorem signR_B (c : UInt8) : signR c.toNat = signB c := by
  unfold signR signB
  by_cases h : c.toNat < 128
  · have : (c.toNat = 58) = (c = 58) := propext ⟨fun q => UInt8.toNat_inj.1 q, fun q => by rw [q]; rfl⟩
    simp only [h, decide_true, Bool.true_and, this]
    rw [Bool.or_comm]
    rfl
  · have hb : byte c.toNat = false := by
      rw [Bool.eq_false_iff]
      simp [byte, first]
      omega
    have h58 : ¬ c = 58 := by rintro rfl; exact h (by decide)
    simp [h, hb, h58]
theorem dec_high (n b0 b1 b2 b3 : Nat) (h : 128 ≤ b0) : 128 ≤ (Lib.decodeN n b0 b1 b2 b3).1 := by
  unfold Lib.decodeN
  rw [if_neg (by omega)]
  repeat' split
  all_goals (simp only; omega)
/-- The rune at a place. -/
theorem dec_at {l : Bs} {p : Nat} (hp : p < l.length) : signR (Utf8.decode ⟨⟨l⟩⟩ p).1 = signB (l.getD p 0) ∧ (signB (l.getD p 0) = true → (Utf8.decode ⟨⟨l⟩⟩ p).2 = 1) := by
  have hd : Lib.decodeL (l.drop p) = Utf8.decode ⟨⟨l⟩⟩ p := Lib.decodeL_drop ⟨⟨l⟩⟩ p
  rw [← hd, drop_get hp]
  by_cases h : (l.getD p 0).toNat < 128
  · rw [ascii_dec _ _ h]
    exact ⟨signR_B _, fun _ => rfl⟩
  · have h1 : 128 ≤ (Lib.decodeL (l.getD p 0 :: l.drop (p + 1))).1 := by
      rw [Lib.decodeL_N]
      exact dec_high _ _ _ _ _ (by show 128 ≤ (l.getD p 0).toNat; omega)
    have h2 : signB (l.getD p 0) = false := by
      rw [← signR_B]
      unfold signR
      rw [decide_eq_false h]
      rfl
    rw [h2]
    refine ⟨?_, fun q => by cases q⟩
    unfold signR
    rw [decide_eq_false (by omega)]
    rfl
theorem take_all {p : UInt8 → Bool} : ∀ {l : Bs} {i : Nat}, (∀ j, j < i → p (l.getD j 0) = true) → i < l.length → p (l.getD i 0) = false → l.dropWhile p = l.drop i
  | [], i, _, hi, _ => by simp at hi
  | c :: l, 0, _, _, hc => by
    have hc : p c = false := hc
    rw [List.dropWhile_cons_of_neg (by rw [hc]; simp)]
    rfl
  | c :: l, i + 1, h, hi, hc => by
    have h0 : p c = true := h 0 (by omega)
    rw [List.dropWhile_cons_of_pos h0]
    exact take_all (l := l) (i := i) (fun j hj => h (j + 1) (by omega)) (by simpa using hi) hc
theorem drop_all {p : UInt8 → Bool} : ∀ {l : Bs}, (∀ j, j < l.length → p (l.getD j 0) = true) → l.dropWhile p = []
  | [], _ => rfl
  | c :: l, h => by
    have h0 : p c = true := h 0 (by simp)
    rw [List.dropWhile_cons_of_pos h0]
    exact drop_all (l := l) fun j hj => h (j + 1) (by simpa using hj)
theorem one_name (n : Nat) (h : n < 128) : isName [97, UInt8.ofNat n] = byte n := by
  have e : (UInt8.ofNat n).toNat = n := by simp; omega
  have h97 : byte (97 : UInt8).toNat = true := by decide
  have f97 : first (97 : UInt8).toNat = true := by decide
  unfold isName
  simp only [List.all_cons, List.all_nil, e, h97, Bool.and_true, Bool.true_and]
  show (true && true && first (97 : UInt8).toNat && byte n) = byte n
  rw [f97]
  rfl
theorem enc_ascii {n : Nat} (h : n < 128) : Utf8.encode (.ofNat n) = ⟨#[UInt8.ofNat n]⟩ := by
  unfold Utf8.encode
  have hv : Utf8.valid (.ofNat n) = true := by
    simp [Utf8.valid]
    omega
  rw [if_pos hv]
  show (if n < 128 then _ else _) = _
  rw [if_pos h]
  rfl
set_option maxRecDepth 100000
attribute [local cbv_opaque] isString isSlice isBoolT fOff iSize eqNil zero H.load H.store H.push H.dip H.put List.length List.getD Nat.add Nat.sub List.take List.drop UInt8.toNat isName top Utf8.encode Utf8.decode UInt8.ofNat List.dropWhile
attribute [local cbv_eval] List.length_cons List.length_nil
section
variable {E : Env} (hE : E = EMX)
include hE
theorem isC (l : Bs) (hl : l.length ≤ 1000000) (h : H) (K : Value → H → Prop) (hk : K (.bool (isName l)) h) : CallP E 81 [.string ⟨⟨l⟩⟩] h K := by
  refine CallP.memo (v := .bool (isName l)) ?_ (by rw [hE]; exact ⟨_, _, Tryz.func81, rfl⟩) hk
  rw [hE]
  show lenP nameV 1000000 [.string ⟨⟨l⟩⟩] = _
  have : isLe (⟨⟨l⟩⟩ : ByteArray).size 1000000 = true := Nat.ble_eq_true_of_le hl
  simp only [lenP, this]
  rfl
theorem nSign (n : Nat) (hn : n < 2147483648) (h : H) (K : Value → H → Prop) (hk : K (.bool (signR n)) h) : CallP E 65 [.int .i32 (.ofNat n)] h K := by
  refine CallP.ofE hE rfl Tryz.func65 rfl (Nat.le_of_ble_eq_true rfl) ?_
  have uS : E.P.underlying 9 = some .string := by rw [hE]; exact stringU
  have t3 : E.P.underlying 21 = some (.int .i32) := by rw [hE]; exact i32U
  have n1 := fun l hl h K hk => isC hE l hl h K hk
  clear hE
  by_cases h128 : n < 128
  · have n2 := fun h K hk => n1 [97, UInt8.ofNat n] (by show 2 ≤ 1000000; decide) h K hk
    rw [one_name n h128] at n2
    have he := enc_ascii h128
    have hs : signR n = (decide (n = 58) || byte n) := by simp [signR, h128]
    rw [hs] at hk
    generalize byte n = b at n2 hk
    cbv
    refine And.intro (fun _ => ?_) (fun e => absurd e (by omega))
    cbv
    refine And.intro (fun h58 => ?_) (fun h58 => ?_)
    · cbv
      exact ⟨_, rfl, eqb hk (by simp [h58])⟩
    · cbv
      refine raw_convS rfl t3 uS ?_
      rw [he]
      cbv
      refine .inl (n2 _ _ ?_)
      cbv
      exact ⟨_, rfl, eqb hk (by simp [h58])⟩
  · have hs : signR n = false := by simp [signR, h128]
    rw [hs] at hk
    cbv
    refine And.intro (fun e => absurd e h128) (fun _ => ?_)
    cbv
    exact ⟨_, rfl, hk⟩
theorem idxSign (l : Bs) (hl : l.length ≤ 1000000) (h : H) (K : Value → H → Prop) (hk1 : l.dropWhile signB = [] → ∀ h', K (.int .i64 (.negSucc 0)) h') (hk2 : ∀ i, i < l.length → l.dropWhile signB = l.drop i → ∀ h', K (.int .i64 (.ofNat i)) h') :
    CallP E 80 [.string ⟨⟨l⟩⟩, .func (.func 65) #[] #[], .bool false] h K := by
  refine CallP.ofE hE rfl Tryz.func80 rfl (Nat.le_of_ble_eq_true rfl) ?_
  have hB : isBoolT E.P 4 = true := by rw [hE]; exact boolT
  have hR := fun q h dst ty pos after guard x K hx hk => raw_range (E := E) (l := q) (h := h) (dst := dst) (ty := ty) (pos := pos) (after := after) (guard := guard) (x := x) (s := ⟨⟨l⟩⟩) (K := K) hx (show E.P.underlying 9 = some .string by rw [hE]; exact stringU) hk
  have n1 := fun n hn h K hk => nSign hE n hn h K hk
  clear hE
  cbv
  refine hR _ _ _ _ _ _ _ _ _ rfl ?_
  cbv
  refine LoopP.on (fun x : H × Nat => [(10, .pointer (some ⟨h.next, 0, none⟩)), (1, .func (.func 65) #[] #[]), (2, .bool false)]) (fun x => x.1) (fun x => x.1.m.get h.next = some (.iter ⟨⟨l⟩⟩ x.2) ∧ x.2 ≤ l.length ∧ ∀ j, j < x.2 → signB (l.getD j 0) = true) (fun x => l.length - x.2) (h.push (.iter ⟨⟨l⟩⟩ 0), 0) rfl (Less.cons rfl (Less.cons rfl (Less.cons rfl (Less.nil _)))) ⟨by simp [push_get], Nat.zero_le _, fun j hj => absurd hj (Nat.not_lt_zero _)⟩ ?_
  rintro ⟨g, p⟩ ⟨i1, i2, i3⟩
  have i1 : g.m.get h.next = some (.iter ⟨⟨l⟩⟩ p) := i1
  have i2 : p ≤ l.length := i2
  have i3 : ∀ j, j < p → signB (l.getD j 0) = true := i3
  by_cases hp : p < l.length
  · have hN := fun q dst ty pos after guard x K hx hk => raw_next (E := E) (l := q) (h := g) (dst := dst) (ty := ty) (pos := pos) (after := after) (guard := guard) (x := x) (K := K) hx i1 hp hk
    obtain ⟨d1, d2⟩ := dec_at hp
    have hru : (Utf8.decode ⟨⟨l⟩⟩ p).1 < 2147483648 := by
      have := Lib.decodeL_rune (l.drop p)
      rw [show Lib.decodeL (l.drop p) = Utf8.decode ⟨⟨l⟩⟩ p from Lib.decodeL_drop ⟨⟨l⟩⟩ p] at this
      omega
    have n2 := fun h K hk => n1 (Utf8.decode ⟨⟨l⟩⟩ p).1 hru h K hk
    rw [d1] at n2
    cases hc : signB (l.getD p 0) with
    | true =>
      rw [hc] at n2
      have hw := d2 hc
      cbv
      refine hN _ _ _ _ _ _ _ _ rfl ?_
      cbv
      refine .inl (n2 _ _ ?_)
      cbv
      refine And.intro hB ?_
      cbv
      refine ⟨(g.put h.next (some (.iter ⟨⟨l⟩⟩ (p + (Utf8.decode ⟨⟨l⟩⟩ p).2))), p + 1), Less.cons rfl (Less.cons rfl (Less.cons rfl (Less.nil _))), rfl, ⟨by rw [put_get, if_pos rfl, hw], hp, fun j hj => ?_⟩, (by show l.length - (p + 1) < l.length - p; omega)⟩
      rcases Nat.lt_or_ge j p with q | q
      · exact i3 j q
      · rw [show j = p by have : j < p + 1 := hj; omega]; exact hc
    | false =>
      rw [hc] at n2
      cbv
      refine hN _ _ _ _ _ _ _ _ rfl ?_
      cbv
      refine .inl (n2 _ _ ?_)
      cbv
      refine And.intro hB ?_
      cbv
      exact ⟨_, rfl, hk2 p hp (take_all i3 hp hc) _⟩
  · obtain rfl : p = l.length := by omega
    have hN := fun q dst ty pos after guard x K hx hk => raw_next_end (E := E) (l := q) (h := g) (dst := dst) (ty := ty) (pos := pos) (after := after) (guard := guard) (x := x) (K := K) hx i1 (Nat.le_refl _) hk
    cbv
    refine hN _ _ _ _ _ _ _ _ rfl ?_
    cbv
    exact ⟨_, rfl, hk1 (drop_all i3) _⟩
theorem tlfC (l : Bs) (hl : l.length ≤ 1000000) (h : H) (K : Value → H → Prop) (hk : ∀ h', K (.string ⟨⟨l.dropWhile signB⟩⟩) h') : CallP E 64 [.string ⟨⟨l⟩⟩, .func (.func 65) #[] #[]] h K := by
  refine CallP.ofE hE rfl Tryz.func64 rfl (Nat.le_of_ble_eq_true rfl) ?_
  have hS : isString E.1 9 = true := by rw [hE]; exact stringT
  have n1 := fun h K hk1 hk2 => idxSign hE l hl h K hk1 hk2
  clear hE
  cbv
  refine .inl (n1 _ _ (fun e h' => ?_) (fun i hi e h' => ?_))
  · rw [e] at hk
    cbv
    refine And.intro (fun _ => ?_) (fun e => absurd rfl e)
    cbv
    exact ⟨_, rfl, hk _⟩
  · rw [e] at hk
    have ht : List.take (Nat.sub l.length i) (List.drop i l) = l.drop i := by
      show List.take (l.length - i) (List.drop i l) = _
      exact List.take_of_length_le (by rw [List.length_drop]; omega)
    have h1 : Nat.le i l.length := Nat.le_of_lt hi
    cbv
    refine And.intro (fun e => absurd e (by show ¬ ((i : Int) = -1); omega)) (fun _ => ?_)
    cbv
    refine And.intro hS (And.intro h1 (And.intro (Nat.le_refl _) ?_))
    rw [ht]
    exact ⟨_, rfl, hk _⟩
end
theorem tlf_ok (h : EMX.OK) : PrimOK Tryz.prog 64 tlfP := by
  intro args v hp
  unfold tlfP at hp
  split at hp
  · rename_i s f a b
    split at hp
    · rename_i h1 h2 h3 h4
      cases hp
      obtain ⟨⟨l⟩⟩ := s
      obtain ⟨a⟩ := a
      obtain ⟨b⟩ := b
      have h2 : a = [] := h2
      have h3 : b = [] := h3
      subst h2 h3
      obtain rfl := Nat.eq_of_beq_eq_true h1
      exact ⟨rfl, rfl, fun w hw hs => calls_of h (tlfC rfl l (Nat.le_of_ble_eq_true h4) GEv.h0 _ fun _ => rfl) rfl rfl hw hs⟩
    · cases hp
  · cases hp
theorem emokY (h : EMX.OK) : EMY.OK := by
  have h0 : PrimsOK Tryz.prog memoX := PrimsOK.of h
  have hl : PrimsOK Tryz.prog EMY.memo := .cons (tlf_ok h) h0
  exact ⟨fun f p args v hm hp => hl f p hm args v hp, h.mixed, h.names, h.clone, h.same, h.room⟩
end Go.Proofs.YtfgemjpoiconbaaGreatDoor.GEv

/- Attributes compared; elements' parts, by symbolic runs. -/
namespace Go.Proofs.YtfgemjpoiconbaaGreatDoor.GEv
open Go
set_option linter.unusedSimpArgs false
set_option linter.unusedVariables false
theorem attrFs : ∃ f1 f2 : Field, Tryz.prog.underlying 41 = some (.struct #[f1, f2]) ∧ f1.name ≠ "_" ∧ f2.name ≠ "_" ∧ f1.type = 9 ∧ f2.type = 9 ∧ f1.offset = 0 ∧ f2.offset = 1 := by
  have h1 : ((fieldsOf (Tryz.prog.underlying 41))[0]?).isSome = true := by kernel_rfl
  have h2 : ((fieldsOf (Tryz.prog.underlying 41))[1]?).isSome = true := by kernel_rfl
  have g1 : (((fieldsOf (Tryz.prog.underlying 41))[0]?).get h1).name = "Name" := by kernel_rfl
  have g2 : (((fieldsOf (Tryz.prog.underlying 41))[1]?).get h2).name = "Value" := by kernel_rfl
  exact ⟨((fieldsOf (Tryz.prog.underlying 41))[0]?).get h1, ((fieldsOf (Tryz.prog.underlying 41))[1]?).get h2, by kernel_rfl, by rw [g1]; decide, by rw [g2]; decide, by kernel_rfl, by kernel_rfl, by kernel_rfl, by kernel_rfl⟩
end Go.Proofs.YtfgemjpoiconbaaGreatDoor.GEv

/- Elements weighed, by symbolic runs: 'heavy'. -/
namespace Go.Proofs.YtfgemjpoiconbaaGreatDoor.GEv
open Go
set_option linter.unusedSimpArgs false
set_option linter.unusedVariables false
/-! ### loads -/
section loads
variable {P : Program} {h : H} {t : TypeId} {b off n i z : Nat} {c l : List Value} {e : Option TypeId} {f : Bool} {v : Value}
theorem read_cells (hg : h.m.get b = some (.cells c e f z)) (hn : c.length = n) : h.read b 0 n = some c := by
  unfold H.read
  rw [hg]
  simp only [cut]
  rw [if_pos (by omega), List.drop_zero, List.take_of_length_le (by omega)]
theorem read_sub (hr : h.read b off n = some l) (hv : l[i]? = some v) : h.read b (off + i) 1 = some [v] := by
  unfold H.read at hr ⊢
  split at hr
  · rename_i c' _ _ _ hg
    simp only [cut] at hr ⊢
    split at hr
    · rename_i hle
      cases hr
      have hlt := (List.getElem?_eq_some_iff.1 hv).1
      rw [List.length_take, List.length_drop] at hlt
      rw [if_pos (by omega), List.drop_eq_getElem_cons (show off + i < c'.length by omega), List.take_succ_cons, List.take_zero]
      rw [List.getElem?_take_of_lt (by omega), List.getElem?_drop] at hv
      rw [List.getElem?_eq_getElem (by omega)] at hv
      rw [Option.some.inj hv]
    · cases hr
  · cases hr
theorem ld_one (ha : isAgg P t = some false) (hs : sizeOf P t = some 1) (hr : h.read b off n = some l) (hv : l[i]? = some v) : h.load P t ⟨b, off + i, none⟩ = some v := by
  simp only [H.load, ha, hs, read_sub hr hv]
theorem ld_agg (ha : isAgg P t = some true) (hs : sizeOf P t = some n) (hr : h.read b off n = some l) : h.load P t ⟨b, off, none⟩ = some (.agg l.toArray) := by
  simp only [H.load, ha, hs, hr]
end loads
/-- What is known of the types. -/
structure TyOk (P : Program) : Prop where
  e0 : fOff P 25 0 = some 0
  e1 : fOff P 25 1 = some 1
  e2 : fOff P 25 2 = some 2
  e3 : fOff P 25 3 = some 3
  a0 : fOff P 41 0 = some 0
  a1 : fOff P 41 1 = some 1
  eS : sizeOf P 25 = some 4
  aS : sizeOf P 41 = some 2
  eA : isAgg P 25 = some true
  aA : isAgg P 41 = some true
  lS : sizeOf P 22 = some 1
  kS : sizeOf P 23 = some 1
  lA : isAgg P 22 = some false
  kA : isAgg P 23 = some false
  sS : sizeOf P 9 = some 1
  sA : isAgg P 9 = some false
  iS : sizeOf P 3 = some 1
  iA : isAgg P 3 = some false
  lT : isSlice P (some 22) = true
  kT : isSlice P (some 23) = true
  lZ : iSize P 22 = some 2
  kZ : iSize P 23 = some 4
  str : isString P 9 = true
  bool : isBoolT P 4 = true
theorem tyOk : TyOk EM.P := ⟨by kernel_rfl, by kernel_rfl, by kernel_rfl, by kernel_rfl, by kernel_rfl, by kernel_rfl, by kernel_rfl, by kernel_rfl, by kernel_rfl, by kernel_rfl, by kernel_rfl, by kernel_rfl, by kernel_rfl, by kernel_rfl, by kernel_rfl, by kernel_rfl, by kernel_rfl, by kernel_rfl, by kernel_rfl, by kernel_rfl, by kernel_rfl, by kernel_rfl, by kernel_rfl, by kernel_rfl⟩
/-! ### how heavy an element is -/
/-- Sizes that a machine may have. -/
inductive Big : El → Prop where
  | mk {n a k p} (hn : n.length ≤ 140737488351232) (ha : a.length ≤ 140737488351232) (hx : ∀ x ∈ a, x.1.length ≤ 140737488351232 ∧ x.2.length ≤ 140737488351232) (hk : k.length ≤ 140737488351232) (hs : ∀ e ∈ k, Big e) : Big (.mk n a k p)
theorem wrapI {z : Int} (h1 : -9223372036854775808 ≤ z) (h2 : z < 9223372036854775808) : IntKind.i64.wrap z = z := by
  unfold IntKind.wrap
  show (if (true && decide (z % 18446744073709551616 ≥ 9223372036854775808)) = true then z % 18446744073709551616 - 18446744073709551616 else z % 18446744073709551616) = z
  rw [Bool.true_and]
  by_cases h : z % 18446744073709551616 ≥ 9223372036854775808
  · rw [if_pos (by simpa using h)]; omega
  · rw [if_neg (by simpa using h)]; omega
theorem addr_add (b o n : Nat) : (⟨b, o, none⟩ : Addr).add n = ⟨b, o + n, none⟩ := by
  unfold Addr.add
  split
  · simp_all
  · rfl
/-- Subtraction over any number. -/
theorem raw_subI {E : Env} {l : L} {h : H} {dst : Option Nat} {ty pos after guard} {K : Value → H → Prop} {t : TypeId} {yt} {x y : Operand} {a b : Int} (hx : evL l x = some (.int .i64 a)) (hy : evL l y = some (.int .i64 b)) (h1 : -9223372036854775808 ≤ a - b) (h2 : a - b < 9223372036854775808) (hk : K (.int .i64 (a - b)) h) :
    RawP E l h ⟨dst, .binOp .sub t x y yt, ty, pos, after, guard⟩ K := ⟨fun tm hv => by
  refine OpP.val ?_ hk
  have q1 := evL_ok hv hx
  have q2 := evL_ok hv hy
  have e0 := sub_pure (P := E.P) (h := h) (dst := dst) (ty := ty) (pos := pos) (after := after) (guard := guard) (t := t) (yt := yt) q1 q2
  rw [wrapI h1 h2] at e0
  have hi : iar .i64 .sub a b = none ∨ iar .i64 .sub a b = some (a - b) := by
    unfold iar
    split
    · rename_i q; cases q
    · split
      · right; rename_i m n _ _ _ _; rename_i hle _; congr 1; exact Int.ofNat_sub (Nat.le_of_ble_eq_true hle)
      · left; rfl
    · left; rfl
  simp only [evOp, hBin, q1, q2]
  rw [show kEq IntKind.i64 IntKind.i64 = true from rfl]
  simp only [hInt]
  rcases hi with hi | hi
  · rw [show icmp BinOp.sub a b = none from rfl, hi]; exact e0
  · rw [show icmp BinOp.sub a b = none from rfl, hi]⟩
theorem cmpJ_of {op : BinOp} {a b : Int} {K : Bool → Prop} {d : Prop} (h : cmpI op a b K d) : cmpJ op a b K d := by
  unfold cmpJ
  split
  · rename_i x y
    have e1 : ((.ofNat x : Int) = .ofNat y) ↔ x = y := ⟨fun q => by injection q, fun q => by rw [q]⟩
    have e2 : ((.ofNat x : Int) < .ofNat y) ↔ x < y := Int.ofNat_lt
    have e3 : ((.ofNat x : Int) ≤ .ofNat y) ↔ x ≤ y := Int.ofNat_le
    have e4 : ((.ofNat y : Int) < .ofNat x) ↔ y < x := Int.ofNat_lt
    have e5 : ((.ofNat y : Int) ≤ .ofNat x) ↔ y ≤ x := Int.ofNat_le
    cases op <;> simp only [cmpI, cmpN, ne_eq, e1, e2, e3, e4, e5] at h ⊢ <;> exact h
  · exact h
/-- Subtraction of any two numbers. -/
theorem bin_subI {E : Env} {l : L} {h : H} {dst : Option Nat} {ty pos after guard} {K : Value → H → Prop} {Kb : Bool → Prop} {Kv : Value → Prop} {t : TypeId} {yt} {x y : Operand} {a b z : Int} (hz : a - b = z) (hx : evL l x = some (.int .i64 a)) (hy : evL l y = some (.int .i64 b)) (h1 : -9223372036854775808 ≤ z) (h2 : z < 9223372036854775808) (hkv : Kv (.int .i64 z) → K (.int .i64 z) h) (hk : Kv (.int .i64 z)) :
    cmpJ .sub a b Kb (ariJ .sub .i64 a b Kv (RawP E l h ⟨dst, .binOp .sub t x y yt, ty, pos, after, guard⟩ K)) := by
  subst hz
  have hr := raw_subI (E := E) (h := h) (dst := dst) (ty := ty) (pos := pos) (after := after) (guard := guard) (t := t) (yt := yt) hx hy h1 h2 (hkv hk)
  refine cmpJ_of ?_
  simp only [cmpI]
  unfold ariJ
  split
  · contradiction
  · rename_i m n _ _
    by_cases hle : n ≤ m ∧ m ≤ 4611686018427387904
    · left
      refine ⟨hle.1, hle.2, ?_⟩
      have : (Int.ofNat (m - n)) = Int.ofNat m - Int.ofNat n := Int.ofNat_sub hle.1
      rw [this]
      exact hk
    · right
      refine ⟨by omega, ?_⟩
      rw [wrapI h1 h2]
      exact hk
  · exact hr
end Go.Proofs.YtfgemjpoiconbaaGreatDoor.GEv

/- 'heavy', by a symbolic run. -/
namespace Go.Proofs.YtfgemjpoiconbaaGreatDoor.GEv
open Go
set_option linter.unusedSimpArgs false
set_option linter.unusedVariables false
set_option maxRecDepth 100000
attribute [local cbv_opaque] isString isSlice isBoolT fOff iSize eqNil zero H.load H.store H.push H.dip H.put List.length List.getD Nat.add Nat.sub Nat.mul List.take List.drop top Addr.add cmpJ ariJ
attribute [local cbv_eval] List.length_cons List.length_nil addr_add
end Go.Proofs.YtfgemjpoiconbaaGreatDoor.GEv

/- Names and values by their contracts; what is fair; small elements. -/
namespace Go.Proofs.YtfgemjpoiconbaaGreatDoor.GEv
open Go
set_option linter.unusedSimpArgs false
set_option linter.unusedVariables false
section
variable {E : Env} (hE : E = EMY)
include hE
theorem lenY {f : FuncId} {p : List UInt8 → Value} {m : Nat} {fn : Func} {c : Code} (hf : EMY.P.funcs[f]? = some fn) (hb : fn.body = some c) (hp : primOf EMY.memo f = some (lenP p m)) (l : List UInt8) (hl : l.length ≤ m) (h : H) (K : Value → H → Prop) (hk : K (p l) h) : CallP E f [.string ⟨⟨l⟩⟩] h K := by
  refine CallP.memo (v := p l) ?_ (by rw [hE]; exact ⟨_, _, hf, hb⟩) hk
  rw [hE]
  have : isLe (⟨⟨l⟩⟩ : ByteArray).size m = true := Nat.ble_eq_true_of_le hl
  simp only [memoOf, hp, lenP, this]
theorem yUnesc (l : List UInt8) (hl : l.length ≤ 100000) (h : H) (K : Value → H → Prop) (hk : K (optV (unescape l)) h) : CallP E 51 [.string ⟨⟨l⟩⟩] h K := lenY hE Tryz.func51 rfl rfl l hl h K hk
theorem yQual (l : List UInt8) (hl : l.length ≤ 1000000) (h : H) (K : Value → H → Prop) (hk : K (.bool (isQual l)) h) : CallP E 66 [.string ⟨⟨l⟩⟩] h K := lenY hE Tryz.func66 rfl rfl l hl h K hk
theorem yrQual (l : List UInt8) (hl : l.length ≤ 1000000) (h : H) (K : Value → H → Prop) (hk : K (.bool (isQual l)) h) : CallP E 21 [.string ⟨⟨l⟩⟩] h K := lenY hE Tryz.func21 rfl rfl l hl h K hk
end
/-! ### small elements -/
inductive Small : El → Prop where
  | mk {n a k p} (hn : n.length ≤ 10000) (ha : a.length ≤ 1000) (hx : ∀ x ∈ a, x.1.length ≤ 10000 ∧ x.2.length ≤ 10000) (hk : k.length ≤ 1000) (hs : ∀ e ∈ k, Small e) : Small (.mk n a k p)
/-! ### fair elements -/
def dupA (l : List (Bs × Bs)) (n : Bs) : Bool := l.any fun x => x.1 == n
end Go.Proofs.YtfgemjpoiconbaaGreatDoor.GEv

