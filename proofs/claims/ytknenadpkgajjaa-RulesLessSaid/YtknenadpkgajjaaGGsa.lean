import Derived.Test.YtknenadpkgajjaaGSyF
import Derived.Test.YtknenadpkgajjaaGSyG
import Derived.Test.YtknenadpkgajjaaGEvT
import Derived.Lib.SlicesCompact
/- Rule programs and their machines: what they are, how they go (plain). -/
namespace Go.Proofs.Ytknenadpkgajjaa.GEv
set_option linter.unusedVariables false
set_option linter.unusedSimpArgs false
abbrev Bs := List UInt8
abbrev LitS := Int × Bool
abbrev CondS := Bs × Bs × Int
structure RuleS where
  st : Int
  ifs : List LitS
  conds : List CondS
  thens : List LitS
/-- While, limit, then. -/
abbrev CtrS := Int × Int × Int
structure UserS where
  item : Bs
  event : Int
  whil : List LitS
  thn : Int
structure PrS where
  flags : Int
  lasting : Int
  first : List Int
  over : List Int
  frm : Int
  files : List Bs
  rules : List RuleS
  ctrs : List CtrS
  users : List UserS
def Wth (n a b : Int) : Prop := a ≤ n ∧ n < b
instance (n a b : Int) : Decidable (Wth n a b) := inferInstanceAs (Decidable (_ ∧ _))
def Rising (las : Int) (l : List Int) : Prop := ∀ i x, l[i]? = some x → Wth x 0 las ∧ ∀ y, i ≠ 0 → l[i - 1]? = some y → y < x
def LitsOk (n : Int) (l : List LitS) : Prop := ∀ x ∈ l, Wth x.1 0 n
def ops6 : List Bs := [[60], [60, 61], [61], [33, 61], [62, 61], [62]]
def CondOk (files : List Bs) (c : CondS) : Prop := c.1 ∈ files ∧ c.2.1 ∈ ops6
structure RuleOk (p : PrS) (r : RuleS) : Prop where
  st : Wth r.st 1 21
  ne : r.thens ≠ []
  ifs : LitsOk p.flags r.ifs
  thens : LitsOk p.flags r.thens
  conds : ∀ c ∈ r.conds, CondOk p.files c
def FilesOk (l : List Bs) : Prop := l.Nodup ∧ l.length ≤ 6
structure RulesOk (p : PrS) : Prop where
  ok : ∀ r ∈ p.rules, RuleOk p r
  up : ∀ i r r', p.rules[i]? = some r → p.rules[i + 1]? = some r' → r.st ≤ r'.st
  len : p.rules.length ≤ 1500
def CtrOk (p : PrS) (c : CtrS) : Prop := Wth c.1 0 p.lasting ∧ Wth c.2.1 1 101 ∧ Wth c.2.2 p.lasting p.flags
structure UserOk (p : PrS) (u : UserS) : Prop where
  thn : Wth u.thn p.lasting p.flags
  whil : LitsOk p.lasting u.whil
def lastSt (l : List RuleS) : Int := match l.getLast? with
  | some r => r.st
  | none => 0
structure StrataOk (p : PrS) : Prop where
  lst : ∀ r ∈ p.rules, ∀ x ∈ r.thens, x.1 < p.lasting → r.st = lastSt p.rules
  lap : ∀ r ∈ p.rules, ∀ r' ∈ p.rules, ∀ x ∈ r.thens, ∀ y ∈ r'.ifs, x.1 = y.1 → p.lasting ≤ x.1 → r.st < r'.st
structure IsOk (p : PrS) : Prop where
  flags : Wth p.flags 0 801
  lasting : Wth p.lasting 0 (p.flags + 1)
  frm : Wth p.frm 1 21
  first : Rising p.lasting p.first
  over : Rising p.lasting p.over
  files : FilesOk p.files
  rules : RulesOk p
  ctrs : ∀ c ∈ p.ctrs, CtrOk p c
  users : ∀ u ∈ p.users, UserOk p u
  strata : StrataOk p

/-! ### how a machine goes -/
def holdsS (n : Int) (op : Bs) (b : Int) : Bool :=
  if op = [60] then decide (n < b) else if op = [60, 61] then decide (n ≤ b) else if op = [61] then decide (n = b) else if op = [33, 61] then decide (n ≠ b) else if op = [62, 61] then decide (b ≤ n) else decide (b < n)
/-- Flags; the file, as a function; counts. -/
structure StS where
  u : List Bool
  f : Bs → Int
  c : List Int
def upS (u : List Bool) (n : Int) : Bool := match n with
  | .ofNat k => u.getD k false
  | _ => false
def litsS (u : List Bool) (l : List LitS) : Bool := l.all fun x => upS u x.1 != x.2
def condsS (f : Bs → Int) (l : List CondS) : Bool := l.all fun x => holdsS (f x.1) x.2.1 x.2.2
def ruleS (u : List Bool) (f : Bs → Int) (r : RuleS) : Bool := litsS u r.ifs && condsS f r.conds
def setS (u : List Bool) (x : LitS) : List Bool := u.set x.1.toNat x.2
def setsS (u : List Bool) (l : List LitS) : List Bool := l.foldl setS u
def thenS (u : List Bool) (f : Bs → Int) (l : List RuleS) : List LitS := l.flatMap fun r => if ruleS u f r then r.thens else []
def stratumS (u : List Bool) (f : Bs → Int) (l : List RuleS) : List Bool := setsS u (thenS u f l)
/-- Through the strata. -/
def goL (frm : Int) (f : Bs → Int) : Nat → List RuleS → List Bool → List Bool
  | 0, _, u => u
  | _, [], u => u
  | n + 1, r :: t, u => goL frm f n (t.dropWhile fun x => decide (x.st = r.st)) (if frm ≤ r.st then stratumS u f (r :: t.takeWhile fun x => decide (x.st = r.st)) else u)
def roundS (p : PrS) (frm : Int) (f : Bs → Int) (u : List Bool) : List Bool :=
  let v := goL frm f p.rules.length p.rules u
  v.take p.lasting.toNat ++ List.replicate (v.length - p.lasting.toNat) false
def goesS (p : PrS) (f : Bs → Int) : Nat → List Bool → Option (List Bool)
  | 0, _ => none
  | n + 1, u => if u.take p.lasting.toNat = (roundS p 1 f u).take p.lasting.toNat then some (roundS p 1 f u) else goesS p f n (roundS p 1 f u)
def initU (p : PrS) : List Bool := p.first.foldl (fun u n => u.set n.toNat true) (List.replicate p.flags.toNat false)
def newS (p : PrS) : Option StS := (goesS p (fun _ => 0) 100 (initU p)).map fun u => ⟨u, fun _ => 0, List.replicate p.ctrs.length 0⟩
structure ActS where
  kind : Int
  item : Bs
  event : Int
  file : Bs
  n : Int
/-- A tick of the counters from one on: flags, counts, was one full? -/
def tickL : List CtrS → List Int → List Bool → Bool → List Int × List Bool × Bool
  | k :: r, c :: cs, u, any =>
    if upS u k.1 = true then
      if c + 1 = k.2.1 then
        let q := tickL r cs (u.set k.2.2.toNat true) true
        ((c + 1) :: q.1, q.2)
      else
        let q := tickL r cs u any
        ((c + 1) :: q.1, q.2)
    else
      let q := tickL r cs u any
      (0 :: q.1, q.2)
  | _, cs, u, any => (cs, u, any)
/-- An event from without: what comes of it, or an error. -/
def userS (p : PrS) (s : StS) (a : ActS) : Int × StS :=
  if p.users.any (fun x => decide (x.item = a.item)) = false then (1, s) else
  match p.users.find? (fun x => decide (x.item = a.item) && decide (x.event = a.event) && litsS s.u x.whil) with
  | none => (8, s)
  | some x => (0, { s with u := roundS p p.frm s.f (s.u.set x.thn.toNat true) })
def writeS (p : PrS) (s : StS) (a : ActS) : Int × StS :=
  if a.file ∈ p.files ∧ -1000000 ≤ a.n ∧ a.n ≤ 1000000 then (0, { s with f := fun x => if x = a.file then a.n else s.f x }) else (1, s)
def tickS (p : PrS) (s : StS) : StS :=
  let q := tickL p.ctrs s.c s.u false
  { s with c := q.1, u := if q.2.2 then roundS p p.frm s.f q.2.1 else q.2.1 }
def actS (p : PrS) (s : StS) (a : ActS) : Int × StS :=
  if a.kind = 1 then userS p s a else if a.kind = 2 then writeS p s a else (0, tickS p s)
def doS (p : PrS) (s : StS) (a : ActS) : Int × StS :=
  if a.kind < 1 ∨ 3 < a.kind then (1, s) else
  if p.over.any (upS s.u) then (9, s) else
  match actS p s a with
  | (0, t) => match goesS p t.f 100 t.u with
    | some u => (0, { t with u := u })
    | none => (4, s)
  | (e, _) => (e, s)
end Go.Proofs.Ytknenadpkgajjaa.GEv

/- Rule programs: plain laws of how a machine goes. -/
namespace Go.Proofs.Ytknenadpkgajjaa.GEv
set_option linter.unusedVariables false
set_option linter.unusedSimpArgs false
/-- What does not last is down. -/
def Quiet (p : PrS) (u : List Bool) : Prop := u.drop p.lasting.toNat = List.replicate (u.length - p.lasting.toNat) false
theorem setS_len (u : List Bool) (x : LitS) : (setS u x).length = u.length := List.length_set
theorem setsS_len : ∀ (l : List LitS) (u : List Bool), (setsS u l).length = u.length
  | [], _ => rfl
  | x :: l, u => (setsS_len l (setS u x)).trans (setS_len u x)
theorem stratumS_len (u : List Bool) (f : Bs → Int) (l : List RuleS) : (stratumS u f l).length = u.length := setsS_len _ _
theorem goL_len (frm : Int) (f : Bs → Int) : ∀ (n : Nat) (l : List RuleS) (u : List Bool), (goL frm f n l u).length = u.length
  | 0, _, _ => rfl
  | n + 1, [], u => rfl
  | n + 1, r :: t, u => by
    rw [goL, goL_len frm f n]
    split
    · exact stratumS_len _ _ _
    · rfl
theorem roundS_len (p : PrS) (frm : Int) (f : Bs → Int) (u : List Bool) : (roundS p frm f u).length = u.length := by
  unfold roundS
  have := goL_len frm f p.rules.length p.rules u
  simp only [List.length_append, List.length_take, List.length_replicate, this]
  omega
theorem roundS_quiet (p : PrS) (frm : Int) (f : Bs → Int) (u : List Bool) : Quiet p (roundS p frm f u) := by
  unfold Quiet
  rw [roundS_len]
  unfold roundS
  have := goL_len frm f p.rules.length p.rules u
  simp only [this]
  by_cases h : p.lasting.toNat ≤ u.length
  · rw [List.drop_append_of_le_length (by simp [this]; omega), List.drop_of_length_le (by simp [this]; omega), List.nil_append]
  · rw [show u.length - p.lasting.toNat = 0 by omega]
    simp only [List.replicate_zero, List.append_nil]
    exact List.drop_of_length_le (by simp [this]; omega)
theorem quiet_eq {p : PrS} {u v : List Bool} (hu : Quiet p u) (hv : Quiet p v) (hl : u.length = v.length) (ht : u.take p.lasting.toNat = v.take p.lasting.toNat) : u = v := by
  rw [← List.take_append_drop p.lasting.toNat u, ← List.take_append_drop p.lasting.toNat v, ht]
  congr 1
  rw [hu, hv, hl]
theorem goesS_rest (p : PrS) (f : Bs → Int) : ∀ (n : Nat) (u v : List Bool), Quiet p u → goesS p f n u = some v → v.length = u.length ∧ Quiet p v ∧ roundS p 1 f v = v
  | 0, u, v, _, h => by cases h
  | n + 1, u, v, hq, h => by
    simp only [goesS] at h
    split at h
    · rename_i ht
      injection h with h
      subst h
      have e := quiet_eq hq (roundS_quiet p 1 f u) (roundS_len p 1 f u).symm ht
      refine ⟨roundS_len _ _ _ _, roundS_quiet _ _ _ _, ?_⟩
      rw [← e]
      exact e.symm
    · obtain ⟨h1, h2, h3⟩ := goesS_rest p f n _ v (roundS_quiet p 1 f u) h
      exact ⟨h1.trans (roundS_len _ _ _ _), h2, h3⟩
theorem quiet_up {p : PrS} {u : List Bool} (h : Quiet p u) {k : Nat} (hk : p.lasting.toNat ≤ k) : u.getD k false = false := by
  rw [List.getD_eq_getElem?_getD]
  have e : u[k]? = (u.drop p.lasting.toNat)[k - p.lasting.toNat]? := by rw [List.getElem?_drop]; congr 1; omega
  rw [e, h, List.getElem?_replicate]
  split <;> rfl
theorem tickL_len : ∀ (k : List CtrS) (c : List Int) (u : List Bool) (any : Bool), (tickL k c u any).1.length = c.length ∧ (tickL k c u any).2.1.length = u.length
  | [], c, u, any => by simp [tickL]
  | _ :: _, [], u, any => by simp [tickL]
  | k :: r, c :: cs, u, any => by
    simp only [tickL]
    split
    · split
      · have := tickL_len r cs (u.set k.2.2.toNat true) true
        simp only [List.length_cons, this, List.length_set, and_self]
      · have := tickL_len r cs u any
        simp only [List.length_cons, this, and_self]
    · have := tickL_len r cs u any
      simp only [List.length_cons, this, and_self]
theorem tickL_any : ∀ (k : List CtrS) (c : List Int) (u : List Bool) (any : Bool), (any = true → (tickL k c u any).2.2 = true) ∧ ((tickL k c u any).2.2 = false → (tickL k c u any).2.1 = u)
  | [], c, u, any => by simp [tickL]
  | _ :: _, [], u, any => by simp [tickL]
  | k :: r, c :: cs, u, any => by
    simp only [tickL]
    split
    · split
      · have := tickL_any r cs (u.set k.2.2.toNat true) true
        refine ⟨fun _ => this.1 rfl, fun h => ?_⟩
        have h : (tickL r cs (u.set k.2.2.toNat true) true).2.2 = false := h
        rw [this.1 rfl] at h
        cases h
      · exact tickL_any r cs u any
    · exact tickL_any r cs u any
/-- Counts stay small. -/
theorem tickL_le (B : Int) (hB : 0 ≤ B) : ∀ (k : List CtrS) (c : List Int) (u : List Bool) (any : Bool), (∀ x ∈ c, 0 ≤ x ∧ x ≤ B) → ∀ x ∈ (tickL k c u any).1, 0 ≤ x ∧ x ≤ B + 1
  | [], c, u, any, h => by
    simp only [tickL]
    intro x hx
    have := h x hx
    omega
  | _ :: _, [], u, any, h => by simp [tickL]
  | k :: r, c :: cs, u, any, h => by
    have h0 := h c (List.mem_cons_self ..)
    have hr : ∀ x ∈ cs, 0 ≤ x ∧ x ≤ B := fun x hx => h x (List.mem_cons_of_mem _ hx)
    simp only [tickL]
    intro x hx
    split at hx
    · split at hx
      · rcases List.mem_cons.1 hx with rfl | hx
        · omega
        · exact tickL_le B hB r cs _ _ hr x hx
      · rcases List.mem_cons.1 hx with rfl | hx
        · omega
        · exact tickL_le B hB r cs _ _ hr x hx
    · rcases List.mem_cons.1 hx with rfl | hx
      · omega
      · exact tickL_le B hB r cs _ _ hr x hx
/-- A state in which a machine stands between two acts. -/
structure StOk (p : PrS) (B : Int) (s : StS) : Prop where
  len : s.u.length = p.flags.toNat
  quiet : Quiet p s.u
  rest : roundS p 1 s.f s.u = s.u
  clen : s.c.length = p.ctrs.length
  cnt : ∀ x ∈ s.c, 0 ≤ x ∧ x ≤ B
  file : ∀ x, -1000000 ≤ s.f x ∧ s.f x ≤ 1000000
theorem newS_ok {p : PrS} (hp : IsOk p) {s : StS} (h : newS p = some s) : StOk p 0 s := by
  unfold newS at h
  obtain ⟨u, hu, rfl⟩ := Option.map_eq_some_iff.1 h
  have hl : ∀ (l : List Int) (u : List Bool), (l.foldl (fun u n => u.set n.toNat true) u).length = u.length := by
    intro l
    induction l with
    | nil => intro u; rfl
    | cons a l ih => intro u; rw [List.foldl_cons, ih, List.length_set]
  have hlen : (initU p).length = p.flags.toNat := by
    unfold initU
    rw [hl, List.length_replicate]
  have hq : Quiet p (initU p) := by
    have main : ∀ (l : List Int) (u : List Bool), (∀ x ∈ l, Wth x 0 p.lasting) → Quiet p u → Quiet p (l.foldl (fun u n => u.set n.toNat true) u) := by
      intro l
      induction l with
      | nil => intro u _ h; exact h
      | cons a l ih =>
        intro u hx h
        rw [List.foldl_cons]
        refine ih _ (fun x hx' => hx x (List.mem_cons_of_mem _ hx')) ?_
        have ha := hx a (List.mem_cons_self ..)
        have ha : 0 ≤ a ∧ a < p.lasting := ha
        unfold Quiet at h ⊢
        rw [List.length_set, List.drop_set_of_lt (by omega)]
        exact h
    refine main _ _ (fun x hx => ?_) ?_
    · obtain ⟨i, hi, rfl⟩ := List.mem_iff_getElem.1 hx
      exact (hp.first i _ (List.getElem?_eq_getElem hi)).1
    · unfold Quiet
      simp
  obtain ⟨h1, h2, h3⟩ := goesS_rest p _ 100 _ u hq hu
  exact ⟨h1.trans hlen, h2, h3, by simp, fun x hx => by rw [List.eq_of_mem_replicate hx]; omega, fun x => by show -1000000 ≤ (0 : Int) ∧ (0 : Int) ≤ 1000000; omega⟩
theorem doS_ok {p : PrS} {B : Int} (hB : 0 ≤ B) {s : StS} (hs : StOk p B s) (a : ActS) : StOk p (B + 1) (doS p s a).2 := by
  have h0 : StOk p (B + 1) s := ⟨hs.len, hs.quiet, hs.rest, hs.clen, fun x hx => by have := hs.cnt x hx; omega, hs.file⟩
  have fin : ∀ t : StS, t.u.length = p.flags.toNat → Quiet p t.u → t.c.length = p.ctrs.length → (∀ x ∈ t.c, 0 ≤ x ∧ x ≤ B + 1) → (∀ x, -1000000 ≤ t.f x ∧ t.f x ≤ 1000000) →
      StOk p (B + 1) (match goesS p t.f 100 t.u with | some u => ((0 : Int), { t with u := u }) | none => (4, s)).2 := by
    intro t h1 h2 h3 h4 h5
    cases hg : goesS p t.f 100 t.u with
    | none => exact h0
    | some u =>
      obtain ⟨q1, q2, q3⟩ := goesS_rest p t.f 100 t.u u h2 hg
      exact ⟨q1.trans h1, q2, q3, h3, h4, h5⟩
  unfold doS
  split
  · exact h0
  split
  · exact h0
  have hx : (actS p s a).1 = 0 → (actS p s a).2.u.length = p.flags.toNat ∧ Quiet p (actS p s a).2.u ∧ (actS p s a).2.c.length = p.ctrs.length ∧ (∀ x ∈ (actS p s a).2.c, 0 ≤ x ∧ x ≤ B + 1) ∧ ∀ x, -1000000 ≤ (actS p s a).2.f x ∧ (actS p s a).2.f x ≤ 1000000 := by
    unfold actS
    split
    · unfold userS
      split
      · intro h; cases h
      · split
        · intro h; cases h
        · intro _
          exact ⟨by rw [show ∀ u, ({ s with u := u } : StS).u = u from fun _ => rfl, roundS_len, List.length_set]; exact hs.len, roundS_quiet _ _ _ _, hs.clen, h0.cnt, hs.file⟩
    split
    · unfold writeS
      split
      · rename_i hw
        intro _
        refine ⟨hs.len, hs.quiet, hs.clen, h0.cnt, fun x => ?_⟩
        show -1000000 ≤ (if x = a.file then a.n else s.f x) ∧ (if x = a.file then a.n else s.f x) ≤ 1000000
        split
        · exact ⟨hw.2.1, hw.2.2⟩
        · exact hs.file x
      · intro h; cases h
    · intro _
      unfold tickS
      have hl := tickL_len p.ctrs s.c s.u false
      have ha := tickL_any p.ctrs s.c s.u false
      refine ⟨?_, ?_, hl.1.trans hs.clen, tickL_le B hB _ _ _ _ hs.cnt, hs.file⟩
      · show (if (tickL p.ctrs s.c s.u false).2.2 = true then _ else _ : List Bool).length = _
        split
        · rw [roundS_len]; exact hl.2.trans hs.len
        · exact hl.2.trans hs.len
      · show Quiet p (if (tickL p.ctrs s.c s.u false).2.2 = true then _ else _)
        split
        · exact roundS_quiet _ _ _ _
        · rename_i hn
          rw [ha.2 (by simpa using hn)]
          exact hs.quiet
  split
  · rename_i t ht
    rw [ht] at hx
    obtain ⟨h1, h2, h3, h4, h5⟩ := hx rfl
    exact fin t h1 h2 h3 h4 h5
  · exact h0
/-- What errs changes nothing. -/
theorem doS_err {p : PrS} {s : StS} {a : ActS} (h : (doS p s a).1 ≠ 0) : (doS p s a).2 = s := by
  unfold doS at h ⊢
  split
  · rfl
  split
  · rfl
  rename_i h1 h2
  rw [if_neg h1, if_neg h2] at h
  split
  · rename_i t ht
    rw [ht] at h
    simp only at h
    split
    · rename_i u hu
      rw [hu] at h
      exact absurd rfl h
    · rfl
  · rfl
/-- Where it came to rest it rests. -/
theorem doS_rest {p : PrS} {B : Int} {s : StS} (hs : StOk p B s) {x : Bs} (hx : x ∈ p.files) : let q := doS p s ⟨2, [], 0, x, s.f x⟩; (q.1 = 0 ∨ q.1 = 9) ∧ q.2 = s := by
  have e : (fun y => if y = x then s.f x else s.f y) = s.f := by
    funext y
    split
    · rename_i h; rw [h]
    · rfl
  have hw : writeS p s ⟨2, [], 0, x, s.f x⟩ = (0, s) := by
    unfold writeS
    rw [if_pos ⟨hx, (hs.file x).1, (hs.file x).2⟩]
    simp only [e]
  unfold doS
  rw [if_neg (by simp)]
  split
  · exact ⟨.inr rfl, rfl⟩
  · have ha : actS p s ⟨2, [], 0, x, s.f x⟩ = (0, s) := by
      unfold actS
      rw [if_neg (by simp), if_pos rfl]
      exact hw
    rw [ha]
    have hg : goesS p s.f 100 s.u = some s.u := by
      show goesS p s.f (99 + 1) s.u = _
      rw [goesS, hs.rest, if_pos rfl]
    simp [hg]
end Go.Proofs.Ytknenadpkgajjaa.GEv

/- What a symbolic run leaves to be shown, by rules; rows in memory. -/
namespace Go.Proofs.Ytknenadpkgajjaa.GEv
open Go
set_option linter.unusedSimpArgs false
set_option linter.unusedVariables false
/-! ### comparisons, sums -/
section
variable {E : Env} {h : H} {o : Oper} {t : TypeId} {K : Value → H → Prop}
theorem BinP.cmp {op : BinOp} {k : IntKind} {a b : Int} {c : Bool} (hc : icmp op a b = some c) (hk : K (.bool c) h) : BinP E h o op t (.int k a) (.int k b) K := ⟨fun tm x y yt ho q1 q2 => by
  obtain ⟨dst, op', ty, pos, after, guard⟩ := o
  simp only at ho
  subst ho
  refine OpP.val ?_ hk
  simp only [evOp, hBin, q1, q2, show kEq k k = true by simp [kEq], hInt, hc]⟩
theorem BinP.ofI {op : BinOp} {k : IntKind} {a b : Int} (h1 : cmpI op a b (fun c => K (.bool c) h) False) : BinP E h o op t (.int k a) (.int k b) K := by
  rcases cmpI_ok h1 with ⟨c, hc, hk⟩ | ⟨_, q⟩
  · exact .cmp hc hk
  · exact q.elim
theorem BinP.ofN {op : BinOp} {k : IntKind} {a b : Nat} (h1 : cmpN op a b (fun c => K (.bool c) h) False) : BinP E h o op t (.int k (.ofNat a)) (.int k (.ofNat b)) K := .ofI (cmpN_ok h1)
theorem BinP.ar {op : BinOp} {a b r : Int} (hc : icmp op a b = none) (hr : iar .i64 op a b = some r) (hk : K (.int .i64 r) h) : BinP E h o op t (.int .i64 a) (.int .i64 b) K := ⟨fun tm x y yt ho q1 q2 => by
  obtain ⟨dst, op', ty, pos, after, guard⟩ := o
  simp only at ho
  subst ho
  refine OpP.val ?_ hk
  simp only [evOp, hBin, q1, q2, show kEq IntKind.i64 IntKind.i64 = true from rfl, hInt, hc, hr]⟩
theorem BinP.add {a b : Nat} (hb : a + b ≤ 4611686018427387904) (hk : ∀ z, z = a + b → K (.int .i64 (.ofNat z)) h) : BinP E h o .add t (.int .i64 (.ofNat a)) (.int .i64 (.ofNat b)) K := by
  refine .ar rfl ?_ (hk _ rfl)
  simp only [iar]
  rw [Nat.ble_eq_true_of_le (show Nat.add a b ≤ 4611686018427387904 from hb)]
  rfl
theorem BinP.sub {a b : Nat} (hb : b ≤ a) (ha : a ≤ 4611686018427387904) (hk : ∀ z, z = a - b → K (.int .i64 (.ofNat z)) h) : BinP E h o .sub t (.int .i64 (.ofNat a)) (.int .i64 (.ofNat b)) K := by
  refine .ar rfl ?_ (hk _ rfl)
  simp only [iar]
  rw [Nat.ble_eq_true_of_le hb, Nat.ble_eq_true_of_le ha]
  rfl
/-- One more. -/
theorem BinP.inc {a : Nat} (hb : a + 1 ≤ 4611686018427387904) (hk : ∀ z, z = a + 1 → K (.int .i64 (.ofNat z)) h) : BinP E h o .add t (.int .i64 (.ofNat a)) (.int .i64 1) K := BinP.add (b := 1) hb hk
/-- One less. -/
theorem BinP.dec {a : Nat} (h1 : 1 ≤ a) (ha : a ≤ 4611686018427387904) (hk : ∀ z, z + 1 = a → K (.int .i64 (.ofNat z)) h) : BinP E h o .sub t (.int .i64 (.ofNat a)) (.int .i64 1) K := BinP.sub (b := 1) h1 ha (fun z hz => hk z (by omega))
/-- Held against nothing. -/
theorem BinP.gt0 {k : IntKind} {a : Nat} (h1 : 0 < a → K (.bool true) h) (h2 : a = 0 → K (.bool false) h) : BinP E h o .gtr t (.int k (.ofNat a)) (.int k 0) K := BinP.ofN (b := 0) ⟨h1, fun q => h2 (by omega)⟩
theorem BinP.eq0 {k : IntKind} {a : Nat} (h1 : a = 0 → K (.bool true) h) (h2 : 0 < a → K (.bool false) h) : BinP E h o .eql t (.int k (.ofNat a)) (.int k 0) K := BinP.ofN (b := 0) ⟨h1, fun q => h2 (by omega)⟩
theorem BinP.ge0 {k : IntKind} {a : Nat} (h1 : K (.bool true) h) : BinP E h o .geq t (.int k (.ofNat a)) (.int k 0) K := BinP.ofN (b := 0) ⟨fun _ => h1, fun q => by omega⟩
theorem BinP.lt {k : IntKind} {a b : Nat} (h1 : a < b → K (.bool true) h) (h2 : b ≤ a → K (.bool false) h) : BinP E h o .lss t (.int k (.ofNat a)) (.int k (.ofNat b)) K := BinP.ofN ⟨h1, h2⟩
theorem BinP.str {op : BinOp} {a b : List UInt8} (h1 : strJ op ⟨⟨a⟩⟩ ⟨⟨b⟩⟩ (fun v => K v h) False) : BinP E h o op t (.string ⟨⟨a⟩⟩) (.string ⟨⟨b⟩⟩) K := ⟨fun tm x y yt ho q1 q2 => by
  obtain ⟨dst, op', ty, pos, after, guard⟩ := o
  simp only at ho
  subst ho
  rcases strJ_ok h1 with ⟨r, r1, r2⟩ | q
  · exact OpP.val (by simp only [evOp, hBin, q1, q2, r1]) r2
  · exact q.elim⟩
theorem BinP.boolE {a b : Bool} (ht : isBoolT E.P t = true) (hk : K (.bool (a == b)) h) : BinP E h o .eql t (.bool a) (.bool b) K := ⟨fun tm x y yt ho q1 q2 => by
  obtain ⟨dst, op', ty, pos, after, guard⟩ := o
  simp only at ho
  subst ho
  have e0 : hBin E.P tm h ⟨dst, .binOp .eql t x y yt, ty, pos, after, guard⟩ .eql t x y = evPure E.P tm h ⟨dst, .binOp .eql t x y yt, ty, pos, after, guard⟩ := by
    rw [hBin_other q1 q2 (fun _ _ _ _ q => by cases q) (fun _ _ q => by cases q)]
    rfl
  have hk : K (.bool (Bool.beqB a b)) h := by cases a <;> cases b <;> exact hk
  exact OpP.val (by simp only [evOp]; rw [e0]; exact bool_pure q1 q2 (isBoolT_ok ht) (.inl ⟨rfl, rfl⟩)) hk⟩
theorem BinP.boolN {a b : Bool} (ht : isBoolT E.P t = true) (hk : K (.bool (a != b)) h) : BinP E h o .neq t (.bool a) (.bool b) K := ⟨fun tm x y yt ho q1 q2 => by
  obtain ⟨dst, op', ty, pos, after, guard⟩ := o
  simp only at ho
  subst ho
  have e0 : hBin E.P tm h ⟨dst, .binOp .neq t x y yt, ty, pos, after, guard⟩ .neq t x y = evPure E.P tm h ⟨dst, .binOp .neq t x y yt, ty, pos, after, guard⟩ := by
    rw [hBin_other q1 q2 (fun _ _ _ _ q => by cases q) (fun _ _ q => by cases q)]
    rfl
  have hk : K (.bool (Bool.beqB a (Bool.notB b))) h := by cases a <;> cases b <;> exact hk
  exact OpP.val (by simp only [evOp]; rw [e0]; exact bool_pure q1 q2 (isBoolT_ok ht) (.inr ⟨rfl, rfl⟩)) hk⟩
/-- Something that bears a block, held against nil. -/
theorem BinP.nil {v u : Value} {b : Bool} (hf : (flat1 v && flat1 u) = false) (n1 : ∀ k a k' b, v = .int k a → u = .int k' b → False) (n2 : ∀ a b, v = .string a → u = .string b → False) (he : eqNil E.P t v u = some b) (hk : K (.bool b) h) : BinP E h o .eql t v u K := ⟨fun tm x y yt ho q1 q2 => by
  obtain ⟨dst, op', ty, pos, after, guard⟩ := o
  simp only at ho
  subst ho
  refine OpP.val ?_ hk
  simp only [evOp]
  rw [hBin_other q1 q2 n1 n2, hf]
  simp only [hNilEq, he]
  rfl⟩
theorem BinP.nilN {v u : Value} {b : Bool} (hf : (flat1 v && flat1 u) = false) (n1 : ∀ k a k' b, v = .int k a → u = .int k' b → False) (n2 : ∀ a b, v = .string a → u = .string b → False) (he : eqNil E.P t v u = some b) (hk : K (.bool (!b)) h) : BinP E h o .neq t v u K := ⟨fun tm x y yt ho q1 q2 => by
  obtain ⟨dst, op', ty, pos, after, guard⟩ := o
  simp only at ho
  subst ho
  refine OpP.val ?_ hk
  simp only [evOp]
  rw [hBin_other q1 q2 n1 n2, hf]
  simp only [hNilEq, he]
  rfl⟩
theorem flat2_of {v : Value} (h : flat1 v = true) : flat2 v = true := by
  cases v <;> first | exact h | (simp [flat1, flat] at h; done)
/-- Two flat values compared. -/
theorem BinP.flat {op : BinOp} {a b v : Value} (hf2 : (flat1 a && flat1 b) = true) (n1 : ∀ k m k' n, a = .int k m → b = .int k' n → False) (n2 : ∀ s u, a = .string s → b = .string u → False)
    (hg : ∀ x y, pureRun E.P (eqGuard op t x y a b) = some ()) (hb : pureRun E.P (binOp op t a b) = some v) (hf : flat2 v = true) (hk : K v h) : BinP E h o op t a b K := ⟨fun tm x y yt ho q1 q2 => by
  obtain ⟨dst, op', ty, pos, after, guard⟩ := o
  simp only at ho
  subst ho
  refine OpP.val ?_ hk
  have e1 : evA' tm x = a := by simp [evA', q1]
  have e2 : evA' tm y = b := by simp [evA', q2]
  have f1 : flat2 a = true := flat2_of (Bool.and_eq_true _ _ ▸ hf2 : flat1 a = true ∧ flat1 b = true).1
  have f2 : flat2 b = true := flat2_of (Bool.and_eq_true _ _ ▸ hf2 : flat1 a = true ∧ flat1 b = true).2
  have h1 : allFlat tm [x, y] = true := by simp [allFlat, q1, q2, f1, f2]
  have h2 : pureRun E.P (execOp (evA' tm) ⟨dst, .binOp op t x y yt, ty, pos, after, guard⟩) = some (.value v) := by
    simp only [execOp, e1, e2]
    have h4 : pureRun E.P (eqGuard op t x y a b >>= fun _ => binOp op t a b) = some v := by
      rw [pureRun_bind _ (hg x y)]; exact hb
    rw [pureRun_bind _ h4]
    rfl
  have e0 : evPure E.P tm h ⟨dst, .binOp op t x y yt, ty, pos, after, guard⟩ = some (.val v h) := by
    simp only [evPure, Op.operands, h1, if_true, h2, hf]
  simp only [evOp]
  rw [hBin_other q1 q2 n1 n2, hf2]
  exact e0⟩
end
/-! ### new blocks, blocks written -/
theorem PushP.get {h m : H} {o : AObj} (p : PushP h o m) : m.m.get h.next = some o := by rw [p.eq, push_get, if_pos rfl]
theorem PushP.next {h m : H} {o : AObj} (p : PushP h o m) : m.next = h.next + 1 := by rw [p.eq]; rfl
theorem PushP.grows {h m : H} {o : AObj} (p : PushP h o m) : Grows h m := by rw [p.eq]; exact (Grows.refl h).push o
theorem PutP.get {h m : H} {b : Nat} {o : AObj} (p : PutP h b o m) : m.m.get b = some o := by rw [p.eq, put_get, if_pos rfl]
theorem PutP.ne {h m : H} {b c : Nat} {o : AObj} (p : PutP h b o m) (hc : c ≠ b) : m.m.get c = h.m.get c := by rw [p.eq, put_get, if_neg hc]
theorem PutP.next {h m : H} {b : Nat} {o : AObj} (p : PutP h b o m) : m.next = h.next := by rw [p.eq]; rfl
theorem PutP.grows {g h m : H} {b : Nat} {o : AObj} (p : PutP h b o m) (hg : Grows g h) (hb : g.next ≤ b) : Grows g m := by rw [p.eq]; exact hg.put hb _
/-! ### what is read -/
theorem rb {h : H} {b i : Nat} {c : List Value} {e : Option TypeId} {f : Bool} {z : Nat} {v : Value} (B : h.m.get b = some (.cells c e f z)) (hv : c[i]? = some v) : RdP h b i 1 [v] := ⟨by
  have hi := (List.getElem?_eq_some_iff.1 hv).1
  unfold H.read
  rw [B]
  simp only [cut]
  rw [if_pos (by omega), List.drop_eq_getElem_cons hi, List.take_succ_cons, List.take_zero]
  rw [List.getElem?_eq_getElem hi] at hv
  rw [Option.some.inj hv]⟩
theorem rbw {h : H} {b n : Nat} {c : List Value} {e : Option TypeId} {f : Bool} {z : Nat} (B : h.m.get b = some (.cells c e f z)) (hn : c.length = n) : RdP h b 0 n c := ⟨by
  unfold H.read
  rw [B]
  simp only [cut]
  rw [if_pos (by omega), List.drop_zero, List.take_of_length_le (by omega)]⟩
theorem cut_cut {c l l' : List Value} {o n i k : Nat} (h : cut c o n = some l) (h' : cut l i k = some l') : cut c (o + i) k = some l' := by
  unfold cut at h h' ⊢
  split at h
  · rename_i h1
    cases h
    split at h'
    · rename_i h2
      cases h'
      rw [List.length_take, List.length_drop] at h2
      rw [if_pos (by omega), List.drop_take, List.drop_drop, List.take_take, show min k (n - i) = k by omega]
    · cases h'
  · cases h
theorem RdP.sub {h : H} {b o n i k : Nat} {l l' : List Value} (r : RdP h b o n l) (hc : cut l i k = some l') : RdP h b (o + i) k l' := ⟨by
  have := r.eq
  unfold H.read at this ⊢
  split at this
  · exact cut_cut this hc
  · cases this⟩
theorem cut_one {l : List Value} {i : Nat} {v : Value} (hv : l[i]? = some v) : cut l i 1 = some [v] := by
  have hi := (List.getElem?_eq_some_iff.1 hv).1
  unfold cut
  rw [if_pos (by omega), List.drop_eq_getElem_cons hi, List.take_succ_cons, List.take_zero]
  rw [List.getElem?_eq_getElem hi] at hv
  rw [Option.some.inj hv]
/-- A cell of what is read there. -/
theorem RdP.cell {h : H} {b o n i q : Nat} {l : List Value} {v : Value} (r : RdP h b o n l) (hv : l[i]? = some v) (hq : q = o + i) : RdP h b q 1 [v] := by
  rw [hq]
  exact r.sub (cut_one hv)
theorem RdP.grows {h h' : H} {b o n : Nat} {l : List Value} (r : RdP h b o n l) (hg : h'.m.get b = h.m.get b) : RdP h' b o n l := ⟨by
  have := r.eq
  unfold H.read at this ⊢
  rw [hg]
  exact this⟩
/-! ### rows -/
def NoSpot (a : Option Addr) : Prop := ∀ x, a = some x → x.spot = none
structure RowX (h : H) (S : Nat → Prop) (size : Nat) (l : List (List Value)) (a : Option Addr) : Prop where
  len : ∀ x ∈ l, x.length = size ∧ x.all one = true
  ex : (l = [] ∧ NoSpot a) ∨ ∃ b off, a = some ⟨b, off, none⟩ ∧ S b ∧ b < h.next ∧ RdP h b off (l.length * size) l.flatten
def CapOk (size n cap : Nat) (a : Option Addr) : Prop := n ≤ cap ∧ (cap < UNK ∨ (cap = UNK + size ∧ a ≠ none))
structure RowAt (h : H) (S : Nat → Prop) (size : Nat) (l : List (List Value)) (v : Value) : Prop where
  ex : ∃ a n cap, v = .slice a n cap ∧ l.length = n ∧ RowX h S size l a ∧ CapOk size n cap a
theorem RowX.mono {h h' : H} {S S' : Nat → Prop} {size : Nat} {l : List (List Value)} {a : Option Addr} (r : RowX h S size l a) (hS : ∀ b, S b → b < h.next → S' b) (hk : ∀ b, S b → b < h.next → h'.m.get b = h.m.get b) (hn : h.next ≤ h'.next) : RowX h' S' size l a := by
  refine ⟨r.len, ?_⟩
  rcases r.ex with q | ⟨b, off, q1, q2, q3, q4⟩
  · exact .inl q
  · exact .inr ⟨b, off, q1, hS b q2 q3, Nat.lt_of_lt_of_le q3 hn, q4.grows (hk b q2 q3)⟩
theorem RowAt.mono {h h' : H} {S S' : Nat → Prop} {size : Nat} {l : List (List Value)} {v : Value} (r : RowAt h S size l v) (hS : ∀ b, S b → b < h.next → S' b) (hk : ∀ b, S b → b < h.next → h'.m.get b = h.m.get b) (hn : h.next ≤ h'.next) : RowAt h' S' size l v := by
  obtain ⟨a, n, cap, h1, h2, h3, h4⟩ := r.ex
  exact ⟨a, n, cap, h1, h2, h3.mono hS hk hn, h4⟩
theorem RowX.grows {h h' : H} {S : Nat → Prop} {size : Nat} {l : List (List Value)} {a : Option Addr} (r : RowX h S size l a) (g : Grows h h') : RowX h' S size l a := r.mono (fun _ q _ => q) (fun b _ hb => g.keep b hb) g.next
theorem RowAt.grows {h h' : H} {S : Nat → Prop} {size : Nat} {l : List (List Value)} {v : Value} (r : RowAt h S size l v) (g : Grows h h') : RowAt h' S size l v := r.mono (fun _ q _ => q) (fun b _ hb => g.keep b hb) g.next
theorem flatten_len {size : Nat} : ∀ {l : List (List Value)}, (∀ x ∈ l, x.length = size ∧ x.all one = true) → l.flatten.length = l.length * size ∧ l.flatten.all one = true
  | [], _ => by simp
  | x :: l, h => by
    obtain ⟨h1, h2⟩ := flatten_len (l := l) (fun y hy => h y (List.mem_cons_of_mem _ hy))
    obtain ⟨h3, h4⟩ := h x (List.mem_cons_self ..)
    constructor
    · simp only [List.flatten_cons, List.length_append, List.length_cons, h1, h3, Nat.succ_mul]; omega
    · simp only [List.flatten_cons, List.all_append, h2, h4, Bool.and_self]
theorem flatten_cut {size : Nat} : ∀ {l : List (List Value)} {i : Nat} {x : List Value}, (∀ x ∈ l, x.length = size ∧ x.all one = true) → l[i]? = some x → cut l.flatten (i * size) size = some x
  | [], i, x, _, hi => by simp at hi
  | y :: l, 0, x, h, hi => by
    simp at hi
    subst hi
    have := (h y (List.mem_cons_self ..)).1
    unfold cut
    rw [if_pos (by simp [this]), Nat.zero_mul, List.drop_zero, List.flatten_cons, List.take_append_of_le_length (by omega), List.take_of_length_le (by omega)]
  | y :: l, i + 1, x, h, hi => by
    have hy := (h y (List.mem_cons_self ..)).1
    have ih := flatten_cut (l := l) (i := i) (fun z hz => h z (List.mem_cons_of_mem _ hz)) (by simpa using hi)
    unfold cut at ih ⊢
    split at ih
    · rename_i h1
      rw [if_pos (by rw [List.flatten_cons, List.length_append, hy, Nat.succ_mul]; omega), List.flatten_cons, List.drop_append, List.drop_of_length_le (by rw [hy, Nat.succ_mul]; omega), List.nil_append, hy, Nat.succ_mul, Nat.add_sub_cancel]
      exact ih
    · cases ih
/-- An element of a row. -/
theorem RowX.el {h : H} {S : Nat → Prop} {size : Nat} {l : List (List Value)} {a : Option Addr} {i : Nat} {x : List Value} (r : RowX h S size l a) (hi : l[i]? = some x) : ∃ b off, a = some ⟨b, off, none⟩ ∧ S b ∧ b < h.next ∧ x.length = size ∧ ∀ q, q = off + i * size → RdP h b q size x := by
  have hx := r.len x (List.mem_of_getElem? hi)
  rcases r.ex with ⟨rfl, _⟩ | ⟨b, off, q1, q2, q3, q4⟩
  · simp at hi
  · exact ⟨b, off, q1, q2, q3, hx.1, fun q hq => by rw [hq]; exact q4.sub (flatten_cut r.len hi)⟩
end Go.Proofs.Ytknenadpkgajjaa.GEv

/- The table of types; the environment. -/

namespace Go.Proofs.Ytknenadpkgajjaa.GEv
open Go
set_option linter.unusedSimpArgs false
set_option linter.unusedVariables false
def oneI (z : Value) : TyI := ⟨1, 8, false, z, .one⟩
def slI (e : Nat) : TyI := ⟨1, 24, false, .slice none 0 0, .sl e⟩
def sl0 : Value := .slice none 0 0
def i0 : Value := .int .i64 0
def fl1 (n : Nat) : List (Nat × Nat) := (List.range n).map fun i => (i, 1)
/-- What is asked of the types. -/
def tbG1 : List (Nat × TyI) := [
  (4, ⟨1, 1, false, .bool false, .bool⟩),
  (9, ⟨1, 16, false, .string ⟨#[]⟩, .str⟩),
  (36, ⟨10, 192, true, .agg #[.int .i64 0, .int .i64 0, .slice none 0 0, .slice none 0 0, .int .i64 0, .slice none 0 0, .slice none 0 0, .slice none 0 0, .slice none 0 0, .slice none 0 0], .st [(0, 1), (1, 1), (2, 1), (3, 1), (4, 1), (5, 1), (6, 1), (7, 1), (8, 1), (9, 1)]⟩),
  (29, slI 3),
  (30, slI 9),
  (31, slI 28),
  (32, slI 44),
  (33, slI 46),
  (25, slI 39),
  (26, slI 41),
  (24, slI 23),
  (28, ⟨4, 80, true, .agg #[.int .i64 0, .slice none 0 0, .slice none 0 0, .slice none 0 0], .st [(0, 1), (1, 1), (2, 1), (3, 1)]⟩),
  (39, ⟨2, 16, true, .agg #[.int .i64 0, .bool false], .st [(0, 1), (1, 1)]⟩),
  (23, ⟨2, 16, true, .agg #[.int .i64 0, .bool false], .st [(0, 1), (1, 1)]⟩),
  (41, ⟨3, 40, true, .agg #[.string ⟨#[]⟩, .string ⟨#[]⟩, .int .i64 0], .st [(0, 1), (1, 1), (2, 1)]⟩),
  (44, ⟨3, 24, true, .agg #[.int .i64 0, .int .i64 0, .int .i64 0], .st [(0, 1), (1, 1), (2, 1)]⟩),
  (46, ⟨4, 56, true, .agg #[.string ⟨#[]⟩, .int .i64 0, .slice none 0 0, .int .i64 0], .st [(0, 1), (1, 1), (2, 1), (3, 1)]⟩),
  (34, slI 57),
  (49, ⟨1, 8, false, .nilFunc, .one⟩),
  (66, ⟨1, 8, false, .nilFunc, .one⟩),
  (3, ⟨1, 8, false, .int .i64 0, .one⟩)]
def tbG0 : Tb := fun t => tbL tbG1 t
theorem tbOk0 : TbOk tbG0 Try.prog := .ofList (l := tbG1) (fun _ => rfl) (by kernel_rfl)
/-! ### the library's Sort and Compact -/
def intsV : List Value → Option (List Int)
  | [] => some []
  | v :: r => match v with
    | .int .i64 n => match intsV r with
      | some l => some (n :: l)
      | none => none
    | _ => none
def encIs (l : List Int) : List Value := l.map (.int .i64)
def sortL (l : List Int) : List Int := l.mergeSort fun x y => decide (x ≤ y)
def sortP : MPrim
  | [.slice none n c], h => match n with
    | 0 => some { v := .tuple #[] }
    | _ + 1 => none
  | [.slice (some ⟨b, o, none⟩) n c], h => match h.m.get b with
    | some (.cells cs el fu fz) => match Nat.ble fz o && Nat.ble n 1000000 && Nat.ble n c, cut cs o n with
      | true, some l => match intsV l with
        | some zs => some { v := .tuple #[], puts := [(b, .cells (over cs o (encIs (sortL zs))) el fu fz)] }
        | none => none
      | _, _ => none
    | _ => none
  | _, _ => none
def compP : MPrim
  | [.slice none n c], h => match n with
    | 0 => some { v := .slice none 0 c }
    | _ + 1 => none
  | [.slice (some ⟨b, o, none⟩) n c], h => match h.m.get b with
    | some (.cells cs el fu fz) => match Nat.ble fz o && Nat.ble n 1000000 && Nat.ble n c, cut cs o n with
      | true, some l => match intsV l with
        | some zs => some { v := .slice (some ⟨b, o, none⟩) (Lib.compact zs).length c, puts := [(b, .cells (over cs o (encIs (Lib.compact zs ++ List.replicate (zs.length - (Lib.compact zs).length) 0))) el fu fz)] }
        | none => none
      | _, _ => none
    | _ => none
  | _, _ => none
noncomputable def EG : Env := { EK with mem := [(62, sortP), (63, compP)] }
theorem tbOk {E : Env} (hE : E = EG) : TbOk tbG0 E.P := by rw [hE]; exact tbOk0
theorem CallP.ofG {E : Env} (hE : E = EG) {f : FuncId} {fn : Func} {c : Code} {args : List Value} {h : H} {K : Value → H → Prop} (hf : EG.P.funcs[f]? = some fn) (hb : fn.body = some c) (hm : memoOf EG.memo f args = none) (hq : mprimOf EG.mem f = none) (hl : Nat.ble args.length fn.ntmps = true)
    (hk : syZ tbG0 E fn.ntmps c (argsL 0 args) h (retZ tbG0 fn.results.toList K) (retZ tbG0 fn.results.toList K) (fun _ _ _ => False)) : CallP E f args h K := CallP.ofZ (tbOk hE) (by rw [hE]; exact hf) hb (by rw [hE]; exact hm) (by rw [hE]; exact hq) hl hk
end Go.Proofs.Ytknenadpkgajjaa.GEv

/- Small functions, by symbolic runs. -/
namespace Go.Proofs.Ytknenadpkgajjaa.GEv
open Go
set_option linter.unusedSimpArgs false
set_option linter.unusedVariables false
set_option maxRecDepth 100000
theorem cWithin {E : Env} (hE : E = EG) (n a b : Int) (h : H) (K : Value → H → Prop) (hk : ∀ r, decide (Wth n a b) = r → K (.bool r) h) : CallP E 20 [.int .i64 n, .int .i64 a, .int .i64 b] h K := by
  refine CallP.ofG hE Try.func20 rfl rfl rfl rfl ?_
  clear hE
  cbv
  refine BinP.ofI (And.intro (fun q1 => ?_) (fun q1 => ?_))
  · cbv
    refine BinP.ofI (And.intro (fun q2 => ?_) (fun q2 => ?_))
    · cbv
      exact hk _ (decide_eq_true (show Wth n a b from ⟨q1, q2⟩))
    · cbv
      exact hk _ (decide_eq_false (show ¬ Wth n a b from fun q => by have := q.2; omega))
  · cbv
    exact hk _ (decide_eq_false (show ¬ Wth n a b from fun q => by have := q.1; omega))
end Go.Proofs.Ytknenadpkgajjaa.GEv

/- Rows of numbers that rise, by symbolic runs. -/
namespace Go.Proofs.Ytknenadpkgajjaa.GEv
open Go
set_option linter.unusedSimpArgs false
set_option linter.unusedVariables false
set_option maxRecDepth 100000
def encI (n : Int) : List Value := [.int .i64 n]
structure PrV where
  first : Value
  over : Value
  files : Value
  rules : Value
  ctrs : Value
  users : Value
  notes : Value
def prC (p : PrS) (w : PrV) : List Value := [.int .i64 p.flags, .int .i64 p.lasting, w.first, w.over, .int .i64 p.frm, w.files, w.rules, w.ctrs, w.users, w.notes]
theorem cLast {E : Env} (hE : E = EG) (p : PrS) (w : PrV) (l : List Int) (v : Value) (g : H) (S : Nat → Prop) (hr : RowAt g S 1 (l.map encI) v) (hl : l.length ≤ 1000000) (K : Value → H → Prop) (hk : ∀ b h', (b = true ↔ Rising p.lasting l) → Grows g h' → K (.bool b) h') :
    CallP E 21 [.agg (prC p w).toArray, v] g K := by
  obtain ⟨a, n, cap, rfl, hn, hx, _⟩ := hr.ex
  rw [List.length_map] at hn
  have cw := fun n a b h K hk => cWithin hE n a b h K hk
  refine CallP.ofG hE Try.func21 rfl rfl rfl rfl ?_
  have T := tbOk hE
  clear hE
  obtain ⟨flags, las, first, over, frm, files, rules, ctrs, users⟩ := p
  obtain ⟨w1, w2, w3, w4, w5, w6, w7⟩ := w
  cbv
  intro m0 P0
  have B0 := P0.get
  have G0 := P0.grows
  have N0 := P0.next
  cbv
  refine LoopP.onZ T (fun x : H × Nat => [(9, .int .i64 (.ofNat x.2)), (8, .int .i64 (.ofNat n)), (7, .slice a n cap), (2, .pointer (some ⟨g.next, 0, none⟩)), (1, .slice a n cap)]) (fun x => x.1) (fun x => Grows m0 x.1 ∧ x.2 ≤ n ∧ Rising las (l.take x.2)) (fun x => n - x.2) (m0, 0) rfl (Less.cons rfl (Less.cons rfl (Less.cons rfl (Less.cons rfl (Less.cons rfl (Less.nil _)))))) ⟨Grows.refl _, Nat.zero_le _, fun i x hi => by simp at hi⟩ ?_
  rintro ⟨m, i⟩ ⟨i0, i1, i2⟩
  have i0 : Grows m0 m := i0
  have i1 : i ≤ n := i1
  have i2 : Rising las (l.take i) := i2
  have G := G0.trans i0
  have B := (i0.keep g.next (by omega)).trans B0
  cbv
  refine BinP.lt (fun q => ?_) (fun q => ?_)
  · obtain ⟨x, hxi⟩ : ∃ x, l[i]? = some x := ⟨_, List.getElem?_eq_getElem (by omega)⟩
    obtain ⟨b, off, rfl, _, _, _, hrd⟩ := (hx.grows G).el (i := i) (x := encI x) (by rw [List.getElem?_map, hxi]; rfl)
    have hst : Rising las (l.take (i + 1)) ↔ Wth x 0 las ∧ ∀ y, i ≠ 0 → l[i - 1]? = some y → y < x := by
      constructor
      · intro h
        have h1 := h i x (by rw [List.getElem?_take_of_lt (by omega)]; exact hxi)
        exact ⟨h1.1, fun y hi hy => h1.2 y hi (by rw [List.getElem?_take_of_lt (by omega)]; exact hy)⟩
      · intro h j y hj
        by_cases e : j = i
        · subst e
          rw [List.getElem?_take_of_lt (by omega), hxi] at hj
          cases hj
          exact ⟨h.1, fun z hz hzz => h.2 z hz (by rw [List.getElem?_take_of_lt (by omega)] at hzz; exact hzz)⟩
        · have hj2 : j < i + 1 := by
            have := (List.getElem?_eq_some_iff.1 hj).1
            rw [List.length_take] at this
            omega
          rw [List.getElem?_take_of_lt (by omega)] at hj
          obtain ⟨h1, h2⟩ := i2 j y (by rw [List.getElem?_take_of_lt (by omega)]; exact hj)
          exact ⟨h1, fun z hz hzz => h2 z hz (by rw [List.getElem?_take_of_lt (by omega)] at hzz ⊢; exact hzz)⟩
    have hno : ¬ (Wth x 0 las ∧ ∀ y, i ≠ 0 → l[i - 1]? = some y → y < x) → ¬ Rising las l := fun h hR => h (hst.1 (fun j y hj => by
      have hj2 := (List.getElem?_eq_some_iff.1 hj).1
      rw [List.length_take] at hj2
      rw [List.getElem?_take_of_lt (by omega)] at hj
      obtain ⟨h1, h2⟩ := hR j y hj
      exact ⟨h1, fun z hz hzz => h2 z hz (by rw [List.getElem?_take_of_lt (by omega)] at hzz; exact hzz)⟩))
    cbv
    refine ⟨⟨q⟩, fun p1 hp1 => ?_⟩
    cbv
    refine ⟨_, hrd p1 (by omega), ?_⟩
    cbv
    rintro _ rfl
    cbv
    refine ⟨_, rb (B) rfl, ?_⟩
    cbv
    refine cw _ _ _ _ _ (fun r hr0 => ?_)
    by_cases hw : Wth x 0 las
    · obtain rfl : true = r := (decide_eq_true hw).symm.trans hr0
      cbv
      refine BinP.gt0 (fun q2 => ?_) (fun q2 => ?_)
      · cbv
        refine BinP.dec q2 (by omega) (fun z hz => ?_)
        cbv
        obtain ⟨y, hy⟩ : ∃ y, l[z]? = some y := ⟨_, List.getElem?_eq_getElem (by omega)⟩
        have hy1 : l[i - 1]? = some y := by rw [show i - 1 = z by omega]; exact hy
        obtain ⟨b', off', e', _, _, _, hrd'⟩ := (hx.grows G).el (i := z) (x := encI y) (by rw [List.getElem?_map, hy]; rfl)
        cases e'
        refine ⟨⟨by omega⟩, fun p2 hp2 => ?_⟩
        cbv
        refine ⟨_, hrd' p2 hp2, ?_⟩
        cbv
        refine BinP.ofI (And.intro (fun q3 => ?_) (fun q3 => ?_))
        · cbv
          refine hk _ _ ⟨fun e => by (cases e), fun e => absurd e (hno (fun e2 => ?_))⟩ G
          have q3 : x ≤ y := q3
          have := e2.2 y (by omega) hy1
          omega
        · cbv
          refine BinP.inc (by omega) (fun z2 hz2 => ?_)
          cbv
          refine ⟨(m, i + 1), Less.cons (by rw [hz2]; rfl) (Less.cons rfl (Less.cons rfl (Less.cons rfl (Less.cons rfl (Less.nil _))))), rfl, ⟨i0, q, hst.2 ⟨hw, fun z3 _ h3 => ?_⟩⟩, (by show n - (i + 1) < n - i; omega)⟩
          rw [hy1] at h3
          cases h3
          exact q3
      · cbv
        refine BinP.inc (by omega) (fun z2 hz2 => ?_)
        cbv
        exact ⟨(m, i + 1), Less.cons (by rw [hz2]; rfl) (Less.cons rfl (Less.cons rfl (Less.cons rfl (Less.cons rfl (Less.nil _))))), rfl, ⟨i0, q, hst.2 ⟨hw, fun z3 h3 _ => absurd q2 h3⟩⟩, (by show n - (i + 1) < n - i; omega)⟩
    · obtain rfl : false = r := (decide_eq_false hw).symm.trans hr0
      cbv
      exact hk _ _ ⟨fun e => by (cases e), fun e => absurd e (hno (fun e2 => hw e2.1))⟩ G
  · cbv
    rw [List.take_of_length_le (by omega)] at i2
    exact hk _ _ ⟨fun _ => i2, fun _ => rfl⟩ G
end Go.Proofs.Ytknenadpkgajjaa.GEv

/- slices.IndexFunc, ContainsFunc, Index, Contains, by symbolic runs. (Printed by genI.py.) -/
namespace Go.Proofs.Ytknenadpkgajjaa.GEv
open Go
set_option linter.unusedSimpArgs false
set_option linter.unusedVariables false
set_option maxRecDepth 100000
def idxV {α : Type} (P : α → Bool) (l : List α) : Value := match l.findIdx? P with
  | some i => .int .i64 (.ofNat i)
  | none => .int .i64 (-1)
theorem idx_some {α : Type} {P : α → Bool} : ∀ {l : List α} {i : Nat} {x : α}, (∀ y ∈ l.take i, P y = false) → l[i]? = some x → P x = true → l.findIdx? P = some i
  | [], i, x, _, h, _ => by simp at h
  | y :: l, 0, x, _, h, hp => by
    simp at h
    subst h
    simp [List.findIdx?_cons, hp]
  | y :: l, i + 1, x, h0, h, hp => by
    have h1 : P y = false := h0 y (by simp)
    have := idx_some (l := l) (i := i) (fun z hz => h0 z (by simp [hz])) (by simpa using h) hp
    simp [List.findIdx?_cons, h1, this]
theorem idx_none {α : Type} {P : α → Bool} {l : List α} (h : ∀ y ∈ l, P y = false) : l.findIdx? P = none := by
  rw [List.findIdx?_eq_none_iff]
  exact fun x hx => by rw [h x hx]
theorem any_of {α : Type} {P : α → Bool} {l : List α} : (∃ i, l.findIdx? P = some i ∧ l.any P = true) ∨ (l.findIdx? P = none ∧ l.any P = false) := by
  cases h : l.findIdx? P with
  | none =>
    right
    refine ⟨rfl, ?_⟩
    rw [List.findIdx?_eq_none_iff] at h
    rw [List.any_eq_false]
    exact fun x hx => by rw [h x hx]; simp
  | some i =>
    left
    refine ⟨i, rfl, ?_⟩
    have hs : (l.findIdx? P).isSome = true := by rw [h]; rfl
    rw [List.findIdx?_isSome] at hs
    exact hs
theorem take_false {α : Type} {P : α → Bool} {l : List α} {i : Nat} {x : α} (h0 : ∀ y ∈ l.take i, P y = false) (h : l[i]? = some x) (hp : P x = false) : ∀ y ∈ l.take (i + 1), P y = false := by
  intro y hy
  have hi := (List.getElem?_eq_some_iff.1 h).1
  rw [List.take_succ_eq_append_getElem hi, List.mem_append] at hy
  rcases hy with hy | hy
  · exact h0 y hy
  · rw [List.mem_singleton] at hy
    rw [hy, (List.getElem?_eq_some_iff.1 h).2]
    exact hp
section
variable {E : Env} (hE : E = EG)
include hE
theorem nIdxLit {α : Type} (enc : α → List Value) (l : List α) (P : α → Bool) (f : FuncId) (cs : List Value) (v : Value) (g : H) (S : Nat → Prop) (hr : RowAt g S 2 (l.map enc) v) (hl : l.length ≤ 1000000)
    (hf : ∀ x ∈ l, ∀ m, Grows g m → ∀ K : Value → H → Prop, (∀ m', Grows m m' → K (.bool (P x)) m') → CallP E f (.agg (enc x).toArray :: cs) m K) (K : Value → H → Prop) (hk : ∀ m v, v = idxV P l → Grows g m → K v m) :
    CallP E 64 [v, .func (.func f) #[] ⟨cs⟩] g K := by
  obtain ⟨a, n, cap, rfl, hn, hx, _⟩ := hr.ex
  rw [List.length_map] at hn
  refine CallP.ofG hE Try.func64 rfl rfl rfl rfl ?_
  have T := tbOk hE
  clear hE
  cbv
  refine LoopP.onZ T (fun x : H × Nat => [(8, .int .i64 (.ofNat x.2)), (7, .int .i64 (.ofNat n)), (0, .slice a n cap), (1, .func (.func f) #[] ⟨cs⟩)]) (fun x => x.1) (fun x => Grows g x.1 ∧ x.2 ≤ n ∧ ∀ y ∈ l.take x.2, P y = false) (fun x => n - x.2) (g, 0) rfl (Less.cons rfl (Less.cons rfl (Less.cons rfl (Less.cons rfl (Less.nil _))))) ⟨Grows.refl _, Nat.zero_le _, fun y hy => by simp at hy⟩ ?_
  rintro ⟨m, i⟩ ⟨i0, i1, i2⟩
  have i0 : Grows g m := i0
  have i1 : i ≤ n := i1
  have i2 : ∀ y ∈ l.take i, P y = false := i2
  cbv
  refine BinP.lt (fun q => ?_) (fun q => ?_)
  · obtain ⟨x, hxi⟩ : ∃ x, l[i]? = some x := ⟨_, List.getElem?_eq_getElem (by omega)⟩
    obtain ⟨b, off, rfl, _, _, _, hrd⟩ := (hx.grows i0).el (i := i) (x := enc x) (by rw [List.getElem?_map, hxi]; rfl)
    have hxm := List.mem_of_getElem? hxi
    cbv
    refine ⟨⟨q⟩, fun p1 hp1 => ?_⟩
    cbv
    refine ⟨_, hrd p1 hp1, ?_⟩
    cbv
    refine hf x hxm m i0 _ (fun m' g' => ?_)
    cases hp : P x with
    | true =>
      cbv
      have e : idxV P l = .int .i64 (.ofNat i) := by rw [idxV, idx_some i2 hxi hp]
      exact hk _ _ e.symm (i0.trans g')
    | false =>
      cbv
      refine BinP.inc (by omega) (fun z2 hz2 => ?_)
      cbv
      exact ⟨(m', i + 1), Less.cons (by rw [hz2]; rfl) (Less.cons rfl (Less.cons rfl (Less.cons rfl (Less.nil _)))), rfl, ⟨i0.trans g', q, take_false i2 hxi hp⟩, (by show n - (i + 1) < n - i; omega)⟩
  · cbv
    rw [List.take_of_length_le (by omega)] at i2
    have e : idxV P l = .int .i64 (-1) := by rw [idxV, idx_none i2]
    exact hk _ _ e.symm i0
theorem nConLit {α : Type} (enc : α → List Value) (l : List α) (P : α → Bool) (f : FuncId) (cs : List Value) (v : Value) (g : H) (S : Nat → Prop) (hr : RowAt g S 2 (l.map enc) v) (hl : l.length ≤ 1000000)
    (hf : ∀ x ∈ l, ∀ m, Grows g m → ∀ K : Value → H → Prop, (∀ m', Grows m m' → K (.bool (P x)) m') → CallP E f (.agg (enc x).toArray :: cs) m K) (K : Value → H → Prop) (hk : ∀ m b, l.any P = b → Grows g m → K (.bool b) m) :
    CallP E 34 [v, .func (.func f) #[] ⟨cs⟩] g K := by
  have n1 := fun K hk => nIdxLit hE enc l P f cs v g S hr hl hf K hk
  refine CallP.ofG hE Try.func34 rfl rfl rfl rfl ?_
  clear hE
  cbv
  refine n1 _ (fun m v' hv' g' => ?_)
  rcases any_of (P := P) (l := l) with ⟨i, h1, h2⟩ | ⟨h1, h2⟩
  · rw [idxV, h1] at hv'
    subst hv'
    cbv
    refine BinP.ge0 ?_
    cbv
    exact hk _ _ h2 g'
  · rw [idxV, h1] at hv'
    subst hv'
    cbv
    refine BinP.cmp (c := false) rfl ?_
    cbv
    exact hk _ _ h2 g'
end
section
variable {E : Env} (hE : E = EG)
include hE
theorem nIdxSet {α : Type} (enc : α → List Value) (l : List α) (P : α → Bool) (f : FuncId) (cs : List Value) (v : Value) (g : H) (S : Nat → Prop) (hr : RowAt g S 2 (l.map enc) v) (hl : l.length ≤ 1000000)
    (hf : ∀ x ∈ l, ∀ m, Grows g m → ∀ K : Value → H → Prop, (∀ m', Grows m m' → K (.bool (P x)) m') → CallP E f (.agg (enc x).toArray :: cs) m K) (K : Value → H → Prop) (hk : ∀ m v, v = idxV P l → Grows g m → K v m) :
    CallP E 65 [v, .func (.func f) #[] ⟨cs⟩] g K := by
  obtain ⟨a, n, cap, rfl, hn, hx, _⟩ := hr.ex
  rw [List.length_map] at hn
  refine CallP.ofG hE Try.func65 rfl rfl rfl rfl ?_
  have T := tbOk hE
  clear hE
  cbv
  refine LoopP.onZ T (fun x : H × Nat => [(8, .int .i64 (.ofNat x.2)), (7, .int .i64 (.ofNat n)), (0, .slice a n cap), (1, .func (.func f) #[] ⟨cs⟩)]) (fun x => x.1) (fun x => Grows g x.1 ∧ x.2 ≤ n ∧ ∀ y ∈ l.take x.2, P y = false) (fun x => n - x.2) (g, 0) rfl (Less.cons rfl (Less.cons rfl (Less.cons rfl (Less.cons rfl (Less.nil _))))) ⟨Grows.refl _, Nat.zero_le _, fun y hy => by simp at hy⟩ ?_
  rintro ⟨m, i⟩ ⟨i0, i1, i2⟩
  have i0 : Grows g m := i0
  have i1 : i ≤ n := i1
  have i2 : ∀ y ∈ l.take i, P y = false := i2
  cbv
  refine BinP.lt (fun q => ?_) (fun q => ?_)
  · obtain ⟨x, hxi⟩ : ∃ x, l[i]? = some x := ⟨_, List.getElem?_eq_getElem (by omega)⟩
    obtain ⟨b, off, rfl, _, _, _, hrd⟩ := (hx.grows i0).el (i := i) (x := enc x) (by rw [List.getElem?_map, hxi]; rfl)
    have hxm := List.mem_of_getElem? hxi
    cbv
    refine ⟨⟨q⟩, fun p1 hp1 => ?_⟩
    cbv
    refine ⟨_, hrd p1 hp1, ?_⟩
    cbv
    refine hf x hxm m i0 _ (fun m' g' => ?_)
    cases hp : P x with
    | true =>
      cbv
      have e : idxV P l = .int .i64 (.ofNat i) := by rw [idxV, idx_some i2 hxi hp]
      exact hk _ _ e.symm (i0.trans g')
    | false =>
      cbv
      refine BinP.inc (by omega) (fun z2 hz2 => ?_)
      cbv
      exact ⟨(m', i + 1), Less.cons (by rw [hz2]; rfl) (Less.cons rfl (Less.cons rfl (Less.cons rfl (Less.nil _)))), rfl, ⟨i0.trans g', q, take_false i2 hxi hp⟩, (by show n - (i + 1) < n - i; omega)⟩
  · cbv
    rw [List.take_of_length_le (by omega)] at i2
    have e : idxV P l = .int .i64 (-1) := by rw [idxV, idx_none i2]
    exact hk _ _ e.symm i0
theorem nConSet {α : Type} (enc : α → List Value) (l : List α) (P : α → Bool) (f : FuncId) (cs : List Value) (v : Value) (g : H) (S : Nat → Prop) (hr : RowAt g S 2 (l.map enc) v) (hl : l.length ≤ 1000000)
    (hf : ∀ x ∈ l, ∀ m, Grows g m → ∀ K : Value → H → Prop, (∀ m', Grows m m' → K (.bool (P x)) m') → CallP E f (.agg (enc x).toArray :: cs) m K) (K : Value → H → Prop) (hk : ∀ m b, l.any P = b → Grows g m → K (.bool b) m) :
    CallP E 38 [v, .func (.func f) #[] ⟨cs⟩] g K := by
  have n1 := fun K hk => nIdxSet hE enc l P f cs v g S hr hl hf K hk
  refine CallP.ofG hE Try.func38 rfl rfl rfl rfl ?_
  clear hE
  cbv
  refine n1 _ (fun m v' hv' g' => ?_)
  rcases any_of (P := P) (l := l) with ⟨i, h1, h2⟩ | ⟨h1, h2⟩
  · rw [idxV, h1] at hv'
    subst hv'
    cbv
    refine BinP.ge0 ?_
    cbv
    exact hk _ _ h2 g'
  · rw [idxV, h1] at hv'
    subst hv'
    cbv
    refine BinP.cmp (c := false) rfl ?_
    cbv
    exact hk _ _ h2 g'
end
section
variable {E : Env} (hE : E = EG)
include hE
theorem nIdxCond {α : Type} (enc : α → List Value) (l : List α) (P : α → Bool) (f : FuncId) (cs : List Value) (v : Value) (g : H) (S : Nat → Prop) (hr : RowAt g S 3 (l.map enc) v) (hl : l.length ≤ 1000000)
    (hf : ∀ x ∈ l, ∀ m, Grows g m → ∀ K : Value → H → Prop, (∀ m', Grows m m' → K (.bool (P x)) m') → CallP E f (.agg (enc x).toArray :: cs) m K) (K : Value → H → Prop) (hk : ∀ m v, v = idxV P l → Grows g m → K v m) :
    CallP E 85 [v, .func (.func f) #[] ⟨cs⟩] g K := by
  obtain ⟨a, n, cap, rfl, hn, hx, _⟩ := hr.ex
  rw [List.length_map] at hn
  refine CallP.ofG hE Try.func85 rfl rfl rfl rfl ?_
  have T := tbOk hE
  clear hE
  cbv
  refine LoopP.onZ T (fun x : H × Nat => [(8, .int .i64 (.ofNat x.2)), (7, .int .i64 (.ofNat n)), (0, .slice a n cap), (1, .func (.func f) #[] ⟨cs⟩)]) (fun x => x.1) (fun x => Grows g x.1 ∧ x.2 ≤ n ∧ ∀ y ∈ l.take x.2, P y = false) (fun x => n - x.2) (g, 0) rfl (Less.cons rfl (Less.cons rfl (Less.cons rfl (Less.cons rfl (Less.nil _))))) ⟨Grows.refl _, Nat.zero_le _, fun y hy => by simp at hy⟩ ?_
  rintro ⟨m, i⟩ ⟨i0, i1, i2⟩
  have i0 : Grows g m := i0
  have i1 : i ≤ n := i1
  have i2 : ∀ y ∈ l.take i, P y = false := i2
  cbv
  refine BinP.lt (fun q => ?_) (fun q => ?_)
  · obtain ⟨x, hxi⟩ : ∃ x, l[i]? = some x := ⟨_, List.getElem?_eq_getElem (by omega)⟩
    obtain ⟨b, off, rfl, _, _, _, hrd⟩ := (hx.grows i0).el (i := i) (x := enc x) (by rw [List.getElem?_map, hxi]; rfl)
    have hxm := List.mem_of_getElem? hxi
    cbv
    refine ⟨⟨q⟩, fun p1 hp1 => ?_⟩
    cbv
    refine ⟨_, hrd p1 hp1, ?_⟩
    cbv
    refine hf x hxm m i0 _ (fun m' g' => ?_)
    cases hp : P x with
    | true =>
      cbv
      have e : idxV P l = .int .i64 (.ofNat i) := by rw [idxV, idx_some i2 hxi hp]
      exact hk _ _ e.symm (i0.trans g')
    | false =>
      cbv
      refine BinP.inc (by omega) (fun z2 hz2 => ?_)
      cbv
      exact ⟨(m', i + 1), Less.cons (by rw [hz2]; rfl) (Less.cons rfl (Less.cons rfl (Less.cons rfl (Less.nil _)))), rfl, ⟨i0.trans g', q, take_false i2 hxi hp⟩, (by show n - (i + 1) < n - i; omega)⟩
  · cbv
    rw [List.take_of_length_le (by omega)] at i2
    have e : idxV P l = .int .i64 (-1) := by rw [idxV, idx_none i2]
    exact hk _ _ e.symm i0
theorem nConCond {α : Type} (enc : α → List Value) (l : List α) (P : α → Bool) (f : FuncId) (cs : List Value) (v : Value) (g : H) (S : Nat → Prop) (hr : RowAt g S 3 (l.map enc) v) (hl : l.length ≤ 1000000)
    (hf : ∀ x ∈ l, ∀ m, Grows g m → ∀ K : Value → H → Prop, (∀ m', Grows m m' → K (.bool (P x)) m') → CallP E f (.agg (enc x).toArray :: cs) m K) (K : Value → H → Prop) (hk : ∀ m b, l.any P = b → Grows g m → K (.bool b) m) :
    CallP E 76 [v, .func (.func f) #[] ⟨cs⟩] g K := by
  have n1 := fun K hk => nIdxCond hE enc l P f cs v g S hr hl hf K hk
  refine CallP.ofG hE Try.func76 rfl rfl rfl rfl ?_
  clear hE
  cbv
  refine n1 _ (fun m v' hv' g' => ?_)
  rcases any_of (P := P) (l := l) with ⟨i, h1, h2⟩ | ⟨h1, h2⟩
  · rw [idxV, h1] at hv'
    subst hv'
    cbv
    refine BinP.ge0 ?_
    cbv
    exact hk _ _ h2 g'
  · rw [idxV, h1] at hv'
    subst hv'
    cbv
    refine BinP.cmp (c := false) rfl ?_
    cbv
    exact hk _ _ h2 g'
end
section
variable {E : Env} (hE : E = EG)
include hE
theorem nIdxCtr {α : Type} (enc : α → List Value) (l : List α) (P : α → Bool) (f : FuncId) (cs : List Value) (v : Value) (g : H) (S : Nat → Prop) (hr : RowAt g S 3 (l.map enc) v) (hl : l.length ≤ 1000000)
    (hf : ∀ x ∈ l, ∀ m, Grows g m → ∀ K : Value → H → Prop, (∀ m', Grows m m' → K (.bool (P x)) m') → CallP E f (.agg (enc x).toArray :: cs) m K) (K : Value → H → Prop) (hk : ∀ m v, v = idxV P l → Grows g m → K v m) :
    CallP E 79 [v, .func (.func f) #[] ⟨cs⟩] g K := by
  obtain ⟨a, n, cap, rfl, hn, hx, _⟩ := hr.ex
  rw [List.length_map] at hn
  refine CallP.ofG hE Try.func79 rfl rfl rfl rfl ?_
  have T := tbOk hE
  clear hE
  cbv
  refine LoopP.onZ T (fun x : H × Nat => [(8, .int .i64 (.ofNat x.2)), (7, .int .i64 (.ofNat n)), (0, .slice a n cap), (1, .func (.func f) #[] ⟨cs⟩)]) (fun x => x.1) (fun x => Grows g x.1 ∧ x.2 ≤ n ∧ ∀ y ∈ l.take x.2, P y = false) (fun x => n - x.2) (g, 0) rfl (Less.cons rfl (Less.cons rfl (Less.cons rfl (Less.cons rfl (Less.nil _))))) ⟨Grows.refl _, Nat.zero_le _, fun y hy => by simp at hy⟩ ?_
  rintro ⟨m, i⟩ ⟨i0, i1, i2⟩
  have i0 : Grows g m := i0
  have i1 : i ≤ n := i1
  have i2 : ∀ y ∈ l.take i, P y = false := i2
  cbv
  refine BinP.lt (fun q => ?_) (fun q => ?_)
  · obtain ⟨x, hxi⟩ : ∃ x, l[i]? = some x := ⟨_, List.getElem?_eq_getElem (by omega)⟩
    obtain ⟨b, off, rfl, _, _, _, hrd⟩ := (hx.grows i0).el (i := i) (x := enc x) (by rw [List.getElem?_map, hxi]; rfl)
    have hxm := List.mem_of_getElem? hxi
    cbv
    refine ⟨⟨q⟩, fun p1 hp1 => ?_⟩
    cbv
    refine ⟨_, hrd p1 hp1, ?_⟩
    cbv
    refine hf x hxm m i0 _ (fun m' g' => ?_)
    cases hp : P x with
    | true =>
      cbv
      have e : idxV P l = .int .i64 (.ofNat i) := by rw [idxV, idx_some i2 hxi hp]
      exact hk _ _ e.symm (i0.trans g')
    | false =>
      cbv
      refine BinP.inc (by omega) (fun z2 hz2 => ?_)
      cbv
      exact ⟨(m', i + 1), Less.cons (by rw [hz2]; rfl) (Less.cons rfl (Less.cons rfl (Less.cons rfl (Less.nil _)))), rfl, ⟨i0.trans g', q, take_false i2 hxi hp⟩, (by show n - (i + 1) < n - i; omega)⟩
  · cbv
    rw [List.take_of_length_le (by omega)] at i2
    have e : idxV P l = .int .i64 (-1) := by rw [idxV, idx_none i2]
    exact hk _ _ e.symm i0
theorem nConCtr {α : Type} (enc : α → List Value) (l : List α) (P : α → Bool) (f : FuncId) (cs : List Value) (v : Value) (g : H) (S : Nat → Prop) (hr : RowAt g S 3 (l.map enc) v) (hl : l.length ≤ 1000000)
    (hf : ∀ x ∈ l, ∀ m, Grows g m → ∀ K : Value → H → Prop, (∀ m', Grows m m' → K (.bool (P x)) m') → CallP E f (.agg (enc x).toArray :: cs) m K) (K : Value → H → Prop) (hk : ∀ m b, l.any P = b → Grows g m → K (.bool b) m) :
    CallP E 55 [v, .func (.func f) #[] ⟨cs⟩] g K := by
  have n1 := fun K hk => nIdxCtr hE enc l P f cs v g S hr hl hf K hk
  refine CallP.ofG hE Try.func55 rfl rfl rfl rfl ?_
  clear hE
  cbv
  refine n1 _ (fun m v' hv' g' => ?_)
  rcases any_of (P := P) (l := l) with ⟨i, h1, h2⟩ | ⟨h1, h2⟩
  · rw [idxV, h1] at hv'
    subst hv'
    cbv
    refine BinP.ge0 ?_
    cbv
    exact hk _ _ h2 g'
  · rw [idxV, h1] at hv'
    subst hv'
    cbv
    refine BinP.cmp (c := false) rfl ?_
    cbv
    exact hk _ _ h2 g'
end
section
variable {E : Env} (hE : E = EG)
include hE
theorem nIdxStr (l : List Bs) (s : Bs) (v : Value) (g : H) (S : Nat → Prop) (hr : RowAt g S 1 (l.map fun x => [Value.string ⟨⟨x⟩⟩]) v) (hl : l.length ≤ 1000000) (K : Value → H → Prop) (hk : K (idxV (fun x => decide (s = x)) l) g) :
    CallP E 72 [v, .string ⟨⟨s⟩⟩] g K := by
  obtain ⟨a, n, cap, rfl, hn, hx, _⟩ := hr.ex
  rw [List.length_map] at hn
  refine CallP.ofG hE Try.func72 rfl rfl rfl rfl ?_
  have T := tbOk hE
  clear hE
  cbv
  refine LoopP.onZ T (fun x : Nat => [(8, .int .i64 (.ofNat x)), (7, .int .i64 (.ofNat n)), (0, .slice a n cap), (1, .string ⟨⟨s⟩⟩)]) (fun _ => g) (fun x => x ≤ n ∧ ∀ y ∈ l.take x, decide (s = y) = false) (fun x => n - x) 0 rfl (Less.cons rfl (Less.cons rfl (Less.cons rfl (Less.cons rfl (Less.nil _))))) ⟨Nat.zero_le _, fun y hy => by simp at hy⟩ ?_
  rintro i ⟨i1, i2⟩
  cbv
  refine BinP.lt (fun q => ?_) (fun q => ?_)
  · obtain ⟨x, hxi⟩ : ∃ x, l[i]? = some x := ⟨_, List.getElem?_eq_getElem (by omega)⟩
    obtain ⟨b, off, rfl, _, _, _, hrd⟩ := hx.el (i := i) (x := [Value.string ⟨⟨x⟩⟩]) (by rw [List.getElem?_map, hxi]; rfl)
    cbv
    refine ⟨⟨q⟩, fun p1 hp1 => ?_⟩
    cbv
    refine ⟨_, hrd p1 hp1, ?_⟩
    cbv
    refine BinP.str (And.intro (fun q2 => ?_) (fun q2 => ?_))
    · have q2 : s = x := q2
      cbv
      have e : idxV (fun x => decide (s = x)) l = .int .i64 (.ofNat i) := by rw [idxV, idx_some i2 hxi (decide_eq_true q2)]
      rw [e] at hk
      exact hk
    · have q2 : ¬ s = x := q2
      cbv
      refine BinP.inc (by omega) (fun z2 hz2 => ?_)
      cbv
      exact ⟨i + 1, Less.cons (by rw [hz2]; rfl) (Less.cons rfl (Less.cons rfl (Less.cons rfl (Less.nil _)))), rfl, ⟨q, take_false i2 hxi (decide_eq_false q2)⟩, (by show n - (i + 1) < n - i; omega)⟩
  · cbv
    rw [List.take_of_length_le (by omega)] at i2
    have e : idxV (fun x => decide (s = x)) l = .int .i64 (-1) := by rw [idxV, idx_none i2]
    rw [e] at hk
    exact hk
theorem nConStr (l : List Bs) (s : Bs) (v : Value) (g : H) (S : Nat → Prop) (hr : RowAt g S 1 (l.map fun x => [Value.string ⟨⟨x⟩⟩]) v) (hl : l.length ≤ 1000000) (K : Value → H → Prop) (hk : ∀ b, decide (s ∈ l) = b → K (.bool b) g) :
    CallP E 53 [v, .string ⟨⟨s⟩⟩] g K := by
  have n1 := fun K hk => nIdxStr hE l s v g S hr hl K hk
  refine CallP.ofG hE Try.func53 rfl rfl rfl rfl ?_
  clear hE
  cbv
  refine n1 _ ?_
  have e : decide (s ∈ l) = l.any fun x => decide (s = x) := by
    rw [Bool.eq_iff_iff, decide_eq_true_iff, List.any_eq_true]
    constructor
    · intro h; exact ⟨s, h, decide_eq_true rfl⟩
    · rintro ⟨x, hx, h⟩; rw [of_decide_eq_true h]; exact hx
  rcases any_of (P := fun x => decide (s = x)) (l := l) with ⟨i, h1, h2⟩ | ⟨h1, h2⟩
  · rw [idxV, h1]
    cbv
    refine BinP.ge0 ?_
    cbv
    exact hk _ (e.trans h2)
  · rw [idxV, h1]
    cbv
    refine BinP.cmp (c := false) rfl ?_
    cbv
    exact hk _ (e.trans h2)
end
end Go.Proofs.Ytknenadpkgajjaa.GEv

/- Programs in memory; whether rules, counters, users may be: package rules, by symbolic runs. -/
namespace Go.Proofs.Ytknenadpkgajjaa.GEv
open Go
set_option linter.unusedSimpArgs false
set_option linter.unusedVariables false
set_option maxRecDepth 100000
def encL (x : LitS) : List Value := [.int .i64 x.1, .bool x.2]
def encC (c : CondS) : List Value := [.string ⟨⟨c.1⟩⟩, .string ⟨⟨c.2.1⟩⟩, .int .i64 c.2.2]
def encK (c : CtrS) : List Value := [.int .i64 c.1, .int .i64 c.2.1, .int .i64 c.2.2]
def encT (s : Bs) : List Value := [.string ⟨⟨s⟩⟩]
structure IsRule (h : H) (S : Nat → Prop) (r : RuleS) (c : List Value) : Prop where
  ex : ∃ v1 v2 v3, c = [.int .i64 r.st, v1, v2, v3] ∧ RowAt h S 2 (r.ifs.map encL) v1 ∧ RowAt h S 3 (r.conds.map encC) v2 ∧ RowAt h S 2 (r.thens.map encL) v3 ∧ r.ifs.length ≤ 1000000 ∧ r.conds.length ≤ 1000000 ∧ r.thens.length ≤ 1000000
structure IsUser (h : H) (S : Nat → Prop) (u : UserS) (c : List Value) : Prop where
  ex : ∃ v, c = [.string ⟨⟨u.item⟩⟩, .int .i64 u.event, v, .int .i64 u.thn] ∧ RowAt h S 2 (u.whil.map encL) v ∧ u.whil.length ≤ 1000000
structure IsRules (h : H) (S : Nat → Prop) (l : List RuleS) (v : Value) : Prop where
  ex : ∃ zs : List (RuleS × List Value), zs.map (·.1) = l ∧ RowAt h S 4 (zs.map (·.2)) v ∧ ∀ z ∈ zs, IsRule h S z.1 z.2
structure IsUsers (h : H) (S : Nat → Prop) (l : List UserS) (v : Value) : Prop where
  ex : ∃ zs : List (UserS × List Value), zs.map (·.1) = l ∧ RowAt h S 4 (zs.map (·.2)) v ∧ ∀ z ∈ zs, IsUser h S z.1 z.2
structure IsPr (h : H) (S : Nat → Prop) (p : PrS) (w : PrV) : Prop where
  first : RowAt h S 1 (p.first.map encI) w.first
  over : RowAt h S 1 (p.over.map encI) w.over
  files : RowAt h S 1 (p.files.map encT) w.files
  rules : IsRules h S p.rules w.rules
  ctrs : RowAt h S 3 (p.ctrs.map encK) w.ctrs
  users : IsUsers h S p.users w.users
  lens : p.first.length ≤ 1000000 ∧ p.over.length ≤ 1000000 ∧ p.files.length ≤ 1000000 ∧ p.rules.length ≤ 1000000 ∧ p.ctrs.length ≤ 1000000 ∧ p.users.length ≤ 1000000
theorem IsRule.mono {h h' : H} {S S' : Nat → Prop} {r : RuleS} {c : List Value} (i : IsRule h S r c) (hS : ∀ b, S b → b < h.next → S' b) (hk : ∀ b, S b → b < h.next → h'.m.get b = h.m.get b) (hn : h.next ≤ h'.next) : IsRule h' S' r c := by
  obtain ⟨v1, v2, v3, e, h1, h2, h3, h4⟩ := i.ex
  exact ⟨v1, v2, v3, e, h1.mono hS hk hn, h2.mono hS hk hn, h3.mono hS hk hn, h4⟩
theorem IsUser.mono {h h' : H} {S S' : Nat → Prop} {r : UserS} {c : List Value} (i : IsUser h S r c) (hS : ∀ b, S b → b < h.next → S' b) (hk : ∀ b, S b → b < h.next → h'.m.get b = h.m.get b) (hn : h.next ≤ h'.next) : IsUser h' S' r c := by
  obtain ⟨v1, e, h1, h2⟩ := i.ex
  exact ⟨v1, e, h1.mono hS hk hn, h2⟩
theorem IsRules.mono {h h' : H} {S S' : Nat → Prop} {r : List RuleS} {c : Value} (i : IsRules h S r c) (hS : ∀ b, S b → b < h.next → S' b) (hk : ∀ b, S b → b < h.next → h'.m.get b = h.m.get b) (hn : h.next ≤ h'.next) : IsRules h' S' r c := by
  obtain ⟨zs, e, h1, h2⟩ := i.ex
  exact ⟨zs, e, h1.mono hS hk hn, fun z hz => (h2 z hz).mono hS hk hn⟩
theorem IsUsers.mono {h h' : H} {S S' : Nat → Prop} {r : List UserS} {c : Value} (i : IsUsers h S r c) (hS : ∀ b, S b → b < h.next → S' b) (hk : ∀ b, S b → b < h.next → h'.m.get b = h.m.get b) (hn : h.next ≤ h'.next) : IsUsers h' S' r c := by
  obtain ⟨zs, e, h1, h2⟩ := i.ex
  exact ⟨zs, e, h1.mono hS hk hn, fun z hz => (h2 z hz).mono hS hk hn⟩
theorem IsPr.mono {h h' : H} {S S' : Nat → Prop} {p : PrS} {w : PrV} (i : IsPr h S p w) (hS : ∀ b, S b → b < h.next → S' b) (hk : ∀ b, S b → b < h.next → h'.m.get b = h.m.get b) (hn : h.next ≤ h'.next) : IsPr h' S' p w :=
  ⟨i.first.mono hS hk hn, i.over.mono hS hk hn, i.files.mono hS hk hn, i.rules.mono hS hk hn, i.ctrs.mono hS hk hn, i.users.mono hS hk hn, i.lens⟩
theorem IsPr.grows {h h' : H} {S : Nat → Prop} {p : PrS} {w : PrV} (i : IsPr h S p w) (g : Grows h h') : IsPr h' S p w := i.mono (fun _ q _ => q) (fun b _ hb => g.keep b hb) g.next
theorem IsRule.grows {h h' : H} {S : Nat → Prop} {p : RuleS} {w : List Value} (i : IsRule h S p w) (g : Grows h h') : IsRule h' S p w := i.mono (fun _ q _ => q) (fun b _ hb => g.keep b hb) g.next
theorem IsUser.grows {h h' : H} {S : Nat → Prop} {p : UserS} {w : List Value} (i : IsUser h S p w) (g : Grows h h') : IsUser h' S p w := i.mono (fun _ q _ => q) (fun b _ hb => g.keep b hb) g.next
theorem IsRules.grows {h h' : H} {S : Nat → Prop} {p : List RuleS} {w : Value} (i : IsRules h S p w) (g : Grows h h') : IsRules h' S p w := i.mono (fun _ q _ => q) (fun b _ hb => g.keep b hb) g.next
theorem IsUsers.grows {h h' : H} {S : Nat → Prop} {p : List UserS} {w : Value} (i : IsUsers h S p w) (g : Grows h h') : IsUsers h' S p w := i.mono (fun _ q _ => q) (fun b _ hb => g.keep b hb) g.next
/-- A box of its own. -/
structure BoxP (h : H) (b : Nat) (c : List Value) (t : TypeId) : Prop where
  lt : b < h.next
  get : h.m.get b = some (.cells c (some t) true 0)
theorem BoxP.grows {h h' : H} {b : Nat} {c : List Value} {t : TypeId} (B : BoxP h b c t) (g : Grows h h') : BoxP h' b c t := ⟨Nat.lt_of_lt_of_le B.lt g.next, (g.keep b B.lt).trans B.get⟩
theorem PushP.box {h m : H} {c : List Value} {t : TypeId} (p : PushP h (.cells c (some t) true 0) m) : BoxP m h.next c t := ⟨by rw [p.next]; exact Nat.lt_succ_self _, p.get⟩
section
variable {E : Env} (hE : E = EG)
include hE
theorem cPasses (p : PrS) (w : PrV) (n : Int) (g : H) (K : Value → H → Prop) (hk : ∀ h' r, decide (Wth n p.lasting p.flags) = r → Grows g h' → K (.bool r) h') :
    CallP E 57 [.agg (prC p w).toArray, .int .i64 n] g K := by
  have cw := fun n a b h K hk => cWithin hE n a b h K hk
  refine CallP.ofG hE Try.func57 rfl rfl rfl rfl ?_
  clear hE
  obtain ⟨flags, las, first, over, frm, files, rules, ctrs, users⟩ := p
  obtain ⟨w1, w2, w3, w4, w5, w6, w7⟩ := w
  cbv
  intro m P
  have B := P.get
  cbv
  rintro _ rfl
  cbv
  refine ⟨_, rb (B) rfl, ?_⟩
  cbv
  rintro _ rfl
  cbv
  refine ⟨_, rb (B) rfl, ?_⟩
  cbv
  refine cw _ _ _ _ _ (fun r hr => ?_)
  cbv
  exact hk _ _ hr P.grows
def ctrOdd (p : PrS) (c : CtrS) : Bool := !decide (Wth c.1 0 p.lasting) || !decide (Wth c.2.1 1 101) || !decide (Wth c.2.2 p.lasting p.flags)
theorem cCtr1 (p : PrS) (w : PrV) (c : CtrS) (b : Nat) (g : H) (B0 : BoxP g b (prC p w) 36) (K : Value → H → Prop) (hk : ∀ h' r, ctrOdd p c = r → Grows g h' → K (.bool r) h') :
    CallP E 56 [.agg (encK c).toArray, .pointer (some ⟨b, 0, none⟩)] g K := by
  have cw := fun n a b h K hk => cWithin hE n a b h K hk
  have cp := fun n g K hk => cPasses hE p w n g K hk
  refine CallP.ofG hE Try.func56 rfl rfl rfl rfl ?_
  clear hE
  obtain ⟨flags, las, first, over, frm, files, rules, ctrs, users⟩ := p
  obtain ⟨w1, w2, w3, w4, w5, w6, w7⟩ := w
  obtain ⟨c1, c2, c3⟩ := c
  cbv
  intro m P
  have B := P.get
  have A := B0.grows P.grows
  have A' := A.get
  cbv
  rintro _ rfl
  cbv
  refine ⟨_, rb (B) rfl, ?_⟩
  cbv
  rintro _ rfl
  cbv
  refine ⟨_, rb (A') rfl, ?_⟩
  cbv
  refine cw _ _ _ _ _ (fun r1 h1 => ?_)
  cases r1 with
  | false =>
    cbv
    exact hk _ _ (by simp [ctrOdd, h1]) P.grows
  | true =>
    cbv
    rintro _ rfl
    cbv
    refine ⟨_, rb (B) rfl, ?_⟩
    cbv
    refine cw _ _ _ _ _ (fun r2 h2 => ?_)
    cases r2 with
    | false =>
      cbv
      exact hk _ _ (by simp [ctrOdd, h1, h2]) P.grows
    | true =>
      cbv
      refine ⟨_, rbw A' rfl, ?_⟩
      cbv
      rintro _ rfl
      cbv
      refine ⟨_, rb (B) rfl, ?_⟩
      cbv
      refine cp _ _ _ (fun m2 r3 h3 g2 => ?_)
      cases r3 with
      | false =>
        cbv
        exact hk _ _ (by simp [ctrOdd, h1, h2, h3]) (P.grows.trans g2)
      | true =>
        cbv
        exact hk _ _ (by simp [ctrOdd, h1, h2, h3]) (P.grows.trans g2)
end
end Go.Proofs.Ytknenadpkgajjaa.GEv

