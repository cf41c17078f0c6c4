/- The reference's Split and IsQual, by symbolic runs; the third environment: all of both packages is known. -/
import Derived.Test.YtknhcgdhfndooaaDoorGNmH
namespace Go.Proofs.YtknhcgdhfndooaaDoor.GEv
open Go
open Go.RowKit (Below)
set_option linter.unusedSimpArgs false
set_option linter.unusedVariables false
set_option maxRecDepth 100000
attribute [local cbv_opaque] isString isSlice isBoolT fOff iSize eqNil zero H.load H.store H.push H.dip H.put List.length List.getD Nat.add Nat.sub Nat.mul List.take List.drop UInt8.toNat isName
attribute [local cbv_eval] List.length_cons List.length_nil
section
variable {E : Env} (hE : E = EM)
include hE
theorem rSplit (l : List UInt8) (hl : l.length ≤ 1000000) (h : H) (K : Value → H → Prop) (hk : ∀ h', K (splitV l) h') : CallP E 23 [.string ⟨⟨l⟩⟩] h K := by
  refine CallP.ofE hE rfl Tryd.func23 rfl (Nat.le_of_ble_eq_true rfl) ?_
  have hS : isString E.1 9 = true := by rw [hE]; exact stringT
  clear hE
  unfold splitV at hk
  cbv
  refine LoopP.on (fun i : Nat => [(4, .int .i64 (.ofNat i)), (0, .string ⟨⟨l⟩⟩)]) (fun _ => h) (fun i => i ≤ l.length ∧ ∀ j, 0 ≤ j → j < i → l.getD j 0 ≠ 58) (fun i => l.length - i) 0 rfl (Less.cons rfl (Less.cons rfl (Less.nil _))) ⟨Nat.zero_le _, by omega⟩ ?_
  rintro i ⟨i1, i2⟩
  have hb : Nat.le (Nat.add i 1) 4611686018427387904 := by show i + 1 ≤ _; omega
  by_cases hi : i < l.length
  · by_cases hc : l.getD i 0 = 58
    · have hcn : (l.getD i 0).toNat = 58 := by rw [hc]; rfl
      have hcut := cut_at (Nat.zero_le i) hi i2 hc
      rw [List.drop_zero, Nat.sub_zero] at hcut
      rw [hcut] at hk
      have hl1 : Nat.le 0 i := Nat.zero_le _
      have hl2 : Nat.le i l.length := i1
      have hl3 : Nat.le (Nat.add i 1) l.length := hi
      have t1 : List.take (Nat.sub i 0) (List.drop 0 l) = l.take i := by show List.take (i - 0) _ = _; simp
      have t2 : List.take (Nat.sub l.length (Nat.add i 1)) (List.drop (Nat.add i 1) l) = l.drop (i + 1) := by
        show List.take (l.length - (i + 1)) (List.drop (i + 1) l) = _
        exact List.take_of_length_le (by rw [List.length_drop]; omega)
      cbv
      refine And.intro hS ?_
      refine And.intro (fun _ => ?_) (fun e => absurd e (by omega))
      cbv
      refine And.intro hS (And.intro hi ?_)
      rw [hcn]
      refine And.intro (fun _ => ?_) (fun e => absurd rfl e)
      cbv
      rw [t1, t2]
      exact ⟨hS, hl1, hl2, hb, hS, hl3, Nat.le_refl _, _, rfl, hk _⟩
    · have hcn : ¬ (l.getD i 0).toNat = 58 := fun e => hc (UInt8.toNat_inj.1 e)
      cbv
      refine And.intro hS ?_
      refine And.intro (fun _ => ?_) (fun e => absurd e (by omega))
      cbv
      refine And.intro hS (And.intro hi ?_)
      refine And.intro (fun e => absurd e hcn) (fun _ => ?_)
      cbv
      refine And.intro hb ?_
      refine ⟨i + 1, Less.cons rfl (Less.cons rfl (Less.nil _)), rfl, ⟨hi, fun j _ j2 => ?_⟩, (by omega)⟩
      rcases Nat.lt_or_ge j i with q | q
      · exact i2 j (Nat.zero_le _) q
      · rw [show j = i by omega]; exact hc
  · have hi : i = l.length := by omega
    subst hi
    have hcut := cut_end i2
    rw [List.drop_zero] at hcut
    rw [hcut] at hk
    cbv
    refine And.intro hS ?_
    refine And.intro (fun e => absurd e (Nat.lt_irrefl _)) (fun _ => ?_)
    cbv
    exact ⟨_, rfl, hk _⟩
theorem rQual (l : List UInt8) (hl : l.length ≤ 1000000) (h : H) (K : Value → H → Prop) (hk : ∀ h', K (.bool (isQual l)) h') : CallP E 26 [.string ⟨⟨l⟩⟩] h K := by
  refine CallP.ofE hE rfl Tryd.func26 rfl (Nat.le_of_ble_eq_true rfl) ?_
  have hS : isString E.1 9 = true := by rw [hE]; exact stringT
  have n0 := fun h K hk => rSplit hE l hl h K hk
  have n1 : ∀ (l : List UInt8) (h : H) (K : Value → H → Prop), K (.bool (isName l)) h → CallP E 25 [.string ⟨⟨l⟩⟩] h K := fun l h K hk => rIs hE ⟨⟨l⟩⟩ h K hk
  clear hE
  unfold splitV at n0
  unfold isQual at hk
  cases hc : cutB 58 l with
  | none =>
    simp only [hc] at n0 hk
    have n1 := fun h K hk => n1 l h K hk
    generalize isName l = a at n1 hk
    cbv
    refine .inl (n0 _ _ fun h' => ?_)
    cbv
    refine And.intro hS (And.intro hS ?_)
    refine And.intro (fun _ => ?_) (fun e => absurd rfl e)
    cbv
    refine .inl (n1 _ _ ?_)
    cbv
    exact ⟨_, rfl, hk _⟩
  | some pq =>
    obtain ⟨p, q⟩ := pq
    simp only [hc] at n0 hk
    have hne : ¬ q.length = l.length := by
      obtain ⟨e, _⟩ := cutB_some hc
      rw [e]
      simp
      omega
    have n2 := fun h K hk => n1 p h K hk
    have n3 := fun h K hk => n1 q h K hk
    clear n1
    generalize isName p = a at n2 hk
    generalize isName q = b at n3 hk
    cases a <;> cases b
    all_goals cbv
    all_goals (refine .inl (n0 _ _ fun h' => ?_); cbv; refine And.intro hS (And.intro hS ?_); refine And.intro (fun e => absurd e hne) (fun _ => ?_); cbv; refine .inl (n2 _ _ ?_); cbv)
    all_goals first
      | exact ⟨_, rfl, hk _⟩
      | (refine .inl (n3 _ _ ?_); cbv; exact ⟨_, rfl, hk _⟩)
end
def lenP (p : List UInt8 → Value) (m : Nat) : Prim
  | [.string s] => match isLe s.size m with
    | true => some (p s.data.toList)
    | _ => none
  | _ => none
def lenBP (p : List UInt8 → Bool → Value) (m : Nat) : Prim
  | [.string s, .bool b] => match isLe s.size m with
    | true => some (p s.data.toList b)
    | _ => none
  | _ => none
def escV (l : List UInt8) (a : Bool) : Value := .string ⟨⟨escape a l⟩⟩
def charP : Prim
  | [.int .i32 r] => some (.bool (sign r))
  | _ => none
def nameV (l : List UInt8) : Value := .bool (isName l)
def qualV (l : List UInt8) : Value := .bool (isQual l)
def signsV (l : List UInt8) : Value := .bool (signs l)
def unescV (l : List UInt8) : Value := optV (unescape l)
noncomputable def EM3 : Env := ⟨Tryd.prog, none, some 54, some 70, [(14, always (.bool true)),
  (17, lenP unescV 100000), (24, lenP unescV 100000), (16, lenBP escV 1000), (19, lenBP escV 1000),
  (15, lenP signsV 1000000), (20, lenP nameV 1000000), (25, lenP nameV 1000000), (21, lenP qualV 1000000), (26, lenP qualV 1000000),
  (22, lenP splitV 1000000), (23, lenP splitV 1000000), (12, charP), (13, charP)]⟩
theorem splitV_flat (l : List UInt8) : flat2 (splitV l) = true := by
  unfold splitV
  cases cutB 58 l <;> rfl
theorem lenP_ok {E : Env} (h : E.OK) {f : FuncId} {p : List UInt8 → Value} {m : Nat} (hp0 : ∀ l, flat2 (p l) = true) (hf : ∀ l : List UInt8, l.length ≤ m → CallP E f [.string ⟨⟨l⟩⟩] h0 fun u _ => u = p l) (args : List Value) (v : Value) (hp : lenP p m args = some v) : args.all flat2 = true ∧ flat2 v = true ∧ ∀ w, WOK w → GN ≤ w.heap.size → Calls E.P f args.toArray w fun e w' => e = .returned v ∧ Below w.heap.size w w' := by
  unfold lenP at hp
  split at hp
  · rename_i s
    split at hp
    · rename_i hb
      cases hp
      obtain ⟨⟨l⟩⟩ := s
      exact ⟨rfl, hp0 _, fun w hw hs => calls_of h (hf l (Nat.le_of_ble_eq_true hb)) rfl (hp0 _) hw hs⟩
    · cases hp
  · cases hp
theorem lenBP_ok {E : Env} (h : E.OK) {f : FuncId} {p : List UInt8 → Bool → Value} {m : Nat} (hp0 : ∀ l b, flat2 (p l b) = true) (hf : ∀ (l : List UInt8) (b : Bool), l.length ≤ m → CallP E f [.string ⟨⟨l⟩⟩, .bool b] h0 fun u _ => u = p l b) (args : List Value) (v : Value) (hp : lenBP p m args = some v) : args.all flat2 = true ∧ flat2 v = true ∧ ∀ w, WOK w → GN ≤ w.heap.size → Calls E.P f args.toArray w fun e w' => e = .returned v ∧ Below w.heap.size w w' := by
  unfold lenBP at hp
  split at hp
  · rename_i s b
    split at hp
    · rename_i hb
      cases hp
      obtain ⟨⟨l⟩⟩ := s
      exact ⟨rfl, hp0 _ _, fun w hw hs => calls_of h (hf l b (Nat.le_of_ble_eq_true hb)) rfl (hp0 _ _) hw hs⟩
    · cases hp
  · cases hp
theorem charP_ok {E : Env} (h : E.OK) {f : FuncId} (hf : ∀ r : Int, CallP E f [.int .i32 r] h0 fun u _ => u = .bool (sign r)) (args : List Value) (v : Value) (hp : charP args = some v) : args.all flat2 = true ∧ flat2 v = true ∧ ∀ w, WOK w → GN ≤ w.heap.size → Calls E.P f args.toArray w fun e w' => e = .returned v ∧ Below w.heap.size w w' := by
  unfold charP at hp
  split at hp
  · rename_i r
    cases hp
    exact ⟨rfl, rfl, fun w hw hs => calls_of h (hf r) rfl rfl hw hs⟩
  · cases hp
theorem emok3 (h : EM.OK) : EM3.OK := ⟨(fun f p args v hm hp => by
  have h2 := emok2 h
  cases hm with
  | head => exact h.memo _ _ args v (.head _) hp
  | tail _ hm => cases hm with
    | head => exact lenP_ok h2 (fun l => optV_flat _) (fun l hl => nUnesc rfl l hl h0 _ fun _ => rfl) args v hp
    | tail _ hm => cases hm with
      | head => exact lenP_ok h2 (fun l => optV_flat _) (fun l hl => rUnesc rfl l hl h0 _ fun _ => rfl) args v hp
      | tail _ hm => cases hm with
        | head => exact lenBP_ok h (fun l b => rfl) (fun l b hl => nEscape rfl b l hl h0 _ rfl) args v hp
        | tail _ hm => cases hm with
          | head => exact lenBP_ok h (fun l b => rfl) (fun l b hl => rEscape rfl b l hl h0 _ rfl) args v hp
          | tail _ hm => cases hm with
            | head => exact lenP_ok h (fun l => rfl) (fun l hl => rSigns rfl l hl h0 _ fun _ => rfl) args v hp
            | tail _ hm => cases hm with
              | head => exact lenP_ok h (fun l => rfl) (fun l hl => nIs rfl ⟨⟨l⟩⟩ h0 _ fun _ => rfl) args v hp
              | tail _ hm => cases hm with
                | head => exact lenP_ok h (fun l => rfl) (fun l hl => rIs rfl ⟨⟨l⟩⟩ h0 _ rfl) args v hp
                | tail _ hm => cases hm with
                  | head => exact lenP_ok h (fun l => rfl) (fun l hl => nQual rfl l hl h0 _ fun _ => rfl) args v hp
                  | tail _ hm => cases hm with
                    | head => exact lenP_ok h (fun l => rfl) (fun l hl => rQual rfl l hl h0 _ fun _ => rfl) args v hp
                    | tail _ hm => cases hm with
                      | head => exact lenP_ok h splitV_flat (fun l hl => nSplit rfl l hl h0 _ fun _ => rfl) args v hp
                      | tail _ hm => cases hm with
                        | head => exact lenP_ok h splitV_flat (fun l hl => rSplit rfl l hl h0 _ fun _ => rfl) args v hp
                        | tail _ hm => cases hm with
                          | head => exact charP_ok h (fun r => nChar rfl r h0 _ rfl) args v hp
                          | tail _ hm => cases hm with
                            | head => exact charP_ok h (fun r => rChar rfl r h0 _ rfl) args v hp
                            | tail _ hm => cases hm), h.mixed, h.names, h.clone, h.same, h.room⟩
section
variable {E : Env} (hE : E = EM3)
include hE
theorem lenC {f : FuncId} {p : List UInt8 → Value} {m : Nat} {fn : Func} {c : Code} (hf : EM3.P.funcs[f]? = some fn) (hb : fn.body = some c) (hp : primOf EM3.memo f = some (lenP p m)) (l : List UInt8) (hl : l.length ≤ m) (h : H) (K : Value → H → Prop) (hk : K (p l) h) : CallP E f [.string ⟨⟨l⟩⟩] h K := by
  refine CallP.memo (v := p l) ?_ (by rw [hE]; exact ⟨_, _, hf, hb⟩) hk
  rw [hE]
  have : isLe (⟨⟨l⟩⟩ : ByteArray).size m = true := Nat.ble_eq_true_of_le hl
  simp only [memoOf, hp, lenP, this]
theorem lenBC {f : FuncId} {p : List UInt8 → Bool → Value} {m : Nat} {fn : Func} {c : Code} (hf : EM3.P.funcs[f]? = some fn) (hb : fn.body = some c) (hp : primOf EM3.memo f = some (lenBP p m)) (l : List UInt8) (b : Bool) (hl : l.length ≤ m) (h : H) (K : Value → H → Prop) (hk : K (p l b) h) : CallP E f [.string ⟨⟨l⟩⟩, .bool b] h K := by
  refine CallP.memo (v := p l b) ?_ (by rw [hE]; exact ⟨_, _, hf, hb⟩) hk
  rw [hE]
  have : isLe (⟨⟨l⟩⟩ : ByteArray).size m = true := Nat.ble_eq_true_of_le hl
  simp only [memoOf, hp, lenBP, this]
theorem nUnescC (l : List UInt8) (hl : l.length ≤ 100000) (h : H) (K : Value → H → Prop) (hk : K (optV (unescape l)) h) : CallP E 17 [.string ⟨⟨l⟩⟩] h K := lenC hE Tryd.func17 rfl rfl l hl h K hk
theorem rUnescC (l : List UInt8) (hl : l.length ≤ 100000) (h : H) (K : Value → H → Prop) (hk : K (optV (unescape l)) h) : CallP E 24 [.string ⟨⟨l⟩⟩] h K := lenC hE Tryd.func24 rfl rfl l hl h K hk
theorem nEscC (l : List UInt8) (a : Bool) (hl : l.length ≤ 1000) (h : H) (K : Value → H → Prop) (hk : K (.string ⟨⟨escape a l⟩⟩) h) : CallP E 16 [.string ⟨⟨l⟩⟩, .bool a] h K := lenBC hE Tryd.func16 rfl rfl l a hl h K hk
theorem rEscC (l : List UInt8) (a : Bool) (hl : l.length ≤ 1000) (h : H) (K : Value → H → Prop) (hk : K (.string ⟨⟨escape a l⟩⟩) h) : CallP E 19 [.string ⟨⟨l⟩⟩, .bool a] h K := lenBC hE Tryd.func19 rfl rfl l a hl h K hk
theorem rSignsC (l : List UInt8) (hl : l.length ≤ 1000000) (h : H) (K : Value → H → Prop) (hk : K (.bool (signs l)) h) : CallP E 15 [.string ⟨⟨l⟩⟩] h K := lenC hE Tryd.func15 rfl rfl l hl h K hk
theorem nIsC (l : List UInt8) (hl : l.length ≤ 1000000) (h : H) (K : Value → H → Prop) (hk : K (.bool (isName l)) h) : CallP E 20 [.string ⟨⟨l⟩⟩] h K := lenC hE Tryd.func20 rfl rfl l hl h K hk
theorem rIsC (l : List UInt8) (hl : l.length ≤ 1000000) (h : H) (K : Value → H → Prop) (hk : K (.bool (isName l)) h) : CallP E 25 [.string ⟨⟨l⟩⟩] h K := lenC hE Tryd.func25 rfl rfl l hl h K hk
theorem nQualC (l : List UInt8) (hl : l.length ≤ 1000000) (h : H) (K : Value → H → Prop) (hk : K (.bool (isQual l)) h) : CallP E 21 [.string ⟨⟨l⟩⟩] h K := lenC hE Tryd.func21 rfl rfl l hl h K hk
theorem rQualC (l : List UInt8) (hl : l.length ≤ 1000000) (h : H) (K : Value → H → Prop) (hk : K (.bool (isQual l)) h) : CallP E 26 [.string ⟨⟨l⟩⟩] h K := lenC hE Tryd.func26 rfl rfl l hl h K hk
theorem nSplitC (l : List UInt8) (hl : l.length ≤ 1000000) (h : H) (K : Value → H → Prop) (hk : K (splitV l) h) : CallP E 22 [.string ⟨⟨l⟩⟩] h K := lenC hE Tryd.func22 rfl rfl l hl h K hk
theorem rSplitC (l : List UInt8) (hl : l.length ≤ 1000000) (h : H) (K : Value → H → Prop) (hk : K (splitV l) h) : CallP E 23 [.string ⟨⟨l⟩⟩] h K := lenC hE Tryd.func23 rfl rfl l hl h K hk
theorem rCharC (r : Int) (h : H) (K : Value → H → Prop) (hk : K (.bool (sign r)) h) : CallP E 13 [.int .i32 r] h K :=
  CallP.memo (v := .bool (sign r)) (by rw [hE]; rfl) (by rw [hE]; exact ⟨_, _, Tryd.func13, rfl⟩) hk
theorem knownC (h : H) (K : Value → H → Prop) (hk : K (.bool true) h) : CallP E 14 [] h K := CallP.memo (by rw [hE]; rfl) (by rw [hE]; exact ⟨_, _, Tryd.func14, rfl⟩) hk
end
end Go.Proofs.YtknhcgdhfndooaaDoor.GEv
