import Derived.Test.YtfgemjpoiconbaaGreatDoorGXmH
import Derived.Test.YtfgemjpoiconbaaGreatDoorGNmK
/- 'fair', by a symbolic run. -/
namespace Go.Proofs.YtfgemjpoiconbaaGreatDoor.GEv
open Go
set_option linter.unusedSimpArgs false
set_option linter.unusedVariables false
set_option maxRecDepth 100000
attribute [local cbv_opaque] isString isSlice isBoolT fOff iSize eqNil zero H.load H.store H.push H.dip H.put List.length List.getD Nat.add Nat.sub Nat.mul List.take List.drop top Addr.add dupA isQual signs
attribute [local cbv_eval] List.length_cons List.length_nil addr_add
end Go.Proofs.YtfgemjpoiconbaaGreatDoor.GEv

/- The reference's 'Print', by a symbolic run. -/
namespace Go.Proofs.YtfgemjpoiconbaaGreatDoor.GEv
open Go
set_option linter.unusedSimpArgs false
set_option linter.unusedVariables false
set_option maxRecDepth 100000
theorem CallP.ofXE {E E' : Env} {f : FuncId} {fn : Func} {c : Code} {args : List Value} {h : H} {K : Value → H → Prop} (hE : E = E') (hm : memoOf E'.memo f args = none) (hf : E'.P.funcs[f]? = some fn) (hb : fn.body = some c) (hl : args.length ≤ fn.ntmps)
    (hk : syX E fn.ntmps c (argsL 0 args) h (retL E.P fn.results.toList K) (retL E.P fn.results.toList K) (fun _ _ _ => False)) : CallP E f args h K := CallP.ofX (by rw [hE]; exact hm) (by rw [hE]; exact hf) hb hl hk
theorem ld_at {P : Program} {h h' : H} {t : TypeId} {b o : Nat} {v : Value} (hl : h.load P t ⟨b, o, none⟩ = some v) (hm : h'.m = h.m) : h'.load P t ⟨b, o, none⟩ = some v := by
  unfold H.load H.read at hl ⊢
  rw [hm]
  exact hl
theorem Grows.mixTop {g h : H} (k : Grows g h) : Grows g (mixH h ⟨h.m, h.next, top h.next⟩) := k.dip
theorem DrawP.free {E : Env} {nt : Nat} {id : Nat} {ops : Array Oper} {l : L} {h : H} {kn : L → H → Prop} (hl : Region.lexB .any ops = true) (hs : ∀ bef, syDX E nt ops.toList bef ops.toList 0 [] l h kn) : DrawP E nt id ops l h kn := DrawP.of _ rfl hl (hs _)
/-! ### how long a text is -/
attribute [local cbv_opaque] isString isSlice isBoolT fOff iSize eqNil zero H.load H.store H.push H.dip H.put List.length Nat.add Nat.sub Nat.mul List.take List.drop top Addr.add escape List.append List.flatMap mixH
attribute [local cbv_eval] List.length_cons List.length_nil addr_add mixH_top
end Go.Proofs.YtfgemjpoiconbaaGreatDoor.GEv

/- Rows of attributes compared, by symbolic runs. -/
namespace Go.Proofs.YtfgemjpoiconbaaGreatDoor.GEv
open Go
set_option linter.unusedSimpArgs false
set_option linter.unusedVariables false
set_option maxRecDepth 100000
attribute [local cbv_opaque] isString isSlice isBoolT fOff iSize eqNil zero H.load H.store H.push H.dip H.put List.length Nat.add Nat.sub Nat.mul List.take List.drop top Addr.add List.append mixH attrC
attribute [local cbv_eval] List.length_cons List.length_nil addr_add mixH_top
section
variable {E : Env} (hE : E = EMY)
include hE
end
end Go.Proofs.YtfgemjpoiconbaaGreatDoor.GEv

/- The reference's 'Same', by a symbolic run. -/
namespace Go.Proofs.YtfgemjpoiconbaaGreatDoor.GEv
open Go
set_option linter.unusedSimpArgs false
set_option linter.unusedVariables false
set_option maxRecDepth 100000
/-- A row of elements, in memory. -/
def IsKs (h : H) (S : Nat → Prop) (l : List El) (v : Value) : Prop :=
  ∃ a cap, v = .slice a l.length cap ∧ ((l = [] ∧ NoSpot a) ∨ ∃ b off, ∃ d : Nat → List Value, a = some ⟨b, off, none⟩ ∧ S b ∧ b < h.next ∧ (∀ i, i < l.length → h.read b (off + i * 4) 4 = some (d i)) ∧ ∀ i x, l[i]? = some x → IsEl h S x (d i))
theorem IsKs.at {h : H} {S : Nat → Prop} {l : List El} {a : Option Addr} {cap i : Nat} {x : El} (hi : IsKs h S l (.slice a l.length cap)) (hx : l[i]? = some x) : ∃ b off d, a = some ⟨b, off, none⟩ ∧ S b ∧ b < h.next ∧ h.read b (off + i * 4) 4 = some d ∧ IsEl h S x d := by
  obtain ⟨a', cap', e, q⟩ := hi
  cases e
  rcases q with ⟨rfl, _⟩ | ⟨b, off, d, q1, q2, q3, q4, q5⟩
  · simp at hx
  · exact ⟨b, off, d i, q1, q2, q3, q4 i (List.getElem?_eq_some_iff.1 hx).1, q5 i x hx⟩
theorem IsKs.spot {h : H} {S : Nat → Prop} {l : List El} {a : Option Addr} {n cap : Nat} (hi : IsKs h S l (.slice a n cap)) : NoSpot a := by
  obtain ⟨a', cap', e, q⟩ := hi
  cases e
  rcases q with q | ⟨b, off, d, q1, _⟩
  · exact q.2
  · subst q1; intro x hx; cases hx; rfl
theorem IsAt.spot {h : H} {S : Nat → Prop} {l : List (Bs × Bs)} {a : Option Addr} {n cap : Nat} (hi : IsAt h S l (.slice a n cap)) : NoSpot a := by
  obtain ⟨a', cap', e, q⟩ := hi
  cases e
  rcases q with q | ⟨b, off, q1, _⟩
  · exact q.2
  · subst q1; intro x hx; cases hx; rfl
theorem IsKs.grows {h h' : H} {S : Nat → Prop} {l : List El} {v : Value} (g : Grows h h') (hi : IsKs h S l v) : IsKs h' S l v := by
  obtain ⟨a, cap, e, q⟩ := hi
  refine ⟨a, cap, e, ?_⟩
  rcases q with q | ⟨b, off, d, q1, q2, q3, q4, q5⟩
  · exact .inl q
  · exact .inr ⟨b, off, d, q1, q2, Nat.lt_of_lt_of_le q3 g.next, fun i hi => g.read (q4 i hi) q3, fun i x hx => (q5 i x hx).grows g⟩
/-- An element's parts. -/
theorem IsEl.cut {h : H} {S : Nat → Prop} {n : Bs} {a : List (Bs × Bs)} {k : List El} {p : Int} {c : List Value} (hi : IsEl h S (.mk n a k p) c) : ∃ aa ac ka kc, c = [.string ⟨⟨n⟩⟩, .slice aa a.length ac, .slice ka k.length kc, .int .i64 p] ∧ IsAt h S a (.slice aa a.length ac) ∧ IsKs h S k (.slice ka k.length kc) := by
  obtain ⟨va, vk, rfl, hat, ka, kc, rfl, q⟩ := hi.parts
  obtain ⟨aa, ac, e, q2⟩ := hat
  exact ⟨aa, ac, ka, kc, by rw [e]; rfl, ⟨aa, ac, rfl, q2⟩, ⟨ka, kc, rfl, q⟩⟩
abbrev elC (n : Bs) (aa : Option Addr) (al ac : Nat) (ka : Option Addr) (kl kc : Nat) (p : Int) : List Value := [.string ⟨⟨n⟩⟩, .slice aa al ac, .slice ka kl kc, .int .i64 p]
abbrev boxO (c : List Value) : AObj := .cells c (some 25) true 0
theorem box_get (h : H) (o : AObj) : (h.push o).m.get h.next = some o := by rw [push_get, if_pos rfl]
attribute [local cbv_opaque] isString isSlice isBoolT fOff iSize eqNil zero H.load H.store H.push H.dip H.put List.length Nat.add Nat.sub Nat.mul List.take List.drop top Addr.add List.append mixH attrC
attribute [local cbv_eval] List.length_cons List.length_nil addr_add mixH_top
end Go.Proofs.YtfgemjpoiconbaaGreatDoor.GEv

/- 'Same', with the library's 'EqualFunc', by symbolic runs. -/
namespace Go.Proofs.YtfgemjpoiconbaaGreatDoor.GEv
open Go
set_option linter.unusedSimpArgs false
set_option linter.unusedVariables false
set_option maxRecDepth 100000
theorem zElem : zero EMY.P 25 = some (.agg #[.string ⟨⟨[]⟩⟩, .slice none 0 0, .slice none 0 0, .int .i64 0]) := by kernel_rfl
theorem zAttr : zero EMY.P 41 = some (.agg #[.string ⟨⟨[]⟩⟩, .string ⟨⟨[]⟩⟩]) := by kernel_rfl
theorem st_agg {P : Program} {h : H} {t : TypeId} {b n : Nat} {c d : List Value} {e : Option TypeId} {f : Bool} (hs : sizeOf P t = some n) (hg : h.m.get b = some (.cells c e f 0)) (hc : c.length = n) (hd : d.length = n) (ho : d.all one = true) : h.store P t ⟨b, 0, none⟩ (.agg d.toArray) = some (h.put b (some (.cells d e f 0))) := by
  have e1 : (Value.agg d.toArray).cells.toList = d := rfl
  unfold H.store H.write
  simp only [hs, e1, hg]
  rw [if_pos hd, if_pos ⟨Nat.le_refl _, by omega⟩, if_pos ho]
  have e2 : over c 0 d = d := by
    unfold over
    rw [List.drop_eq_nil_of_le (by omega)]
    simp
  rw [e2]
theorem IsEl.one {h : H} {S : Nat → Prop} {e : El} {c : List Value} (hi : IsEl h S e c) : c.all one = true := by
  obtain ⟨n, a, k, p⟩ := e
  obtain ⟨_, _, _, _, rfl, _⟩ := hi.cut
  rfl
/-- A box of its own, laid and written. -/
theorem laid {g m : H} (hg : Grows g m) (o : AObj) (d : List Value) (t : Option TypeId) (f : Bool) : Grows g ((m.push o).put m.next (some (.cells d t f 0))) ∧ Grows m ((m.push o).put m.next (some (.cells d t f 0))) ∧ ((m.push o).put m.next (some (.cells d t f 0))).m.get m.next = some (.cells d t f 0) ∧ m.next < ((m.push o).put m.next (some (.cells d t f 0))).next :=
  ⟨(hg.push o).put hg.next _, ((Grows.refl m).push o).put (Nat.le_refl _) _, by rw [put_get, if_pos rfl], Nat.lt_succ_self _⟩
attribute [local cbv_opaque] isString isSlice isBoolT fOff iSize eqNil zero H.load H.store H.push H.dip H.put List.length Nat.add Nat.sub Nat.mul List.take List.drop top Addr.add mixH attrC
attribute [local cbv_eval] List.length_cons List.length_nil addr_add mixH_top
end Go.Proofs.YtfgemjpoiconbaaGreatDoor.GEv

/- 'Print', by a symbolic run. -/
namespace Go.Proofs.YtfgemjpoiconbaaGreatDoor.GEv
open Go
set_option linter.unusedSimpArgs false
set_option linter.unusedVariables false
set_option maxRecDepth 100000
/-! ### how long a text is -/
/-! ### the Builder's memory -/
theorem IsB.grows {g h h' : H} {b : Nat} {l : List UInt8} (hb : IsB g h b l) (k : Grows h h') : IsB g h' b l := by
  obtain ⟨h1, h2, h3, p, s, e1, e2, e3⟩ := hb
  refine ⟨Nat.lt_of_lt_of_le h1 k.next, h2, h3.trans k, p, s, by rw [k.keep b h1]; exact e1, e2, ?_⟩
  rcases e3 with q | ⟨r, q1, q2, q3, q4, q5, q6⟩
  · exact .inl q
  · exact .inr ⟨r, Nat.lt_of_lt_of_le q1 k.next, q2, q3, q4, q5, by rw [k.keep r q1]; exact q6⟩
theorem IsB.re {g h h' : H} {b : Nat} {l : List UInt8} (hb : IsB g h b l) (hm : h'.m = h.m) (hn : h'.next = h.next) (k : Grows g h') : IsB g h' b l := by
  obtain ⟨h1, h2, h3, p, s, e1, e2, e3⟩ := hb
  refine ⟨by rw [hn]; exact h1, h2, k, p, s, by rw [hm]; exact e1, e2, ?_⟩
  rcases e3 with q | ⟨r, q1, q2, q3, q4, q5, q6⟩
  · exact .inl q
  · exact .inr ⟨r, by rw [hn]; exact q1, q2, q3, q4, q5, by rw [hm]; exact q6⟩
theorem FitP.writeG {l : L} {o : Oper} {h h1 : H} {bef i : Nat} {seen : List (Nat × Foot)} {K : List (Nat × Foot) → Prop} (hf : ∀ w, footL l o w h.m h1.m = some (if w = true then .gen h.m h1.m else .rd none)) (hfit : (seen.all fun p => Nat.testBit bef p.1) = true) (hk : ∀ f, (f = .rd none ∨ f = .gen h.m h1.m) → K ((i, f) :: seen)) : FitP l o h h1 bef seen i K := by
  refine ⟨_, _, rfl, hf _, ?_, hk _ ?_⟩
  · generalize (if Nat.blt h1.low h.next = true then Foot.gen h.m h1.m else .rd none) = f
    clear hk
    induction seen with
    | nil => rfl
    | cons p r ih =>
      obtain ⟨j, g⟩ := p
      simp only [List.all_cons, Bool.and_eq_true] at hfit
      simp only [fits, hfit.1, ih hfit.2]
      simp
  · split
    · exact .inr rfl
    · exact .inl rfl
theorem sameO_box (n : Bs) (aa : Option Addr) (al ac : Nat) (ka : Option Addr) (kl kc : Nat) (p : Int) (h1 : NoSpot aa) (h2 : NoSpot ka) : sameO (some (boxO (elC n aa al ac ka kl kc p))) (some (boxO (elC n aa al ac ka kl kc p))) = true := by
  have hS : ∀ (a : Option Addr) (l c : Nat), NoSpot a → sameV (.slice a l c) (.slice a l c) = true := by
    intro a l c ha
    cases a with
    | none => simp [sameV]
    | some x =>
      have := ha x rfl
      simp [sameV, this]
  have hn : sameV (.string ⟨⟨n⟩⟩) (.string ⟨⟨n⟩⟩) = true := (ba_beq _ _).2 rfl
  have hp : sameV (.int .i64 p) (.int .i64 p) = true := by simp [sameV]
  simp [sameO, sameVs, sameEl, hn, hp, hS aa al ac h1, hS ka kl kc h2]
attribute [local cbv_opaque] isString isSlice isBoolT fOff iSize eqNil zero H.load H.store H.push H.dip H.put List.length Nat.add Nat.sub Nat.mul List.take List.drop top Addr.add escape List.append List.flatMap mixH
attribute [local cbv_eval] List.length_cons List.length_nil addr_add mixH_top
end Go.Proofs.YtfgemjpoiconbaaGreatDoor.GEv

/- XmlPrints, by a symbolic run. -/
namespace Go.Proofs.YtfgemjpoiconbaaGreatDoor.GEv
open Go
set_option linter.unusedSimpArgs false
set_option linter.unusedVariables false
set_option maxRecDepth 100000
theorem knownY {E : Env} (hE : E = EMY) (h : H) (K : Value → H → Prop) (hk : K (.bool true) h) : CallP E 15 [] h K := CallP.memo (by rw [hE]; rfl) (by rw [hE]; exact ⟨_, _, Tryz.func15, rfl⟩) hk
attribute [local cbv_opaque] isString isSlice isBoolT fOff iSize eqNil zero H.load H.store H.push H.dip H.put List.length Nat.add Nat.sub Nat.mul List.take List.drop top Addr.add mixH attrC cmpJ
attribute [local cbv_eval] List.length_cons List.length_nil addr_add mixH_top
end Go.Proofs.YtfgemjpoiconbaaGreatDoor.GEv

