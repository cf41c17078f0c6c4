/- Functions that are known by what they hand back: a second environment. -/
import Derived.Test.YtknhcgdhfndooaaDoorGNmF
namespace Go.Proofs.YtknhcgdhfndooaaDoor.GEv
open Go
open Go.RowKit (Below)
def isLe (n m : Nat) : Bool := Nat.ble n m
def cutP : Prim
  | [.string s, .string t] => match isLe s.size 1000000, t.data.toList with
    | true, [c] => some (cutV c s.data.toList)
    | _, _ => none
  | _ => none
def meantP : Prim
  | [.string s] => some (optV (entity s.data.toList))
  | _ => none
def signsP : Prim
  | [.string s] => match isLe s.size 1000000 with
    | true => some (.bool (signs s.data.toList))
    | _ => none
  | _ => none
noncomputable def EM2 : Env := ⟨Tryd.prog, none, some 54, some 70, [(14, always (.bool true)), (27, validP), (28, replP), (79, cloneP),
  (30, cutP), (33, meantP), (36, meantP), (29, signsP), (15, signsP)]⟩
theorem optV_flat (o : Option (List UInt8)) : flat2 (optV o) = true := by cases o <;> rfl
theorem cutV_flat (c : UInt8) (l : List UInt8) : flat2 (cutV c l) = true := by
  unfold cutV
  cases cutB c l <;> rfl
/-- What a symbolic run says of the model's own calls. -/
theorem calls_of {E : Env} (hOK : E.OK) {f : FuncId} {args : List Value} {v : Value} (hr : CallP E f args h0 fun u _ => u = v) (ha : args.all flat2 = true) (hv : flat2 v = true) {W : World} (hw : WOK W) (hs : GN ≤ W.heap.size) :
    Calls E.P f args.toArray W fun e W' => e = .returned v ∧ Below W.heap.size W W' := by
  obtain ⟨n, u, h', he, rfl⟩ := hr.ex
  exact calls_flat (args := args) hOK (n := n) (by simp only [result, run, he]) hv ha hw hs
theorem cut_ok (h : EM.OK) (args : List Value) (v : Value) (hp : cutP args = some v) : args.all flat2 = true ∧ flat2 v = true ∧ ∀ w, WOK w → GN ≤ w.heap.size → Calls Tryd.prog 30 args.toArray w fun e w' => e = .returned v ∧ Below w.heap.size w w' := by
  unfold cutP at hp
  split at hp
  · rename_i s t
    split at hp
    · rename_i c hb hc
      cases hp
      refine ⟨rfl, cutV_flat _ _, fun w hw hs => ?_⟩
      obtain ⟨⟨l⟩⟩ := s
      obtain ⟨⟨t⟩⟩ := t
      have hc : t = [c] := hc
      subst hc
      exact calls_of h (cutN rfl c l (Nat.le_of_ble_eq_true hb) h0 _ fun _ => rfl) rfl (cutV_flat _ _) hw hs
    · cases hp
  · cases hp
theorem meant_ok (h : EM.OK) (f : FuncId) (hf : ∀ l, CallP EM f [.string ⟨⟨l⟩⟩] h0 fun u _ => u = optV (entity l)) (args : List Value) (v : Value) (hp : meantP args = some v) : args.all flat2 = true ∧ flat2 v = true ∧ ∀ w, WOK w → GN ≤ w.heap.size → Calls Tryd.prog f args.toArray w fun e w' => e = .returned v ∧ Below w.heap.size w w' := by
  unfold meantP at hp
  split at hp
  · rename_i s
    cases hp
    obtain ⟨⟨l⟩⟩ := s
    exact ⟨rfl, optV_flat _, fun w hw hs => calls_of h (hf l) rfl (optV_flat _) hw hs⟩
  · cases hp
theorem signs_ok (h : EM.OK) (f : FuncId) (hf : ∀ l : List UInt8, l.length ≤ 1000000 → CallP EM f [.string ⟨⟨l⟩⟩] h0 fun u _ => u = .bool (signs l)) (args : List Value) (v : Value) (hp : signsP args = some v) : args.all flat2 = true ∧ flat2 v = true ∧ ∀ w, WOK w → GN ≤ w.heap.size → Calls Tryd.prog f args.toArray w fun e w' => e = .returned v ∧ Below w.heap.size w w' := by
  unfold signsP at hp
  split at hp
  · rename_i s
    split at hp
    · rename_i hb
      cases hp
      obtain ⟨⟨l⟩⟩ := s
      exact ⟨rfl, rfl, fun w hw hs => calls_of h (hf l (Nat.le_of_ble_eq_true hb)) rfl rfl hw hs⟩
    · cases hp
  · cases hp
theorem emok2 (h : EM.OK) : EM2.OK := ⟨(fun f p args v hm hp => by
  cases hm with
  | head => exact h.memo _ _ args v (.head _) hp
  | tail _ hm => cases hm with
    | head => exact h.memo _ _ args v (.tail _ (.head _)) hp
    | tail _ hm => cases hm with
      | head => exact h.memo _ _ args v (.tail _ (.tail _ (.head _))) hp
      | tail _ hm => cases hm with
        | head => exact h.memo _ _ args v (.tail _ (.tail _ (.tail _ (.head _)))) hp
        | tail _ hm => cases hm with
          | head => exact cut_ok h args v hp
          | tail _ hm => cases hm with
            | head => exact meant_ok h _ (fun l => nMeant rfl l h0 _ fun _ => rfl) args v hp
            | tail _ hm => cases hm with
              | head => exact meant_ok h _ (fun l => rEntity rfl l h0 _ fun _ => rfl) args v hp
              | tail _ hm => cases hm with
                | head => exact signs_ok h _ (fun l hl => nWhole rfl l hl h0 _ fun _ => rfl) args v hp
                | tail _ hm => cases hm with
                  | head => exact signs_ok h _ (fun l hl => rSigns rfl l hl h0 _ fun _ => rfl) args v hp
                  | tail _ hm => cases hm), h.mixed, h.names, h.clone, h.same, h.room⟩
end Go.Proofs.YtknhcgdhfndooaaDoor.GEv
