/- RulesLess: of programs that come in as data. -/
import Derived.Test.YtknenadpkgajjaaGGsl
import Derived.Test.YtknenadpkgajjaaGEvT
namespace Go.Proofs.Ytknenadpkgajjaa.GEv
open Go
open Go.RowKit (Below)
set_option linter.unusedSimpArgs false
set_option linter.unusedVariables false
theorem gok : EG.OK := gok_of kok
theorem vr_agg (W : World) (cs : List Value) : VR (embR W) (.agg (cs.map (absV W)).toArray) (.agg cs.toArray) := by
  refine .agg (by simp) (fun i v v' h1 h2 => ?_)
  simp only [List.getElem?_toArray, List.getElem?_map] at h1 h2
  rw [h2] at h1
  cases h1
  exact absV_ok W v'
/-- An argument: a program. -/
theorem arg_prog {H : Type} {enc : TypeId × Value → H} {W : World} {v : Value} {d : DataW H} {p : List MemPlace} {ts : List TypeId} {ds : List (DataW H)} (hv : ∃ cs, v = .agg cs) (ht : DataW.Trod enc Try.prog W 0 (fun _ => true) true 36 v d p)
    (hsz : (DataW.weightsEach Try.prog ts ds).all (· ≤ reachBytes) = true) (j : Nat) (h1 : ts[j]? = some 36) (h2 : ds[j]? = some d) : ∃ (pr : PrS) (w : PrV) (cs : List Value), v = .agg cs.toArray ∧ IsPrB (emb W) (fun _ => True) pr w ∧ cs.map (absV W) = prC pr w := by
  obtain ⟨cs, rfl⟩ := hv
  obtain ⟨fuel, hf⟩ := ht
  obtain ⟨pr, w, h3, h4⟩ := open_prog datOk (fun _ => rfl) hf (fun n hn => by
    have := List.all_eq_true.1 hsz n (DataW.weights_mem_each h1 h2 n hn)
    simpa using this)
  exact ⟨pr, w, cs.toList, rfl, h3, h4⟩
theorem rulesLess_core {W : World} {pr : PrS} {w : PrV} {cs : List Value} (ha : IsPrB (emb W) (fun _ => True) pr w) (e : cs.map (absV W) = prC pr w) :
    Calls Try.prog 4 #[.agg cs.toArray] W fun e W' => e = .returned (.bool true) ∧ Below W.heap.size W W' :=
  calls_emb (args := [.agg (prC pr w).toArray]) (args' := [.agg cs.toArray]) gok (lLess rfl pr w (emb W) _ ha _ (fun h' g => ⟨rfl, g⟩)) (.cons (e ▸ vr_agg W cs) (.nil _)) rfl trivial (Nat.zero_le _)
end Go.Proofs.Ytknenadpkgajjaa.GEv
