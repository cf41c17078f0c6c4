/- SpacePrefix: for every two names as prefixes and every text of 1 to 50 bytes as a space, the elements with one prefix, with the other one, and without, are resolved alike (P3.1); of other arguments it says nothing. -/
import Derived.Test.YtlbcnklieefhmaaPAx24
import Derived.Test.YtlbcnklieefhmaaGSpace
import Derived.Test.YtlbcnklieefhmaaGKnown
import Derived.Test.YtlbcnklieefhmaaGName
namespace Go.Proofs.Ytlbcnklieefhmaa.Pure
open Go.RowKit Go.Proofs.Ytlbcnklieefhmaa.PA Go.Proofs.YtlbcnklieefhmaaW.PrintWords Go.Proofs.YtlbcnklieefhmaaW.PrintLast Go.Proofs.Ytlbcnklieefhmaa.GMap

theorem data_app (a b : ByteArray) : (a ++ b).data.toList = a.data.toList ++ b.data.toList := by simp
theorem app_size (a b : ByteArray) : (a ++ b).size = a.size + b.size := by simp
theorem split_pre (p : ByteArray) (x : UInt8) (hp : isB p = true) : name_Split.f (p ++ (⟨#[58, x]⟩ : ByteArray)) = some (p, ⟨#[x]⟩) := by
  have h := isB_size hp
  rw [split_at _ p.data.toList [x] (by rw [data_app]) (isB_colon hp) (by rw [app_size]; have : (⟨#[58, x]⟩ : ByteArray).size = 2 := rfl; omega)]
theorem split_xmlns (p : ByteArray) (hp : isB p = true) : name_Split.f ((⟨#[120, 109, 108, 110, 115, 58]⟩ : ByteArray) ++ p) = some (⟨#[120, 109, 108, 110, 115]⟩, p) := by
  have h := isB_size hp
  rw [split_at _ [120, 109, 108, 110, 115] p.data.toList (by rw [data_app]; rfl) (by decide) (by rw [app_size]; have : (⟨#[120, 109, 108, 110, 115, 58]⟩ : ByteArray).size = 6 := rfl; omega)]
theorem pre_run (p u : ByteArray) (hp : isB p = true) (h1 : ¬ p.toList = ([120, 109, 108] : List UInt8)) (h2 : ¬ p.toList = ([120, 109, 108, 110, 115] : List UInt8)) (hu : u.size ≤ 50) (h3 : ¬ u.toList = ([] : List UInt8)) :
    (sentrylaw3_prefixed.f p u).bind (fun x => space_Resolve.f 29 x.1 x.2.1 x.2.2.1 x.2.2.2) = some (u, ⟨#[97]⟩, [⟨⟨#[107]⟩, ⟨#[49]⟩⟩], [⟨u, ⟨#[98]⟩, [], [], 0⟩], 0, 0, 0) := by
  have hs := isB_size hp
  have hu' : u.size ≤ 4611686018427387904 := by omega
  have hq : p.size ≤ 4611686018427387904 := by omega
  have hn : ¬ ((⟨#[120, 109, 108, 110, 115, 58]⟩ : ByteArray) ++ p).toList = ([120, 109, 108, 110, 115] : List UInt8) := by
    rw [Lib.toList_data, data_app]
    intro h
    have := congrArg List.length h
    simp at this
  rw [Lib.toList_data] at h1 h2 h3
  have hd : same p p = true := same_true rfl
  unfold sentrylaw3_prefixed.f
  rw [if_pos (by omega), if_pos (by omega)]
  simp only [Option.bind_some, space_Resolve.f]
  have e0 : attrsF [((⟨#[]⟩ : ByteArray), (⟨#[]⟩ : ByteArray))] [] [⟨(⟨#[120, 109, 108, 110, 115, 58]⟩ : ByteArray) ++ p, u⟩, ⟨⟨#[107]⟩, ⟨#[49]⟩⟩] = some (true, [(p, u), (⟨#[]⟩, ⟨#[]⟩)], [⟨⟨#[107]⟩, ⟨#[49]⟩⟩]) := by
    have e1 : declareF [((⟨#[]⟩ : ByteArray), (⟨#[]⟩ : ByteArray))] [] ⟨(⟨#[120, 109, 108, 110, 115, 58]⟩ : ByteArray) ++ p, u⟩ = some (true, [(p, u), (⟨#[]⟩, ⟨#[]⟩)], []) := by
      unfold declareF
      rw [split_xmlns p hp]
      simp only [Option.bind_some]
      rw [if_pos ⟨hu', hq, by simp, by simp⟩, if_neg hn, if_neg (by simp [Lib.toList_data]), if_pos ⟨by simp [Lib.toList_data], by rw [Lib.toList_data]; exact h3, by rw [Lib.toList_data]; exact h1, by rw [Lib.toList_data]; exact h2⟩]
    have e2 : declareF [(p, u), ((⟨#[]⟩ : ByteArray), (⟨#[]⟩ : ByteArray))] [] ⟨⟨#[107]⟩, ⟨#[49]⟩⟩ = some (true, [(p, u), (⟨#[]⟩, ⟨#[]⟩)], [⟨⟨#[107]⟩, ⟨#[49]⟩⟩]) := by
      simp [declareF, sp_k, Lib.toList_data, size_mk]
    simp [attrsF, e1, e2]
  have hl : lk [(p, u), ((⟨#[]⟩ : ByteArray), (⟨#[]⟩ : ByteArray))] p = some u := by simp [lk, hd]
  have hx : ¬ p.toList = ([120, 109, 108, 110, 115] : List UInt8) := by rw [Lib.toList_data]; exact h2
  have en : ∀ (K : Pairs) (L : List S35), attrsF K L [] = some (true, K, L) := fun _ _ => rfl
  simp [resolveF, e0, en, kidsF, split_pre p 97 hp, split_pre p 98 hp, hq, hl, hx]
theorem plain_run (u : ByteArray) (hu : u.size ≤ 50) : space_Resolve.f 29 (⟨#[97]⟩ : ByteArray) [⟨⟨#[120, 109, 108, 110, 115]⟩, u⟩, ⟨⟨#[107]⟩, ⟨#[49]⟩⟩] [⟨⟨#[98]⟩, [], [], 0⟩] 0 = some (u, ⟨#[97]⟩, [⟨⟨#[107]⟩, ⟨#[49]⟩⟩], [⟨u, ⟨#[98]⟩, [], [], 0⟩], 0, 0, 0) := by
  have hu' : u.size ≤ 4611686018427387904 := by omega
  simp [space_Resolve.f, resolveF, attrsF, kidsF, declareF, sp_a, sp_b, sp_k, sp_xmlns, hu', Lib.toList_data, size_mk, lk, same]
theorem same_run (u : ByteArray) : sentryref3_Same.f 29 u ⟨#[97]⟩ [⟨⟨#[107]⟩, ⟨#[49]⟩⟩] [⟨u, ⟨#[98]⟩, [], [], 0⟩] 0 u ⟨#[97]⟩ [⟨⟨#[107]⟩, ⟨#[49]⟩⟩] [⟨u, ⟨#[98]⟩, [], [], 0⟩] 0 = some true := by
  simp [sentryref3_Same.f, sentryref3_Same.j0, sentryref3_Same.l0, sentryref2_SameAttrs.f, sentryref2_SameAttrs.l0, rd_T35, rd_T26, wrap64]
theorem known29 : sentrylaw3_known.f 29 = some true := by
  have h := known3
  exact at_rounds (fun k => sentrylaw3_known.mono k) (show 3 ≤ 29 by omega) h

theorem SpacePrefix : sentrylaw3_SpacePrefix.Pure := by
  intro p q u _ _ _
  refine ⟨30, ?_⟩
  have hj : sentrylaw3_SpacePrefix.j0 30 p q u true = some true := rfl
  unfold sentrylaw3_SpacePrefix.f
  rw [is_f p 30 (by omega), is_f q 30 (by omega)]
  simp only [Option.bind_some]
  by_cases hp : isB p = true
  case neg => rw [if_neg hp, hj]
  rw [if_pos hp]
  by_cases hq : isB q = true
  case neg => rw [if_neg hq, hj]
  rw [if_pos hq]
  by_cases a1 : p.toList = ([120, 109, 108] : List UInt8)
  · rw [if_pos a1, hj]
  rw [if_neg a1]
  by_cases a2 : p.toList = ([120, 109, 108, 110, 115] : List UInt8)
  · rw [if_pos a2, hj]
  rw [if_neg a2]
  by_cases a3 : q.toList = ([120, 109, 108] : List UInt8)
  · rw [if_pos a3, hj]
  rw [if_neg a3]
  by_cases a4 : q.toList = ([120, 109, 108, 110, 115] : List UInt8)
  · rw [if_pos a4, hj]
  rw [if_neg a4]
  by_cases a5 : u.toList = ([] : List UInt8)
  · rw [if_pos a5, hj]
  rw [if_neg a5]
  by_cases a6 : (u.size : Int) > 50
  · rw [decide_eq_true a6, hj]
  rw [decide_eq_false a6]
  have e1 := pre_run p u hp a1 a2 (by omega) a5
  have e2 := pre_run q u hq a3 a4 (by omega) a5
  obtain ⟨x, hx, e1⟩ := Option.bind_eq_some_iff.mp e1
  obtain ⟨y, hy, e2⟩ := Option.bind_eq_some_iff.mp e2
  simp only [sentrylaw3_SpacePrefix.j0]
  rw [if_neg (by decide), hx]
  simp only [Option.bind_some]
  rw [e1, hy]
  simp only [Option.bind_some]
  rw [e2, plain_run u (by omega)]
  simp only [Option.bind_some, if_true]
  rw [same_run]
  simp only [Option.bind_some, if_true]
  rw [known29]
  rfl
end Go.Proofs.Ytlbcnklieefhmaa.Pure
