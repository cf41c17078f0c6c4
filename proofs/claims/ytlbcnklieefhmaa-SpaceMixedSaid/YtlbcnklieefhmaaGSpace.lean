/- Chapter 3's pure side: what the resolving of small elements comes to. -/
import Derived.Test.YtlbcnklieefhmaaPAx19
namespace Go.Proofs.Ytlbcnklieefhmaa.PA
open Go.RowKit Go.Proofs.YtlbcnklieefhmaaW.PrintWords Go.Proofs.Ytlbcnklieefhmaa.GMap
theorem sp_a : name_Split.f (⟨#[97]⟩ : ByteArray) = some (⟨#[]⟩, ⟨#[97]⟩) := by rfl
theorem sp_b : name_Split.f (⟨#[98]⟩ : ByteArray) = some (⟨#[]⟩, ⟨#[98]⟩) := by rfl
theorem sp_c : name_Split.f (⟨#[99]⟩ : ByteArray) = some (⟨#[]⟩, ⟨#[99]⟩) := by rfl
theorem sp_d : name_Split.f (⟨#[100]⟩ : ByteArray) = some (⟨#[]⟩, ⟨#[100]⟩) := by rfl
theorem sp_k : name_Split.f (⟨#[107]⟩ : ByteArray) = some (⟨#[]⟩, ⟨#[107]⟩) := by rfl
theorem sp_xmlns : name_Split.f (⟨#[120, 109, 108, 110, 115]⟩ : ByteArray) = some (⟨#[]⟩, ⟨#[120, 109, 108, 110, 115]⟩) := by rfl
theorem size_mk (a : Array UInt8) : (⟨a⟩ : ByteArray).size = a.size := rfl
end Go.Proofs.Ytlbcnklieefhmaa.PA
