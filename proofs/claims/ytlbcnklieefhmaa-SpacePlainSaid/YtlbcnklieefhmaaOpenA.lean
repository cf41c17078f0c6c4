-- Printed by this session's gprint.py: the data's own kinds as they come in.
import Derived.Test.YtlbcnklieefhmaaGOpen
import Derived.Test.YtlbcnklieefhmaaPAx0
namespace Go.Proofs.Ytlbcnklieefhmaa.OA
open Go.RowKit Go.Proofs.Ytlbcnklieefhmaa.PA Go.Proofs.Ytlbcnklieefhmaa.GOpen Go.Proofs.YtlbcnklieefhmaaW.PrintWords Go.Proofs.YtlbcnklieefhmaaW.PrintLast
def Wf35 (x : S35) : Prop := (x.f0.size ≤ reachBytes) ∧ (x.f1.size ≤ reachBytes)
set_option maxHeartbeats 1000000 in
theorem open35 : ∀ N, Opens Try.prog N k35 35 Wf35
  | 0 => Opens.zero _ _ _
  | N + 1 => by
    have ih : Opens Try.prog N k35 35 Wf35 := open35 N
    have o0 : Opens Try.prog N Kd.string 9 (fun z : ByteArray => z.size ≤ reachBytes) := (opens_string Try.underlying9)
    have o1 : Opens Try.prog N Kd.string 9 (fun z : ByteArray => z.size ≤ reachBytes) := (opens_string Try.underlying9)
    refine Opens.imp (opens_struct (φ := fun x : S35 => (x.f0, x.f1)) (ψ := fun y => ⟨y.1, y.2⟩) Try.underlying35 (by kernel_rfl) (fun _ => rfl) (opensF_cons rfl (by kernel_rfl) o0 (opensF_one rfl (by kernel_rfl) o1))) (fun _ _ _ h => h) ?_
    exact (fun _ h => h)
inductive Wf26 : S26 → Prop
  | mk (x : S26) : (x.f0.size ≤ reachBytes) → (x.f1.size ≤ reachBytes) → (x.f2.length * 32 ≤ reachBytes ∧ ∀ y0 ∈ x.f2, Wf35 y0) → (x.f3.length * 88 ≤ reachBytes) → (∀ y ∈ x.f3, Wf26 y) → ((Lit.int .i64 x.f4).wf = true) → Wf26 x
theorem join26 {w : World} {x : S26} {cs : List Value} (h : (F26 k26).K w x cs) : k26.K w x cs := by
  obtain ⟨_, _, rfl, rfl, ⟨_, _, rfl, rfl, ⟨_, _, rfl, ⟨A2, c2, rfl, l2, g2⟩, ⟨_, _, rfl, ⟨A3, c3, rfl, l3, g3⟩, rfl⟩⟩⟩⟩ := h
  exact k26_mk w x l2 g2 l3 g3
set_option maxHeartbeats 1000000 in
theorem open26 : ∀ N, Opens Try.prog N k26 26 Wf26
  | 0 => Opens.zero _ _ _
  | N + 1 => by
    have ih : Opens Try.prog N k26 26 Wf26 := open26 N
    have o0 : Opens Try.prog N Kd.string 9 (fun z : ByteArray => z.size ≤ reachBytes) := (opens_string Try.underlying9)
    have o1 : Opens Try.prog N Kd.string 9 (fun z : ByteArray => z.size ≤ reachBytes) := (opens_string Try.underlying9)
    have o2 : Opens Try.prog N (Kd.slice 35 k35) 23 (fun z : List (S35) => z.length * 32 ≤ reachBytes ∧ ∀ y0 ∈ z, Wf35 y0) := ((opens_slice (bts := 32) Try.underlying23 (by kernel_rfl) (by kernel_rfl) (open35 _)).mono (Nat.le_succ _))
    have o3 : Opens Try.prog N (Kd.slice 26 k26) 24 (fun z : List (S26) => z.length * 88 ≤ reachBytes ∧ ∀ y ∈ z, Wf26 y) := ((opens_slice (bts := 88) Try.underlying24 (by kernel_rfl) (by kernel_rfl) ih).mono (Nat.le_succ _))
    have o4 : Opens Try.prog N (Kd.int .i64) 3 (fun z : Int => (Lit.int .i64 z).wf = true) := (opens_int Try.underlying3)
    refine Opens.imp (opens_struct (φ := fun x : S26 => (x.f0, x.f1, x.f2, x.f3, x.f4)) (ψ := fun y => ⟨y.1, y.2.1, y.2.2.1, y.2.2.2.1, y.2.2.2.2⟩) Try.underlying26 (by kernel_rfl) (fun _ => rfl) (opensF_cons rfl (by kernel_rfl) o0 (opensF_cons rfl (by kernel_rfl) o1 (opensF_cons rfl (by kernel_rfl) o2 (opensF_cons rfl (by kernel_rfl) o3 (opensF_one rfl (by kernel_rfl) o4)))))) (fun _ _ _ h => join26 h) ?_
    exact (fun x h => by obtain ⟨h0, h1, h2, ⟨h3, i3⟩, h4⟩ := h; exact .mk x h0 h1 h2 h3 i3 h4)
end Go.Proofs.Ytlbcnklieefhmaa.OA
