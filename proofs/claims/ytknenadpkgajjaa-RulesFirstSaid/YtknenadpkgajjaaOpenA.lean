-- Printed by this session's gprint.py: the data's own kinds as they come in.
import Derived.Test.YtknenadpkgajjaaGOpen
import Derived.Test.YtknenadpkgajjaaPAx0
namespace Go.Proofs.Ytknenadpkgajjaa.OA
open Go.RowKit Go.Proofs.Ytknenadpkgajjaa.PA Go.Proofs.Ytknenadpkgajjaa.GOpen Go.Proofs.YtknenadpkgajjaaW.PrintWords Go.Proofs.YtknenadpkgajjaaW.PrintLast
def Wf39 (x : S39) : Prop := ((Lit.int .i64 x.f0).wf = true) ∧ (True)
set_option maxHeartbeats 1000000 in
theorem open39 : ∀ N, Opens Try.prog N k39 39 Wf39
  | 0 => Opens.zero _ _ _
  | N + 1 => by
    have ih : Opens Try.prog N k39 39 Wf39 := open39 N
    have o0 : Opens Try.prog N (Kd.int .i64) 3 (fun z : Int => (Lit.int .i64 z).wf = true) := (opens_int Try.underlying3)
    have o1 : Opens Try.prog N Kd.bool 4 (fun z : Bool => True) := (opens_bool Try.underlying4)
    refine Opens.imp (opens_struct (φ := fun x : S39 => (x.f0, x.f1)) (ψ := fun y => ⟨y.1, y.2⟩) Try.underlying39 (by kernel_rfl) (fun _ => rfl) (opensF_cons rfl (by kernel_rfl) o0 (opensF_one rfl (by kernel_rfl) o1))) (fun _ _ _ h => h) ?_
    exact (fun _ h => h)
def Wf41 (x : S41) : Prop := (x.f0.size ≤ reachBytes) ∧ (x.f1.size ≤ reachBytes) ∧ ((Lit.int .i64 x.f2).wf = true)
set_option maxHeartbeats 1000000 in
theorem open41 : ∀ N, Opens Try.prog N k41 41 Wf41
  | 0 => Opens.zero _ _ _
  | N + 1 => by
    have ih : Opens Try.prog N k41 41 Wf41 := open41 N
    have o0 : Opens Try.prog N Kd.string 9 (fun z : ByteArray => z.size ≤ reachBytes) := (opens_string Try.underlying9)
    have o1 : Opens Try.prog N Kd.string 9 (fun z : ByteArray => z.size ≤ reachBytes) := (opens_string Try.underlying9)
    have o2 : Opens Try.prog N (Kd.int .i64) 3 (fun z : Int => (Lit.int .i64 z).wf = true) := (opens_int Try.underlying3)
    refine Opens.imp (opens_struct (φ := fun x : S41 => (x.f0, x.f1, x.f2)) (ψ := fun y => ⟨y.1, y.2.1, y.2.2⟩) Try.underlying41 (by kernel_rfl) (fun _ => rfl) (opensF_cons rfl (by kernel_rfl) o0 (opensF_cons rfl (by kernel_rfl) o1 (opensF_one rfl (by kernel_rfl) o2)))) (fun _ _ _ h => h) ?_
    exact (fun _ h => h)
def Wf23 (x : S23) : Prop := ((Lit.int .i64 x.f0).wf = true) ∧ (True)
set_option maxHeartbeats 1000000 in
theorem open23 : ∀ N, Opens Try.prog N k23 23 Wf23
  | 0 => Opens.zero _ _ _
  | N + 1 => by
    have ih : Opens Try.prog N k23 23 Wf23 := open23 N
    have o0 : Opens Try.prog N (Kd.int .i64) 3 (fun z : Int => (Lit.int .i64 z).wf = true) := (opens_int Try.underlying3)
    have o1 : Opens Try.prog N Kd.bool 4 (fun z : Bool => True) := (opens_bool Try.underlying4)
    refine Opens.imp (opens_struct (φ := fun x : S23 => (x.f0, x.f1)) (ψ := fun y => ⟨y.1, y.2⟩) Try.underlying23 (by kernel_rfl) (fun _ => rfl) (opensF_cons rfl (by kernel_rfl) o0 (opensF_one rfl (by kernel_rfl) o1))) (fun _ _ _ h => h) ?_
    exact (fun _ h => h)
def Wf28 (x : S28) : Prop := ((Lit.int .i64 x.f0).wf = true) ∧ (x.f1.length * 16 ≤ reachBytes ∧ ∀ y0 ∈ x.f1, Wf39 y0) ∧ (x.f2.length * 40 ≤ reachBytes ∧ ∀ y0 ∈ x.f2, Wf41 y0) ∧ (x.f3.length * 16 ≤ reachBytes ∧ ∀ y0 ∈ x.f3, Wf23 y0)
set_option maxHeartbeats 1000000 in
theorem open28 : ∀ N, Opens Try.prog N k28 28 Wf28
  | 0 => Opens.zero _ _ _
  | N + 1 => by
    have ih : Opens Try.prog N k28 28 Wf28 := open28 N
    have o0 : Opens Try.prog N (Kd.int .i64) 3 (fun z : Int => (Lit.int .i64 z).wf = true) := (opens_int Try.underlying3)
    have o1 : Opens Try.prog N (Kd.slice 39 k39) 25 (fun z : List (S39) => z.length * 16 ≤ reachBytes ∧ ∀ y0 ∈ z, Wf39 y0) := ((opens_slice (bts := 16) Try.underlying25 (by kernel_rfl) (by kernel_rfl) (open39 _)).mono (Nat.le_succ _))
    have o2 : Opens Try.prog N (Kd.slice 41 k41) 26 (fun z : List (S41) => z.length * 40 ≤ reachBytes ∧ ∀ y0 ∈ z, Wf41 y0) := ((opens_slice (bts := 40) Try.underlying26 (by kernel_rfl) (by kernel_rfl) (open41 _)).mono (Nat.le_succ _))
    have o3 : Opens Try.prog N (Kd.slice 23 k23) 24 (fun z : List (S23) => z.length * 16 ≤ reachBytes ∧ ∀ y0 ∈ z, Wf23 y0) := ((opens_slice (bts := 16) Try.underlying24 (by kernel_rfl) (by kernel_rfl) (open23 _)).mono (Nat.le_succ _))
    refine Opens.imp (opens_struct (φ := fun x : S28 => (x.f0, x.f1, x.f2, x.f3)) (ψ := fun y => ⟨y.1, y.2.1, y.2.2.1, y.2.2.2⟩) Try.underlying28 (by kernel_rfl) (fun _ => rfl) (opensF_cons rfl (by kernel_rfl) o0 (opensF_cons rfl (by kernel_rfl) o1 (opensF_cons rfl (by kernel_rfl) o2 (opensF_one rfl (by kernel_rfl) o3))))) (fun _ _ _ h => h) ?_
    exact (fun _ h => h)
def Wf44 (x : S44) : Prop := ((Lit.int .i64 x.f0).wf = true) ∧ ((Lit.int .i64 x.f1).wf = true) ∧ ((Lit.int .i64 x.f2).wf = true)
set_option maxHeartbeats 1000000 in
theorem open44 : ∀ N, Opens Try.prog N k44 44 Wf44
  | 0 => Opens.zero _ _ _
  | N + 1 => by
    have ih : Opens Try.prog N k44 44 Wf44 := open44 N
    have o0 : Opens Try.prog N (Kd.int .i64) 3 (fun z : Int => (Lit.int .i64 z).wf = true) := (opens_int Try.underlying3)
    have o1 : Opens Try.prog N (Kd.int .i64) 3 (fun z : Int => (Lit.int .i64 z).wf = true) := (opens_int Try.underlying3)
    have o2 : Opens Try.prog N (Kd.int .i64) 3 (fun z : Int => (Lit.int .i64 z).wf = true) := (opens_int Try.underlying3)
    refine Opens.imp (opens_struct (φ := fun x : S44 => (x.f0, x.f1, x.f2)) (ψ := fun y => ⟨y.1, y.2.1, y.2.2⟩) Try.underlying44 (by kernel_rfl) (fun _ => rfl) (opensF_cons rfl (by kernel_rfl) o0 (opensF_cons rfl (by kernel_rfl) o1 (opensF_one rfl (by kernel_rfl) o2)))) (fun _ _ _ h => h) ?_
    exact (fun _ h => h)
def Wf46 (x : S46) : Prop := (x.f0.size ≤ reachBytes) ∧ ((Lit.int .i64 x.f1).wf = true) ∧ (x.f2.length * 16 ≤ reachBytes ∧ ∀ y0 ∈ x.f2, Wf39 y0) ∧ ((Lit.int .i64 x.f3).wf = true)
set_option maxHeartbeats 1000000 in
theorem open46 : ∀ N, Opens Try.prog N k46 46 Wf46
  | 0 => Opens.zero _ _ _
  | N + 1 => by
    have ih : Opens Try.prog N k46 46 Wf46 := open46 N
    have o0 : Opens Try.prog N Kd.string 9 (fun z : ByteArray => z.size ≤ reachBytes) := (opens_string Try.underlying9)
    have o1 : Opens Try.prog N (Kd.int .i64) 3 (fun z : Int => (Lit.int .i64 z).wf = true) := (opens_int Try.underlying3)
    have o2 : Opens Try.prog N (Kd.slice 39 k39) 25 (fun z : List (S39) => z.length * 16 ≤ reachBytes ∧ ∀ y0 ∈ z, Wf39 y0) := ((opens_slice (bts := 16) Try.underlying25 (by kernel_rfl) (by kernel_rfl) (open39 _)).mono (Nat.le_succ _))
    have o3 : Opens Try.prog N (Kd.int .i64) 3 (fun z : Int => (Lit.int .i64 z).wf = true) := (opens_int Try.underlying3)
    refine Opens.imp (opens_struct (φ := fun x : S46 => (x.f0, x.f1, x.f2, x.f3)) (ψ := fun y => ⟨y.1, y.2.1, y.2.2.1, y.2.2.2⟩) Try.underlying46 (by kernel_rfl) (fun _ => rfl) (opensF_cons rfl (by kernel_rfl) o0 (opensF_cons rfl (by kernel_rfl) o1 (opensF_cons rfl (by kernel_rfl) o2 (opensF_one rfl (by kernel_rfl) o3))))) (fun _ _ _ h => h) ?_
    exact (fun _ h => h)
def Wf120 (x : S120) : Prop := (x.f0.size ≤ reachBytes) ∧ ((Lit.int .i64 x.f1).wf = true)
set_option maxHeartbeats 1000000 in
theorem open120 : ∀ N, Opens Try.prog N k120 120 Wf120
  | 0 => Opens.zero _ _ _
  | N + 1 => by
    have ih : Opens Try.prog N k120 120 Wf120 := open120 N
    have o0 : Opens Try.prog N Kd.string 9 (fun z : ByteArray => z.size ≤ reachBytes) := (opens_string Try.underlying9)
    have o1 : Opens Try.prog N (Kd.int .i64) 3 (fun z : Int => (Lit.int .i64 z).wf = true) := (opens_int Try.underlying3)
    refine Opens.imp (opens_struct (φ := fun x : S120 => (x.f0, x.f1)) (ψ := fun y => ⟨y.1, y.2⟩) Try.underlying120 (by kernel_rfl) (fun _ => rfl) (opensF_cons rfl (by kernel_rfl) o0 (opensF_one rfl (by kernel_rfl) o1))) (fun _ _ _ h => h) ?_
    exact (fun _ h => h)
def Wf103 (x : S103) : Prop := (x.f0.length * 24 ≤ reachBytes ∧ ∀ y0 ∈ x.f0, Wf120 y0) ∧ (x.f1.length * 40 ≤ reachBytes ∧ ∀ y0 ∈ x.f1, Wf41 y0)
set_option maxHeartbeats 1000000 in
theorem open103 : ∀ N, Opens Try.prog N k103 103 Wf103
  | 0 => Opens.zero _ _ _
  | N + 1 => by
    have ih : Opens Try.prog N k103 103 Wf103 := open103 N
    have o0 : Opens Try.prog N (Kd.slice 120 k120) 101 (fun z : List (S120) => z.length * 24 ≤ reachBytes ∧ ∀ y0 ∈ z, Wf120 y0) := ((opens_slice (bts := 24) Try.underlying101 (by kernel_rfl) (by kernel_rfl) (open120 _)).mono (Nat.le_succ _))
    have o1 : Opens Try.prog N (Kd.slice 41 k41) 26 (fun z : List (S41) => z.length * 40 ≤ reachBytes ∧ ∀ y0 ∈ z, Wf41 y0) := ((opens_slice (bts := 40) Try.underlying26 (by kernel_rfl) (by kernel_rfl) (open41 _)).mono (Nat.le_succ _))
    refine Opens.imp (opens_struct (φ := fun x : S103 => (x.f0, x.f1)) (ψ := fun y => ⟨y.1, y.2⟩) Try.underlying103 (by kernel_rfl) (fun _ => rfl) (opensF_cons rfl (by kernel_rfl) o0 (opensF_one rfl (by kernel_rfl) o1))) (fun _ _ _ h => h) ?_
    exact (fun _ h => h)
def Wf57 (x : S57) : Prop := (x.f0.size ≤ reachBytes) ∧ ((Lit.int .i64 x.f1).wf = true) ∧ (x.f2.size ≤ reachBytes) ∧ (True) ∧ ((Lit.int .i64 x.f4).wf = true) ∧ (x.f5.length * 48 ≤ reachBytes ∧ ∀ y0 ∈ x.f5, Wf103 y0) ∧ (x.f6.length * 48 ≤ reachBytes ∧ ∀ y0 ∈ x.f6, Wf103 y0)
set_option maxHeartbeats 1000000 in
theorem open57 : ∀ N, Opens Try.prog N k57 57 Wf57
  | 0 => Opens.zero _ _ _
  | N + 1 => by
    have ih : Opens Try.prog N k57 57 Wf57 := open57 N
    have o0 : Opens Try.prog N Kd.string 9 (fun z : ByteArray => z.size ≤ reachBytes) := (opens_string Try.underlying9)
    have o1 : Opens Try.prog N (Kd.int .i64) 3 (fun z : Int => (Lit.int .i64 z).wf = true) := (opens_int Try.underlying3)
    have o2 : Opens Try.prog N Kd.string 9 (fun z : ByteArray => z.size ≤ reachBytes) := (opens_string Try.underlying9)
    have o3 : Opens Try.prog N Kd.bool 4 (fun z : Bool => True) := (opens_bool Try.underlying4)
    have o4 : Opens Try.prog N (Kd.int .i64) 3 (fun z : Int => (Lit.int .i64 z).wf = true) := (opens_int Try.underlying3)
    have o5 : Opens Try.prog N (Kd.slice 103 k103) 55 (fun z : List (S103) => z.length * 48 ≤ reachBytes ∧ ∀ y0 ∈ z, Wf103 y0) := ((opens_slice (bts := 48) Try.underlying55 (by kernel_rfl) (by kernel_rfl) (open103 _)).mono (Nat.le_succ _))
    have o6 : Opens Try.prog N (Kd.slice 103 k103) 55 (fun z : List (S103) => z.length * 48 ≤ reachBytes ∧ ∀ y0 ∈ z, Wf103 y0) := ((opens_slice (bts := 48) Try.underlying55 (by kernel_rfl) (by kernel_rfl) (open103 _)).mono (Nat.le_succ _))
    refine Opens.imp (opens_struct (φ := fun x : S57 => (x.f0, x.f1, x.f2, x.f3, x.f4, x.f5, x.f6)) (ψ := fun y => ⟨y.1, y.2.1, y.2.2.1, y.2.2.2.1, y.2.2.2.2.1, y.2.2.2.2.2.1, y.2.2.2.2.2.2⟩) Try.underlying57 (by kernel_rfl) (fun _ => rfl) (opensF_cons rfl (by kernel_rfl) o0 (opensF_cons rfl (by kernel_rfl) o1 (opensF_cons rfl (by kernel_rfl) o2 (opensF_cons rfl (by kernel_rfl) o3 (opensF_cons rfl (by kernel_rfl) o4 (opensF_cons rfl (by kernel_rfl) o5 (opensF_one rfl (by kernel_rfl) o6)))))))) (fun _ _ _ h => h) ?_
    exact (fun _ h => h)
def Wf36 (x : S36) : Prop := ((Lit.int .i64 x.f0).wf = true) ∧ ((Lit.int .i64 x.f1).wf = true) ∧ (x.f2.length * 8 ≤ reachBytes ∧ ∀ y0 ∈ x.f2, (Lit.int .i64 y0).wf = true) ∧ (x.f3.length * 8 ≤ reachBytes ∧ ∀ y0 ∈ x.f3, (Lit.int .i64 y0).wf = true) ∧ ((Lit.int .i64 x.f4).wf = true) ∧ (x.f5.length * 16 ≤ reachBytes ∧ ∀ y0 ∈ x.f5, y0.size ≤ reachBytes) ∧ (x.f6.length * 80 ≤ reachBytes ∧ ∀ y0 ∈ x.f6, Wf28 y0) ∧ (x.f7.length * 24 ≤ reachBytes ∧ ∀ y0 ∈ x.f7, Wf44 y0) ∧ (x.f8.length * 56 ≤ reachBytes ∧ ∀ y0 ∈ x.f8, Wf46 y0) ∧ (x.f9.length * 104 ≤ reachBytes ∧ ∀ y0 ∈ x.f9, Wf57 y0)
set_option maxHeartbeats 1000000 in
theorem open36 : ∀ N, Opens Try.prog N k36 36 Wf36
  | 0 => Opens.zero _ _ _
  | N + 1 => by
    have ih : Opens Try.prog N k36 36 Wf36 := open36 N
    have o0 : Opens Try.prog N (Kd.int .i64) 3 (fun z : Int => (Lit.int .i64 z).wf = true) := (opens_int Try.underlying3)
    have o1 : Opens Try.prog N (Kd.int .i64) 3 (fun z : Int => (Lit.int .i64 z).wf = true) := (opens_int Try.underlying3)
    have o2 : Opens Try.prog N (Kd.slice 3 (Kd.int .i64)) 29 (fun z : List Int => z.length * 8 ≤ reachBytes ∧ ∀ y0 ∈ z, (Lit.int .i64 y0).wf = true) := ((opens_slice (bts := 8) Try.underlying29 (by kernel_rfl) (by kernel_rfl) (opens_int Try.underlying3)).mono (Nat.le_succ _))
    have o3 : Opens Try.prog N (Kd.slice 3 (Kd.int .i64)) 29 (fun z : List Int => z.length * 8 ≤ reachBytes ∧ ∀ y0 ∈ z, (Lit.int .i64 y0).wf = true) := ((opens_slice (bts := 8) Try.underlying29 (by kernel_rfl) (by kernel_rfl) (opens_int Try.underlying3)).mono (Nat.le_succ _))
    have o4 : Opens Try.prog N (Kd.int .i64) 3 (fun z : Int => (Lit.int .i64 z).wf = true) := (opens_int Try.underlying3)
    have o5 : Opens Try.prog N (Kd.slice 9 Kd.string) 30 (fun z : List ByteArray => z.length * 16 ≤ reachBytes ∧ ∀ y0 ∈ z, y0.size ≤ reachBytes) := ((opens_slice (bts := 16) Try.underlying30 (by kernel_rfl) (by kernel_rfl) (opens_string Try.underlying9)).mono (Nat.le_succ _))
    have o6 : Opens Try.prog N (Kd.slice 28 k28) 31 (fun z : List (S28) => z.length * 80 ≤ reachBytes ∧ ∀ y0 ∈ z, Wf28 y0) := ((opens_slice (bts := 80) Try.underlying31 (by kernel_rfl) (by kernel_rfl) (open28 _)).mono (Nat.le_succ _))
    have o7 : Opens Try.prog N (Kd.slice 44 k44) 32 (fun z : List (S44) => z.length * 24 ≤ reachBytes ∧ ∀ y0 ∈ z, Wf44 y0) := ((opens_slice (bts := 24) Try.underlying32 (by kernel_rfl) (by kernel_rfl) (open44 _)).mono (Nat.le_succ _))
    have o8 : Opens Try.prog N (Kd.slice 46 k46) 33 (fun z : List (S46) => z.length * 56 ≤ reachBytes ∧ ∀ y0 ∈ z, Wf46 y0) := ((opens_slice (bts := 56) Try.underlying33 (by kernel_rfl) (by kernel_rfl) (open46 _)).mono (Nat.le_succ _))
    have o9 : Opens Try.prog N (Kd.slice 57 k57) 34 (fun z : List (S57) => z.length * 104 ≤ reachBytes ∧ ∀ y0 ∈ z, Wf57 y0) := ((opens_slice (bts := 104) Try.underlying34 (by kernel_rfl) (by kernel_rfl) (open57 _)).mono (Nat.le_succ _))
    refine Opens.imp (opens_struct (φ := fun x : S36 => (x.f0, x.f1, x.f2, x.f3, x.f4, x.f5, x.f6, x.f7, x.f8, x.f9)) (ψ := fun y => ⟨y.1, y.2.1, y.2.2.1, y.2.2.2.1, y.2.2.2.2.1, y.2.2.2.2.2.1, y.2.2.2.2.2.2.1, y.2.2.2.2.2.2.2.1, y.2.2.2.2.2.2.2.2.1, y.2.2.2.2.2.2.2.2.2⟩) Try.underlying36 (by kernel_rfl) (fun _ => rfl) (opensF_cons rfl (by kernel_rfl) o0 (opensF_cons rfl (by kernel_rfl) o1 (opensF_cons rfl (by kernel_rfl) o2 (opensF_cons rfl (by kernel_rfl) o3 (opensF_cons rfl (by kernel_rfl) o4 (opensF_cons rfl (by kernel_rfl) o5 (opensF_cons rfl (by kernel_rfl) o6 (opensF_cons rfl (by kernel_rfl) o7 (opensF_cons rfl (by kernel_rfl) o8 (opensF_one rfl (by kernel_rfl) o9))))))))))) (fun _ _ _ h => h) ?_
    exact (fun _ h => h)
end Go.Proofs.Ytknenadpkgajjaa.OA
