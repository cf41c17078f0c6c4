-- Printed by this session's gprint.py (over the kit's print.py) out of the translation.
import Derived.Test.YtlbcnklieefhmaaPAx0
import Derived.Test.YtlbcnklieefhmaaPAx16
import Derived.Test.YtlbcnklieefhmaaPAx17
namespace Go.Proofs.Ytlbcnklieefhmaa.PA
open Go.RowKit Go.Proofs.YtlbcnklieefhmaaW.PrintWords Go.Proofs.YtlbcnklieefhmaaW.PrintLast Go.Proofs.YtlbcnklieefhmaaW.PrintMore
attribute [local go_sem] max2_int min2_int max_two min_two max_three min_three max_four min_four   -- for this text's walks alone
set_option linter.unusedVariables false
set_option linter.unusedSimpArgs false

/-! ### space_resolve: function 24 -/
open Go.Proofs.Ytlbcnklieefhmaa.GMap
set_option maxHeartbeats 2000000 in
theorem clone_calls (K : Pairs) (b : Nat) (w : World) (h : MapSS Try.prog 9 9 w b K) :
    Calls Try.prog 29 #[.map (some b)] w fun e w' => e = .returned (.map (some w.heap.size)) ∧ MapSS Try.prog 9 9 w' w.heap.size K ∧ Below w.heap.size w w' ∧ w'.heap.size = w.heap.size + 1 := by
  obtain ⟨D, ⟨es, clock, hb, F, hs, hD⟩, h2⟩ := h.out
  have hq := fun w => Go.Proofs.run_eql_map_nil_sl (P := Try.prog) w 52 _ _ (some b) Try.underlying52
  have HF := Aside0.mk (show MapSS Try.prog 9 9 (w.alloc (.map es clock)) w.heap.size K from ⟨⟨D, ⟨es, clock, (MapKept.heap_alloc w _).1, F, hs, hD⟩, h2⟩⟩)
  have HBB := Aside0.mk hb
  clear h hb F hs hD h2
  go_enter Try.func29, Try.ntmps29
  go_wp2
  rw [run_callFunc_extern Try.func32 (by kernel_rfl) (by kernel_rfl) (by kernel_rfl) (e := Extern.MapsClone.clone) (by kernel_rfl), Go.Proofs.run_maps_clone_sl w 52 HBB.out]
  simp only [Result.andThen]
  rw [Oper.upon_value]
  go_wp2
  rw [Go.Proofs.run_typeAssert_map_sl _ 52 _ _ _ _ Try.underlying52]
  simp only [Result.andThen]
  rw [Oper.upon_value]
  go_wp2
  go_ret
  exact ⟨rfl, HF.out, below_alloc (Below.refl _ _) _, by simp⟩

def attrsF (K : Pairs) (L : List S35) : List S35 → Option (Bool × Pairs × List S35)
  | [] => some (true, K, L)
  | x :: r => (declareF K L x).bind fun q => if q.1 = true then attrsF q.2.1 q.2.2 r else some (false, q.2.1, q.2.2)
def kidsF (f : S32 → Option (S26 × Int × Bool)) (acc : List S26) : List S32 → Option (List S26 × Int × Bool)
  | [] => some (acc, 0, true)
  | x :: r => if acc.length < 1000000000 then (f x).bind fun q => if q.2.2 = true then kidsF f (acc ++ [q.1]) r else some ([], q.2.1, false) else none
def resolveF : Nat → Pairs → S32 → Option (S26 × Int × Bool)
  | 0, _, _ => none
  | k + 1, K, e => if e.f1.length < 1000000000 ∧ e.f2.length < 1000000000 then (attrsF K [] e.f1).bind fun q =>
    if q.1 = true then (name_Split.f e.f0).bind fun s =>
      if s.1.size ≤ 4611686018427387904 then
      (match lk q.2.1 s.1 with
       | none => some (z26, e.f3, false)
       | some u => if s.1.toList = ([120, 109, 108, 110, 115] : List UInt8) then some (z26, e.f3, false)
         else (kidsF (resolveF k q.2.1) [] e.f2).bind fun t => if t.2.2 = true then some (⟨u, s.2, q.2.2, t.1, e.f3⟩, 0, true) else some (z26, t.2.1, false))
      else none
    else some (z26, e.f3, false)
    else none
theorem kidsF_mono {f g : S32 → Option (S26 × Int × Bool)} (h : ∀ x, LeO (f x) (g x)) : ∀ l acc, LeO (kidsF f acc l) (kidsF g acc l)
  | [], acc => LeO.refl _
  | x :: r, acc => by
    unfold kidsF
    refine LeO.ite (LeO.bind (h x) fun q => LeO.ite (kidsF_mono h r _) (LeO.refl _)) (LeO.refl _)
theorem resolveF_mono : ∀ k K e, LeO (resolveF k K e) (resolveF (k + 1) K e)
  | 0, K, e => LeO.none _
  | k + 1, K, e => by
    rw [resolveF, resolveF]
    refine LeO.ite ?_ (LeO.refl _)
    refine LeO.bind (LeO.refl _) fun q => LeO.ite (LeO.bind (LeO.refl _) fun s => LeO.ite ?_ (LeO.refl _)) (LeO.refl _)
    cases lk q.2.1 s.1 with
    | none => exact LeO.refl _
    | some u => exact LeO.ite (LeO.refl _) (LeO.bind (kidsF_mono (fun x => resolveF_mono k q.2.1 x) _ _) fun t => LeO.refl _)

/-- what stands while the attributes are gone through. -/
structure At1 (K : Pairs) (L : List S35) (mb ge g4 g7 : Nat) (ec : Array Value) (at_ : Int) (va : Value) (w0 w : World) : Prop where
  e : w.heap[ge]? = some (.cells ec 32 (0, 0))
  r : w.heap[g4]? = some (.cells #[.string ⟨#[]⟩, .string ⟨#[]⟩, .slice none 0 0, .slice none 0 0, .int .i64 0] 26 (0, 0))
  n : w.heap[g7]? = some (.cells #[.string ⟨#[]⟩, .string ⟨#[]⟩, va, .slice none 0 0, .int .i64 at_] 26 (0, 0))
  m : MapSS Try.prog 9 9 w mb K
  a : Kd.R k35 35 w w0.heap.size (fun k => k ≠ g7 ∧ k ≠ mb) va L
  b : Below w0.heap.size w0 w
theorem At1.step {K : Pairs} {L : List S35} {mb ge g4 g7 : Nat} {ec : Array Value} {at_ : Int} {va : Value} {w0 w w' : World} (h : At1 K L mb ge g4 g7 ec at_ va w0 w) (hb : Below w.heap.size w w') : At1 K L mb ge g4 g7 ec at_ va w0 w' :=
  ⟨(hb.block _ (blk_lt h.e)).trans h.e, (hb.block _ (blk_lt h.r)).trans h.r, (hb.block _ (blk_lt h.n)).trans h.n, h.m.below hb, Kd.R_below h.a hb, below_step h.b hb⟩
/-- .. behind a call of declare. -/
theorem At1.decl {K K' : Pairs} {L L' : List S35} {mb ge g4 g7 : Nat} {ec : Array Value} {at_ : Int} {va : Value} {w0 w w' : World} (h : At1 K L mb ge g4 g7 ec at_ va w0 w) (h74 : g4 ≠ g7)
    (hd : DeclPost K' L' mb g7 w0.heap.size (.string ⟨#[]⟩) (.string ⟨#[]⟩) va (.slice none 0 0) (.int .i64 at_) w w') : ∃ va', At1 K' L' mb ge g4 g7 ec at_ va' w0 w' := by
  obtain ⟨v', h1, h2, h3, _, h5, h6⟩ := hd.out
  have hne : ∀ {g t : Nat} {cs : Array Value}, w.heap[g]? = some (.cells cs t (0, 0)) → g ≠ g7 → 35 ≠ t → ¬ (g = g7 ∨ g = mb ∨ some g = va.ownBlock) := by
    intro g t cs hg n7 ht hh
    rcases hh with hh | hh | hh
    · exact n7 hh
    · exact h.m.ne hg hh
    · exact Kd.R_ne h.a hg ht hh
  refine ⟨v', blk_kept h.e h5 (hne h.e (blk_ne h.e h.n (by decide)) (by decide)), blk_kept h.r h5 (hne h.r h74 (by decide)), h2, h1, h3, h.b.trans h6⟩

theorem infoNamed : (Try.prog.info? 26).map (fun i => (i.zero, i.size, i.bytes)) = some (some (.agg #[.string ⟨#[]⟩, .string ⟨#[]⟩, .slice none 0 0, .slice none 0 0, .int .i64 0]), 5, 88) := by kernel_rfl
theorem five {l : List Value} (h : l.length = 5) : ∃ a0 a1 a2 a3 a4, l = [a0, a1, a2, a3, a4] := by
  match l, h with
  | [a, b, c, d, e], _ => exact ⟨a, b, c, d, e, rfl⟩
theorem R_addr {α : Type} {d : Kd α} {e base : Nat} {ok : Nat → Prop} {w : World} {v : Value} {xs : List α} {p : α} (h : d.R e w base ok v (xs ++ [p])) : ∃ g c, v = .slice (some ⟨g, 0, none⟩) (xs.length + 1) c := by
  obtain ⟨_, inner, ho, _⟩ := h
  rcases ho.2 with ⟨_, h0⟩ | ⟨g, cap, cur, he, _⟩
  · simp at h0
  · exact ⟨g, cap, by rw [he, List.length_append]; rfl⟩
/-- what stands while the kids are gone through. -/
structure At2 (K : Pairs) (L : List S35) (M : List S26) (mb ge g4 g7 : Nat) (ec : Array Value) (u l : ByteArray) (at_ : Int) (va vk : Value) (w0 w : World) : Prop where
  e : w.heap[ge]? = some (.cells ec 32 (0, 0))
  r : w.heap[g4]? = some (.cells #[.string ⟨#[]⟩, .string ⟨#[]⟩, .slice none 0 0, .slice none 0 0, .int .i64 0] 26 (0, 0))
  n : w.heap[g7]? = some (.cells #[.string u, .string l, va, vk, .int .i64 at_] 26 (0, 0))
  m : MapSS Try.prog 9 9 w mb K
  a : Kd.R k35 35 w w0.heap.size (fun k => k ≠ g7 ∧ k ≠ mb) va L
  k : Kd.R k26 26 w w0.heap.size (fun k => (k ≠ g7 ∧ k ≠ g4 ∧ k ≠ ge) ∧ k ≠ mb ∧ some k ≠ va.ownBlock) vk M
  b : Below w0.heap.size w0 w
theorem At2.step {K : Pairs} {L : List S35} {M : List S26} {mb ge g4 g7 : Nat} {ec : Array Value} {u l : ByteArray} {at_ : Int} {va vk : Value} {w0 w w' : World} (h : At2 K L M mb ge g4 g7 ec u l at_ va vk w0 w) (hb : Below w.heap.size w w') : At2 K L M mb ge g4 g7 ec u l at_ va vk w0 w' :=
  ⟨(hb.block _ (blk_lt h.e)).trans h.e, (hb.block _ (blk_lt h.r)).trans h.r, (hb.block _ (blk_lt h.n)).trans h.n, h.m.below hb, Kd.R_below h.a hb, Kd.R_below h.k hb, below_step h.b hb⟩
/-- .. while a kid is put behind the others: vn stands in the field, vk is the row. -/
structure At3 (K : Pairs) (L : List S35) (M : List S26) (mb ge g4 g7 : Nat) (ec : Array Value) (u l : ByteArray) (at_ : Int) (va vn vk : Value) (w0 w : World) : Prop where
  e : w.heap[ge]? = some (.cells ec 32 (0, 0))
  r : w.heap[g4]? = some (.cells #[.string ⟨#[]⟩, .string ⟨#[]⟩, .slice none 0 0, .slice none 0 0, .int .i64 0] 26 (0, 0))
  n : w.heap[g7]? = some (.cells #[.string u, .string l, va, vn, .int .i64 at_] 26 (0, 0))
  m : MapSS Try.prog 9 9 w mb K
  a : Kd.R k35 35 w w0.heap.size (fun k => k ≠ g7 ∧ k ≠ mb) va L
  k : Kd.R k26 26 w w0.heap.size (fun k => (k ≠ g7 ∧ k ≠ g4 ∧ k ≠ ge) ∧ k ≠ mb ∧ some k ≠ va.ownBlock) vk M
  b : Below w0.heap.size w0 w
  n7 : g4 ≠ g7
section
variable {K : Pairs} {L : List S35} {M : List S26} {mb ge g4 g7 : Nat} {ec : Array Value} {u l : ByteArray} {at_ : Int} {va vn vk : Value} {w0 w X : World}
theorem At3.put (h : At3 K L M mb ge g4 g7 ec u l at_ va vn vk w0 X) (h7 : w0.heap.size ≤ g7) : At3 K L M mb ge g4 g7 ec u l at_ va vk vk w0 (X.setCell ⟨g7, 3, none⟩ vk) :=
  ⟨blk_far h.e (blk_ne h.e h.n (by decide)) _, blk_far h.r h.n7 _, blk_put h.n 3 _ rfl, h.m.setCell (fun hh => h.m.ne h.n hh.symm) _, Kd.R_far h.a (fun _ hk => hk.1) _, Kd.R_far h.k (fun _ hk => hk.1.1) _, below_set h.b h7, h.n7⟩
theorem At3.elem {z y : S26} {gq cq : Nat} {v2 v3 : Value} {cc : List Value} {okp : Nat → Prop} (h : At3 K L (M ++ [z]) mb ge g4 g7 ec u l at_ va vn (.slice (some ⟨gq, 0, none⟩) (M.length + 1) cq) w0 X)
    (hcl : cc.length = 5) (hcc : ∀ j u, cc[j]? = some u → X.cell? ⟨gq, (↑M.length : Int).toNat * (k26).sz + j, none⟩ = some u)
    (h2 : Kd.R k35 35 X w0.heap.size okp v2 y.f2) (h3 : Kd.R k26 26 X w0.heap.size okp v3 y.f3) (hokp : ∀ k, okp k → ((k ≠ g7 ∧ k ≠ g4 ∧ k ≠ ge) ∧ k ≠ mb ∧ some k ≠ va.ownBlock) ∧ k ≠ gq) :
    At3 K L (M ++ [y]) mb ge g4 g7 ec u l at_ va vn (.slice (some ⟨gq, 0, none⟩) (M.length + 1) cq) w0 (X.setCells gq (M.length * 5) [.string y.f0, .string y.f1, v2, v3, .int .i64 y.f4]) := by
  have hlen : cc.take 0 ++ [.string y.f0, .string y.f1, v2, v3, .int .i64 y.f4] ++ cc.drop 5 = [.string y.f0, .string y.f1, v2, v3, .int .i64 y.f4] := by
    rw [List.drop_eq_nil_of_le (by omega)]; simp
  have hs := Kd.R_seg (okp := okp) h.k (↑M.length) (by omega) (by omega) (c := cc) (seg := [.string y.f0, .string y.f1, v2, v3, .int .i64 y.f4]) (j := 0) hcl hcc (by show 5 ≤ 5; omega) (x' := y)
    (by show Kd.M _ _ _ _ _ (cc.take 0 ++ [.string y.f0, .string y.f1, v2, v3, .int .i64 y.f4] ++ cc.drop 5); rw [hlen]; exact k26_mkM _ _ _ y h2 h3) hokp
  have hset : (M ++ [z]).set (↑M.length : Int).toNat y = M ++ [y] := by simp
  rw [hset] at hs
  obtain ⟨hr, hg⟩ := hs
  have ho := h.k.1 gq (by simp [Value.ownBlock])
  have hbq := Kd.R_base h.k gq (by simp [Value.ownBlock])
  refine ⟨blk_grown h.e hg (fun hh => ho.1.2.2 (by injection hh with hh; exact hh.symm)), blk_grown h.r hg (fun hh => ho.1.2.1 (by injection hh with hh; exact hh.symm)), blk_grown h.n hg (fun hh => ho.1.1 (by injection hh with hh; exact hh.symm)), h.m.kept hg (fun hh => ho.2.1 (by injection hh with hh; exact hh.symm)), Kd.R_grown2 h.a rfl hg (fun k hk => by injection hk with hk; subst hk; exact ho.2.2), hr, pw_below_grown h.b _ h.b.size hg (fun k hk => by injection hk with hk; subst hk; exact hbq), h.n7⟩
end
/-- behind the append itself. -/
theorem At2.grow {K : Pairs} {L : List S35} {M : List S26} {mb ge g4 g7 gq cq : Nat} {ec : Array Value} {u l : ByteArray} {at_ : Int} {va vk : Value} {w0 w w1 : World} {o : Obj} {n : Nat} {z : S26} (h : At2 K L M mb ge g4 g7 ec u l at_ va vk w0 w) (h47 : g4 ≠ g7)
    (hg : ((w.alloc o).drewN n).grownBy w1 vk.ownBlock) (hb : Below w0.heap.size w0 w1) (ho : Kd.R k26 26 w1 w0.heap.size (fun k => (k ≠ g7 ∧ k ≠ g4 ∧ k ≠ ge) ∧ k ≠ mb ∧ some k ≠ va.ownBlock) (.slice (some ⟨gq, 0, none⟩) (M.length + 1) cq) (M ++ [z])) :
    At3 K L (M ++ [z]) mb ge g4 g7 ec u l at_ va vk (.slice (some ⟨gq, 0, none⟩) (M.length + 1) cq) w0 w1 := by
  have hW : Below w.heap.size w ((w.alloc o).drewN n) := pw_below_drewN (below_alloc (Below.refl _ _) _) _
  have h' := h.step hW
  exact ⟨blk_grown h'.e hg (Kd.R_away h.k (fun _ hk => hk.1.2.2)), blk_grown h'.r hg (Kd.R_away h.k (fun _ hk => hk.1.2.1)), blk_grown h'.n hg (Kd.R_away h.k (fun _ hk => hk.1.1)), h'.m.kept hg (Kd.R_away h.k (fun _ hk => hk.2.1)),
    Kd.R_grown2 h'.a rfl hg (fun k hk hh => (h.k.1 k hk).2.2 hh), ho, hb, h47⟩
theorem At3.done {K : Pairs} {L : List S35} {M : List S26} {mb ge g4 g7 : Nat} {ec : Array Value} {u l : ByteArray} {at_ : Int} {va vk : Value} {w0 w : World} (h : At3 K L M mb ge g4 g7 ec u l at_ va vk vk w0 w) : At2 K L M mb ge g4 g7 ec u l at_ va vk w0 w := ⟨h.e, h.r, h.n, h.m, h.a, h.k, h.b⟩
section
variable {K : Pairs} {L : List S35} {M : List S26} {mb ge g4 g7 : Nat} {ec : Array Value} {u l : ByteArray} {at_ : Int} {va vn vk : Value} {w0 w X : World} {z y : S26} {gq cq : Nat} {v2 v3 : Value} {cc : List Value} {okp : Nat → Prop}
theorem At3.endA (h : At3 K L (M ++ [z]) mb ge g4 g7 ec u l at_ va vn (.slice (some ⟨gq, 0, none⟩) (M.length + 1) cq) w0 X)
    (hcl : cc.length = 5) (hcc : ∀ j u, cc[j]? = some u → X.cell? ⟨gq, (↑M.length : Int).toNat * (k26).sz + j, none⟩ = some u)
    (h2 : Kd.R k35 35 X w0.heap.size okp v2 y.f2) (h3 : Kd.R k26 26 X w0.heap.size okp v3 y.f3) (hokp : ∀ k, okp k → ((k ≠ g7 ∧ k ≠ g4 ∧ k ≠ ge) ∧ k ≠ mb ∧ some k ≠ va.ownBlock) ∧ k ≠ gq) (h7 : w0.heap.size ≤ g7) :
    At2 K L (M ++ [y]) mb ge g4 g7 ec u l at_ va (.slice (some ⟨gq, 0, none⟩) (M.length + 1) cq) w0
      ((((((X.setCell ⟨gq, M.length * 5, none⟩ (.string y.f0)).setCell ⟨gq, M.length * 5 + 1, none⟩ (.string y.f1)).setCell ⟨gq, M.length * 5 + 2, none⟩ v2).setCell ⟨gq, M.length * 5 + 3, none⟩ v3).setCell ⟨gq, M.length * 5 + 4, none⟩ (.int .i64 y.f4)).setCell ⟨g7, 3, none⟩ (.slice (some ⟨gq, 0, none⟩) (M.length + 1) cq)) :=
  ((h.elem hcl hcc h2 h3 hokp).put h7).done
theorem At3.endB (h : At3 K L (M ++ [z]) mb ge g4 g7 ec u l at_ va vn (.slice (some ⟨gq, 0, none⟩) (M.length + 1) cq) w0 X)
    (hcl : cc.length = 5) (hcc : ∀ j u, cc[j]? = some u → X.cell? ⟨gq, (↑M.length : Int).toNat * (k26).sz + j, none⟩ = some u)
    (h2 : Kd.R k35 35 X w0.heap.size okp v2 y.f2) (h3 : Kd.R k26 26 X w0.heap.size okp v3 y.f3) (hokp : ∀ k, okp k → ((k ≠ g7 ∧ k ≠ g4 ∧ k ≠ ge) ∧ k ≠ mb ∧ some k ≠ va.ownBlock) ∧ k ≠ gq) (h7 : w0.heap.size ≤ g7) (hg : g7 ≠ gq) :
    At2 K L (M ++ [y]) mb ge g4 g7 ec u l at_ va (.slice (some ⟨gq, 0, none⟩) (M.length + 1) cq) w0
      ((((((X.setCell ⟨g7, 3, none⟩ (.slice (some ⟨gq, 0, none⟩) (M.length + 1) cq)).setCell ⟨gq, M.length * 5, none⟩ (.string y.f0)).setCell ⟨gq, M.length * 5 + 1, none⟩ (.string y.f1)).setCell ⟨gq, M.length * 5 + 2, none⟩ v2).setCell ⟨gq, M.length * 5 + 3, none⟩ v3).setCell ⟨gq, M.length * 5 + 4, none⟩ (.int .i64 y.f4)) :=
  ((h.put h7).elem hcl (fun j u hj => (cell_far (fun hh => hg hh.symm) _).trans (hcc j u hj)) (Kd.R_far h2 (fun q hq => (hokp q hq).1.1.1) _) (Kd.R_far h3 (fun q hq => (hokp q hq).1.1.1) _) hokp).done
end
theorem cell_of {w : World} {g t : Nat} {cs : Array Value} (h : w.heap[g]? = some (.cells cs t (0, 0))) (i : Nat) {v : Value} (e : cs[i]? = some v) : w.cell? ⟨g, i, none⟩ = some v := (blk_cell h i).trans e
/-- what resolve leaves. -/
structure ResPost (r : S26 × Int × Bool) (w : World) (en : Ending) (w' : World) : Prop where
  mk :: (out : ∃ v2 v3 : Value, en = .returned (.tuple #[.agg #[.string r.1.f0, .string r.1.f1, v2, v3, .int .i64 r.1.f4], .int .i64 r.2.1, .bool r.2.2]) ∧
    Kd.R k35 35 w' w.heap.size (fun _ => True) v2 r.1.f2 ∧ Kd.R k26 26 w' w.heap.size (fun k_ => some k_ ≠ (v2 : Value).ownBlock) v3 r.1.f3 ∧ Below w.heap.size w w')
theorem ResPost.bad (at_ : Int) {w w' : World} (hb : Below w.heap.size w w') : ResPost (z26, at_, false) w (.returned (.tuple #[.agg #[.string ⟨#[]⟩, .string ⟨#[]⟩, .slice none 0 0, .slice none 0 0, .int .i64 0], .int .i64 at_, .bool false])) w' :=
  ⟨⟨.slice none 0 0, .slice none 0 0, rfl, Kd.R_nil _ _ _ _ _, Kd.R_nil _ _ _ _ _, hb⟩⟩
set_option maxHeartbeats 8000000 in
set_option maxRecDepth 100000 in
theorem resolve_calls : ∀ (k : Nat) (e : S32) (A1 A2 : Option Addr) (c1 c2 b : Nat) (K : Pairs) (r : S26 × Int × Bool) (w : World)
    (hr1 : Kd.C k35 w A1 e.f1.length e.f1) (hc1 : e.f1.length ≤ c1) (hr2 : Kd.C k32 w A2 e.f2.length e.f2) (hc2 : e.f2.length ≤ c2) (hm : MapSS Try.prog 9 9 w b K) (h : resolveF k K e = some r),
    Calls Try.prog 24 #[.agg #[.string e.f0, .slice A1 e.f1.length c1, .slice A2 e.f2.length c2, .int .i64 e.f3], .map (some b)] w (ResPost r w) := by
  intro k
  induction k with
  | zero => intro e A1 A2 c1 c2 b K r w _ _ _ _ _ h; cases h
  | succ k ih =>
  intro e A1 A2 c1 c2 b K r w hr1 hc1 hr2 hc2 hm h
  have IH := Aside0.mk ih
  have HR1 := Aside0.mk hr1
  have HC1 := Aside0.mk hc1
  have HR2 := Aside0.mk hr2
  have HC2 := Aside0.mk hc2
  have HM := Aside0.mk hm
  clear ih hr1 hc1 hr2 hc2 hm
  rw [resolveF] at h
  by_cases hbd : e.f1.length < 1000000000 ∧ e.f2.length < 1000000000
  case neg => rw [if_neg hbd] at h; cases h
  rw [if_pos hbd] at h
  have b1 := hbd.1
  have b2 := hbd.2
  clear hbd
  obtain ⟨q, hq, h2⟩ := Option.bind_eq_some_iff.mp h
  obtain ⟨ok, K1, L1⟩ := q
  have HQ := Aside0.mk hq
  have H := Aside0.mk h2
  clear h hq h2
  have hu32 := Try.underlying32
  have hu26 := Try.underlying26
  go_enter Try.func24, Try.ntmps24
  go_wp2_with (fail)
  refine (clone_calls K b _ ((HM.out.alloc _).alloc _)).mono ?_
  rintro e1 w1 ⟨rfl, hm1, hb1, hs1⟩
  simp only [World.size_alloc] at hm1 hs1 ⊢
  have hge := (hb1.block w.heap.size (by rw [World.size_alloc, World.size_alloc]; omega)).trans (blk_alloc (MapKept.heap_alloc w _).1 _)
  have hg4 : w1.heap[w.heap.size + 1]? = some (.cells #[.string ⟨#[]⟩, .string ⟨#[]⟩, .slice none 0 0, .slice none 0 0, .int .i64 0] 26 (0, 0)) := by
    have h4 := (MapKept.heap_alloc (w.alloc (.cells #[.string e.f0, .slice A1 e.f1.length c1, .slice A2 e.f2.length c2, .int .i64 e.f3] 32)) (.cells #[.string ⟨#[]⟩, .string ⟨#[]⟩, .slice none 0 0, .slice none 0 0, .int .i64 0] 26)).1
    rw [World.size_alloc] at h4
    exact (hb1.block (w.heap.size + 1) (by rw [World.size_alloc, World.size_alloc]; omega)).trans h4
  have HM1 := Aside0.mk hm1
  have HB1 := Aside0.mk (below_step (below_alloc (below_alloc (Below.refl w.heap.size w) _) _) hb1)
  have HS1 := Aside0.mk hs1
  have HGE := Aside0.mk hge
  have HG4 := Aside0.mk hg4
  have k1 : ∀ o, (w1.alloc o).cell? ⟨w.heap.size, 1, none⟩ = some (.slice A1 e.f1.length c1) := fun o => cell_of (blk_alloc hge o) 1 rfl
  have k3 : w1.cell? ⟨w.heap.size, 3, none⟩ = some (.int .i64 e.f3) := cell_of hge 3 rfl
  clear hm1 hb1 hs1 hge hg4
  go_wp2
  have HI0 := Aside0.mk (show At1 K [] (w.heap.size + 1 + 1) w.heap.size (w.heap.size + 1) w1.heap.size #[.string e.f0, .slice A1 e.f1.length c1, .slice A2 e.f2.length c2, .int .i64 e.f3] e.f3 (.slice none 0 0) w (w1.alloc (.cells #[.string ⟨#[]⟩, .string ⟨#[]⟩, .slice none 0 0, .slice none 0 0, .int .i64 e.f3] 26)) from ⟨blk_alloc HGE.out _, blk_alloc HG4.out _, (MapKept.heap_alloc w1 _).1, HM1.out.alloc _, Kd.R_nil _ _ _ _ _, below_alloc HB1.out _⟩)
  have HLE := Aside0.mk (show w.heap.size ≤ w1.heap.size from HB1.out.size)
  clear HGE HG4 HM1 HB1 k1 k3
  go_loopg [27] e.f1.length (fun kq v27 w' => ∃ i : Nat, v27 = .int .i64 i ∧ Aside0 (i + kq = e.f1.length) ∧ ∃ (K' : Pairs) (L' : List S35) (va : Value), Aside0 (attrsF K' L' (e.f1.drop i) = some (ok, K1, L1)) ∧ Aside0 (At1 K' L' (w.heap.size + 1 + 1) w.heap.size (w.heap.size + 1) w1.heap.size #[.string e.f0, .slice A1 e.f1.length c1, .slice A2 e.f2.length c2, .int .i64 e.f3] e.f3 va w w'))
  case atStart => exact ⟨0, rfl, ⟨by omega⟩, K, [], _, HQ, HI0⟩
  case round =>
    clear HQ HI0
    obtain ⟨i, rfl, HK, K', L', va, HQ, HI⟩ := hrel
    by_cases hi : i < e.f1.length
    · obtain ⟨gk1, rfl⟩ : ∃ m, gk = m + 1 := ⟨gk - 1, by have := HK.out; omega⟩
      have hq := HQ.out
      rw [List.drop_eq_getElem_cons hi, attrsF] at hq
      obtain ⟨p, hd, h2⟩ := Option.bind_eq_some_iff.mp hq
      obtain ⟨r1, K2, L2⟩ := p
      have hx : e.f1[i] = rd_T35 e.f1 ↑i := by simp [rd_T35, List.getD_eq_getElem?_getD, List.getElem?_eq_getElem hi]
      rw [hx] at hd
      have HD := Aside0.mk hd
      have HQ2 := Aside0.mk h2
      clear hq hd h2 hx HQ
      obtain ⟨ad, ea, hx0, hx1⟩ := at_T35 HR1.out (↑i) (by omega) (by omega)
      cases ea
      replace hx0 := (HI.out.b.cell (World.block_lt_of_cell? w _ hx0)).trans hx0
      replace hx1 := (HI.out.b.cell (World.block_lt_of_cell? w _ hx1)).trans hx1
      simp only [Int.toNat_natCast] at hx0 hx1
      go_wp2_with (fail)
      have hI3 := HI.out.step (below_alloc (Below.refl wr.heap.size wr) (.cells #[.string (rd_T35 e.f1 ↑i).f0, .string (rd_T35 e.f1 ↑i).f1] 35))
      refine (declare_calls K' L' (w.heap.size + 1 + 1) w1.heap.size w.heap.size (rd_T35 e.f1 ↑i) _ _ _ _ _ K2 L2 r1 _ hI3.m hI3.n hI3.a (by omega) HLE.out HD.out).mono ?_
      rintro e2 w2 ⟨rfl, hp2⟩
      obtain ⟨va2, hI4⟩ := hI3.decl (by have := HS1.out; omega) hp2
      have HI4 := Aside0.mk hI4
      clear hI3 hp2 hI4 hx0 hx1 HI HD
      cases r1 with
      | true =>
        go_wp2
        go_roundg gk1
        case measure => omega
        case rel => exact ⟨i + 1, (by simp), ⟨by have := HK.out; omega⟩, K2, L2, va2, ⟨by simpa using HQ2.out⟩, HI4⟩
      | false =>
        have h2 := HQ2.out
        rw [if_neg (by decide)] at h2
        have h2 := Option.some.inj h2
        injection h2 with e1 _
        subst e1
        have hr := H.out
        rw [if_neg (by decide)] at hr
        obtain rfl := Option.some.inj hr
        have k3 : w2.cell? ⟨w.heap.size, 3, none⟩ = some (.int .i64 e.f3) := cell_of HI4.out.e 3 rfl
        have z0 : w2.cell? ⟨w.heap.size + 1, 0, none⟩ = some (.string ⟨#[]⟩) := cell_of HI4.out.r 0 rfl
        have z1 : w2.cell? ⟨w.heap.size + 1, 1, none⟩ = some (.string ⟨#[]⟩) := cell_of HI4.out.r 1 rfl
        have z2 : w2.cell? ⟨w.heap.size + 1, 2, none⟩ = some (.slice none 0 0) := cell_of HI4.out.r 2 rfl
        have z3 : w2.cell? ⟨w.heap.size + 1, 3, none⟩ = some (.slice none 0 0) := cell_of HI4.out.r 3 rfl
        have z4 : w2.cell? ⟨w.heap.size + 1, 4, none⟩ = some (.int .i64 0) := cell_of HI4.out.r 4 rfl
        have y0 := blk_frozen HI4.out.r 0
        have y1 := blk_frozen HI4.out.r 1
        have y2 := blk_frozen HI4.out.r 2
        have y3 := blk_frozen HI4.out.r 3
        have y4 := blk_frozen HI4.out.r 4
        clear HQ2
        go_wp2
        go_region
        all_goals
          go_wp2
          refine bodyPost_ret (results_ctt rfl _ _ (w.heap.size + 1) 26 #[.string ⟨#[]⟩, .string ⟨#[]⟩, .slice none 0 0, .slice none 0 0, .int .i64 0] (0, 0) _ rfl ?hg Try.underlying26 rfl (by kernel_rfl)) rfl ?_
          case hg => repeat (first | (with_reducible exact HI4.out.r) | (with_reducible refine blk_drewN ?_ _) | (with_reducible refine blk_drew ?_) | refine blk_put (cs := #[.string ⟨#[]⟩, .string ⟨#[]⟩, .slice none 0 0, .slice none 0 0, .int .i64 0]) ?_ _ _ rfl)
          exact ResPost.bad _ (by repeat (first | (with_reducible exact HI4.out.b) | (with_reducible apply pw_below_drewN) | (with_reducible apply below_drew) | refine below_set ?_ (by omega)))
    · have hq := HQ.out
      rw [List.drop_eq_nil_of_le (by omega), attrsF] at hq
      have hq := Option.some.inj hq
      injection hq with e1 hq
      injection hq with e2 e3
      subst e1 e2 e3
      have h := H.out
      rw [if_pos rfl] at h
      obtain ⟨s, hs, h2⟩ := Option.bind_eq_some_iff.mp h
      obtain ⟨s1, s2⟩ := s
      by_cases hsz : s1.size ≤ 4611686018427387904
      case neg => rw [if_neg hsz] at h2; cases h2
      rw [if_pos hsz] at h2
      simp only at h2
      have HS := Aside0.mk (fun W => name_Split.calls e.f0 s1 s2 W hs)
      have HZ := Aside0.mk (show s1.size ≤ maxLen by unfold maxLen; omega)
      cases hl : lk K' s1 with
      | none =>
        rw [hl] at h2
        have h2 := Option.some.inj h2
        subst h2
        have HL := Aside0.mk hl
        clear hq h hs hsz H HQ HK hl
        have k0' : wr.cell? ⟨w.heap.size, 0, none⟩ = some (.string e.f0) := cell_of HI.out.e 0 rfl
        go_wp2_with (fail)
        refine (HS.out _).mono ?_
        rintro e1 w2 ⟨rfl, ⟨nd, rfl⟩⟩
        have j3 : (wr).cell? ⟨w.heap.size, 3, none⟩ = some (.int .i64 e.f3) := cell_of HI.out.e 3 rfl
        have z0 : (wr).cell? ⟨w.heap.size + 1, 0, none⟩ = some (.string ⟨#[]⟩) := cell_of HI.out.r 0 rfl
        have z1 : (wr).cell? ⟨w.heap.size + 1, 1, none⟩ = some (.string ⟨#[]⟩) := cell_of HI.out.r 1 rfl
        have z2 : (wr).cell? ⟨w.heap.size + 1, 2, none⟩ = some (.slice none 0 0) := cell_of HI.out.r 2 rfl
        have z3 : (wr).cell? ⟨w.heap.size + 1, 3, none⟩ = some (.slice none 0 0) := cell_of HI.out.r 3 rfl
        have z4 : (wr).cell? ⟨w.heap.size + 1, 4, none⟩ = some (.int .i64 0) := cell_of HI.out.r 4 rfl
        have y0 := blk_frozen HI.out.r 0
        have y1 := blk_frozen HI.out.r 1
        have y2 := blk_frozen HI.out.r 2
        have y3 := blk_frozen HI.out.r 3
        have y4 := blk_frozen HI.out.r 4
        go_wp2_with (at_lookup; refine wp_lookup rfl _ _ 52 rfl Try.underlying52 Try.underlying9 Try.underlying9 (by kernel_rfl) (HI.out.m.drewN nd) rfl s1 rfl HZ.out ?_; rw [HL.out]; simp only [Option.getD_none, Option.isSome_none, Option.getD_some, Option.isSome_some])
        go_region
        all_goals
          go_wp2
          refine bodyPost_ret (results_ctt rfl _ _ (w.heap.size + 1) 26 #[.string ⟨#[]⟩, .string ⟨#[]⟩, .slice none 0 0, .slice none 0 0, .int .i64 0] (0, 0) _ rfl ?hg Try.underlying26 rfl (by kernel_rfl)) rfl ?_
          case hg => repeat (first | (with_reducible exact HI.out.r) | (with_reducible refine blk_drewN ?_ _) | (with_reducible refine blk_drew ?_) | refine blk_put (cs := #[.string ⟨#[]⟩, .string ⟨#[]⟩, .slice none 0 0, .slice none 0 0, .int .i64 0]) ?_ _ _ rfl)
          exact ResPost.bad _ (by repeat (first | (with_reducible exact HI.out.b) | (with_reducible apply pw_below_drewN) | (with_reducible apply below_drew) | refine below_set ?_ (by omega)))
      | some u =>
        rw [hl] at h2
        simp only at h2
        by_cases hx : s1.toList = ([120, 109, 108, 110, 115] : List UInt8)
        · rw [if_pos hx] at h2
          have h2 := Option.some.inj h2
          subst h2
          have HL := Aside0.mk hl
          have cx : (s1.toList == ([120, 109, 108, 110, 115] : List UInt8)) = true := beq_iff_eq.mpr hx
          clear hq h hs hsz H HQ HK hl hx
          have k0' : wr.cell? ⟨w.heap.size, 0, none⟩ = some (.string e.f0) := cell_of HI.out.e 0 rfl
          go_wp2_with (fail)
          refine (HS.out _).mono ?_
          rintro e1 w2 ⟨rfl, ⟨nd, rfl⟩⟩
          have j3 : (wr).cell? ⟨w.heap.size, 3, none⟩ = some (.int .i64 e.f3) := cell_of HI.out.e 3 rfl
          have z0 : (wr).cell? ⟨w.heap.size + 1, 0, none⟩ = some (.string ⟨#[]⟩) := cell_of HI.out.r 0 rfl
          have z1 : (wr).cell? ⟨w.heap.size + 1, 1, none⟩ = some (.string ⟨#[]⟩) := cell_of HI.out.r 1 rfl
          have z2 : (wr).cell? ⟨w.heap.size + 1, 2, none⟩ = some (.slice none 0 0) := cell_of HI.out.r 2 rfl
          have z3 : (wr).cell? ⟨w.heap.size + 1, 3, none⟩ = some (.slice none 0 0) := cell_of HI.out.r 3 rfl
          have z4 : (wr).cell? ⟨w.heap.size + 1, 4, none⟩ = some (.int .i64 0) := cell_of HI.out.r 4 rfl
          have y0 := blk_frozen HI.out.r 0
          have y1 := blk_frozen HI.out.r 1
          have y2 := blk_frozen HI.out.r 2
          have y3 := blk_frozen HI.out.r 3
          have y4 := blk_frozen HI.out.r 4
          go_wp2_with (at_lookup; refine wp_lookup rfl _ _ 52 rfl Try.underlying52 Try.underlying9 Try.underlying9 (by kernel_rfl) (HI.out.m.drewN nd) rfl s1 rfl HZ.out ?_; rw [HL.out]; simp only [Option.getD_none, Option.isSome_none, Option.getD_some, Option.isSome_some])
          go_region
          all_goals
            go_wp2
            refine bodyPost_ret (results_ctt rfl _ _ (w.heap.size + 1) 26 #[.string ⟨#[]⟩, .string ⟨#[]⟩, .slice none 0 0, .slice none 0 0, .int .i64 0] (0, 0) _ rfl ?hg Try.underlying26 rfl (by kernel_rfl)) rfl ?_
            case hg => repeat (first | (with_reducible exact HI.out.r) | (with_reducible refine blk_drewN ?_ _) | (with_reducible refine blk_drew ?_) | refine blk_put (cs := #[.string ⟨#[]⟩, .string ⟨#[]⟩, .slice none 0 0, .slice none 0 0, .int .i64 0]) ?_ _ _ rfl)
            exact ResPost.bad _ (by repeat (first | (with_reducible exact HI.out.b) | (with_reducible apply pw_below_drewN) | (with_reducible apply below_drew) | refine below_set ?_ (by omega)))
        · rw [if_neg hx] at h2
          obtain ⟨t, ht, h3⟩ := Option.bind_eq_some_iff.mp h2
          have HL := Aside0.mk hl
          have HT := Aside0.mk ht
          have HE := Aside0.mk h3
          have cx : (s1.toList == ([120, 109, 108, 110, 115] : List UInt8)) = false := beq_eq_false_iff_ne.mpr hx
          clear hq h hs hsz H HQ HK hl hx h2 ht h3
          have k0' : wr.cell? ⟨w.heap.size, 0, none⟩ = some (.string e.f0) := cell_of HI.out.e 0 rfl
          go_wp2_with (fail)
          refine (HS.out _).mono ?_
          rintro e1 w2 ⟨rfl, ⟨nd, rfl⟩⟩
          have hne : w.heap.size ≠ w1.heap.size := by have := HS1.out; omega
          have kk : ∀ n u1 u2, (((wr.drewN n).setCell ⟨w1.heap.size, 0, none⟩ u1).setCell ⟨w1.heap.size, 1, none⟩ u2).cell? ⟨w.heap.size, 2, none⟩ = some (.slice A2 e.f2.length c2) := fun n u1 u2 => cell_of (blk_far (blk_far (blk_drewN HI.out.e n) hne u1) hne u2) 2 rfl
          have HNE := Aside0.mk hne
          clear hne
          have n0 : wr.cell? ⟨w1.heap.size, 0, none⟩ = some (.string ⟨#[]⟩) := cell_of HI.out.n 0 rfl
          have n1 : wr.cell? ⟨w1.heap.size, 1, none⟩ = some (.string ⟨#[]⟩) := cell_of HI.out.n 1 rfl
          have y0 := blk_frozen HI.out.n 0
          have y1 := blk_frozen HI.out.n 1
          go_wp2_with (at_lookup; refine wp_lookup rfl _ _ 52 rfl Try.underlying52 Try.underlying9 Try.underlying9 (by kernel_rfl) (HI.out.m.drewN nd) rfl s1 rfl HZ.out ?_; rw [HL.out]; simp only [Option.getD_none, Option.isSome_none, Option.getD_some, Option.isSome_some])
          have hne4 : w.heap.size + 1 ≠ w1.heap.size := by have := HS1.out; omega
          have hnem : w.heap.size + 1 + 1 ≠ w1.heap.size := by have := HS1.out; omega
          have HI2 := Aside0.mk (show At2 K' L' [] (w.heap.size + 1 + 1) w.heap.size (w.heap.size + 1) w1.heap.size #[.string e.f0, .slice A1 e.f1.length c1, .slice A2 e.f2.length c2, .int .i64 e.f3] u s2 e.f3 va (.slice none 0 0) w (((wr.drewN nd).setCell ⟨w1.heap.size, 0, none⟩ (.string u)).setCell ⟨w1.heap.size, 1, none⟩ (.string s2)) from
            ⟨blk_far (blk_far (blk_drewN HI.out.e nd) HNE.out _) HNE.out _, blk_far (blk_far (blk_drewN HI.out.r nd) hne4 _) hne4 _, blk_put (blk_put (blk_drewN HI.out.n nd) 0 _ rfl) 1 _ rfl,
             ((HI.out.m.drewN nd).setCell hnem _).setCell hnem _, Kd.R_far (Kd.R_far (Kd.R_drewN HI.out.a nd) (fun _ hk => hk.1) _) (fun _ hk => hk.1) _, Kd.R_nil _ _ _ _ _, below_set (below_set (pw_below_drewN HI.out.b nd) HLE.out) HLE.out⟩)
          have HN4 := Aside0.mk hne4
          have HNM := Aside0.mk hnem
          clear n0 n1 y0 y1 kk k0' HI HZ HL HS hne4 hnem
          go_loopg [67] e.f2.length (fun kq v67 w' => ∃ i : Nat, v67 = .int .i64 i ∧ Aside0 (i + kq = e.f2.length) ∧ ∃ (M : List S26) (vk : Value), Aside0 (kidsF (resolveF k K') M (e.f2.drop i) = some t) ∧ Aside0 (At2 K' L' M (w.heap.size + 1 + 1) w.heap.size (w.heap.size + 1) w1.heap.size #[.string e.f0, .slice A1 e.f1.length c1, .slice A2 e.f2.length c2, .int .i64 e.f3] u s2 e.f3 va vk w w'))
          case atStart => exact ⟨0, rfl, ⟨by omega⟩, [], _, HT, HI2⟩
          case round =>
            clear HT HI2
            obtain ⟨i2, rfl, HK, M, vk, HT, HI⟩ := hrel
            obtain ⟨Ak, ck, rfl⟩ := Kd.R_slice HI.out.k
            by_cases hi : i2 < e.f2.length
            · obtain ⟨gk1, rfl⟩ : ∃ m, gk = m + 1 := ⟨gk - 1, by have := HK.out; omega⟩
              have hq := HT.out
              rw [List.drop_eq_getElem_cons hi, kidsF] at hq
              by_cases hM : M.length < 1000000000
              case neg => rw [if_neg hM] at hq; cases hq
              rw [if_pos hM] at hq
              obtain ⟨p, hd, h2⟩ := Option.bind_eq_some_iff.mp hq
              obtain ⟨y, aty, oky⟩ := p
              have hx : e.f2[i2] = rd_T32 e.f2 ↑i2 := by simp [rd_T32, List.getD_eq_getElem?_getD, List.getElem?_eq_getElem hi]
              rw [hx] at hd
              have HM' := Aside0.mk hM
              have HD := Aside0.mk hd
              have HT2 := Aside0.mk h2
              clear hq hd h2 hx HT hM
              obtain ⟨ad, X1, xc1, X2, xc2, ea, hx0, hx1, hx2, hx3, hxl1, hxr1, hxl2, hxr2⟩ := at_T32 HR2.out (↑i2) (by omega) (by omega)
              cases ea
              have HX1 := Aside0.mk hxr1
              have HXL1 := Aside0.mk hxl1
              have HX2 := Aside0.mk hxr2
              have HXL2 := Aside0.mk hxl2
              replace hx0 := (HI.out.b.cell (World.block_lt_of_cell? w _ hx0)).trans hx0
              replace hx1 := (HI.out.b.cell (World.block_lt_of_cell? w _ hx1)).trans hx1
              replace hx2 := (HI.out.b.cell (World.block_lt_of_cell? w _ hx2)).trans hx2
              replace hx3 := (HI.out.b.cell (World.block_lt_of_cell? w _ hx3)).trans hx3
              simp only [Int.toNat_natCast] at hx0 hx1 hx2 hx3
              clear hxr1 hxl1 hxr2 hxl2
              go_wp2_with (fail)
              have hb3 := below_alloc (Below.refl wr.heap.size wr) (.cells #[.string (rd_T32 e.f2 ↑i2).f0, .slice X1 (rd_T32 e.f2 ↑i2).f1.length xc1, .slice X2 (rd_T32 e.f2 ↑i2).f2.length xc2, .int .i64 (rd_T32 e.f2 ↑i2).f3] 32)
              have hI3 := HI.out.step hb3
              refine (IH.out (rd_T32 e.f2 ↑i2) X1 X2 xc1 xc2 (w.heap.size + 1 + 1) K' (y, aty, oky) _ (Kd.C_below HX1.out hI3.b) HXL1.out (Kd.C_below HX2.out hI3.b) HXL2.out hI3.m HD.out).mono ?_
              rintro e2 w2 ⟨⟨v2, v3, rfl, hv2, hv3, hb2⟩⟩
              have HI4 := Aside0.mk (hI3.step hb2)
              have HV2 := Aside0.mk hv2
              have HV3 := Aside0.mk hv3
              have HOK := Aside0.mk (show ∀ q, (wr.alloc (.cells #[.string (rd_T32 e.f2 ↑i2).f0, .slice X1 (rd_T32 e.f2 ↑i2).f1.length xc1, .slice X2 (rd_T32 e.f2 ↑i2).f2.length xc2, .int .i64 (rd_T32 e.f2 ↑i2).f3] 32)).heap.size ≤ q → ((q ≠ w1.heap.size ∧ q ≠ w.heap.size + 1 ∧ q ≠ w.heap.size) ∧ q ≠ w.heap.size + 1 + 1 ∧ some q ≠ va.ownBlock) ∧ some q ≠ (Value.slice Ak M.length ck).ownBlock from fun q hq =>
                ⟨⟨⟨by have := blk_lt hI3.n; omega, by have := blk_lt hI3.r; omega, by have := blk_lt hI3.e; omega⟩, by have := hI3.m.lt; omega, fun hh => by have := Kd.R_lt hI3.a q hh.symm; omega⟩, fun hh => by have := Kd.R_lt hI3.k q hh.symm; omega⟩)
              have HBA := Aside0.mk (show w.heap.size ≤ (wr.alloc (.cells #[.string (rd_T32 e.f2 ↑i2).f0, .slice X1 (rd_T32 e.f2 ↑i2).f1.length xc1, .slice X2 (rd_T32 e.f2 ↑i2).f2.length xc2, .int .i64 (rd_T32 e.f2 ↑i2).f3] 32)).heap.size from hI3.b.size)
              clear hb3 hI3 hv2 hv3 hb2 hx0 hx1 hx2 hx3 HI HD HX1 HX2 HXL1 HXL2
              obtain ⟨Y1, yc1, rfl⟩ := Kd.R_slice HV2.out
              obtain ⟨Y2, yc2, rfl⟩ := Kd.R_slice HV3.out
              cases oky with
              | true =>
                have kl : (M.length : Int) < (M.length : Int) + 1 := by omega
                have kA : ∀ o, (w2.alloc o).cell? ⟨w1.heap.size, 3, none⟩ = some (.slice Ak M.length ck) := fun o => cell_of (blk_alloc HI4.out.n o) 3 rfl
                have kD : ∀ o o', ((w2.alloc o).drew.alloc o').cell? ⟨w1.heap.size, 3, none⟩ = some (.slice Ak M.length ck) := fun o o' => cell_of (blk_alloc (blk_drew (blk_alloc HI4.out.n o)) o') 3 rfl
                have kE : ∀ o o', ((w2.alloc o).alloc o').cell? ⟨w1.heap.size, 3, none⟩ = some (.slice Ak M.length ck) := fun o o' => cell_of (blk_alloc (blk_alloc HI4.out.n o) o') 3 rfl
                have HSR := Aside0.mk (fun (o : Obj) => Kd.R_drewN (Kd.R_alloc HI4.out.k o) 1)
                have HBB := Aside0.mk (fun (o : Obj) => pw_below_drewN (below_alloc HI4.out.b o) 1)
                have HZ := Aside0.mk (show ∀ (o : Obj), ((w2.alloc o).drewN 1).heap.size = w2.heap.size + 1 from fun _ => by simp [World.drewN])
                have HLL := Aside0.mk (show (M.length + 1) * 88 ≤ 140737488355328 by have := HM'.out; omega)
                have HF := Aside0.mk (show ∀ q, w2.heap.size < q → (q ≠ w1.heap.size ∧ q ≠ w.heap.size + 1 ∧ q ≠ w.heap.size) ∧ q ≠ w.heap.size + 1 + 1 ∧ some q ≠ va.ownBlock from fun q hq => ⟨⟨by have := blk_lt HI4.out.n; omega, by have := blk_lt HI4.out.r; omega, by have := blk_lt HI4.out.e; omega⟩, by have := HI4.out.m.lt; omega, fun hh => by have := Kd.R_lt HI4.out.a q hh.symm; omega⟩)
                go_wp2_with (fail)
                go_region_law? (refine Kd.R_append_step k26 (w0 := w) (W := (w2.alloc (.cells #[.string y.f0, .string y.f1, .slice Y1 y.f2.length yc1, .slice Y2 y.f3.length yc2, .int .i64 y.f4] 26)).drewN 1) w.heap.size (by rfl) (.tmp 83) (.tmp 86) 24 26 (.agg #[.string ⟨#[]⟩, .string ⟨#[]⟩, .slice none 0 0, .slice none 0 0, .int .i64 0]) 88 rfl Try.underlying24 infoNamed rfl (by decide) (by omega) (.slice Ak M.length ck) M z26 [.string ⟨#[]⟩, .string ⟨#[]⟩, .slice none 0 0, .slice none 0 0, .int .i64 0] (fun k => (k ≠ w1.heap.size ∧ k ≠ w.heap.size + 1 ∧ k ≠ w.heap.size) ∧ k ≠ w.heap.size + 1 + 1 ∧ some k ≠ va.ownBlock) (fun _ => False) rfl (by rw [HZ.out]; rfl) (k26_mkM _ _ _ z26 (Kd.R_nil _ _ _ _ _) (Kd.R_nil _ _ _ _ _)) (fun _ hk => hk.elim) (fun k hk => HF.out k (by rw [HZ.out] at hk; omega)) (HSR.out _) (HBB.out _) (by rw [HZ.out]; have := HI4.out.b.size; omega) HLL.out ?_; intro v1 w3 ho hb hg hat; obtain ⟨gq, cq, rfl⟩ := R_addr ho; obtain ⟨zc, zl, zm, zz, zf⟩ := Kd.R_elem ho z26 (↑M.length) (by omega) (by omega); have HO := Aside0.mk ho; have HBW := Aside0.mk hb; have HG := Aside0.mk hg; have HAT := Aside0.mk hat; obtain ⟨a0, a1, a2, a3, a4, rfl⟩ : ∃ a0 a1 a2 a3 a4, zc = [a0, a1, a2, a3, a4] := five zl; have f0 := zf 0; have f1 := zf 1; have f2 := zf 2; have f3 := zf 3; have f4 := zf 4; have q0 := zz 0 _ rfl; have q1 := zz 1 _ rfl; have q2 := zz 2 _ rfl; have q3 := zz 3 _ rfl; have q4 := zz 4 _ rfl; simp only [Int.toNat_natCast, show (k26).sz = 5 from rfl, Nat.add_zero] at f0 f1 f2 f3 f4 q0 q1 q2 q3 q4; have CC := Aside0.mk zz; clear zf ho hb hg hat zm zz zl; have hn3 := blk_grown (blk_drewN (blk_alloc HI4.out.n (.cells #[.string y.f0, .string y.f1, .slice Y1 y.f2.length yc1, .slice Y2 y.f3.length yc2, .int .i64 y.f4] 26)) 1) HG.out (Kd.R_away HI4.out.k (fun _ hk => hk.1.1)); have HN3 := Aside0.mk hn3; clear hn3; have k7 : w3.cell? ⟨w1.heap.size, 3, none⟩ = some (.slice Ak M.length ck) := cell_of HN3.out 3 rfl; have f7 := blk_frozen HN3.out 3; have hgq : w1.heap.size ≠ gq := fun hh => (HO.out.1 gq (by simp [Value.ownBlock])).1.1 hh.symm; have HGQ := Aside0.mk hgq; clear hgq; have kz : ∀ u0 u1 u2 u3, ((((w3.setCell ⟨gq, M.length * 5, none⟩ u0).setCell ⟨gq, M.length * 5 + 1, none⟩ u1).setCell ⟨gq, M.length * 5 + 2, none⟩ u2).setCell ⟨gq, M.length * 5 + 3, none⟩ u3).cell? ⟨w1.heap.size, 3, none⟩ = some (.slice Ak M.length ck) := fun u0 u1 u2 u3 => cell_of (blk_far (blk_far (blk_far (blk_far HN3.out HGQ.out u0) HGQ.out u1) HGQ.out u2) HGQ.out u3) 3 rfl; have kw : ∀ u, (w3.setCell ⟨w1.heap.size, 3, none⟩ u).cell? ⟨gq, M.length * 5 + 3, none⟩ = some a3 := fun u => (cell_far (fun hh => HGQ.out hh.symm) u).trans q3)
                all_goals
                  have hgq2 : ∀ q, (wr.alloc (.cells #[.string (rd_T32 e.f2 ↑i2).f0, .slice X1 (rd_T32 e.f2 ↑i2).f1.length xc1, .slice X2 (rd_T32 e.f2 ↑i2).f2.length xc2, .int .i64 (rd_T32 e.f2 ↑i2).f3] 32)).heap.size ≤ q → q < w2.heap.size → q ≠ gq := fun q h1 h2 hh => by
                    subst hh
                    rcases HAT.out with hh | ⟨b, hh, hb⟩
                    · exact (HOK.out q h1).2 (by rw [← hh]; simp [Value.ownBlock])
                    · simp only [Value.ownBlock] at hh
                      injection hh with hh
                      rw [HZ.out] at hb
                      omega
                  have g3 : At3 K' L' (M ++ [z26]) (w.heap.size + 1 + 1) w.heap.size (w.heap.size + 1) w1.heap.size #[.string e.f0, .slice A1 e.f1.length c1, .slice (some ad) e.f2.length c2, .int .i64 e.f3] u s2 e.f3 va (.slice Ak M.length ck) (.slice (some ⟨gq, 0, none⟩) (M.length + 1) cq) w w3 := HI4.out.grow HN4.out HG.out HBW.out HO.out
                  have r2 : Kd.R k35 35 w3 w.heap.size (fun q => (wr.alloc (.cells #[.string (rd_T32 e.f2 ↑i2).f0, .slice X1 (rd_T32 e.f2 ↑i2).f1.length xc1, .slice X2 (rd_T32 e.f2 ↑i2).f2.length xc2, .int .i64 (rd_T32 e.f2 ↑i2).f3] 32)).heap.size ≤ q ∧ q < w2.heap.size) (.slice Y1 y.f2.length yc1) y.f2 :=
                    Kd.R_grown (Kd.R_drewN (Kd.R_alloc (Kd.R_lower (Kd.R_mono (Kd.R_bound HV2.out) (fun q hq => ⟨hq.2.1, hq.2.2.1⟩)) HBA.out) (.cells #[.string y.f0, .string y.f1, .slice Y1 y.f2.length yc1, .slice Y2 y.f3.length yc2, .int .i64 y.f4] 26)) 1) HG.out (fun q hq => (HOK.out q hq.1).2)
                  have r3 : Kd.R k26 26 w3 w.heap.size (fun q => (wr.alloc (.cells #[.string (rd_T32 e.f2 ↑i2).f0, .slice X1 (rd_T32 e.f2 ↑i2).f1.length xc1, .slice X2 (rd_T32 e.f2 ↑i2).f2.length xc2, .int .i64 (rd_T32 e.f2 ↑i2).f3] 32)).heap.size ≤ q ∧ q < w2.heap.size) (.slice Y2 y.f3.length yc2) y.f3 :=
                    Kd.R_grown (Kd.R_drewN (Kd.R_alloc (Kd.R_lower (Kd.R_mono (Kd.R_bound HV3.out) (fun q hq => ⟨hq.2.1, hq.2.2.1⟩)) HBA.out) (.cells #[.string y.f0, .string y.f1, .slice Y1 y.f2.length yc1, .slice Y2 y.f3.length yc2, .int .i64 y.f4] 26)) 1) HG.out (fun q hq => (HOK.out q hq.1).2)
                  have hok3 : ∀ q, ((wr.alloc (.cells #[.string (rd_T32 e.f2 ↑i2).f0, .slice X1 (rd_T32 e.f2 ↑i2).f1.length xc1, .slice X2 (rd_T32 e.f2 ↑i2).f2.length xc2, .int .i64 (rd_T32 e.f2 ↑i2).f3] 32)).heap.size ≤ q ∧ q < w2.heap.size) → ((q ≠ w1.heap.size ∧ q ≠ w.heap.size + 1 ∧ q ≠ w.heap.size) ∧ q ≠ w.heap.size + 1 + 1 ∧ some q ≠ va.ownBlock) ∧ q ≠ gq := fun q hq => ⟨(HOK.out q hq.1).1, hgq2 q hq.1 hq.2⟩
                  have G3 := Aside0.mk g3
                  have R2 := Aside0.mk r2
                  have R3 := Aside0.mk r3
                  have OK3 := Aside0.mk hok3
                  have C3 := Aside0.mk (show ∀ j u, [a0, a1, a2, a3, a4][j]? = some u → w3.cell? ⟨gq, (↑M.length : Int).toNat * (k26).sz + j, none⟩ = some u from CC.out)
                  clear hgq2 g3 r2 r3 hok3 CC f0 f1 f2 f3 f4 f7 q0 q1 q2 q3 q4 kz kw k7 kA kD kE kl HSR HBB HLL HF
                  go_wp2
                  go_roundg gk1
                  case measure => omega
                  case rel =>
                    refine ⟨i2 + 1, (by simp), ⟨by have := HK.out; omega⟩, M ++ [y], .slice (some ⟨gq, 0, none⟩) (M.length + 1) cq, ⟨by simpa using HT2.out⟩, ⟨?_⟩⟩
                    first
                      | (with_reducible exact At3.endA G3.out rfl C3.out R2.out R3.out OK3.out HLE.out)
                      | (with_reducible exact At3.endB G3.out rfl C3.out R2.out R3.out OK3.out HLE.out HGQ.out)
              | false =>
                have hq := HT2.out
                rw [if_neg (show ¬ (false = true) by decide)] at hq
                obtain rfl := Option.some.inj hq
                have hr := HE.out
                rw [if_neg (show ¬ (false = true) by decide)] at hr
                obtain rfl := Option.some.inj hr
                have z0 : ∀ o, (w2.alloc o).cell? ⟨w.heap.size + 1, 0, none⟩ = some (.string ⟨#[]⟩) := fun o => cell_of (blk_alloc HI4.out.r o) 0 rfl
                have z1 : ∀ o, (w2.alloc o).cell? ⟨w.heap.size + 1, 1, none⟩ = some (.string ⟨#[]⟩) := fun o => cell_of (blk_alloc HI4.out.r o) 1 rfl
                have z2 : ∀ o, (w2.alloc o).cell? ⟨w.heap.size + 1, 2, none⟩ = some (.slice none 0 0) := fun o => cell_of (blk_alloc HI4.out.r o) 2 rfl
                have z3 : ∀ o, (w2.alloc o).cell? ⟨w.heap.size + 1, 3, none⟩ = some (.slice none 0 0) := fun o => cell_of (blk_alloc HI4.out.r o) 3 rfl
                have z4 : ∀ o, (w2.alloc o).cell? ⟨w.heap.size + 1, 4, none⟩ = some (.int .i64 0) := fun o => cell_of (blk_alloc HI4.out.r o) 4 rfl
                have y0 : ∀ o, (w2.alloc o).frozen? ⟨w.heap.size + 1, 0, none⟩ = false := fun o => blk_frozen (blk_alloc HI4.out.r o) 0
                have y1 : ∀ o, (w2.alloc o).frozen? ⟨w.heap.size + 1, 1, none⟩ = false := fun o => blk_frozen (blk_alloc HI4.out.r o) 1
                have y2 : ∀ o, (w2.alloc o).frozen? ⟨w.heap.size + 1, 2, none⟩ = false := fun o => blk_frozen (blk_alloc HI4.out.r o) 2
                have y3 : ∀ o, (w2.alloc o).frozen? ⟨w.heap.size + 1, 3, none⟩ = false := fun o => blk_frozen (blk_alloc HI4.out.r o) 3
                have y4 : ∀ o, (w2.alloc o).frozen? ⟨w.heap.size + 1, 4, none⟩ = false := fun o => blk_frozen (blk_alloc HI4.out.r o) 4
                clear HT2
                go_wp2
                refine bodyPost_ret (results_ctt rfl _ _ (w.heap.size + 1) 26 #[.string ⟨#[]⟩, .string ⟨#[]⟩, .slice none 0 0, .slice none 0 0, .int .i64 0] (0, 0) _ rfl ?hg Try.underlying26 rfl (by kernel_rfl)) rfl ?_
                case hg => repeat (first | (with_reducible exact HI4.out.r) | (with_reducible refine blk_alloc ?_ _) | (with_reducible refine blk_drewN ?_ _) | (with_reducible refine blk_drew ?_) | refine blk_put (cs := #[.string ⟨#[]⟩, .string ⟨#[]⟩, .slice none 0 0, .slice none 0 0, .int .i64 0]) ?_ _ _ rfl)
                exact ResPost.bad _ (by repeat (first | (with_reducible exact HI4.out.b) | (with_reducible apply below_alloc) | (with_reducible apply pw_below_drewN) | (with_reducible apply below_drew) | refine below_set ?_ (by omega)))
            · have hq := HT.out
              rw [List.drop_eq_nil_of_le (by omega), kidsF] at hq
              have hq := Option.some.inj hq
              subst hq
              have hr := HE.out
              rw [if_pos rfl] at hr
              have hr := Option.some.inj hr
              subst hr
              have n0 : wr.cell? ⟨w1.heap.size, 0, none⟩ = some (.string u) := cell_of HI.out.n 0 rfl
              have n1 : wr.cell? ⟨w1.heap.size, 1, none⟩ = some (.string s2) := cell_of HI.out.n 1 rfl
              have n2 : wr.cell? ⟨w1.heap.size, 2, none⟩ = some va := cell_of HI.out.n 2 rfl
              have n3 : wr.cell? ⟨w1.heap.size, 3, none⟩ = some (.slice Ak M.length ck) := cell_of HI.out.n 3 rfl
              have n4 : wr.cell? ⟨w1.heap.size, 4, none⟩ = some (.int .i64 e.f3) := cell_of HI.out.n 4 rfl
              have z0 : wr.cell? ⟨w.heap.size + 1, 0, none⟩ = some (.string ⟨#[]⟩) := cell_of HI.out.r 0 rfl
              have z1 : wr.cell? ⟨w.heap.size + 1, 1, none⟩ = some (.string ⟨#[]⟩) := cell_of HI.out.r 1 rfl
              have z2 : wr.cell? ⟨w.heap.size + 1, 2, none⟩ = some (.slice none 0 0) := cell_of HI.out.r 2 rfl
              have z3 : wr.cell? ⟨w.heap.size + 1, 3, none⟩ = some (.slice none 0 0) := cell_of HI.out.r 3 rfl
              have z4 : wr.cell? ⟨w.heap.size + 1, 4, none⟩ = some (.int .i64 0) := cell_of HI.out.r 4 rfl
              have y0 := blk_frozen HI.out.r 0
              have y1 := blk_frozen HI.out.r 1
              have y2 := blk_frozen HI.out.r 2
              have y3 := blk_frozen HI.out.r 3
              have y4 := blk_frozen HI.out.r 4
              obtain ⟨Aa, ca, rfl⟩ := Kd.R_slice HI.out.a
              clear HT
              go_wp2
              refine bodyPost_ret (results_ctt rfl _ _ (w.heap.size + 1) 26 #[.string u, .string s2, .slice Aa L'.length ca, .slice Ak M.length ck, .int .i64 e.f3] (0, 0) _ rfl ?hg Try.underlying26 rfl (by kernel_rfl)) rfl ?_
              case hg => exact blk_put (blk_put (blk_put (blk_put (blk_put HI.out.r 0 _ rfl) 1 _ rfl) 2 _ rfl) 3 _ rfl) 4 _ rfl
              refine ⟨⟨_, _, rfl, ?_, ?_, ?_⟩⟩
              · exact Kd.R_mono (Kd.R_far (Kd.R_far (Kd.R_far (Kd.R_far (Kd.R_far (Kd.R_types HI.out.a HI.out.r (by decide)) (fun _ hk => hk.2) _) (fun _ hk => hk.2) _) (fun _ hk => hk.2) _) (fun _ hk => hk.2) _) (fun _ hk => hk.2) _) (fun _ _ => trivial)
              · exact Kd.R_mono (Kd.R_far (Kd.R_far (Kd.R_far (Kd.R_far (Kd.R_far HI.out.k (fun _ hk => hk.1.2.1) _) (fun _ hk => hk.1.2.1) _) (fun _ hk => hk.1.2.1) _) (fun _ hk => hk.1.2.1) _) (fun _ hk => hk.1.2.1) _) (fun _ hk => hk.2.2)
              · exact below_set (below_set (below_set (below_set (below_set HI.out.b (by omega)) (by omega)) (by omega)) (by omega)) (by omega)

end Go.Proofs.Ytlbcnklieefhmaa.PA
