/- The evaluator's soundness, ninth part: append, clear, copy, len, calls; every operation. -/
import Derived.Test.YtknenadpkgajjaaGEvI
import Derived.Laws.LoneSync
import Derived.Laws.BytesString
import Derived.Laws.IdiomStrings
import Derived.Laws.Cover4
import Derived.Laws.RangeAny
import Derived.Lib.UnsafeStr
import Derived.Lib.ConvBytes
import Derived.Laws.AppendOwn
namespace Go.Proofs.Ytknenadpkgajjaa.GEv
open Go
set_option linter.unusedSimpArgs false
set_option linter.unusedVariables false

theorem growBy_le (n : Nat) : ∀ (r c : Nat), c ≤ n + (n + 768) / 4 → Builtin.growBy n r c ≤ n + (n + 768) / 4
  | 0, c, h => by simpa [Builtin.growBy] using h
  | r + 1, c, h => by
    simp only [Builtin.growBy]
    split
    · exact h
    · exact growBy_le n r _ (by omega)
theorem nextcap_le {need cap : Nat} (h : cap < need) : Builtin.nextslicecap need cap ≤ need * 4 + 2048 := by
  unfold Builtin.nextslicecap
  split
  · omega
  · split
    · omega
    · have := growBy_le need 4 cap (by omega)
      omega

section
variable {E : Env} {ρ : Ren} {tm : TM} {h : H} {a : Act} {w : World} {r : Res} {dst : Option Tmp} {ty : TypeId} {pos : String} {after : Array Edge} {guard : Option (Nat × Bool)}
theorem run_app_in {P : Program} {argTypes : Array TypeId} {sT xT e : TypeId} {d : TypeDesc} {size len cap n : Nat} {base : Option Addr} {x : Value} {new : Array Value} {w' : World}
    (h0 : argTypes[0]? = some sT) (h1 : argTypes[1]? = some xT) (hs : P.underlying sT = some (.slice e)) (hsz : sizeOf P e = some size) (hd : P.underlying xT = some d) (hni : ∀ k, d ≠ .int k)
    (hl : (Builtin.lenOf x).run P w = .ok n w) (hf : (Builtin.firstCells size n x).run P w = .ok new w) (hc : len + n ≤ cap)
    (hst : (base = none ∧ w' = w) ∨ ∃ b, base = some b ∧ (storeCells (b.add (len * size)) new.toList).run P w = .ok () w') :
    (Builtin.append_ argTypes ty #[.slice base len cap, x]).run P w = .ok (.slice base (len + n) cap) w' := by
  have hdm : (match d with | .int _ => true | _ => false) = false := by cases d <;> first | rfl | exact absurd rfl (hni _)
  have g0 : (#[Value.slice base len cap, x] : Array Value)[0]? = some (.slice base len cap) := rfl
  have g1 : (#[Value.slice base len cap, x] : Array Value)[1]? = some x := rfl
  simp only [Builtin.append_, h0, h1, g0, g1, Sem.run_bind, run_und hs, run_und hd, run_size hsz, Result.andThen_ok, Sem.run_pure, hdm, Bool.false_eq_true, if_false, hl, hc, if_true, Bool.not_false, hf]
  rcases hst with ⟨rfl, rfl⟩ | ⟨b, rfl, hst⟩
  · simp
  · simp [hst]
theorem run_app_new {P : Program} {argTypes : Array TypeId} {sT xT e : TypeId} {d : TypeDesc} {i : TypeInfo} {len cap n : Nat} {base : Option Addr} {x z : Value} {new old : Array Value}
    (h0 : argTypes[0]? = some sT) (h1 : argTypes[1]? = some xT) (hs : P.underlying sT = some (.slice e)) (hi : P.info? e = some i) (hd : P.underlying xT = some d) (hni : ∀ k, d ≠ .int k)
    (hl : (Builtin.lenOf x).run P w = .ok n w) (hc : ¬ len + n ≤ cap) (hb : ((len + n) * 4 + 2048) * i.bytes ≤ 2 ^ 48) (hb0 : 0 < i.bytes) (hz : zero P e = some z)
    (ho : (Builtin.firstCells i.size len (.slice base len cap)).run P { w with drawn := w.drawn + 1 } = .ok old { w with drawn := w.drawn + 1 })
    (hf : (Builtin.firstCells i.size n x).run P { w with drawn := w.drawn + 1 } = .ok new { w with drawn := w.drawn + 1 }) :
    ∃ k, len + n ≤ k ∧ (Builtin.append_ argTypes ty #[.slice base len cap, x]).run P w =
      .ok (.slice (some ⟨w.heap.size, 0, none⟩) (len + n) k) { w with drawn := w.drawn + 1, heap := w.heap.push (.cells (old ++ new ++ Builtin.zeroCells z.cells (k - (len + n))) e) } := by
  have hdm : (match d with | .int _ => true | _ => false) = false := by cases d <;> first | rfl | exact absurd rfl (hni _)
  have g0 : (#[Value.slice base len cap, x] : Array Value)[0]? = some (.slice base len cap) := rfl
  have g1 : (#[Value.slice base len cap, x] : Array Value)[1]? = some x := rfl
  have hsz : sizeOf P e = some i.size := by simp [GEv.sizeOf, hi]
  have hnc : ¬ (Builtin.nextslicecap (len + n) cap * i.bytes > 2 ^ 48) := by
    have := Nat.mul_le_mul_right i.bytes (nextcap_le (need := len + n) (cap := cap) (by omega))
    omega
  have h64 : ¬ (((len + n : Nat) : Int) > IntKind.i64.max ∧ (false = true ∨ i.bytes = 0)) := by
    rintro ⟨_, q | q⟩
    · cases q
    · omega
  refine ⟨(Question.appendCap (len + n) cap e).cut (w.tape w.drawn (.appendCap (len + n) cap e)), by simp only [Question.cut]; omega, ?_⟩
  have hq : (Question.appendCap (len + n) cap e).forced = false := rfl
  simp only [Builtin.append_, h0, h1, g0, g1, Sem.run_bind, run_und hs, run_und hd, run_size hsz, Result.andThen_ok, Sem.run_pure, hdm, Bool.false_eq_true, if_false, hl, hc, run_info hi]
  rw [if_neg (by simpa using h64)]
  simp only [Sem.run_bind, run_info hi, Result.andThen_ok, Sem.run_pure]
  rw [if_neg hnc]
  simp only [Sem.run_bind, run_choose, hq, Bool.false_eq_true, if_false, Result.andThen_ok, run_info hi, run_askRoom, ho, Bool.not_false, if_true, hf, run_zero hz, newRow, run_newObj, Sem.run_pure]
theorem zeroCells_size (z : Array Value) (n : Nat) : (Builtin.zeroCells z n).size = n * z.size := by simp [Builtin.zeroCells]
/-- The new row of an append. -/
theorem grown_sound (hR : Rel ρ h w) (hf : ρ h.next = none) {e size need k fz : Nat} {el : Option TypeId} (hel : ∀ e', el = some e' → e = e') {old new : List Value} {old' new' rest : Array Value} (ho : VRL ρ old old'.toList) (hn : VRL ρ new new'.toList)
    (hl : old.length + new.length = need * size) (hr : rest.size = (k - need) * size) (hk : need ≤ k) {w' : World} (hh : w'.heap = w.heap.push (.cells (old' ++ new' ++ rest) e)) (hos : w'.os = w.os) (ht : w'.tape = w.tape) (hp : w'.output = w.output) :
    Rel (rput ρ h.next (w.heap.size, 0, k * size)) (h.push (.cells (old ++ new) el false fz)) w' ∧ Ext ρ (rput ρ h.next (w.heap.size, 0, k * size)) h (h.push (.cells (old ++ new) el false fz)) w w' := by
  have h1 : old.length = old'.size := by have := ho.1; simpa using this
  have h2 : new.length = new'.size := by have := hn.1; simpa using this
  have hz : need * size + (k - need) * size = k * size := by rw [← Nat.add_mul]; congr 1; omega
  refine hR.push hf _ _ _ _ ⟨_, e, (0, 0), rfl, ?_, hel, ?_, (fun q => by cases q), (fun i _ q => absurd q (Nat.not_lt_zero _)), ?_⟩ hh hos ht hp
  · simp only [Array.size_append]; omega
  · simp only [List.length_append]; omega
  · rw [List.drop_zero]
    have : ((old' ++ new' ++ rest).toList.take (old ++ new).length) = old'.toList ++ new'.toList := by
      simp only [Array.toList_append, List.length_append]
      rw [List.take_append_of_le_length (by simp; omega)]
      exact List.take_of_length_le (by simp; omega)
    rw [this]
    exact ho.append hn
theorem unk_slice (ρ : Ren) (b c z s l k size : Nat) (o : Nat) (hl : l ≤ k) (hz : s + k * size = z) (ho : o = s) :
    VR (rput ρ b (c, s, z)) (.slice (some ⟨b, 0, none⟩) l (UNK + size)) (.slice (some ⟨c, o, none⟩) l k) :=
  .slice ⟨rfl, .inr rfl, hl, fun q => by omega, .inl ⟨c, s, z, rput_self _ _ _, rfl, by simp [ho], fun _ => by simp only [Nat.add_zero, Nat.add_sub_cancel_left]; exact hz⟩⟩
theorem append_sound {argTypes : Array TypeId} {sT xT : TypeId} {d : TypeDesc} {s x v s' x' : Value} {h' : H} (h0 : argTypes[0]? = some sT) (h1 : argTypes[1]? = some xT) (hd : E.P.underlying xT = some d) (hni : ∀ k, d ≠ .int k)
    (hap : append E.P h sT false s x = some (v, h')) (hs : VR ρ s s') (hx : VR ρ x x') (hR : Rel ρ h w) (hF : Fr ρ h.next h'.next) :
    ∃ v' w' ρ', (Builtin.append_ argTypes ty #[s', x']).run E.P w = .ok v' w' ∧ VR ρ' v v' ∧ Rel ρ' h' w' ∧ Ext ρ ρ' h h' w w' := by
  unfold append at hap
  split at hap
  · rename_i e base len cap hsl
    split at hap
    · rename_i i z n hi hz hn
      split at hap
      · rename_i hcond
        obtain ⟨_, hc1, hc2, hc3, hc4⟩ := hcond
        have hsz : sizeOf E.P e = some i.size := by simp [GEv.sizeOf, hi]
        split at hap
        · rename_i new hbn
          split at hap
          · rename_i hnl
            obtain ⟨hnl, hone⟩ := hnl
            obtain ⟨new', hf, hnv⟩ := bears_sound (P := E.P) hR hbn hn hnl hx
            have hlen := run_len (P := E.P) (w := w) hn hx
            have hR1 : Rel ρ h { w with drawn := w.drawn + 1 } := hR.world rfl
            obtain ⟨new1, hf1, hnv1⟩ := bears_sound (P := E.P) hR1 hbn hn hnl hx
            have hzs : z.cells.size = i.size := by simpa using hc3
            -- a new row
            have grow : ∀ {base' : Option Addr} {cap' : Nat} {old : List Value}, s' = .slice base' len cap' → ¬ len + n ≤ cap' → h.bears i.size (.slice base len cap) = some old → old.length = len * i.size →
                ∃ k w', len + n ≤ k ∧ (Builtin.append_ argTypes ty #[s', x']).run E.P w = .ok (.slice (some ⟨w.heap.size, 0, none⟩) (len + n) k) w' ∧
                  ∀ (h1 : H) (el : Option TypeId) (fz : Nat), Rel ρ h1 w → ρ h1.next = none → (∀ e', el = some e' → e = e') → Rel (rput ρ h1.next (w.heap.size, 0, k * i.size)) (h1.push (.cells (old ++ new) el false fz)) w' ∧
                    Ext ρ (rput ρ h1.next (w.heap.size, 0, k * i.size)) h1 (h1.push (.cells (old ++ new) el false fz)) w w' := by
              intro base' cap' old es hnc hbo hol
              obtain ⟨old', ho, hov⟩ := bears_sound (P := E.P) hR1 hbo rfl hol hs
              rw [es] at ho
              obtain ⟨k, hk, hrun⟩ := run_app_new (ty := ty) h0 h1 hsl hi hd hni hlen hnc hc4 hc2 hz ho hf1
              refine ⟨k, _, hk, by rw [es]; exact hrun, fun h1 el fz hRh hf1 hel => ?_⟩
              exact grown_sound hRh hf1 (e := e) (size := i.size) (need := len + n) (k := k) hel
                (old' := old'.toArray) (new' := new1.toArray) (by simpa using hov) (by simpa using hnv1) (by rw [hol, hnl, Nat.add_mul]) (by rw [zeroCells_size, hzs]) hk rfl rfl rfl rfl
            split at hap
            · -- a known capacity
              rename_i hcap
              unfold appendKnown at hap
              split at hap
              · rename_i hle
                split at hap
                · cases hap
                  have es := inv_snil hs
                  subst es
                  exact ⟨_, w, ρ, run_app_in h0 h1 hsl hsz hd hni hlen hf hle (.inl ⟨rfl, rfl⟩), .snil _ _, hR, Ext.refl ρ h w⟩
                · rename_i b
                  obtain ⟨b', c', es, hS⟩ := inv_slice hs
                  subst es
                  have hS' := hS
                  obtain ⟨g1, g2, g3, g4, g7⟩ := hS'
                  have hcc := g4 hcap
                  subst hcc
                  have hnewslice : VR ρ (.slice (some b) (len + n) c') (.slice (some b') (len + n) c') := by
                    refine .slice ⟨g1, g2.imp (fun q => ⟨by omega, q.2⟩) id, hle, fun _ => rfl, ?_⟩
                    rcases g7 with q | ⟨q1, q2⟩
                    · exact .inl q
                    · exact .inr ⟨by omega, q2⟩
                  split at hap
                  · rename_i hn0
                    cases hap
                    have hnew0 : new'.toArray = #[] := by
                      have hl0 : new.length = 0 := by rw [hnl, hn0, Nat.zero_mul]
                      have := hnv.1
                      have : new' = [] := List.length_eq_zero_iff.1 (by omega)
                      subst this; rfl
                    exact ⟨_, w, ρ, run_app_in h0 h1 hsl hsz hd hni hlen hf hle (.inr ⟨b', rfl, by rw [hnew0]; rfl⟩), hnewslice, hR, Ext.refl ρ h w⟩
                  · rename_i hn0
                    split at hap
                    · rename_i h2 hw
                      cases hap
                      rcases hS.addr with ⟨c2, s2, z2, q1, rfl, _⟩ | ⟨q1, q2⟩
                      · obtain ⟨w', r1, r2⟩ := write_sound hR hw q1 hnv
                        refine ⟨_, w', ρ, run_app_in h0 h1 hsl hsz hd hni hlen hf hle (.inr ⟨_, rfl, ?_⟩), hnewslice, r2⟩
                        rw [add_none, Nat.add_assoc]
                        simpa using r1 E.P
                      · omega
                    · cases hap
              · rename_i hle
                split at hap
                · rename_i old hbo
                  cases hap
                  have hol : old.length = len * i.size := by
                    cases base with
                    | none =>
                      simp only [H.bears] at hbo
                      split at hbo
                      · rename_i q; cases hbo; simp [q]
                      · cases hbo
                    | some b =>
                      simp only [H.bears] at hbo
                      split at hbo
                      · rename_i q; cases hbo; simp [q]
                      split at hbo
                      · unfold H.read at hbo
                        split at hbo
                        · exact cut_length hbo
                        · cases hbo
                      · cases hbo
                  have done : ∀ {base' : Option Addr} {cap' : Nat}, s' = .slice base' len cap' → ¬ len + n ≤ cap' → ∃ v' w' ρ', (Builtin.append_ argTypes ty #[s', x']).run E.P w = .ok v' w' ∧
                      VR ρ' (.slice (some ⟨h.next, 0, none⟩) (len + n) (UNK + i.size)) v' ∧ Rel ρ' (h.push (.cells (old ++ new) (some e) false 0)) w' ∧ Ext ρ ρ' h (h.push (.cells (old ++ new) (some e) false 0)) w w' := fun es q => by
                    obtain ⟨k, w', hk, r1, r2⟩ := grow es q hbo hol
                    exact ⟨_, w', _, r1, unk_slice _ _ _ _ _ _ _ _ _ hk (Nat.zero_add _) rfl, r2 h (some e) 0 hR (hF _ (Nat.le_refl _) (Nat.lt_succ_self _)) (fun e' q => by cases q; rfl)⟩
                  cases base with
                  | none =>
                    have es := inv_snil hs
                    exact done es hle
                  | some b =>
                    obtain ⟨b', c', es, hS⟩ := inv_slice hs
                    obtain ⟨g1, g2, g3, g4, _⟩ := hS
                    have hcc := g4 hcap
                    subst hcc
                    exact done es hle
                · cases hap
            · -- one that is not known
              rename_i hcap
              split at hap
              · cases hap
              · rename_i b
                split at hap
                · rename_i hspot
                  obtain ⟨b', c', es, hS⟩ := inv_slice hs
                  have hS' := hS
                  obtain ⟨g1, g2, g3, g4, g7⟩ := hS'
                  unfold appendUnk at hap
                  split at hap
                  · rename_i hn0
                    cases hap
                    have hnew0 : new'.toArray = #[] := by
                      have hl0 : new.length = 0 := by rw [hnl, hn0, Nat.zero_mul]
                      have := hnv.1
                      have : new' = [] := List.length_eq_zero_iff.1 (by omega)
                      subst this; rfl
                    subst hn0
                    refine ⟨_, w, ρ, by rw [es]; exact run_app_in h0 h1 hsl hsz hd hni hlen hf (by omega) (.inr ⟨b', rfl, by rw [hnew0]; rfl⟩), ?_, hR, Ext.refl ρ h w⟩
                    rw [Nat.add_zero]
                    exact .slice hS
                  · rename_i hn0
                    split at hap
                    · rename_i hcu
                      split at hap
                      · rename_i cl el fl fz hg
                        split at hap
                        · rename_i hfz
                          split at hap
                          · rename_i old hcut
                            cases hap
                            have hol := cut_length hcut
                            have hbo : h.bears i.size (.slice (some b) len cap) = some old := by
                              by_cases hl0 : len = 0
                              · have ho0 : old = [] := by
                                  apply List.eq_nil_of_length_eq_zero
                                  rw [hol, hl0, Nat.zero_mul]
                                simp only [H.bears, hl0, if_true, ho0]
                              · simp only [H.bears, if_neg hl0, hspot, if_true, H.read, hg, hcut]
                            by_cases hle : len + n ≤ c'
                            · rcases hS.addr with ⟨c2, s2, z2, q1, rfl, q3⟩ | ⟨q1, q2⟩
                              · have q4 := q3 (by omega)
                                subst hcu
                                rw [Nat.add_sub_cancel_left] at q4
                                obtain ⟨o, ho, cells, e', f, rfl, hz', he, hsz', hfull, hfz', hv⟩ := hR.ok b.block _ c2 s2 z2 hg q1
                                have hmul : (len + n) * i.size ≤ c' * i.size := Nat.mul_le_mul_right _ hle
                                rw [Nat.add_mul] at hmul
                                have hnl' : new'.length = n * i.size := by rw [← hnl]; exact hnv.1.symm
                                have hcl := (cut_eq hcut).1
                                have hst := run_stores (P := E.P) (g := c2) (o := s2 + b.off + len * i.size) new' 0 cells w ho (by omega) (fun j p q ⟨u1, u2⟩ => by
                                  have := hfz' (j - s2) (by omega) (by omega) (by omega)
                                  omega) (by rw [hnv.one]; exact hone)
                                obtain ⟨lo, hlo, hlov⟩ := hv.cut hcut
                                have hlo' : lo = (cells.toList.drop (s2 + b.off)).take (len * i.size) := by
                                  obtain ⟨_, rfl⟩ := cut_eq hlo
                                  rw [List.drop_take, List.take_take, List.drop_drop]
                                  congr 1
                                  omega
                                have := hR.share (hF _ (Nat.le_refl _) (Nat.lt_succ_self _)) (w' := sb w c2 (.cells (over cells.toList (s2 + b.off + len * i.size) new').toArray e' f)) (.cells (old ++ new) (if el = some e then some e else none) false (fz - b.off)) _ (s2 + b.off)
                                  (by rw [hg]; simp) q1 ⟨_, e', f, rfl, by simp only [List.size_toArray]; rw [over_length (by simp; omega)]; simpa using hz', (fun e0 q => by
                                    split at q
                                    · rename_i q'; cases q; exact he _ q'
                                    · cases q), by simp only [List.length_append]; omega, (fun q => by cases q), (fun i' u1 u2 u3 => by
                                    have := hfz' (b.off + i') (by omega) (by omega) (by omega)
                                    omega), by
                                    simp only [List.length_append]
                                    rw [over_part (by omega) (by simp; omega)]
                                    have e1 : List.take (len * i.size) (List.take (old.length + new.length) (cells.toList.drop (s2 + b.off))) = List.take (len * i.size) (cells.toList.drop (s2 + b.off)) := by
                                      rw [List.take_take, Nat.min_eq_left (by omega)]
                                    have e2 : List.drop (len * i.size + new'.length) (List.take (old.length + new.length) (cells.toList.drop (s2 + b.off))) = [] :=
                                      List.drop_eq_nil_of_le (by rw [List.length_take]; omega)
                                    unfold over
                                    rw [e1, e2, List.append_nil, ← hlo']
                                    exact hlov.append hnv⟩ (sb_get _ (lt_of_heap ho)) (fun k hk => sb_ne _ hk) (sb_size _ _ _) rfl rfl rfl
                                refine ⟨_, _, _, by rw [es]; exact run_app_in h0 h1 hsl hsz hd hni hlen hf hle (.inr ⟨_, rfl, by rw [add_none]; simpa using hst⟩), unk_slice _ _ _ _ _ _ _ _ _ hle q4 rfl, this⟩
                              · omega
                            · obtain ⟨k, w', hk, r1, r2⟩ := grow es hle hbo hol
                              have hkill := hR.kill b.block
                              have := r2 (h.put b.block none) (if el = some e then some e else none) (fz - b.off) hkill.1 (hF _ (Nat.le_refl _) (Nat.lt_succ_self _)) (fun e0 q => by
                                split at q
                                · cases q; rfl
                                · cases q)
                              exact ⟨_, w', _, r1, unk_slice _ _ _ _ _ _ _ _ _ hk (Nat.zero_add _) rfl, this.1, Ext.trans hF hkill.1 hkill.2 this.2⟩
                          · cases hap
                        · cases hap
                      · cases hap
                    · cases hap
                · cases hap
          · cases hap
        · cases hap
      · cases hap
    · cases hap
  · cases hap
theorem bytes_heap (w : World) (e : TypeId) (s : ByteArray) : (Lib.bytesWorld w e s).heap = w.heap.push (.cells (Lib.bytesCells w e s) e ((Lib.bytesCells w e s).size, (Lib.bytesCells w e s).size + 1)) := by
  apply Array.ext_getElem?
  intro j
  rw [Array.getElem?_push]
  by_cases h : j = w.heap.size
  · subst h; rw [if_pos rfl, Lib.bytesWorld_at_new]
  · rw [if_neg h]
    by_cases h' : j < w.heap.size
    · exact Lib.bytesWorld_at_old w e s j h'
    · rw [Array.getElem?_eq_none (by rw [Lib.bytesWorld_size]; omega), Array.getElem?_eq_none (by omega)]
theorem bytesV_length (s : ByteArray) : (bytesV s).length = s.size := by simp [bytesV]
theorem bytesV_eq (s : ByteArray) : bytesV s = (s.data.map fun b => Value.int .u8 b.toNat).toList := by
  simp only [bytesV, Array.toList_map]
  rfl
theorem ints_self (ρ : Ren) (l : List UInt8) : VRL ρ (l.map fun b => Value.int .u8 (.ofNat b.toNat)) (l.map fun b => Value.int .u8 (.ofNat b.toNat)) := ⟨rfl, fun i v v' h h' => by
  have := h.symm.trans h'
  cases this
  rw [List.getElem?_map] at h
  cases hb : l[i]? with
  | none => rw [hb] at h; cases h
  | some b => rw [hb] at h; cases h; exact .int _ _⟩
theorem fold_push : ∀ (ns : List Int) (s : ByteArray), ns.foldl (fun r n => r.push (UInt8.ofNat n.toNat)) s = ⟨s.data ++ (ns.map fun n => UInt8.ofNat n.toNat).toArray⟩
  | [], s => by cases s; simp
  | n :: ns, s => by
    rw [List.foldl_cons, fold_push ns]
    apply ByteArray.ext
    simp [ByteArray.push]
theorem bytesOf_cells : ∀ {l : List Value} {b : List UInt8}, bytesOf l = some b → l = b.map fun x => Value.int .u8 x.toNat
  | [], b, h => by cases h; rfl
  | v :: l, b, h => by
    simp only [bytesOf] at h
    split at h
    · rename_i n
      split at h
      · rename_i b' hn hb
        cases h
        have hn := Nat.le_of_ble_eq_true hn
        rw [bytesOf_cells hb, List.map_cons]
        have : (UInt8.ofNat n).toNat = n := by simp; omega
        rw [this]; rfl
      · cases h
    · cases h
theorem bytesOf_spec {l : List Value} {b : List UInt8} (h : bytesOf l = some b) : ∃ ns : List Int, l = ns.map (Value.int .u8) ∧ ns.map (fun n => UInt8.ofNat n.toNat) = b := by
  refine ⟨b.map fun x => (x.toNat : Int), ?_, ?_⟩
  · rw [bytesOf_cells h, List.map_map]; rfl
  · rw [List.map_map]
    conv => rhs; rw [← List.map_id b]
    apply List.map_congr_left
    intro x _
    simp
theorem runesOf_spec : ∀ {l : List Value} {b : List Int}, runesOf l = some b → l = b.map (Value.int .i32)
  | [], b, h => by cases h; rfl
  | v :: l, b, h => by
    simp only [runesOf] at h
    split at h
    · rename_i n
      split at h
      · rename_i b' hb
        cases h
        rw [runesOf_spec hb]; rfl
      · cases h
    · cases h
theorem ints_eq {k : IntKind} : ∀ {ns : List Int} {l' : List Value}, VRL ρ (ns.map (Value.int k)) l' → l' = ns.map (Value.int k)
  | [], l', h => h.eq_nil
  | n :: ns, l', h => by
    obtain ⟨v', l'', rfl, h1, h2⟩ := h.uncons
    cases h1
    rw [ints_eq h2]; rfl
theorem ints_refl (ρ : Ren) (k : IntKind) : ∀ (ns : List Int), VRL ρ (ns.map (Value.int k)) (ns.map (Value.int k))
  | [] => VRL.nil ρ
  | n :: ns => (ints_refl ρ k ns).cons (.int k n)
theorem runesFrom_ints : ∀ (bound i : Nat) (s : ByteArray) (acc : Array Value) (zs : List Int), acc.toList = zs.map (Value.int .i32) → ∃ ns : List Int, (Conv.runesFrom s bound i acc).toList = ns.map (Value.int .i32)
  | 0, i, s, acc, zs, h => ⟨zs, by simpa [Conv.runesFrom] using h⟩
  | bound + 1, i, s, acc, zs, h => by
    unfold Conv.runesFrom
    split
    · exact runesFrom_ints bound _ s _ (zs ++ [((Utf8.decode s i).1 : Int)]) (by rw [Array.toList_push, h, List.map_append]; rfl)
    · exact ⟨zs, h⟩
theorem conv_ofBytes {src t e : TypeId} {x : Operand} {b : Addr} {n cap : Nat} (hhb : hOfBytes E.P h e b n = some r) (hn : n ≠ 0) (hx : VR ρ (.slice (some b) n cap) (a.eval x)) (hR : Rel ρ h w)
    (hs : E.P.underlying src = some (.slice e)) (ht : E.P.underlying t = some .string) :
    Good E.P ρ h w ((execOp a.eval ⟨dst, .convert src t x, ty, pos, after, guard⟩).run E.P w) r := by
  obtain ⟨b', c', e1, hS⟩ := inv_slice hx
  unfold hOfBytes at hhb
  rcases hS.addr with ⟨cc, s, z, h1, rfl, _⟩ | ⟨h1, _⟩
  · split at hhb
    · rename_i l hu hr
      split at hhb
      · rename_i bs hb
        cases hhb
        obtain ⟨l', q1, q2, _⟩ := read_sound hR hr h1
        obtain ⟨ns, rfl, rfl⟩ := bytesOf_spec hb
        have := ints_eq q2
        subst this
        refine Good.same hR (v' := .string ⟨(ns.map fun n => UInt8.ofNat n.toNat).toArray⟩) ?_ (.string _)
        have hrun := run_bytesToString (P := E.P) w ⟨cc, s + b.off, none⟩ n c' ns (by rw [q1 E.P])
        simp only [execOp, e1, Sem.run_bind, run_convert_bytes_string w src t e _ n c' hs hu ht, hrun, Result.andThen_ok, Sem.run_pure]
        rw [fold_push]
        simp
      · cases hhb
    · rename_i l hu hr
      split at hhb
      · rename_i bs hb
        cases hhb
        obtain ⟨l', q1, q2, _⟩ := read_sound hR hr h1
        have hl := runesOf_spec hb
        subst hl
        have := ints_eq q2
        subst this
        refine Good.same hR (v' := .string (runesBytes bs)) ?_ (.string _)
        have hrun := run_runesToString (P := E.P) w ⟨cc, s + b.off, none⟩ n c' bs (by rw [q1 E.P])
        simp only [execOp, e1, Sem.run_bind, run_convert_runes_string w src t e _ n c' hs hu ht, hrun, Result.andThen_ok, Sem.run_pure]
      · cases hhb
    · cases hhb
  · exact absurd h1 hn
theorem cell_at (hR : Rel ρ h w) {b c s z off : Nat} {cs : List Value} {el : Option TypeId} {full : Bool} {fz : Nat} (hg : h.m.get b = some (.cells cs el full fz)) (hb : ρ b = some (c, s, z)) (ho : off < cs.length) :
    ∃ v, w.cell? ⟨c, s + off, none⟩ = some v := by
  obtain ⟨o, ho', c', e, f, rfl, hz, he, hsz, hfull, hfz, hv⟩ := hR.ok b _ c s z hg hb
  rw [cell_of ho']
  exact ⟨c'[s + off]'(by omega), Array.getElem?_eq_getElem _⟩
theorem conv_ptr {src t : TypeId} {x : Operand} {b : Addr} (hev : (match E.P.underlying src, E.P.underlying t, h.m.get b.block with
    | some (.pointer t), some .unsafePointer, some (.cells c _ _ _) => match sizeOf E.P t, Nat.blt b.off c.length with
      | some (_ + 1), true => some (Res.val (.pointer (some b)) h)
      | _, _ => none
    | some .unsafePointer, some (.pointer u), some (.cells c (some e) true _) => match sizeOf E.P u, liesAt E.P E.P.depth e (c.length / E.P.cellsOf e) b.off u 1 with
      | some (_ + 1), true => some (.val (.pointer (some b)) h)
      | _, _ => none
    | _, _, _ => none) = some r) (hx : VR ρ (.pointer (some b)) (a.eval x)) (hR : Rel ρ h w) :
    Good E.P ρ h w ((execOp a.eval ⟨dst, .convert src t x, ty, pos, after, guard⟩).run E.P w) r := by
  obtain ⟨b', e1, hA⟩ := inv_ptr hx
  obtain ⟨hsp, cc, s, z, h1, rfl⟩ := id hA
  have hA' : VR ρ (.pointer (some b)) (.pointer (some ⟨cc, s + b.off, none⟩)) := .ptr hA
  split at hev
  · rename_i tt c el full fz hs ht hg
    split at hev
    · rename_i sz hsz hlt
      cases hev
      have hlt' : b.off < c.length := by
        have := (blt_spec b.off c.length) ▸ hlt
        exact of_decide_eq_true this
      obtain ⟨v, hv⟩ := cell_at hR hg h1 hlt'
      have hsz' : (E.P.info? tt).map (fun i => decide (i.size = 0)) = some false := by
        unfold sizeOf at hsz
        obtain ⟨i, q1, q2⟩ := Option.map_eq_some_iff.1 hsz
        rw [q1]
        simp [q2]
      refine Good.same hR (v' := .pointer (some ⟨cc, s + b.off, none⟩)) ?_ hA'
      simp only [execOp, e1, Sem.run_bind, run_convert_to_unsafe hs ht hsz' hv, Result.andThen_ok, Sem.run_pure]
    · cases hev
  · rename_i u c e fz hs ht hg
    split at hev
    · rename_i sz hsz hlies
      cases hev
      obtain ⟨o, ho', c', e', f, rfl, hz, he, hsz2, hfull, hfz, hv⟩ := hR.ok b.block _ cc s z hg h1
      obtain ⟨rfl, hfull2⟩ := hfull rfl
      have := he e rfl
      subst this
      have hsh : w.shape? cc = some (e', c'.size) := by simp [World.shape?, ho']
      rw [hfull2, ← hz] at hlies
      refine Good.same hR (v' := .pointer (some ⟨cc, 0 + b.off, none⟩)) ?_ hA'
      obtain ⟨i, hi, hi2⟩ : ∃ i, E.P.info? u = some i ∧ i.size = sz + 1 := by
        unfold sizeOf at hsz
        exact Option.map_eq_some_iff.1 hsz
      simp [execOp, e1, convert, Conv.unsafePointer, Conv.seenAt, viewAt, Go.sizeOf, typeInfo, run_underlying hs, run_underlying ht, hi, hi2, hsh, variablesAt, hlies, Result.andThen]
    · cases hev
  · cases hev
theorem s_convert {src t : TypeId} {x : Operand} (hev : evOp E tm h ⟨dst, .convert src t x, ty, pos, after, guard⟩ = some r) (hx : ∀ y ∈ (Op.convert src t x).operands.toList, OKo ρ tm a y) (hR : Rel ρ h w) :
    Good E.P ρ h w ((execOp a.eval ⟨dst, .convert src t x, ty, pos, after, guard⟩).run E.P w) r := by
  have pure : ∀ r, evPure E.P tm h ⟨dst, .convert src t x, ty, pos, after, guard⟩ = some r → Good E.P ρ h w ((execOp a.eval ⟨dst, .convert src t x, ty, pos, after, guard⟩).run E.P w) r :=
    fun r hr => s_pure hr hx (fun cs b q => by cases q) hR
  simp only [evOp, hConv] at hev
  split at hev
  · rename_i s hs
    have e1 : a.eval x = .string s := by
      have := evA_sound hs (hx x (by simp [Op.operands]))
      generalize a.eval x = u at this ⊢
      cases this
      rfl
    split at hev
    · rename_i e hu ht
      split at hev
      · rename_i he
        cases hev
        intro hF
        have hsz : (Lib.bytesCells w e s).size = grownCap w s.size 0 e := by
          have := grownCap_ge w s.size 0 e
          simp only [Lib.bytesCells, Array.size_append, Array.size_map, Array.size_replicate]
          have h2 : s.data.size = s.size := rfl
          omega
        have := hR.push (hF _ (Nat.le_refl _) (Nat.lt_succ_self _)) (.cells (bytesV s) (some e) false 0) _ 0 (Lib.bytesCells w e s).size ⟨_, e, _, rfl, rfl, (fun e' q => by cases q; rfl), (by rw [bytesV_length, hsz]; have := grownCap_ge w s.size 0 e; omega), (fun q => by cases q), (fun i q _ q' => by omega), (by
          rw [List.drop_zero, bytesV_length]
          have : (Lib.bytesCells w e s).toList.take s.size = bytesV s := by
            rw [bytesV_eq]
            simp only [Lib.bytesCells, Array.toList_append]
            rw [List.take_append_of_le_length (by simp)]
            exact List.take_of_length_le (by simp)
          rw [this]
          exact ints_self ρ _)⟩ (bytes_heap w e s) rfl rfl rfl
        refine ⟨_, _, _, ?_, unk_slice ρ h.next w.heap.size (Lib.bytesCells w e s).size 0 s.size (grownCap w s.size 0 e) 1 0 (grownCap_ge w s.size 0 e) (by rw [hsz]; omega) rfl, this⟩
        simp only [execOp, e1, Sem.run_bind, Lib.run_convert_string_bytes w src t e s hu ht he, Result.andThen_ok, Sem.run_pure]
      · rename_i he
        split at hev
        · rename_i hble
          cases hev
          intro hF
          have h46 : (Conv.runesFrom s s.size 0 #[]).size ≤ 70368744177664 := by
            have := Nat.le_of_ble_eq_true hble
            simpa [runesV] using this
          obtain ⟨ns, hns⟩ := runesFrom_ints s.size 0 s #[] [] rfl
          have hge := grownCap_ge w (Conv.runesFrom s s.size 0 #[]).size 0 e
          have hlen : (runesV s).length = (Conv.runesFrom s s.size 0 #[]).size := by simp [runesV]
          have := hR.push (w' := w.drew.alloc (.cells (Conv.runesFrom s s.size 0 #[] ++ Array.replicate (grownCap w (Conv.runesFrom s s.size 0 #[]).size 0 e - (Conv.runesFrom s s.size 0 #[]).size) (.int .i32 0)) e)) (hF _ (Nat.le_refl _) (Nat.lt_succ_self _)) (.cells (runesV s) (some e) false 0) _ 0 (grownCap w (Conv.runesFrom s s.size 0 #[]).size 0 e) ⟨_, e, (0, 0), rfl, (by simp; omega), (fun e' q => by cases q; rfl), (by rw [hlen]; omega), (fun q => by cases q), (fun i _ q _ => by simp at q), (by
            rw [List.drop_zero, hlen]
            have : (Conv.runesFrom s s.size 0 #[] ++ Array.replicate (grownCap w (Conv.runesFrom s s.size 0 #[]).size 0 e - (Conv.runesFrom s s.size 0 #[]).size) (Value.int .i32 0)).toList.take (Conv.runesFrom s s.size 0 #[]).size = runesV s := by
              simp [runesV]
            rw [this]
            unfold runesV
            rw [hns]
            exact ints_refl ρ .i32 ns)⟩ rfl rfl rfl rfl
          refine ⟨_, _, _, ?_, unk_slice ρ h.next w.heap.size (grownCap w (Conv.runesFrom s s.size 0 #[]).size 0 e) 0 (runesV s).length (grownCap w (Conv.runesFrom s s.size 0 #[]).size 0 e) 1 0 (by rw [hlen]; exact hge) (by omega) rfl, this⟩
          simp only [execOp, e1, Sem.run_bind, run_runes_of_string w src t e s hu ht he h46, Result.andThen_ok, Sem.run_pure, hlen]
        · cases hev
      · exact pure _ hev
    · exact pure _ hev
  · rename_i b n cap hb
    have hv := evA_sound hb (hx x (by simp [Op.operands]))
    split at hev
    · rename_i e hs ht
      split at hev
      · cases hev
      · rename_i hn
        exact conv_ofBytes hev (fun q => hn q) hv hR hs ht
    · cases hev
  · rename_i b hb
    have hv := evA_sound hb (hx x (by simp [Op.operands]))
    exact conv_ptr hev hv hR
  · exact pure _ hev
end
end Go.Proofs.Ytknenadpkgajjaa.GEv
