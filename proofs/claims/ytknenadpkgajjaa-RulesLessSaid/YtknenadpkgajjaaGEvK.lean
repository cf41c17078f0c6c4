/- The evaluator's soundness, tenth part: calls; every operation. -/
import Derived.Test.YtknenadpkgajjaaGEvJ
import Derived.Lib.MakeNoZero
import Derived.Lib.OthersKept
namespace Go.Proofs.Ytknenadpkgajjaa.GEv
open Go
set_option linter.unusedSimpArgs false
set_option linter.unusedVariables false

section
variable {E : Env} {ρ : Ren} {tm : TM} {h : H} {a : Act} {w : World} {r : Res} {dst : Option Tmp} {ty : TypeId} {pos : String} {after : Array Edge} {guard : Option (Nat × Bool)}
theorem args1 {v : Value} {xs : Array Operand} (hv : VRL ρ [v] (xs.toList.map a.eval)) : ∃ v', xs.map a.eval = #[v'] ∧ VR ρ v v' := by
  obtain ⟨v', l', e, h1, h2⟩ := hv.uncons
  have := h2.eq_nil
  subst this
  exact ⟨v', Array.ext' (by simp [e]), h1⟩
theorem args2 {v u : Value} {xs : Array Operand} (hv : VRL ρ [v, u] (xs.toList.map a.eval)) : ∃ v' u', xs.map a.eval = #[v', u'] ∧ VR ρ v v' ∧ VR ρ u u' := by
  obtain ⟨v', l', e, h1, h2⟩ := hv.uncons
  obtain ⟨u', l'', rfl, h3, h4⟩ := h2.uncons
  have := h4.eq_nil
  subst this
  exact ⟨v', u', Array.ext' (by simp [e]), h1, h3⟩
theorem liesAt_row {P : Program} {e : TypeId} (hc : P.cellsOf e = 1) (count off n : Nat) (hn : off + n ≤ count) : liesAt P P.depth e count off e n = true := by
  have hd : P.depth = (2 * (P.types.size + Made.depth) + 1) + 1 := rfl
  rw [hd]
  simp only [liesAt, Bool.or_eq_true]
  left
  rw [hd]
  simp [rowAt, hc, hn, sameLayout, Nat.mod_one]
theorem run_ustr {P : Program} (pt it ty e : TypeId) (hp : P.underlying pt = some (.pointer e)) (hc : P.cellsOf e = 1) (g off cells : Nat) (hsh : w.shape? g = some (e, cells)) (l : List UInt8) (h0 : l ≠ []) (hn : off + l.length ≤ cells) (h63 : l.length ≤ 9223372036854775807)
    (hcell : ∀ j x, l[j]? = some x → w.cell? ((⟨g, off, none⟩ : Addr).add j) = some (.int .u8 x.toNat)) (ts : Array TypeId) (ht : ts[0]? = some pt) :
    (Builtin.unsafeString_ ts ty #[.pointer (some ⟨g, off, none⟩), .int .i64 l.length]).run P w = .ok (.string ⟨l.toArray⟩) (w.freeze ⟨g, off, none⟩ l.length) := by
  have hl : l.length ≠ 0 := by simpa using h0
  have hlb := Lib.run_loadBytes (P := P) w l ⟨g, off, none⟩ .empty hcell
  have hlies := liesAt_row (P := P) hc (cells / P.cellsOf e) off l.length (by rw [hc]; simpa using hn)
  have h63' : ¬ (9223372036854775807 : Int) < (l.length : Int) := by omega
  have hdef : Builtin.unsafeString_ ts ty #[.pointer (some ⟨g, off, none⟩), .int .i64 l.length] =
      (do
        let n ← asInt (.int .i64 l.length)
        let some pt := ts[0]? | stuck "unsafe.String: no argument types"
        if n < 0 then runtimePanic (.error "unsafe.String: len out of range")
        if n > IntKind.i64.max then unsupported (.unsafePointer "String: a length above the largest int")
        if n = 0 then pure (.string .empty)
        else if ← variablesAt ⟨g, off, none⟩ (← elemOf pt) n.toNat then do
          let s ← loadBytes ⟨g, off, none⟩ .empty n.toNat
          freeze ⟨g, off, none⟩ n.toNat
          pure (.string s)
        else unsupported (.unsafePointer "String: not so many bytes at ptr")) := rfl
  rw [hdef]
  have hmax : IntKind.i64.max = 9223372036854775807 := rfl
  have hneg : ¬ (l.length : Int) < 0 := by omega
  simp [ht, asInt, asIntOf, hmax, h63', hneg, hl, variablesAt, hsh, elemOf, run_underlying hp, hlies, hlb]
theorem run_ustr0 {P : Program} (ty pt : TypeId) (p : Option Addr) (ts : Array TypeId) (ht : ts[0]? = some pt) : (Builtin.unsafeString_ ts ty #[.pointer p, .int .i64 0]).run P w = .ok (.string .empty) w := by
  have hmax : IntKind.i64.max = 9223372036854775807 := rfl
  cases p with
  | none =>
    have hdef : Builtin.unsafeString_ ts ty #[.pointer none, .int .i64 0] =
        (do
          let n ← asInt (.int .i64 0)
          let some pt := ts[0]? | stuck "unsafe.String: no argument types"
          if n < 0 then runtimePanic (.error "unsafe.String: len out of range")
          if n > IntKind.i64.max then unsupported (.unsafePointer "String: a length above the largest int")
          if n = 0 then pure (.string .empty)
          else runtimePanic (.error "unsafe.String: ptr is nil and len is not zero")) := rfl
    rw [hdef]
    simp [ht, asInt, asIntOf, hmax]
  | some a =>
    have hdef : Builtin.unsafeString_ ts ty #[.pointer (some a), .int .i64 0] =
        (do
          let n ← asInt (.int .i64 0)
          let some pt := ts[0]? | stuck "unsafe.String: no argument types"
          if n < 0 then runtimePanic (.error "unsafe.String: len out of range")
          if n > IntKind.i64.max then unsupported (.unsafePointer "String: a length above the largest int")
          if n = 0 then pure (.string .empty)
          else if ← variablesAt a (← elemOf pt) n.toNat then do
            let s ← loadBytes a .empty n.toNat
            freeze a n.toNat
            pure (.string s)
          else unsupported (.unsafePointer "String: not so many bytes at ptr")) := rfl
    rw [hdef]
    simp [ht, asInt, asIntOf, hmax]
theorem shape_of {c : Nat} {cs : Array Value} {e : TypeId} {f : Nat × Nat} (h : w.heap[c]? = some (.cells cs e f)) : w.shape? c = some (e, cs.size) := by simp [World.shape?, h]
theorem freeze_ne (a : Addr) (n k : Nat) (hk : k ≠ a.block) : (w.freeze a n).heap[k]? = w.heap[k]? := by
  unfold World.freeze
  split
  · rfl
  · simp [Array.getElem?_modify, Ne.symm hk]
theorem freeze_size (a : Addr) (n : Nat) : (w.freeze a n).heap.size = w.heap.size := by
  unfold World.freeze
  split <;> simp
theorem freeze_os (a : Addr) (n : Nat) : (w.freeze a n).os = w.os ∧ (w.freeze a n).tape = w.tape ∧ (w.freeze a n).output = w.output := by
  unfold World.freeze
  split <;> exact ⟨rfl, rfl, rfl⟩
theorem ustr_sound {pt : TypeId} {b : Addr} {n : Nat} {b' : Addr} {ts : Array TypeId} {ty : TypeId} (hev : evUStr E.P h pt b n = some r) (hb : AR ρ b b') (hR : Rel ρ h w) (ht : ts[0]? = some pt) :
    ∃ v w', r = .val (.string v) (resH r) ∧ (Builtin.unsafeString_ ts ty #[.pointer (some b'), .int .i64 n]).run E.P w = .ok (.string v) w' ∧ Rel ρ (resH r) w' ∧ Ext ρ ρ h (resH r) w w' := by
  unfold evUStr at hev
  split at hev
  · cases hev
    exact ⟨_, w, rfl, run_ustr0 ty pt _ ts ht, hR, Ext.refl ρ h w⟩
  · rename_i hn
    split at hev
    · rename_i e c e' full fz hp hg
      split at hev
      · rename_i l q1 q2 q3 hl
        have q1 := of_decide_eq_true q1
        have q2 := of_decide_eq_true q2
        have q3 := Nat.le_of_ble_eq_true q3
        subst q1
        split at hev
        · rename_i bs hbs
          cases hev
          obtain ⟨_, cc, s, z, h1, rfl⟩ := hb
          obtain ⟨o, ho, c', e2, f, rfl, hz, he, hsz, hfull, hfz, hv⟩ := hR.ok b.block _ cc s z hg h1
          have := he _ rfl
          subst this
          have hcl := bytesOf_cells hbs
          have hlen : bs.length = n := by have := cut_length hl; rw [hcl] at this; simpa using this
          have hcut := (cut_eq hl)
          have hread : h.read b.block b.off n = some l := by simp [H.read, hg, hl]
          obtain ⟨l', _, r2, r3⟩ := read_sound hR hread h1
          have hl' : l' = l := by
            rw [hcl] at r2 ⊢
            have : (bs.map fun x => Value.int .u8 x.toNat) = (bs.map fun x => (x.toNat : Int)).map (Value.int .u8) := by rw [List.map_map]; rfl
            rw [this] at r2 ⊢
            exact ints_eq r2
          refine ⟨⟨bs.toArray⟩, w.freeze ⟨cc, s + b.off, none⟩ bs.length, rfl, ?_, ?_⟩
          · rw [← hlen]
            refine run_ustr pt 0 ty e2 hp q2 cc (s + b.off) c'.size (shape_of ho) bs (fun q => ?_) ?_ (by omega) (fun j x hj => ?_) ts ht
            · rw [q] at hlen; exact hn (by simpa using hlen.symm)
            · have := hcut.1; rw [hlen]; omega
            · rw [add_none, r3 j (by have := (List.getElem?_eq_some_iff.1 hj).1; omega), hl', hcl, List.getElem?_map, hj]
              rfl
          · obtain ⟨o1, o2, o3⟩ := freeze_os (w := w) ⟨cc, s + b.off, none⟩ bs.length
            exact hR.dead (by rw [hg]; simp) h1 (fun k hk => freeze_ne _ _ _ hk) (freeze_size _ _) o1 o2 o3
        · cases hev
      · cases hev
    · cases hev
theorem copy_sound {dT : TypeId} {d d' : Addr} {dn dc dc' : Nat} {x : Option Addr} {n c : Nat} {x' : Value} {ts : Array TypeId} {ty : TypeId} (hev : evCopy E.P h dT d dn x n c = some r)
    (hd : SR ρ d dn dc d' dc') (hx : VR ρ (.slice x n c) x') (hR : Rel ρ h w) (ht : ts[0]? = some dT) :
    ∃ k w', r = .val (goI k) (resH r) ∧ (Builtin.copy_ ts ty #[.slice (some d') dn dc', x']).run E.P w = .ok (goInt k) w' ∧ Rel ρ (resH r) w' ∧ Ext ρ ρ h (resH r) w w' := by
  have g0 : ∀ (u v : Value), (#[u, v] : Array Value)[0]? = some u := fun u v => rfl
  have g1 : ∀ (u v : Value), (#[u, v] : Array Value)[1]? = some v := fun u v => rfl
  unfold evCopy at hev
  split at hev
  · rename_i e he
    split at hev
    · rename_i size hsz
      have hlen : (Builtin.lenOf x').run E.P w = .ok n w := run_len rfl hx
      split at hev
      · rename_i hm
        cases hev
        refine ⟨0, w, rfl, ?_, hR, Ext.refl ρ h w⟩
        have hfc : (Builtin.firstCells size 0 x').run E.P w = .ok #[] w := by
          cases hx with
          | snil l c => rfl
          | slice hS => simp [Builtin.firstCells, run_cells_none]
        simp only [Builtin.copy_, ht, g0, g1, Sem.run_bind, run_und he, Result.andThen_ok, hlen, hm, run_size hsz, hfc]
        rfl
      · rename_i k hm
        have hm : Nat.min n dn = k + 1 := hm
        split at hev
        · rename_i cells hb
          split at hev
          · rename_i h1 hcl hw
            cases hev
            have hcl := Nat.eq_of_beq_eq_true hcl
            -- what is read
            have hread : ∃ l', (Builtin.firstCells size (k + 1) x').run E.P w = .ok l'.toArray w ∧ VRL ρ cells l' := by
              have hkn : k + 1 ≤ n := by rw [← hm]; exact Nat.min_le_left _ _
              cases hx with
              | snil l c =>
                simp only [H.bears] at hb
                split at hb
                · rename_i q; cases q
                · cases hb
              | @slice a1 a2 l c1 c2 hS =>
                obtain ⟨p1, p2, p3, p4, p5⟩ := hS
                have hS' : SR ρ a1 (k + 1) c a2 c2 := by
                  refine ⟨p1, p2.imp (fun q => by omega) id, by omega, p4, ?_⟩
                  rcases p5 with r3 | ⟨r3, _⟩
                  · exact .inl r3
                  · omega
                have := bears_sound (P := E.P) hR hb rfl hcl (.slice hS')
                exact this
            obtain ⟨l', q1, q2⟩ := hread
            rcases hd.addr with ⟨cc, s, z, r1, rfl, _⟩ | ⟨r1, _⟩
            · obtain ⟨w', s1, s2⟩ := write_sound hR hw r1 q2
              refine ⟨k + 1, w', rfl, ?_, s2⟩
              simp only [Builtin.copy_, ht, g0, g1, Sem.run_bind, run_und he, Result.andThen_ok, hlen, hm, run_size hsz, q1]
              have hsc := s1 E.P
              simp only [hsc, Sem.run_bind, Result.andThen_ok, Sem.run_pure]
            · subst r1
              have : k + 1 ≤ 0 := by rw [← hm]; exact Nat.min_le_right _ _
              omega
          · cases hev
        · cases hev
    · cases hev
  · cases hev
theorem room_sound {fn : Func} {args args' : List Value} (hev : evRoom E.P fn h args = some r) (ha : VRL ρ args args') (hR : Rel ρ h w) (hF : Fr ρ h.next (resH r).next) :
    ∃ v h' v' w' ρ', r = .val v h' ∧ (Extern.BytealgMakeNoZero.makeNoZero fn.params fn.resultTypes args'.toArray).run E.P w = .ok v' w' ∧ VR ρ' v v' ∧ Rel ρ' h' w' ∧ Ext ρ ρ' h h' w w' := by
  unfold evRoom at hev
  split at hev
  · rename_i n
    obtain ⟨v', l', rfl, q1, q2⟩ := ha.uncons
    have := q2.eq_nil
    subst this
    cases q1
    split at hev
    · rename_i e he
      split at hev
      · rename_i hn hu hsz
        cases hev
        have hn := Nat.le_of_ble_eq_true hn
        cases ht : fn.resultTypes[0]? with
        | none => simp [ht] at he
        | some t =>
          simp only [ht, Option.bind_some] at he
          obtain ⟨cs, r1, r2, _⟩ := Lib.run_makeNoZero (P := E.P) w fn.params t e he n (by omega)
          have hd : ∀ rs : Array TypeId, Extern.BytealgMakeNoZero.makeNoZero fn.params rs #[.int .i64 n] = (do
              let some t := rs[0]? | stuck "bytealg.MakeNoZero: no result type"
              let .slice elem ← underlying t | stuck "bytealg.MakeNoZero: slice type expected"
              if (n : Int) < 0 || (n : Int) > 2 ^ 48 then runtimePanic (.error "makeslice: len out of range")
              let cap ← choose (.appendCap (n : Int).toNat 0 elem)
              askRoom cap
              let bytes ← choose (.extern "internal/bytealg.MakeNoZero.bytes" 0)
              let a ← newRow elem (Extern.BytealgMakeNoZero.digits cap bytes #[])
              pure (.slice (some a) (n : Int).toNat cap)) := fun rs => rfl
          have hdef : Extern.BytealgMakeNoZero.makeNoZero fn.params fn.resultTypes #[.int .i64 n] = Extern.BytealgMakeNoZero.makeNoZero fn.params #[t] #[.int .i64 n] := by
            have g : (#[t] : Array TypeId)[0]? = some t := rfl
            rw [hd fn.resultTypes, hd #[t], ht, g]
          have := hR.push (w' := w.drew.drew.alloc (.cells cs e)) (hF _ (Nat.le_refl _) (Nat.lt_succ_self _)) (.cells [] (some e) false 0) (.cells cs e) 0 cs.size ⟨cs, e, (0, 0), rfl, rfl, (fun e' q => by cases q; rfl), (by simp), (fun q => by cases q), (fun i _ q _ => by simp at q), (by simp; exact VRL.nil _)⟩ rfl rfl rfl rfl
          refine ⟨_, _, _, _, _, rfl, ?_, unk_slice ρ h.next w.heap.size cs.size 0 n cs.size 1 0 r2 (by omega) rfl, this⟩
          show (Extern.BytealgMakeNoZero.makeNoZero fn.params fn.resultTypes #[.int .i64 n]).run E.P w = _
          rw [hdef]; exact r1
      · cases hev
    · cases hev
  · cases hev
theorem s_range {t : TypeId} {x : Operand} (hev : evOp E tm h ⟨dst, .range t x, ty, pos, after, guard⟩ = some r) (hx : OKo ρ tm a x) (hR : Rel ρ h w) :
    Good E.P ρ h w ((execOp a.eval ⟨dst, .range t x, ty, pos, after, guard⟩).run E.P w) r := by
  simp only [evOp, hRange] at hev
  split at hev
  · rename_i s ht hs
    cases hev
    intro hF
    have e1 := inv_string (evA_sound hs hx)
    have := hR.push (w' := w.iter s 0) (hF _ (Nat.le_refl _) (Nat.lt_succ_self _)) (.iter s 0) (.stringIter s 0) 0 0 ⟨rfl, rfl⟩ rfl rfl rfl rfl
    refine ⟨.pointer (some ⟨w.heap.size, 0, none⟩), _, _, ?_, .ptr ⟨rfl, _, _, _, rput_self _ _ _, rfl⟩, this⟩
    simp only [execOp, Sem.run_bind, e1, run_range_string w t s ht, Result.andThen_ok, Sem.run_pure]
  · cases hev
theorem s_next {x : Operand} {b : Bool} (hev : evOp E tm h ⟨dst, .next x b, ty, pos, after, guard⟩ = some r) (hx : OKo ρ tm a x) (hR : Rel ρ h w) :
    Good E.P ρ h w ((execOp a.eval ⟨dst, .next x b, ty, pos, after, guard⟩).run E.P w) r := by
  simp only [evOp, hNext] at hev
  split at hev
  · rename_i p hp
    obtain ⟨p', e1, hA⟩ := inv_ptr (evA_sound hp hx)
    obtain ⟨_, cc, s, z, h1, rfl⟩ := hA
    split at hev
    · rename_i str at' ho hg
      obtain ⟨o, ho', rfl, hs0⟩ := hR.ok p.block _ cc s z hg h1
      have e2 : a.eval x = .pointer (some ⟨cc, 0, none⟩) := by rw [e1, ho, hs0]
      split at hev
      · rename_i hlt
        have hlt : at' < str.size := by rw [blt_spec] at hlt; exact of_decide_eq_true hlt
        cases hev
        have := hR.upd (w' := w.iterAt cc str (at' + (Utf8.decode str at').2)) (.iter str (at' + (Utf8.decode str at').2)) (.stringIter str (at' + (Utf8.decode str at').2)) (by rw [hg]; simp) h1 ⟨rfl, hs0⟩
          (Lib.iterAt_heap w cc str at' _ ho') (fun k hk => Lib.iterAt_other w cc k str _ hk) (Lib.iterAt_size w cc str _) rfl rfl rfl
        refine fun _ => ⟨.tuple #[.bool true, goI at', .int .i32 (Utf8.decode str at').1], _, ρ, ?_, VR.flat2 ρ rfl, this⟩
        simp only [execOp, Sem.run_bind, e2, Lib.run_next_any_at w cc str at' ty ho' hlt, Result.andThen_ok, Sem.run_pure]
        rfl
      · rename_i hlt
        cases hev
        have hlt : ¬ at' < str.size := by rw [blt_spec] at hlt; exact of_decide_eq_false hlt
        refine Good.same hR (v' := .tuple #[.bool false]) ?_ (VR.flat2 ρ rfl)
        simp only [execOp, Sem.run_bind, e2, Lib.run_next_end_at w cc str at' ty ho' hlt, Result.andThen_ok, Sem.run_pure]
    · cases hev
  · cases hev
theorem s_builtin {b : Builtin} {xs : Array Operand} {argTypes : Array TypeId} {args : List Value} (hev : evBuiltin E.P tm h ⟨dst, .call ⟨.builtin b, xs, argTypes⟩, ty, pos, after, guard⟩ ⟨.builtin b, xs, argTypes⟩ b args = some r)
    (ha : evList tm xs.toList = some args) (hx : ∀ x ∈ xs.toList, OKo ρ tm a x) (hR : Rel ρ h w) :
    Good E.P ρ h w ((execOp a.eval ⟨dst, .call ⟨.builtin b, xs, argTypes⟩, ty, pos, after, guard⟩).run E.P w) r := by
  have hv := evList_sound ha hx
  unfold evBuiltin at hev
  split at hev
  · rename_i b' n c
    split at hev
    · rename_i e he
      cases hev
      obtain ⟨v', e1, h1⟩ := args1 hv
      cases ht : argTypes[0]? with
      | none => simp only [ht] at he; cases he
      | some t =>
        simp only [ht, Option.bind_some] at he
        have g0 : (#[v'] : Array Value)[0]? = some v' := rfl
        refine Good.same hR (v' := goI n) ?_ (.int _ _)
        simp only [execOp, resolve, Sem.run_bind, Sem.run_pure, Result.andThen_ok, invoke, builtin, e1, Builtin.len_, ht, g0, run_und he]
        cases h1 <;> rfl
    · cases hev
  · rename_i s
    split at hev
    · rename_i he
      cases hev
      obtain ⟨v', e1, h1⟩ := args1 hv
      cases ht : argTypes[0]? with
      | none => simp only [ht] at he; cases he
      | some t =>
        simp only [ht, Option.bind_some] at he
        have g0 : (#[v'] : Array Value)[0]? = some v' := rfl
        cases h1
        refine Good.same hR (v' := goI (sL s).length) ?_ (.int _ _)
        rw [sL_length]
        simp only [execOp, resolve, Sem.run_bind, Sem.run_pure, Result.andThen_ok, invoke, builtin, e1, Builtin.len_, ht, g0, run_und he]
        rfl
    · cases hev
  · rename_i rr
    split at hev
    · rename_i kt e he
      split at hev
      · rename_i es clock hg
        cases hev
        obtain ⟨v', e1, h1⟩ := args1 hv
        cases ht : argTypes[0]? with
        | none => simp only [ht] at he; cases he
        | some t =>
          simp only [ht, Option.bind_some] at he
          have g0 : (#[v'] : Array Value)[0]? = some v' := rfl
          obtain ⟨c, s, z, rfl, e2⟩ := inv_map h1
          obtain ⟨o, ho, es', rfl, hE⟩ := hR.ok rr _ c s z hg e2
          refine Good.same hR (v' := goI es.length) ?_ (.int _ _)
          have hsz : es'.size = es.length := by have := hE.1; simpa using this.symm
          simp only [execOp, resolve, Sem.run_bind, Sem.run_pure, Result.andThen_ok, invoke, builtin, e1, Builtin.len_, ht, g0, run_und he, run_getObj ho, hsz]
          rfl
      · cases hev
    · cases hev
  · rename_i s x
    split at hev
    · rename_i sT xT h0 h1
      split at hev
      · cases hev
      · rename_i d hni hd
        cases hap : append E.P h sT false s x with
        | none => rw [hap] at hev; cases hev
        | some vh =>
          obtain ⟨v, h'⟩ := vh
          rw [hap] at hev
          cases hev
          obtain ⟨s', x', e1, g1, g2⟩ := args2 hv
          intro hF
          obtain ⟨v', w', ρ', q1, q2⟩ := append_sound (ty := ty) h0 h1 hd (fun k q => by subst q; exact hni k rfl) hap g1 g2 hR hF
          exact ⟨v', w', ρ', by simp only [execOp, resolve, Sem.run_bind, Sem.run_pure, Result.andThen_ok, invoke, builtin, e1, q1], q2⟩
      · cases hev
    · cases hev
  · rename_i b n c
    split at hev
    · rename_i e he
      split at hev
      · rename_i z size hz hsz
        split at hev
        · rename_i hc
          obtain ⟨hc1, hc2, hc3⟩ := hc
          obtain ⟨v', e1, h1⟩ := args1 hv
          obtain ⟨b', c', rfl, hS⟩ := inv_slice h1
          cases ht : argTypes[0]? with
          | none => simp only [ht] at he; cases he
          | some t =>
            simp only [ht, Option.bind_some] at he
            have g0 : (#[Value.slice (some b') n c'] : Array Value)[0]? = some (.slice (some b') n c') := rfl
            split at hev
            · rename_i hn
              cases hev
              subst hn
              refine Good.same hR (v' := .tuple #[]) ?_ (VR.undef ρ)
              simp only [execOp, resolve, Sem.run_bind, Sem.run_pure, Result.andThen_ok, invoke, builtin, e1, Builtin.clear_, ht, g0, run_und he]
            · rename_i hn
              split at hev
              · rename_i h' hw
                cases hev
                rcases hS.addr with ⟨c2, s2, z2, q1, rfl, _⟩ | ⟨q1, q2⟩
                · have hzs : z.cells.size = size := by simpa using hc1
                  have hzv : VRL ρ (rep z.cells.toList n) (Builtin.zeroCells z.cells n).toList := by
                    have : (Builtin.zeroCells z.cells n).toList = rep z.cells.toList n := range_rep z.cells n (by omega)
                    rw [this]
                    exact (VR.flat1 ρ (zero_eq hz).1).cells.rep n
                  obtain ⟨w', r1, r2⟩ := write_sound hR hw q1 hzv
                  refine fun _ => ⟨.tuple #[], w', ρ, ?_, VR.undef ρ, r2⟩
                  obtain ⟨m, rfl⟩ : ∃ m, n = m + 1 := ⟨n - 1, by omega⟩
                  simp only [execOp, resolve, Sem.run_bind, Sem.run_pure, Result.andThen_ok, invoke, builtin, e1, Builtin.clear_, ht, g0, run_und he, run_zero hz, r1 E.P]
                · exact absurd q1 hn
              · cases hev
        · cases hev
      · cases hev
    · cases hev
  · rename_i b' n c
    split at hev
    · cases hev
    · rename_i hn
      cases hev
      obtain ⟨v', e1, q1⟩ := args1 hv
      obtain ⟨d', c', rfl, hS⟩ := inv_slice q1
      rcases hS.addr with ⟨cc, s, z, r1, rfl, _⟩ | ⟨r1, _⟩
      · have hc' : c' ≠ 0 := by
          have := hS.2.2.1
          have hn' : n ≠ 0 := fun q => hn q
          omega
        refine Good.same hR (v' := .pointer (some ⟨cc, s + b'.off, none⟩)) ?_ (.ptr ⟨hS.1, cc, s, z, r1, rfl⟩)
        simp only [execOp, resolve, Sem.run_bind, Sem.run_pure, Result.andThen_ok, invoke, builtin, e1, Lib.run_unsafeSliceData_row w argTypes ty _ n c' hc']
      · exact absurd r1 hn
  · rename_i p n
    split at hev
    · rename_i pt hpt
      obtain ⟨v', u', e1, q1, q2⟩ := args2 hv
      cases q2
      obtain ⟨p', rfl, hA⟩ := inv_ptr q1
      obtain ⟨v, w', hr, s1, s2, s3⟩ := ustr_sound (ts := argTypes) (ty := ty) hev hA hR hpt
      rw [hr]
      refine fun _ => ⟨.string v, w', ρ, ?_, .string v, s2, s3⟩
      simp only [execOp, resolve, Sem.run_bind, Sem.run_pure, Result.andThen_ok, invoke, builtin, e1]
      rw [show (Int.ofNat n) = ((n : Nat) : Int) from rfl, s1]
      rfl
    · cases hev
  · rename_i d dn dc x n c
    split at hev
    · rename_i dT hdT
      obtain ⟨v', u', e1, q1, q2⟩ := args2 hv
      obtain ⟨d', dc', rfl, hS⟩ := inv_slice q1
      obtain ⟨k, w', hr, s1, s2, s3⟩ := copy_sound (ts := argTypes) (ty := ty) hev hS q2 hR hdT
      rw [hr]
      refine fun _ => ⟨goInt k, w', ρ, ?_, .int _ _, s2, s3⟩
      simp only [execOp, resolve, Sem.run_bind, Sem.run_pure, Result.andThen_ok, invoke, builtin, e1, s1]
    · cases hev
  · exact s_pure hev (fun x hx' => hx x (by simpa [Op.operands, Call.operands] using hx')) (fun cs b q => by cases q) hR

theorem run_callFunc {P : Program} {f : FuncId} {fn : Func} {c : Code} (hf : P.funcs[f]? = some fn) (hn : (fn.name == "runtime.NumGoroutine") = false) (hb : fn.body = some c) (args : Array Value) :
    (callFunc f args).run P w = .ok (.enter f args) w := by
  have hn' : fn.name ≠ "runtime.NumGoroutine" := by simpa using hn
  simp [callFunc, hf, hn', hb]
theorem run_clone {P : Program} {t : TypeId} {c clock : Nat} {es : Array MapEntry} (h : w.heap[c]? = some (.map es clock)) :
    (Extern.MapsClone.clone #[.iface t (.map (some c))]).run P w = .ok (.iface t (.map (some w.heap.size))) { w with heap := w.heap.push (.map es clock) } := by
  change ((getObj c >>= fun o => match o with
    | .map entries clock => (newObj (.map entries clock) >>= fun r => pure (.iface t (.map (some r))) : Sem Value)
    | _ => stuck "maps.clone: a map expected") : Sem Value).run P w = _
  simp only [Sem.run_bind, run_getObj h, Result.andThen_ok, run_newObj, Sem.run_pure]
theorem s_callV (hE : E.OK) {x : Operand} {xs : Array Operand} {argTypes : Array TypeId} {fv : Value} {args : List Value} (hev : evCall E tm h ⟨dst, .call ⟨.value x, xs, argTypes⟩, ty, pos, after, guard⟩ fv args = some r)
    (hfv : evA tm x = some fv) (ha : evList tm xs.toList = some args) (hx0 : OKo ρ tm a x) (hx : ∀ x ∈ xs.toList, OKo ρ tm a x) (hR : Rel ρ h w) :
    Good E.P ρ h w ((execOp a.eval ⟨dst, .call ⟨.value x, xs, argTypes⟩, ty, pos, after, guard⟩).run E.P w) r := by
  have hv := evList_sound ha hx
  unfold evCall at hev
  split at hev
  · rename_i f first captured
    obtain ⟨first', captured', ef, hfi, hca⟩ := inv_func (evA_sound hfv hx0)
    have hargs : VRL ρ (first.toList ++ args ++ captured.toList) (first'.toList ++ xs.toList.map a.eval ++ captured'.toList) := (hfi.append hv).append hca
    have harr : first' ++ xs.map a.eval ++ captured' = (first'.toList ++ xs.toList.map a.eval ++ captured'.toList).toArray := Array.ext' (by simp)
    split at hev
    · rename_i fn hf
      split at hev
      · rename_i c hb
        cases hev
        refine fun _ => ⟨first'.toList ++ xs.toList.map a.eval ++ captured'.toList, ?_, hargs, rfl⟩
        simp only [execOp, resolve, Deferred.ofValue, ef, Sem.run_bind, Sem.run_pure, Result.andThen_ok, invoke, run_callFunc hf (hE.names f fn hf) hb, harr]
      · split at hev
        · rename_i hcl
          unfold evClone at hev
          split at hev
          · rename_i t rr heq
            split at hev
            · rename_i es clock hg
              cases hev
              rw [heq] at hargs
              obtain ⟨v', l', e1, q1, q2⟩ := hargs.uncons
              have := q2.eq_nil
              subst this
              obtain ⟨m', rfl, q3⟩ := inv_iface q1
              obtain ⟨c, s, z, rfl, e2⟩ := inv_map q3
              obtain ⟨o, ho, es', rfl, hEr⟩ := hR.ok rr _ c s z hg e2
              intro hF
              have := hR.push (w' := { w with heap := w.heap.push (.map es' clock) }) (hF _ (Nat.le_refl _) (Nat.lt_succ_self _)) (.map es clock) (.map es' clock) 0 0 ⟨es', rfl, hEr⟩ rfl rfl rfl rfl
              refine ⟨.iface t (.map (some w.heap.size)), _, _, ?_, .iface (.map (rput_self _ _ _)), this⟩
              simp only [execOp, resolve, Deferred.ofValue, ef, Sem.run_bind, Sem.run_pure, Result.andThen_ok, invoke, harr, e1, hE.clone f hcl, run_clone ho]
            · cases hev
          · cases hev
        · split at hev
          · rename_i hcl hsm
            unfold evSame at hev
            split at hev
            · rename_i v heq
              cases hev
              rw [heq] at hargs
              obtain ⟨v', l', e1, q1, q2⟩ := hargs.uncons
              have := q2.eq_nil
              subst this
              refine Good.same hR (v' := v') ?_ q1
              simp only [execOp, resolve, Deferred.ofValue, ef, Sem.run_bind, Sem.run_pure, Result.andThen_ok, invoke, harr, e1, hE.same f hsm]
              rfl
            · cases hev
          · split at hev
            · rename_i hcl hsm hrm
              intro hF
              obtain ⟨v, h', v', w', ρ', rfl, r1, r2, r3, r4⟩ := room_sound hev hargs hR hF
              refine ⟨v', w', ρ', ?_, r2, r3, r4⟩
              simp only [execOp, resolve, Deferred.ofValue, ef, Sem.run_bind, Sem.run_pure, Result.andThen_ok, invoke, harr, hE.room f fn hrm hf, r1]
            · exact s_pure hev (fun y hy => by
                simp only [Op.operands, Call.operands, Array.toList_append, List.mem_append] at hy
                rcases hy with hy | hy
                · simp at hy; subst hy; exact hx0
                · exact hx y hy) (fun cs b q => by cases q) hR
    · cases hev
  · cases hev

/-- **Every operation.** -/
theorem evOp_sound (hE : E.OK) {o : Oper} (hev : evOp E tm h o = some r) (hx : ∀ x ∈ o.op.operands.toList, OKo ρ tm a x) (hR : Rel ρ h w) : Good E.P ρ h w ((execOp a.eval o).run E.P w) r := by
  obtain ⟨dst, op, ty, pos, after, guard⟩ := o
  cases op with
  | move x => exact s_move hev (hx x (by simp [Op.operands])) hR
  | assign x => exact s_assign hev (hx x (by simp [Op.operands])) hR
  | pick c x y => exact s_pick hev (hx c (by simp [Op.operands])) (hx x (by simp [Op.operands])) (hx y (by simp [Op.operands])) hR
  | alloc e => exact s_alloc hev hR
  | box e x => exact s_box hev (hx x (by simp [Op.operands])) hR
  | build t ps => exact s_build hev (fun x hx' => hx x.2 (by simp only [Op.operands, List.mem_map]; exact ⟨x, hx', rfl⟩)) hR
  | buildSlice t len ps => exact s_buildSlice hev (fun x hx' => hx x.2 (by simp only [Op.operands, List.mem_map]; exact ⟨x, hx', rfl⟩)) hR
  | insert t x k v => exact s_insert hev (hx x (by simp [Op.operands])) (hx k (by simp [Op.operands])) (hx v (by simp [Op.operands])) hR
  | load t x => exact s_load hev (hx x (by simp [Op.operands])) hR
  | store t x y => exact s_store hev (hx x (by simp [Op.operands])) (hx y (by simp [Op.operands])) hR
  | ready g => cases hev
  | waits g => cases hev
  | nilCheck x => exact s_nilCheck hev (hx x (by simp [Op.operands])) hR
  | binOp op t x y yt => exact s_binOp hev (hx x (by simp [Op.operands])) (hx y (by simp [Op.operands])) hR
  | unOp op t x => exact s_unOp hev (hx x (by simp [Op.operands])) hR
  | convert s t x => exact s_convert hev hx hR
  | sliceToArrayPointer t x => cases hev
  | makeInterface t x => exact s_makeInterface hev (hx x (by simp [Op.operands])) hR
  | makeFunc fn f c => exact s_makeFunc hev (fun x hx' => hx x (by simp [Op.operands]; exact .inl (by simpa using hx'))) (fun x hx' => hx x (by simp [Op.operands]; exact .inr (by simpa using hx'))) hR
  | makeMap t o => cases o with
    | none => exact s_makeMap hev hR
    | some o => cases hev
  | makeChan t x => cases hev
  | makeSlice t l c => exact s_makeSlice hev (hx l (by simp [Op.operands])) (hx c (by simp [Op.operands])) hR
  | slice t x lo hi mx => exact s_slice hev hx hR
  | fieldAddr s x i => exact s_fieldAddr hev (hx x (by simp [Op.operands])) hR
  | field t x i => exact s_field hev (hx x (by simp [Op.operands])) hR
  | indexAddr t x i => exact s_indexAddr hev (hx x (by simp [Op.operands])) (hx i (by simp [Op.operands])) hR
  | index t x i => exact s_index hev hx hR
  | lookup t x k ok => exact s_lookup hev (hx x (by simp [Op.operands])) (hx k (by simp [Op.operands])) hR
  | mapUpdate t x k v => exact s_mapUpdate hev (hx x (by simp [Op.operands])) (hx k (by simp [Op.operands])) (hx v (by simp [Op.operands])) hR
  | mapEntry t x k => cases hev
  | entryStore t x k v => cases hev
  | range t x => exact s_range hev (hx x (by simp [Op.operands])) hR
  | next x s => exact s_next hev (hx x (by simp [Op.operands])) hR
  | entry x => cases hev
  | typeAssert x t u ok => exact s_typeAssert hev (hx x (by simp [Op.operands])) hR
  | extract x i => exact s_extract hev (hx x (by simp [Op.operands])) hR
  | call c =>
    obtain ⟨callee, xs, argTypes⟩ := c
    cases callee with
    | value x =>
      simp only [evOp, hCall, hCallV] at hev
      split at hev
      · rename_i fv args hfv ha
        exact s_callV hE hev hfv ha (hx x (by simp [Op.operands, Call.operands])) (fun y hy => hx y (by simp only [Op.operands, Call.operands, Array.toList_append, List.mem_append]; exact .inr hy)) hR
      · cases hev
    | invoke x m => cases hev
    | builtin b =>
      simp only [evOp, hCall, hCallB] at hev
      split at hev
      · rename_i args ha
        exact s_builtin hev ha (fun y hy => hx y (by simpa [Op.operands, Call.operands] using hy)) hR
      · cases hev
  | go c => cases hev
  | defer c => cases hev
  | panic x => cases hev
  | send c x => cases hev
  | recv t c ok => cases hev
  | select cs b => cases hev
end
end Go.Proofs.Ytknenadpkgajjaa.GEv
