/-
  Parts, one behind the other: The evaluator's operations are the model's: cuts of slices, nil, texts and bytes, lengths, maps. No condition; nothing of the program stands here. | The evaluator's operations are the model's: texts and bytes, lengths, maps. No condition; nothing of the program stands here.
-/
import Derived.Test.YtlhaaokldjdnnaaGreatDoorEvOps1All
import Derived.Laws.Cover3
import Derived.Laws.Pointers
import Derived.Laws.IdiomStrings
import Derived.Laws.AppendOwn
namespace Go.Proofs.YtlhaaokldjdnnaaGreatDoor.Ev
open Go.RowKit
set_option linter.unusedVariables false
set_option linter.unusedSimpArgs false
variable {C : Cfg} {N0 : Nat} {E E' E1 : Env} {h h' h1 : Hp} {w w' w1 : World}

theorem bound_is {t : Tmps} {a : Act} (ht : TRel E t a) {x : Option Operand} {d most n : Nat} (hb : bound (x.map (opd t)) d most = some n) (w : World) (P : Program) (m : Nat) (hm : most ≤ m) (code : BoundsCode) :
    (match x with | some v => (Instr.sliceBound (a.eval v) m code).run P w | none => .ok d w) = .ok n w ∧ (x.isSome = true → n ≤ most) := by
  cases x with
  | none =>
    simp only [Option.map_none, bound, Option.some.injEq] at hb
    subst hb
    exact ⟨rfl, fun h => by cases h⟩
  | some v =>
    simp only [Option.map_some, bound] at hb
    cases e : intOf (opd t v) with
    | none => rw [e] at hb; cases hb
    | some i =>
      rw [e] at hb
      simp only at hb
      by_cases hi : 0 ≤ i ∧ i ≤ (most : Int)
      · rw [if_pos hi] at hb
        cases hb
        obtain ⟨k, hk⟩ := intOf_is e (ht.opd v)
        refine ⟨?_, fun _ => by omega⟩
        simp only [Instr.sliceBound, hk, asIntOf, Sem.run_bind, Sem.run_pure, Result.andThen_ok]
        rw [if_pos (by omega)]
        rfl
      · rw [if_neg hi] at hb; cases hb

theorem slice_ok {t : Tmps} {o : Oper} {ty : TypeId} {x : Operand} {lo hi : Option Operand} {v : AV} (ho : o.op = .slice ty x lo hi none) (hr : sliceS C ty (opd t x) (lo.map (opd t)) (hi.map (opd t)) h = some v) : OpQ C N0 t o h (.v v) h := by
  unfold sliceS at hr
  split at hr
  · rename_i b off len cap el size e1 e2
    split at hr
    · rename_i hh e3
      split at hr
      · rename_i ll e4
        obtain ⟨hu, hz⟩ := elemOf_is e2
        refine ok_still fun E w a r ht => ?_
        obtain ⟨l, hl, hv⟩ := asOne_is e1 (ht.opd x)
        obtain ⟨b1, b2⟩ := bound_is ht e3 w C.P (cap + l.d) (by omega) .sliceAcap
        obtain ⟨b3, b4⟩ := bound_is ht e4 w C.P hh (Nat.le_refl _) .sliceB
        have hB : (Instr.sliceBounds true len (cap + l.d) (lo.map a.eval) (hi.map a.eval) none).run C.P w = .ok (ll, hh, cap + l.d) w := by
          simp only [Instr.sliceBounds]
          cases hi with
          | none =>
            simp only [Result.ok.injEq, and_true] at b1
            subst b1
            cases lo with
            | none =>
              simp only [Result.ok.injEq, and_true] at b3
              subst b3
              rfl
            | some vl =>
              simp only at b3
              simp only [Option.map_none, Option.map_some, Sem.run_bind, Sem.run_pure, Result.andThen_ok, Option.isSome_none, Bool.false_eq_true, if_false, b3]
          | some vh =>
            simp only at b1
            cases lo with
            | none =>
              simp only [Result.ok.injEq, and_true] at b3
              subst b3
              simp only [Option.map_none, Option.map_some, Sem.run_bind, Sem.run_pure, Result.andThen_ok, if_true, b1]
            | some vl =>
              simp only at b3
              simp only [Option.map_some, Sem.run_bind, Sem.run_pure, Result.andThen_ok, Option.isSome_none, Bool.false_eq_true, if_true, if_false, b1, b3]
        have hrun : (execOp a.eval o).run C.P w = .ok (.value (.slice (if cap + l.d = ll then some ⟨l.r, l.s + off, none⟩ else (some (⟨l.r, l.s + off, none⟩ : Addr)).map (·.add (ll * size))) (hh - ll) (cap + l.d - ll))) w := by
          simp only [execOp, ho, Instr.sliceAt, Sem.run_bind, run_under hu, Result.andThen_ok, Instr.slice, hv, hB, pureOf_run hz w, Option.map_none]
          rfl
        by_cases h1 : ll < cap ∨ ll = 0
        · rw [if_pos h1] at hr
          cases hr
          refine ⟨.value (.slice (some ⟨l.r, l.s + (off + ll * size), none⟩) (hh - ll) (cap - ll + l.d)), ?_, .v (isA_one ⟨l, hl, rfl⟩)⟩
          rw [hrun, show cap + l.d - ll = cap - ll + l.d by omega]
          by_cases h2 : cap + l.d = ll
          · rw [if_pos h2]
            have : ll = 0 := by omega
            subst this
            simp
          · rw [if_neg h2, Option.map_some, add_here, Nat.add_assoc]
        · rw [if_neg h1] at hr
          split at hr
          · rename_i c hb
            split at hr
            · rename_i hc
              cases hr
              obtain ⟨m, e, X, tt, fr, hw, hX, hf, hd, hs⟩ := r.live b _ hb
              obtain rfl : l = m := by rw [hl] at e; exact Option.some.inj e
              have hd0 := hd.1 rfl
              refine ⟨.value (.slice (some ⟨l.r, l.s + off, none⟩) (hh - ll) (0 + l.d)), ?_, .v (isA_one ⟨l, hl, rfl⟩)⟩
              rw [hrun, if_pos (by omega), show cap + l.d - ll = 0 + l.d by omega]
            · cases hr
          · split at hr
            · rename_i hc
              cases hr
              refine ⟨.value (.slice (some ⟨l.r, l.s + (if l.d = 0 then off else off + ll * size), none⟩) 0 l.d), ?_, .v (isA_one ⟨l, hl, rfl⟩)⟩
              rw [hrun, show hh - ll = 0 by omega, show cap + l.d - ll = l.d by omega]
              by_cases h2 : l.d = 0
              · rw [if_pos h2, if_pos (by omega)]
              · rw [if_neg h2, if_neg (by omega), Option.map_some, add_here]
                simp only [Nat.add_assoc]
            · cases hr
          · cases hr
      · cases hr
    · cases hr
  · cases hr

theorem slice3_ok {t : Tmps} {o : Oper} {ty : TypeId} {x mx : Operand} {lo hi : Option Operand} {v : AV} (ho : o.op = .slice ty x lo hi (some mx)) (hr : sliceZ C ty (opd t x) (lo.map (opd t)) (hi.map (opd t)) (opd t mx) = some v) : OpQ C N0 t o h (.v v) h := by
  unfold sliceZ at hr
  split at hr
  · rename_i b off len cap es hq e1 e2 e3 e4
    obtain ⟨el, size⟩ := es
    obtain ⟨hu, hz⟩ := elemOf_is e2
    split at hr
    · rename_i hc
      cases hr
      cases lo with
      | some y => cases e3
      | none =>
        cases hi with
        | none => cases e4
        | some y =>
          simp only [Option.map_some, Option.some.injEq] at e4
          subst e4
          refine ok_still fun E w a r ht => ?_
          obtain ⟨l, hl, hv⟩ := asOne_is e1 (ht.opd x)
          obtain ⟨k1, hk1⟩ := intOf_is hc.1 (ht.opd y)
          obtain ⟨k2, hk2⟩ := intOf_is hc.2 (ht.opd mx)
          refine ⟨.value (.slice (some ⟨l.r, l.s + off, none⟩) 0 0), ?_, .v (isA_one ⟨l, hl, rfl⟩)⟩
          simp [execOp, ho, Instr.sliceAt, run_under hu, Instr.slice, hv, Instr.sliceBounds, Instr.sliceBound, hk1, hk2, asIntOf, pureOf_run hz]
    · cases hr
  · cases hr
theorem guard_none {op : BinOp} {t : TypeId} {x y : Operand} {v u : Value} (hg : ∀ w, (eqGuard op t x y v u).run C.P w = .ok () w) {r : Value} (hb : (binOp op t v u).run C.P w = .ok r w) :
    (do eqGuard op t x y v u; binOp op t v u : Sem Value).run C.P w = .ok r w := by
  simp only [Sem.run_bind, hg, Result.andThen_ok, hb]
theorem eq_ok {t : Tmps} {o : Oper} {op : BinOp} {ty yt : TypeId} {x y : Operand} {r : R} (ho : o.op = .binOp op ty x y yt) (hr : opEq C op ty (opd t x) (opd t y) h = some (r, h')) : OpQ C N0 t o h r h' := by
  have key : ∀ (rr : Bool), sameAd (C.P.underlying ty) (asOne (opd t x)) (asOne (opd t y)) = some rr → rr = false ∧ ∀ (E : Env) (w : World) (a : Act), TRel E t a →
      (∀ op' w, (eqGuard op' ty x y (a.eval x) (a.eval y)).run C.P w = .ok () w) ∧ (binOp .eql ty (a.eval x) (a.eval y)).run C.P w = .ok (.bool false) w ∧ (binOp .neq ty (a.eval x) (a.eval y)).run C.P w = .ok (.bool true) w := by
    intro rr hs
    unfold sameAd at hs
    split at hs
    · rename_i e b off hu e1 e2
      cases hs
      refine ⟨rfl, fun E w a ht => ?_⟩
      obtain ⟨l, hl, hv⟩ := asOne_is e1 (ht.opd x)
      have hy : a.eval y = _ := asOne_is e2 (ht.opd y)
      have hp : C.P.underlying ty = some (.pointer (C.P.pointee ty)) := by rw [hu]; simp [Program.pointee, hu]
      rw [hv, hy]
      refine ⟨fun op' w => by unfold eqGuard; split <;> rfl, ?_, ?_⟩
      · simp only [binOp, Sem.run_bind, run_equal_pointer_nil w ty _ hp]; rfl
      · simp only [binOp, Sem.run_bind, run_equal_pointer_nil w ty _ hp]; rfl
    · rename_i e b off n c hu e1 e2
      cases hs
      refine ⟨rfl, fun E w a ht => ?_⟩
      obtain ⟨l, hl, hv⟩ := asOne_is e1 (ht.opd x)
      have hy : a.eval y = _ := asOne_is e2 (ht.opd y)
      rw [hv, hy]
      refine ⟨fun op' w => by unfold eqGuard; split <;> rfl, ?_, ?_⟩
      · simp only [binOp, Sem.run_bind, run_equal_slice_nil w ty _ _ _ _ hu]; rfl
      · simp only [binOp, Sem.run_bind, run_equal_slice_nil w ty _ _ _ _ hu]; rfl
    · rename_i p q vv f caps hu e1 e2
      cases hs
      refine ⟨rfl, fun E w a ht => ?_⟩
      obtain ⟨l, hl, hv⟩ := asOne_is e1 (ht.opd x)
      have hy : a.eval y = _ := asOne_is e2 (ht.opd y)
      rw [hv, hy]
      have hE : (Op.equal ty (.func (.func f) #[] l.toArray) .nilFunc).run C.P w = .ok false w := by
        have H : ∀ d : Nat, (Op.equalIn (d + 1) ty (.func (.func f) #[] l.toArray) .nilFunc).run C.P w = .ok false w := fun d => by simp [Op.equalIn, run_under hu]
        exact H 9999
      refine ⟨fun op' w => by unfold eqGuard; split <;> rfl, ?_, ?_⟩
      · simp only [binOp, Sem.run_bind, hE]; rfl
      · simp only [binOp, Sem.run_bind, hE]; rfl
    · rename_i k e b hu e1 e2
      cases hs
      refine ⟨rfl, fun E w a ht => ?_⟩
      obtain ⟨l, hl, hv⟩ := asOne_is e1 (ht.opd x)
      have hy : a.eval y = _ := asOne_is e2 (ht.opd y)
      rw [hv, hy]
      refine ⟨fun op' w => by unfold eqGuard; split <;> rfl, ?_, ?_⟩
      · simp only [binOp, Sem.run_bind, run_equal_map_nil w ty _ _ _ hu]; rfl
      · simp only [binOp, Sem.run_bind, run_equal_map_nil w ty _ _ _ hu]; rfl
    · cases hs
  unfold opEq at hr
  split at hr
  · rename_i rr e
    cases hr
    obtain ⟨rfl, H⟩ := key rr e
    refine ok_still fun E w a _ ht => ?_
    obtain ⟨hg, h1, h2⟩ := H E w a ht
    refine ⟨.value (.bool false), ?_, .v (isA_plain E _)⟩
    simp only [execOp, ho, Sem.run_bind, hg, Result.andThen_ok, h1]
    rfl
  · rename_i rr e
    cases hr
    obtain ⟨rfl, H⟩ := key rr e
    refine ok_still fun E w a _ ht => ?_
    obtain ⟨hg, h1, h2⟩ := H E w a ht
    refine ⟨.value (.bool true), ?_, .v (isA_plain E _)⟩
    simp only [execOp, ho, Sem.run_bind, hg, Result.andThen_ok, h2]
    rfl
  · cases hr
end Go.Proofs.YtlhaaokldjdnnaaGreatDoor.Ev
namespace Go.Proofs.YtlhaaokldjdnnaaGreatDoor.Ev
open Go.RowKit
set_option linter.unusedVariables false
set_option linter.unusedSimpArgs false
variable {C : Cfg} {N0 : Nat} {E E' E1 : Env} {h h' h1 : Hp} {w w' w1 : World}

theorem bytesIn_is : ∀ {cs : List BV} {bs : List UInt8} {vs : List Value}, bytesIn cs = some bs → IsL E cs vs → vs = bs.map fun c => Value.int .u8 (c.toNat : Int)
  | [], bs, [], hb, _ => by
    simp only [bytesIn, Option.some.injEq] at hb
    subst hb
    rfl
  | [], _, _ :: _, _, hi => hi.elim
  | c :: cs, bs, [], _, hi => hi.elim
  | c :: cs, bs, v :: vs, hb, hi => by
    unfold bytesIn at hb
    split at hb
    · rename_i e; cases e
    · rename_i n l e
      cases e
      split at hb
      · rename_i hn
        split at hb
        · rename_i r e2
          cases hb
          obtain ⟨h1, h2⟩ := hi
          have h1 : v = .int .u8 n := h1
          rw [bytesIn_is e2 h2, h1, List.map_cons]
          congr 2
          have : (UInt8.ofNat n.toNat).toNat = n.toNat := by
            simp
            omega
          rw [this]
          omega
        · cases hb
      · cases hb
    · cases hb
theorem isBytes_is {t : TypeId} (hb : isBytes C t = true) : ∃ e, C.P.underlying t = some (.slice e) ∧ C.P.underlying e = some (.int .u8) := by
  unfold isBytes at hb
  split at hb
  · rename_i e hu
    split at hb
    · rename_i he
      exact ⟨e, hu, he⟩
    · cases hb
  · cases hb
theorem isString_is {t : TypeId} (hb : isText C t = true) : C.P.underlying t = some .string := by
  unfold isText at hb
  split at hb
  · rename_i hu; exact hu
  · cases hb
theorem byteCells_at (s : ByteArray) (j : Nat) (x : BV) (hj : (byteCells s)[j]? = some x) : ∃ b, s.data.toList[j]? = some b ∧ x = .k (.int .u8 (b.toNat : Int)) := by
  unfold byteCells at hj
  rw [List.getElem?_map] at hj
  cases e : s.data.toList[j]? with
  | none => rw [e] at hj; cases hj
  | some b =>
    rw [e] at hj
    exact ⟨b, rfl, (Option.some.inj hj).symm⟩
theorem step_drew (r : Rep C N0 E h w) : Step C N0 E h w E h w.drew :=
  step_more r ⟨rfl, rfl, rfl, Nat.le_refl _, fun _ _ => rfl⟩
theorem convert_ok {t : Tmps} {o : Oper} {src dst : TypeId} {x : Operand} {r : R} (ho : o.op = .convert src dst x) (hr : opConvert C src dst (opd t x) h = some (r, h')) : OpOk C N0 t o h r h' := by
  unfold opConvert at hr
  split at hr
  · rename_i s e1
    split at hr
    · rename_i hc
      cases hr
      rw [Bool.and_eq_true] at hc
      obtain ⟨e, hd, he⟩ := isBytes_is hc.1
      have hs := isString_is hc.2
      intro E w a r ht
      have hv : a.eval x = _ := asOne_is e1 (ht.opd x)
      have hrun := run_bytes_of_string (P := C.P) w src dst e s hs hd he
      have r1 := (step_drew r).rep
      have hge : s.size ≤ grownCap w s.size 0 e := grownCap_ge w s.size 0 e
      have hsz : (bytesRow s (grownCap w s.size 0 e)).size = grownCap w s.size 0 e := by
        simp [bytesRow]
        have : s.data.size = s.size := rfl
        omega
      have hl : (byteCells s).length = s.size := by
        simp [byteCells]
      generalize hn : grownCap w s.size 0 e = n at hrun hge hsz ⊢
      have hst1 : st 1 = 1 := rfl
      have hy : BlkIs (extE E h.next ⟨w.heap.size, 0, n - s.size⟩) ⟨w.heap.size, 0, n - s.size⟩ (w.drew.alloc (.cells (bytesRow s n) e ((bytesRow s n).size, (bytesRow s n).size + 1))) (.cells (byteCells s) 1) := by
        refine ⟨bytesRow s n, e, ((bytesRow s n).size, (bytesRow s n).size + 1), ?_, fun j x hj => ?_, fun j hj => ?_, ⟨fun h0 => (by cases h0), fun e he => by have : (1 : Nat) / mark = 0 := rfl; omega⟩, ?_⟩
        · show (w.heap.push _)[w.heap.size]? = _
          simp
        · obtain ⟨b, hb, rfl⟩ := byteCells_at s j x hj
          refine ⟨.int .u8 (b.toNat : Int), ?_, rfl⟩
          have hlt : j < s.data.size := by
            have := (List.getElem?_eq_some_iff.1 hb).1
            simpa using this
          rw [Nat.zero_add, bytesRow, Array.getElem?_append_left (by simpa using hlt)]
          rw [Array.getElem?_map, ← Array.getElem?_toList, hb]
          rfl
        · rw [hl, hst1] at hj
          simp only [hsz]
          simp only at hj
          omega
        · simp only [hl, hsz, hst1]
          omega
      have hst := step_alloc r1 (.cells (bytesRow s n) e ((bytesRow s n).size, (bytesRow s n).size + 1)) (.cells (byteCells s) 1) ⟨w.heap.size, 0, n - s.size⟩ rfl hy
      refine ⟨_, _, .value (.slice (some ⟨w.heap.size, 0, none⟩) s.size n), ?_, (step_drew r).trans hst, .v (isA_one ⟨_, extE_at _ _ _, ?_⟩)⟩
      · simp only [execOp, ho, hv, Sem.run_bind, hrun, Result.andThen_ok, Sem.run_pure]
      · simp only [Nat.zero_add]
        congr 1
        omega
    · cases hr
  · rename_i b off len cap e1
    split at hr
    · rename_i hc
      rw [Bool.and_eq_true] at hc
      obtain ⟨e, hd, he⟩ := isBytes_is hc.1
      have hs := isString_is hc.2
      split at hr
      · rename_i cs e2
        split at hr
        · rename_i bs e3
          cases hr
          refine OpQ.ok (ok_still fun E w a r ht => ?_)
          obtain ⟨l, hl, hv⟩ := asOne_is e1 (ht.opd x)
          obtain ⟨vs, hL, hlen, hcell⟩ := readCells_is r e2 hl
          have hb := bytesIn_is e3 hL
          have hlb : bs.length = len := by rw [← hlen, hb]; simp
          have hrun := run_convert_bytes_back (P := C.P) w src dst e ⟨l.r, l.s + off, none⟩ (cap + l.d) bs hd he hs (fun j hj => by
            rw [add_here]
            refine hcell j _ ?_
            rw [hb, List.getElem?_map, List.getElem?_eq_getElem hj]
            rfl)
          rw [hlb] at hrun
          refine ⟨.value (.string ⟨bs.toArray⟩), ?_, .v (isA_plain E _)⟩
          simp only [execOp, ho, hv, Sem.run_bind, hrun, Result.andThen_ok, Sem.run_pure]
        · cases hr
      · cases hr
    · cases hr
  · cases hr

/-! ### maps -/
theorem findK_is {d : TypeDesc} {k : Value} : ∀ {es : List (Value × Cmp × Nat)} {xs : List MapEntry} {i : Nat} {q : Option (Nat × Cmp)}, findK d k es i = some q → IsEs E es xs →
    ∃ p : Option (Nat × Value), Instr.findNow d k xs i = some p ∧ (match q, p with | some (j, c), some (j', v) => j = j' ∧ IsC E c v | none, none => True | _, _ => False)
  | [], [], i, q, hf, _ => by
    simp only [findK, Option.some.injEq] at hf
    subst hf
    exact ⟨none, rfl, trivial⟩
  | [], _ :: _, _, _, _, hi => hi.elim
  | _ :: _, [], _, _, _, hi => hi.elim
  | (k', c, n) :: es, x :: xs, i, q, hf, hi => by
    obtain ⟨⟨hk, hc, _⟩, hi2⟩ := hi
    simp only [findK] at hf
    simp only [Instr.findNow, hk]
    cases e : Instr.sameNow d k k' with
    | none => rw [e] at hf; cases hf
    | some b =>
      rw [e] at hf
      cases b with
      | true =>
        simp only [Option.some.injEq] at hf
        subst hf
        exact ⟨some (i, x.val), rfl, rfl, hc⟩
      | false => exact findK_is hf hi2
theorem mapKind_is {ty key elem : TypeId} {d : TypeDesc} (hk : mapKind C ty = some (key, d, elem)) : C.P.underlying ty = some (.map key elem) ∧ C.P.underlying key = some d ∧ plainKind d = true := by
  unfold mapKind at hk
  split at hk
  · rename_i k e hu
    split at hk
    · rename_i d' hd
      split at hk
      · rename_i hp
        cases hk
        exact ⟨hu, hd, hp⟩
      · cases hk
    · cases hk
  · cases hk
theorem checkKey_run {key : TypeId} {d : TypeDesc} (hd : C.P.underlying key = some d) (hp : plainKind d = true) (b : Bool) (k : Value) (w : World) : (Instr.checkKey b 10000 key k).run C.P w = .ok () w := by
  have H : ∀ n : Nat, (Instr.checkKey b (n + 1) key k).run C.P w = .ok () w := fun n => by
    cases d <;> first | (cases hp; done) | (simp only [Instr.checkKey, Sem.run_bind, run_under hd, Result.andThen_ok]; rfl)
  exact H 9999
theorem findKey_run {key : TypeId} {d : TypeDesc} (hd : C.P.underlying key = some d) {k : Value} {xs : List MapEntry} {p : Option (Nat × Value)} (hf : Instr.findNow d k xs 0 = some p) (w : World) : (Instr.findKey key k xs).run C.P w = .ok p w := by
  simp only [Instr.findKey, Sem.run_bind, run_under hd, Result.andThen_ok, hf]
  rfl
theorem getObj_map {r : Nat} {xs : Array MapEntry} {n : Nat} (hw : w.heap[r]? = some (.map xs n)) : (getObj r).run C.P w = .ok (.map xs n) w := by
  simp [getObj, Sem.run, hw]
theorem lookup_ok {t : Tmps} {o : Oper} {ty : TypeId} {m key : Operand} {ok : Bool} {r : R} (ho : o.op = .lookup ty m key ok) (hr : opLookup C ty (opd t m) (opd t key) ok h = some (r, h')) : OpQ C N0 t o h r h' := by
  unfold opLookup at hr
  split at hr
  · rename_i kt d elem b k e1 e2 e3
    obtain ⟨hu, hd, hp⟩ := mapKind_is e1
    split at hr
    · rename_i es clock zero hb hz
      split at hr
      · rename_i j v hf
        cases hr
        refine ok_still fun E w a r ht => ?_
        obtain ⟨l, hl, hv⟩ := asOne_is e2 (ht.opd m)
        have hk : a.eval key = k := closed_is e3 (ht.opd key)
        obtain ⟨l', e, xs, hw, hE⟩ := r.live b _ hb
        obtain rfl : l = l' := by rw [hl] at e; exact Option.some.inj e
        obtain ⟨p, hp1, hp2⟩ := findK_is hf hE
        match p, hp1, hp2 with
        | some (j', u), hp1, hp2 =>
          refine ⟨.value (if ok then .tuple #[u, .bool true] else u), ?_, .v ?_⟩
          · simp only [execOp, ho, Instr.lookup, hv, hk, Sem.run_bind, run_under hu, Result.andThen_ok, getObj_map hw, Sem.run_pure, checkKey_run hd hp, findKey_run hd hp1]
          · cases ok
            · exact hp2.2
            · exact ⟨[u, .bool true], ⟨hp2.2, rfl, trivial⟩, rfl⟩
      · rename_i hf
        cases hr
        refine ok_still fun E w a r ht => ?_
        obtain ⟨l, hl, hv⟩ := asOne_is e2 (ht.opd m)
        have hk : a.eval key = k := closed_is e3 (ht.opd key)
        obtain ⟨l', e, xs, hw, hE⟩ := r.live b _ hb
        obtain rfl : l = l' := by rw [hl] at e; exact Option.some.inj e
        obtain ⟨p, hp1, hp2⟩ := findK_is hf hE
        match p, hp1, hp2 with
        | none, hp1, _ =>
          refine ⟨.value (if ok then .tuple #[zero, .bool false] else zero), ?_, .v ?_⟩
          · simp only [execOp, ho, Instr.lookup, hv, hk, Sem.run_bind, run_under hu, Result.andThen_ok, getObj_map hw, Sem.run_pure, checkKey_run hd hp, findKey_run hd hp1, pureOf_run hz w]
          · cases ok
            · exact isC_emb E zero
            · exact ⟨[zero, .bool false], ⟨isC_emb E zero, rfl, trivial⟩, rfl⟩
      · cases hr
    · cases hr
  · cases hr
theorem isEs_append : ∀ {es : List (Value × Cmp × Nat)} {xs : List MapEntry} {k : Value} {c : Cmp} {n : Nat} {x : MapEntry}, IsEs E es xs → x.key = k → IsC E c x.val → x.born = n → IsEs E (es ++ [(k, c, n)]) (xs ++ [x])
  | [], [], _, _, _, _, _, h1, h2, h3 => ⟨⟨h1, h2, h3⟩, trivial⟩
  | (k, c, n) :: es, y :: xs, _, _, _, _, hi, h1, h2, h3 => ⟨hi.1, isEs_append hi.2 h1 h2 h3⟩
  | [], _ :: _, _, _, _, _, hi, _, _, _ => hi.elim
  | _ :: _, [], _, _, _, _, hi, _, _, _ => hi.elim
theorem isEs_erase : ∀ {es : List (Value × Cmp × Nat)} {xs : List MapEntry} (i : Nat), IsEs E es xs → IsEs E (es.eraseIdx i) (xs.eraseIdx i)
  | [], [], _, _ => trivial
  | (k, c, n) :: es, y :: xs, 0, hi => hi.2
  | (k, c, n) :: es, y :: xs, i + 1, hi => ⟨hi.1, isEs_erase i hi.2⟩
  | [], _ :: _, _, hi => hi.elim
  | _ :: _, [], _, hi => hi.elim
theorem isEs_len : ∀ {es : List (Value × Cmp × Nat)} {xs : List MapEntry}, IsEs E es xs → es.length = xs.length
  | [], [], _ => rfl
  | (k, c, n) :: es, y :: xs, hi => by simp [isEs_len hi.2]
  | [], _ :: _, hi => hi.elim
  | _ :: _, [], hi => hi.elim
theorem lt_of_some {α : Type} {a : Array α} {i : Nat} {x : α} (h : a[i]? = some x) : i < a.size := by
  rcases Nat.lt_or_ge i a.size with h' | h'
  · exact h'
  · rw [Array.getElem?_eq_none h'] at h; cases h
/-- A map's block set anew. -/
theorem set_map (r : Rep C N0 E h w) {b : Nat} {es es' : List (Value × Cmp × Nat)} {n n' : Nat} {l : Loc} {xs xs' : List MapEntry} (hb : h.get b = some (.map es n)) (hl : E b = some l) (hw : w.heap[l.r]? = some (.map xs.toArray n)) (hE : IsEs E es' xs') :
    (setObj l.r (.map xs'.toArray n')).run C.P w = .ok () { w with heap := w.heap.setIfInBounds l.r (.map xs'.toArray n') } ∧
    Step C N0 E h w E (h.put b (.map es' n')) { w with heap := w.heap.setIfInBounds l.r (.map xs'.toArray n') } := by
  have hlt := lt_of_some hw
  refine ⟨by simp [setObj, Sem.run, hw], step_set r hb hl (by simp) (fun k hk => by simp [Array.getElem?_setIfInBounds_ne (fun e => hk e.symm)]) rfl rfl rfl ⟨xs', by simp [hlt], hE⟩⟩
theorem mapUpdate_ok {t : Tmps} {o : Oper} {ty : TypeId} {m key x : Operand} {r : R} (ho : o.op = .mapUpdate ty m key x) (hr : opMapUpdate C ty (opd t m) (opd t key) (opd t x) h = some (r, h')) : OpOk C N0 t o h r h' := by
  unfold opMapUpdate at hr
  split at hr
  · rename_i kt d elem b k c e1 e2 e3 e4
    obtain ⟨hu, hd, hp⟩ := mapKind_is e1
    split at hr
    · rename_i es clock hb
      split at hr
      · rename_i hf
        cases hr
        intro E w a r ht
        obtain ⟨l, hl, hv⟩ := asOne_is e2 (ht.opd m)
        have hk : a.eval key = k := closed_is e3 (ht.opd key)
        have hx := ht.opd x
        rw [e4] at hx
        obtain ⟨l', e, xs, hw, hE⟩ := r.live b _ hb
        obtain rfl : l = l' := by rw [hl] at e; exact Option.some.inj e
        obtain ⟨p, hp1, hp2⟩ := findK_is hf hE
        match p, hp1, hp2 with
        | none, hp1, _ =>
          obtain ⟨hrun, hst⟩ := set_map (n' := clock + 1) r hb hl hw (isEs_append (x := { key := k, val := a.eval x, born := clock }) hE rfl hx rfl)
          refine ⟨E, _, .skip, ?_, hst, .skip⟩
          have hpush : xs.toArray.push ({ key := k, val := a.eval x, born := clock } : MapEntry) = (xs ++ [({ key := k, val := a.eval x, born := clock } : MapEntry)]).toArray := by simp
          simp only [execOp, ho, Instr.mapUpdate, hv, hk, Sem.run_bind, run_under hu, Result.andThen_ok, getObj_map hw, checkKey_run hd hp, findKey_run hd hp1, hpush, hrun]
          rfl
      · cases hr
    · cases hr
  · cases hr
theorem delete_run {t : Tmps} {a : Act} {ty kt : TypeId} (ty' : TypeId) {m key : Operand} {r : R} (hr : opDelete C ty (opd t m) (opd t key) h = some (r, h')) (R0 : Rep C N0 E h w) (ht : TRel E t a) :
    ∃ w' v, (Builtin.delete_ #[ty, kt] ty' #[a.eval m, a.eval key]).run C.P w = .ok v w' ∧ Step C N0 E h w E h' w' ∧ Comes_ E r (.value v) := by
  unfold opDelete at hr
  split at hr
  · rename_i kt d elem b k e1 e2 e3
    obtain ⟨hu, hd, hp⟩ := mapKind_is e1
    split at hr
    · rename_i es clock hb
      split at hr
      · rename_i i c hf
        cases hr
        obtain ⟨l, hl, hv⟩ := asOne_is e2 (ht.opd m)
        have hk : a.eval key = k := closed_is e3 (ht.opd key)
        obtain ⟨l', e, xs, hw, hE⟩ := R0.live b _ hb
        obtain rfl : l = l' := by rw [hl] at e; exact Option.some.inj e
        obtain ⟨p, hp1, hp2⟩ := findK_is hf hE
        match p, hp1, hp2 with
        | some (i', u), hp1, hp2 =>
          obtain ⟨rfl, _⟩ := hp2
          obtain ⟨hrun, hst⟩ := set_map (n' := clock) R0 hb hl hw (isEs_erase i hE)
          refine ⟨_, .tuple #[], ?_, hst, .v (isA_plain E _)⟩
          have her : xs.toArray.eraseIdxIfInBounds i = (xs.eraseIdx i).toArray := by simp
          simp only [Builtin.delete_, hv, hk]
          simp [run_under hu, getObj_map hw, checkKey_run hd hp, findKey_run hd hp1, hrun]
      · cases hr
    · cases hr
  · cases hr
end Go.Proofs.YtlhaaokldjdnnaaGreatDoor.Ev
