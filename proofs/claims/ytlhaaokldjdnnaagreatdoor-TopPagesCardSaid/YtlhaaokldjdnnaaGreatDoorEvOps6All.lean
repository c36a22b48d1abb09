/-
  Parts, one behind the other: The evaluator's operations are the model's: append, lengths. No condition; nothing of the program stands here. | The evaluator's operations are the model's: append as a whole. No condition; nothing of the program stands here.
-/
import Derived.Test.YtlhaaokldjdnnaaGreatDoorEvOps4All
import Derived.Laws.Append
namespace Go.Proofs.YtlhaaokldjdnnaaGreatDoor.Ev
open Go.RowKit
set_option linter.unusedVariables false
set_option linter.unusedSimpArgs false
variable {C : Cfg} {N0 : Nat} {E E' E1 : Env} {h h' h1 : Hp} {w w' w1 : World}

theorem len_ok {t : Tmps} {a : Act} {ty : TypeId} (ty' : TypeId) {x : Operand} {r : R} (hr : opLen C ty (opd t x) h = some (r, h')) (R0 : Rep C N0 E h w) (ht : TRel E t a) :
    h' = h ∧ ∃ v, (Builtin.len_ #[ty] ty' #[a.eval x]).run C.P w = .ok v w ∧ Comes_ E r (.value v) := by
  unfold opLen at hr
  split at hr
  · rename_i e b off n c hu e1
    cases hr
    obtain ⟨l, hl, hv⟩ := asOne_is e1 (ht.opd x)
    refine ⟨rfl, .int .i64 n, ?_, .v (isA_plain E _)⟩
    simp [Builtin.len_, hv, run_under hu, goInt]
  · rename_i e b off n hu e1
    cases hr
    obtain ⟨l, hl, hv⟩ := asOne_is e1 (ht.opd x)
    refine ⟨rfl, .int .i64 0, ?_, .v (isA_plain E _)⟩
    simp [Builtin.len_, hv, run_under hu, goInt]
  · rename_i k e m hu e1
    split at hr
    · rename_i es clock hb
      cases hr
      obtain ⟨l, hl, hv⟩ := asOne_is e1 (ht.opd x)
      obtain ⟨l', e, xs, hw, hE⟩ := R0.live m _ hb
      obtain rfl : l = l' := by rw [hl] at e; exact Option.some.inj e
      refine ⟨rfl, .int .i64 es.length, ?_, .v (isA_plain E _)⟩
      simp [Builtin.len_, hv, run_under hu, goInt, getObj_map hw, isEs_len hE]
    · cases hr
  · cases hr

/-- What is appended. -/
theorem src_is {t : Tmps} {a : Act} (ht : TRel E t a) (r : Rep C N0 E h w) {size n : Nat} {x : Operand} {new : List BV} (hs : srcCells size h (opd t x) = some (n, new)) (hl : new.length = n * size) :
    ∃ vs : List Value, IsL E new vs ∧ (∀ w, (Builtin.lenOf (a.eval x)).run C.P w = .ok n w) ∧ ∀ w', w'.heap = w.heap → (Builtin.firstCells size n (a.eval x)).run C.P w' = .ok vs.toArray w' := by
  unfold srcCells at hs
  split at hs
  · rename_i s e1
    split at hs
    · rename_i h1
      cases hs
      have hv : a.eval x = _ := asOne_is e1 (ht.opd x)
      refine ⟨s.data.toList.map fun b => .int .u8 (b.toNat : Int), ?_, fun w => by rw [hv]; rfl, fun w' _ => ?_⟩
      · exact isL_of_at (by simp [byteCells]) fun j x v hx hv => by
          obtain ⟨b, hb, rfl⟩ := byteCells_at s j x hx
          rw [List.getElem?_map, hb] at hv
          cases hv
          exact rfl
      · rw [hv]
        have hx : s.extract 0 s.size = s := by
          exact ByteArray.extract_zero_size
        simp only [Builtin.firstCells, hx, Sem.run_pure]
        congr 1
        apply Array.toList_inj.1
        simp
    · cases hs
  · rename_i m c e1
    split at hs
    · rename_i h0
      cases hs
      subst h0
      have hv : a.eval x = _ := asOne_is e1 (ht.opd x)
      exact ⟨[], trivial, fun w => by rw [hv]; rfl, fun w' _ => by rw [hv]; rfl⟩
    · cases hs
  · rename_i b off len c e1
    cases e2 : readCells h b off (len * size) with
    | none => rw [e2] at hs; cases hs
    | some cs =>
      rw [e2] at hs
      cases hs
      obtain ⟨l, hl2, hv⟩ := asOne_is e1 (ht.opd x)
      obtain ⟨vs, hL, hlen, hc⟩ := readCells_is r e2 hl2
      refine ⟨vs, hL, fun w => by rw [hv]; rfl, fun w' hw' => ?_⟩
      rw [hv]
      have := run_loadCells_list (P := C.P) w' ⟨l.r, l.s + off, none⟩ vs (fun j v hj => by
        rw [add_here]
        have := hc j v hj
        simp only [World.cell?, hw'] at this ⊢
        exact this)
      rw [hlen] at this
      exact this
  · cases hs

theorem app_in {sT xT ty e : TypeId} {size sLen sCap n : Nat} {A : Addr} {x : Value} {vs : List Value} {d : TypeDesc} (hu : C.P.underlying sT = some (.slice e)) (hz : szOf C e = some size) (hx : C.P.underlying xT = some d) (hd : isIntD d = false)
    (hlen : ∀ w, (Builtin.lenOf x).run C.P w = .ok n w) (hnew : (Builtin.firstCells size n x).run C.P w = .ok vs.toArray w) (hn : sLen + n ≤ sCap) (hst : (storeCells (A.add (sLen * size)) vs).run C.P w = .ok () w') :
    (Builtin.append_ #[sT, xT] ty #[.slice (some A) sLen sCap, x]).run C.P w = .ok (.slice (some A) (sLen + n) sCap) w' := by
  have hd' : (match d with | .int _ => true | _ => false) = false := by cases d <;> first | rfl | cases hd
  simp only [Builtin.append_]
  simp [run_under hu, pureOf_run hz, run_under hx]
  cases d <;> first | (cases hd; done) | simp [hlen, hn, hnew, hst]
theorem app_nil {sT xT ty e : TypeId} {size : Nat} {x : Value} {d : TypeDesc} {vs : Array Value} (hu : C.P.underlying sT = some (.slice e)) (hz : szOf C e = some size) (hx : C.P.underlying xT = some d) (hd : isIntD d = false)
    (hlen : ∀ w, (Builtin.lenOf x).run C.P w = .ok 0 w) (hnew : (Builtin.firstCells size 0 x).run C.P w = .ok vs w) :
    (Builtin.append_ #[sT, xT] ty #[.slice none 0 0, x]).run C.P w = .ok (.slice none 0 0) w := by
  simp only [Builtin.append_]
  simp [run_under hu, pureOf_run hz, run_under hx]
  cases d <;> first | (cases hd; done) | simp [hlen, hnew]
theorem app_grow {sT xT ty e : TypeId} {size sLen sCap n bytes : Nat} {base : Option Addr} {x z : Value} {vs old : List Value} {d : TypeDesc} (hu : C.P.underlying sT = some (.slice e)) (hz : szOf C e = some size) (hx : C.P.underlying xT = some d) (hd : isIntD d = false)
    (hlen : ∀ w, (Builtin.lenOf x).run C.P w = .ok n w) (hold : (Builtin.firstCells size sLen (.slice base sLen sCap)).run C.P w.drew = .ok old.toArray w.drew) (hnew : (Builtin.firstCells size n x).run C.P w.drew = .ok vs.toArray w.drew) (hn : sCap < sLen + n)
    (hsm : sLen + n ≤ 131072) (hb : (C.P.info? e).map (·.bytes) = some bytes) (hb2 : bytes ≤ 65536) (hzero : pureOf C.P (zeroValue e) = some z) :
    (Builtin.append_ #[sT, xT] ty #[.slice base sLen sCap, x]).run C.P w =
      .ok (.slice (some ⟨w.heap.size, 0, none⟩) (sLen + n) (grownCap w (sLen + n) sCap e)) (w.drew.alloc (.cells (old.toArray ++ vs.toArray ++ Builtin.zeroCells z.cells (grownCap w (sLen + n) sCap e - (sLen + n))) e)) := by
  obtain ⟨i, hi, rfl⟩ : ∃ i, C.P.info? e = some i ∧ i.bytes = bytes := by
    cases hx : C.P.info? e with
    | none => rw [hx] at hb; cases hb
    | some i => rw [hx] at hb; exact ⟨i, rfl, Option.some.inj hb⟩
  have h1 : ¬ (sLen + n ≤ sCap) := by omega
  have h2 : ¬ (9223372036854775807 < ((sLen : Int) + (n : Int))) := by omega
  have h3 : ¬ (281474976710656 < Builtin.nextslicecap (sLen + n) sCap * i.bytes) := by
    have := growslice_fits (bytes := i.bytes) hn (by
      have : (sLen + n) * i.bytes ≤ 131072 * 65536 := Nat.mul_le_mul hsm hb2
      omega)
    omega
  have hti : ∀ w, (typeInfo e).run C.P w = .ok i w := fun w => by simp [typeInfo, hi]
  simp only [Builtin.append_]
  simp [run_under hu, pureOf_run hz, run_under hx]
  cases d <;> first | (cases hd; done) | (simp [hlen, h1, h2, h3, hti, hold, hnew, Question.forced, pureOf_run hzero, newRow, grownCap]; rw [show (old ++ vs).toArray = old.toArray ++ vs.toArray by simp, Array.append_assoc])
end Go.Proofs.YtlhaaokldjdnnaaGreatDoor.Ev
namespace Go.Proofs.YtlhaaokldjdnnaaGreatDoor.Ev
open Go.RowKit
set_option linter.unusedVariables false
set_option linter.unusedSimpArgs false
variable {C : Cfg} {N0 : Nat} {E E' E1 : Env} {h h' h1 : Hp} {w w' w1 : World}

/-- A block that lives on under another name. -/
theorem step_move (r : Rep C N0 E h w) {b : Nat} {x y : Blk} {l l' : Loc} (hb : h.get b = some x) (he : E b = some l) (hl : l'.r = l.r) (hsz : w'.heap.size = w.heap.size)
    (hk : ∀ k, k ≠ l.r → w'.heap[k]? = w.heap[k]?) (hos : w'.os = w.os) (ht : w'.tape = w.tape) (ho : w'.output = w.output) (hy : BlkIs (extE E h.next l') l' w' y) :
    Step C N0 E h w (extE E h.next l') ((h.drop b).new y) w' := by
  have hsub := extE_sub (l := l') r.none
  have hlive : ∀ c z, ((h.drop b).new y).get c = some z → (c = h.next ∧ z = y) ∨ (c ≠ h.next ∧ c ≠ b ∧ h.get c = some z) := fun c z hc => by
    rw [get_new] at hc
    by_cases hn : h.next = c
    · rw [if_pos (show (h.drop b).next = c from hn)] at hc
      exact .inl ⟨hn.symm, (Option.some.inj hc).symm⟩
    · rw [if_neg (show ¬ (h.drop b).next = c from hn), get_drop] at hc
      by_cases hcb : c = b
      · rw [if_pos hcb] at hc; cases hc
      · rw [if_neg hcb] at hc
        exact .inr ⟨fun e => hn e.symm, hcb, hc⟩
  have hne : ∀ c z m, c ≠ b → h.get c = some z → E c = some m → m.r ≠ l.r := fun c z m hcb hc e e2 => hcb (r.inj _ _ _ _ _ _ hc hb e he e2)
  refine ⟨⟨fun c z hc => ?_, fun c c' z z' m m' hc hc' e e' hr => ?_, fun c m e => ?_, fun c z m hc e => ?_, fun g i v hg => ?_, ?_⟩, fun c hc => ?_, ?_, fun k hk' hn => ?_, fun c z m hc e => ?_, ?_, hos, ht, ho⟩
  · rcases hlive c z hc with ⟨rfl, rfl⟩ | ⟨hn, hcb, hc⟩
    · exact ⟨l', extE_at _ _ _, hy⟩
    · obtain ⟨m, e, k⟩ := r.live c z hc
      exact ⟨m, by rw [extE_ne _ _ hn]; exact e, (k.mono hsub).same (hk _ (hne _ _ _ hcb hc e))⟩
  · rcases hlive c z hc with ⟨rfl, rfl⟩ | ⟨hn, hcb, hd⟩ <;> rcases hlive c' z' hc' with ⟨rfl, rfl⟩ | ⟨hn', hcb', hd'⟩
    · rfl
    · rw [extE_at] at e
      rw [extE_ne _ _ hn'] at e'
      cases e
      exact absurd (hr.symm.trans hl) (hne _ _ _ hcb' hd' e')
    · rw [extE_at] at e'
      rw [extE_ne _ _ hn] at e
      cases e'
      exact absurd (hr.trans hl) (hne _ _ _ hcb hd e)
    · rw [extE_ne _ _ hn] at e
      rw [extE_ne _ _ hn'] at e'
      exact r.inj _ _ _ _ _ _ hd hd' e e' hr
  · show c < h.next + 1
    by_cases hn : c = h.next
    · omega
    · rw [extE_ne _ _ hn] at e
      have := r.below _ _ e
      omega
  · rcases hlive c z hc with ⟨rfl, rfl⟩ | ⟨hn, hcb, hc⟩
    · rw [extE_at] at e
      cases e
      rw [hl]
      exact r.base _ _ _ hb he
    · rw [extE_ne _ _ hn] at e
      exact r.base _ _ _ hc e
  · obtain ⟨h1, h2⟩ := r.tab g i v hg
    refine ⟨h1, (World.cell?_of_block (hk g fun e => ?_)).trans h2⟩
    have := r.base _ _ _ hb he
    omega
  · rw [hsz]; exact r.room
  · exact extE_ne _ _ (Nat.ne_of_lt hc)
  · exact Nat.le_succ _
  · exact hk k fun e => hn b x l hb he e.symm
  · rcases hlive c z hc with ⟨rfl, rfl⟩ | ⟨hn, hcb, hc⟩
    · rw [extE_at] at e
      cases e
      exact .inr ⟨b, x, l, hb, he, hl.symm⟩
    · rw [extE_ne _ _ hn] at e
      exact .inr ⟨c, z, m, hc, e, rfl⟩
  · rw [hsz]; exact Nat.le_refl _

/-- A grown row is a new block. -/
theorem grown_block (r : Rep C N0 E h w) {old new : List BV} {ov vs : List Value} {z : Value} {size need sCap : Nat} {e : TypeId} (h1 : IsL E old ov) (h2 : IsL E new vs) (hl : (old ++ new).length = need * size) (hz : z.cells.size = size) (h0s : 0 < size ∧ size < mark) {sz : Nat} (hsz : st sz = size ∧ ∀ e', sz / mark = e' + 1 → e = e') :
    Step C N0 E h w (extE E h.next ⟨w.heap.size, 0, grownCap w need sCap e - need⟩) (h.new (.cells (old ++ new) sz)) (w.drew.alloc (.cells (ov.toArray ++ vs.toArray ++ Builtin.zeroCells z.cells (grownCap w need sCap e - need)) e)) := by
  have r1 := (step_drew r).rep
  have hlo := isL_len h1
  have hln := isL_len h2
  simp at hl
  refine (step_drew r).trans (step_alloc r1 _ _ ⟨w.heap.size, 0, grownCap w need sCap e - need⟩ rfl ⟨ov.toArray ++ vs.toArray ++ Builtin.zeroCells z.cells (grownCap w need sCap e - need), e, (0, 0), ?_, fun j x hj => ?_, fun j _ => by simp, ⟨fun h0 => by rw [hsz.1] at h0; omega, fun e' he => ⟨hsz.2 e' he, fun h0 => by rw [hsz.1] at h0; omega⟩⟩, ?_⟩)
  · show (w.heap.push _)[w.heap.size]? = _
    simp
  · have hjl : j < old.length + new.length := by
      have := (List.getElem?_eq_some_iff.1 hj).1
      simpa using this
    have hsub := extE_sub (E := E) (l := ⟨w.heap.size, 0, grownCap w need sCap e - need⟩) r.none
    rw [Nat.zero_add, Array.getElem?_append_left (by simp; omega)]
    by_cases hjo : j < old.length
    · rw [List.getElem?_append_left hjo] at hj
      obtain ⟨v, hv, hb⟩ := isL_at h1 _ _ hj
      refine ⟨v, ?_, hb.mono hsub⟩
      rw [Array.getElem?_append_left (by simp; omega)]
      simpa using hv
    · rw [List.getElem?_append_right (by omega)] at hj
      obtain ⟨v, hv, hb⟩ := isL_at h2 _ _ hj
      refine ⟨v, ?_, hb.mono hsub⟩
      rw [Array.getElem?_append_right (by simp; omega)]
      simp only [List.size_toArray, List.getElem?_toArray]
      rw [← hlo]
      exact hv
  · rw [hsz.1]
    simp [size_zeroCells, hz]
    have : (old.length + new.length) = need * size := hl
    omega
theorem append_ok {t : Tmps} {a : Act} {sT xT ty : TypeId} {s x : Operand} {r : R} (hr : opAppend C sT xT (opd t s) (opd t x) h = some (r, h')) (R0 : Rep C N0 E h w) (ht : TRel E t a) :
    ∃ E' w' v, (Builtin.append_ #[sT, xT] ty #[a.eval s, a.eval x]).run C.P w = .ok v w' ∧ Step C N0 E h w E' h' w' ∧ Comes_ E' r (.value v) := by
  unfold opAppend at hr
  cases he : elemOf C sT with
  | none => rw [he] at hr; cases hr
  | some es =>
    obtain ⟨elem, size⟩ := es
    rw [he] at hr
    simp only at hr
    obtain ⟨hu, hz⟩ := elemOf_is he
    cases hs : srcCells size h (opd t x) with
    | none => rw [hs] at hr; cases hr
    | some nn =>
      obtain ⟨n, new⟩ := nn
      rw [hs] at hr
      simp only at hr
      cases hzo : zeroOf C elem with
      | none => rw [hzo] at hr; cases hr
      | some zero =>
        cases hby : (C.P.info? elem).map (·.bytes) with
        | none => rw [hzo, hby] at hr; cases hr
        | some bytes =>
          cases hx : C.P.underlying xT with
          | none => rw [hzo, hby, hx] at hr; cases hr
          | some d =>
            rw [hzo, hby, hx] at hr
            simp only at hr
            by_cases hc : zero.length = size ∧ (0 < size ∧ size < mark) ∧ bytes ≤ 65536 ∧ new.length = n * size ∧ n ≤ 65536 ∧ isIntD d = false ∧ new.all okCell = true
            · rw [if_pos hc] at hr
              obtain ⟨c1, c2, c3, c4, c5, c6, c7⟩ := hc
              obtain ⟨z, hzp, hzL⟩ := zeroOf_is hzo
              have hzs : z.cells.size = size := by
                have := isL_len (hzL E)
                simp at this
                omega
              obtain ⟨vs, hL, hlen, hfirst⟩ := src_is ht R0 hs c4
              have hln := isL_len hL
              have hone := isL_ok c7 hL
              split at hr
              · rename_i e1
                have hv : a.eval s = _ := asOne_is e1 (ht.opd s)
                by_cases hn0 : n = 0
                · rw [if_pos hn0] at hr
                  cases hr
                  subst hn0
                  exact ⟨E, w, .slice none 0 0, by rw [hv]; exact app_nil hu hz hx c6 hlen (hfirst w rfl), Step.refl R0, .v (by rw [← hv]; exact ht.opd s)⟩
                · rw [if_neg hn0] at hr
                  cases hr
                  have hg := app_grow (ty := ty) (sLen := 0) (sCap := 0) (base := none) (old := []) (w := w) hu hz hx c6 hlen (by rfl) (hfirst _ rfl) (by omega) (by omega) hby c3 hzp
                  rw [Nat.zero_add] at hg
                  have hst := grown_block (sCap := 0) (e := elem) (need := n) R0 (old := []) (ov := []) trivial hL (by simpa using c4) hzs c2 (st_tag C elem c2.2)
                  refine ⟨_, _, _, by rw [hv]; exact hg, hst, .v (isA_one ⟨_, extE_at _ _ _, ?_⟩)⟩
                  simp only [Nat.add_zero]
                  congr 1
                  have := grownCap_ge w n 0 elem
                  omega
              · rename_i b off e1
                obtain ⟨l, hl, hv⟩ := asOne_is e1 (ht.opd s)
                by_cases hn0 : n = 0
                · rw [if_pos hn0] at hr; cases hr
                · rw [if_neg hn0] at hr
                  cases hr
                  have hg := app_grow (ty := ty) (sLen := 0) (sCap := 0) (base := some ⟨l.r, l.s + off, none⟩) (old := []) (w := w) hu hz hx c6 hlen (by simp [Builtin.firstCells, loadCells, loadCellsFrom]) (hfirst _ rfl) (by omega) (by omega) hby c3 hzp
                  rw [Nat.zero_add] at hg
                  have hst := grown_block (sCap := 0) (e := elem) (need := n) R0 (old := []) (ov := []) trivial hL (by simpa using c4) hzs c2 (st_tag C elem c2.2)
                  refine ⟨_, _, _, by rw [hv]; exact hg, hst, .v (isA_one ⟨_, extE_at _ _ _, ?_⟩)⟩
                  simp only [Nat.add_zero]
                  congr 1
                  have := grownCap_ge w n 0 elem
                  omega
              · rename_i b off z' e1
                obtain ⟨l, hl, hv⟩ := asOne_is e1 (ht.opd s)
                split at hr
                · rename_i c sz hb
                  by_cases hs2 : st sz = size ∧ z' = c.length ∧ 0 < n
                  · rw [if_pos hs2] at hr
                    cases hr
                    obtain ⟨rfl, rfl, hn0⟩ := hs2
                    obtain ⟨m, e, X, tt, fr, hw, hX, hf, hd, hsX⟩ := R0.live b _ hb
                    obtain rfl : l = m := by rw [hl] at e; exact Option.some.inj e
                    by_cases hroom : n ≤ l.d
                    · have hd0 : ¬ l.d = 0 := by omega
                      rw [if_neg hd0] at hv
                      have hmul : (l.d - n) * st sz + n * st sz = l.d * st sz := by rw [← Nat.add_mul, Nat.sub_add_cancel (by omega)]
                      have hend2 : l.s + c.length + vs.length ≤ X.size := by omega
                      obtain ⟨k1, k2, k3, k4, k5, k6⟩ := setCells_block vs (l.s + c.length) w hw
                      have hrun : (storeCells ⟨l.r, l.s + c.length, none⟩ vs).run C.P w = .ok () (w.setCells l.r (l.s + c.length) vs) := by
                        refine run_storeCells_cells l.r (l.s + c.length) vs 0 w (fun j hj => ?_) (fun j hj => ?_) hone
                        · rw [cell_of hw, Nat.add_zero]
                          have : l.s + c.length + j < X.size := by omega
                          simp [this]
                        · refine frozen_of hw ?_
                          rw [Nat.add_zero]
                          have hq := hf (c.length + j) (by omega)
                          rwa [show l.s + c.length + j = l.s + (c.length + j) by omega]
                      have hy : BlkIs (extE E h.next ⟨l.r, l.s + c.length, l.d - n⟩) ⟨l.r, l.s + c.length, l.d - n⟩ (w.setCells l.r (l.s + c.length) vs) (.cells new (keepTag C elem (st sz) sz)) := by
                        obtain ⟨q1, q2, q3⟩ := st_keep C elem c2.2 (rfl : st sz = st sz)
                        have hsub := extE_sub (E := E) (l := ⟨l.r, l.s + c.length, l.d - n⟩) R0.none
                        refine ⟨_, tt, fr, k1, fun j y hj => ?_, fun j hj => ?_, ⟨fun h0 => by omega, fun e he => ⟨(hd.2 e (q3 e he)).1, fun h0 => by omega⟩⟩, ?_⟩
                        · have hjl : j < new.length := (List.getElem?_eq_some_iff.1 hj).1
                          rw [arrSet_at _ _ _ _ hend2]
                          obtain ⟨v, hv2, hb2⟩ := isL_at hL _ _ hj
                          refine ⟨v, ?_, hb2.mono hsub⟩
                          rw [if_pos (by simp only; omega), show l.s + c.length + j - (l.s + c.length) = j by omega]
                          exact hv2
                        · rw [q1] at hj
                          simp only at hj ⊢
                          have hq := hf (c.length + j) (by omega)
                          rwa [Nat.add_assoc]
                        · rw [q1]
                          simp only
                          rw [arrSet_size]
                          omega
                      have hst := step_move (l' := ⟨l.r, l.s + c.length, l.d - n⟩) R0 hb hl rfl k3 k2 k4 k5 k6 hy
                      refine ⟨_, _, _, by rw [hv]; exact app_in (ty := ty) (sLen := 0) hu hz hx c6 hlen (hfirst w rfl) (by omega) (by rw [Nat.zero_mul]; exact hrun), hst, .v (isA_one ⟨_, extE_at _ _ _, ?_⟩)⟩
                      simp only [Nat.add_zero, Nat.zero_add]
                      congr 1
                      omega
                    · have hg := app_grow (ty := ty) (sLen := 0) (sCap := l.d) (base := some ⟨l.r, l.s + (if l.d = 0 then off else c.length), none⟩) (old := []) (w := w) hu hz hx c6 hlen (by simp [Builtin.firstCells, loadCells, loadCellsFrom]) (hfirst _ rfl) (by omega) (by omega) hby c3 hzp
                      rw [Nat.zero_add] at hg
                      have r1 := (step_drop R0 b).rep
                      have hst := grown_block (sCap := l.d) (e := elem) (need := n) r1 (old := []) (ov := []) trivial hL (by simpa using c4) hzs c2 ⟨(st_keep C elem c2.2 (rfl : st sz = st sz)).1, (st_keep C elem c2.2 (rfl : st sz = st sz)).2.1⟩
                      refine ⟨_, _, _, by rw [hv]; exact hg, (step_drop R0 b).trans hst, .v (isA_one ⟨_, extE_at _ _ _, ?_⟩)⟩
                      simp only [Nat.add_zero]
                      congr 1
                      have := grownCap_ge w n l.d elem
                      omega
                  · rw [if_neg hs2] at hr; cases hr
                · cases hr
              · rename_i b off len cap e1
                obtain ⟨l, hl, hv⟩ := asOne_is e1 (ht.opd s)
                split at hr
                · rename_i c sz hb
                  obtain ⟨m, e, X, tt, fr, hw, hX, hf, hd, hsX⟩ := R0.live b _ hb
                  obtain rfl : l = m := by rw [hl] at e; exact Option.some.inj e
                  by_cases hin : len + n ≤ cap
                  · rw [if_pos hin] at hr
                    by_cases hfit : off + len * size + new.length ≤ c.length
                    · rw [if_pos hfit] at hr
                      cases hr
                      obtain ⟨hrun, hst⟩ := write_cells R0 hb hl hL hone hfit
                      refine ⟨E, _, _, by rw [hv]; exact app_in (ty := ty) hu hz hx c6 hlen (hfirst w rfl) (by omega) (by rw [add_here, Nat.add_assoc]; exact hrun), hst, .v (isA_one ⟨l, hl, rfl⟩)⟩
                    · rw [if_neg hfit] at hr; cases hr
                  · rw [if_neg hin] at hr
                    by_cases hle : len ≤ 65536 ∧ off + len * size ≤ c.length
                    · rw [if_pos hle] at hr
                      have hread : readCells h b off (len * size) = some ((c.drop off).take (len * size)) := by
                        unfold readCells
                        rw [hb]
                        simp only
                        rw [if_pos hle.2]
                      obtain ⟨ov, hoL, holen, hoc⟩ := readCells_is R0 hread hl
                      have hofirst : (Builtin.firstCells size len (.slice (some ⟨l.r, l.s + off, none⟩) len (cap + l.d))).run C.P w.drew = .ok ov.toArray w.drew := by
                        refine run_firstCells_some w.drew size len _ len _ ov holen fun j v hj => ?_
                        rw [add_here]
                        exact hoc j v hj
                      have hlo : ((c.drop off).take (len * size) ++ new).length = (len + n) * size := by
                        rw [Nat.add_mul]
                        simp
                        omega
                      by_cases hsz : st sz = 0
                      · rw [if_pos hsz] at hr
                        cases hr
                        have hd0 := hd.1 hsz
                        have hg := app_grow (ty := ty) (sCap := cap + l.d) (w := w) hu hz hx c6 hlen hofirst (hfirst _ rfl) (by omega) (by omega) hby c3 hzp
                        have hst := grown_block (sCap := cap + l.d) (e := elem) R0 hoL hL hlo hzs c2 (st_tag C elem c2.2)
                        refine ⟨_, _, _, by rw [hv]; exact hg, hst, .v (isA_one ⟨_, extE_at _ _ _, ?_⟩)⟩
                        simp only [Nat.add_zero]
                        congr 1
                        have := grownCap_ge w (len + n) (cap + l.d) elem
                        omega
                      · rw [if_neg hsz] at hr
                        by_cases hs2 : st sz = size ∧ off + cap * size = c.length ∧ len = cap
                        · rw [if_pos hs2] at hr
                          cases hr
                          obtain ⟨rfl, hend, rfl⟩ := hs2
                          by_cases hroom : len + n ≤ len + l.d
                          · -- there is room
                            have hend2 : l.s + off + len * st sz + vs.length ≤ X.size := by
                              have : n * st sz ≤ l.d * st sz := Nat.mul_le_mul_right _ (by omega)
                              omega
                            obtain ⟨k1, k2, k3, k4, k5, k6⟩ := setCells_block vs (l.s + off + len * st sz) w hw
                            have hrun : (storeCells ⟨l.r, l.s + off + len * st sz, none⟩ vs).run C.P w = .ok () (w.setCells l.r (l.s + off + len * st sz) vs) := by
                              refine run_storeCells_cells l.r (l.s + off + len * st sz) vs 0 w (fun j hj => ?_) (fun j hj => ?_) hone
                              · rw [cell_of hw, Nat.add_zero]
                                have : l.s + off + len * st sz + j < X.size := by omega
                                simp [this]
                              · refine frozen_of hw ?_
                                rw [Nat.add_zero]
                                have hq := hf (off + len * st sz + j) (by
                                  have : n * st sz ≤ l.d * st sz := Nat.mul_le_mul_right _ (by omega)
                                  omega)
                                rwa [show l.s + off + len * st sz + j = l.s + (off + len * st sz + j) by omega]
                            have hy : BlkIs (extE E h.next ⟨l.r, l.s + off, l.d - n⟩) ⟨l.r, l.s + off, l.d - n⟩ (w.setCells l.r (l.s + off + len * st sz) vs) (.cells ((c.drop off).take (len * st sz) ++ new) (keepTag C elem (st sz) sz)) := by
                              obtain ⟨q1, q2, q3⟩ := st_keep C elem c2.2 (rfl : st sz = st sz)
                              have hsub := extE_sub (E := E) (l := ⟨l.r, l.s + off, l.d - n⟩) R0.none
                              refine ⟨_, tt, fr, k1, fun j y hj => ?_, fun j hj => ?_, ⟨fun h0 => absurd (q1.symm.trans h0) hsz, fun e he => ⟨(hd.2 e (q3 e he)).1, fun h0 => absurd (q1.symm.trans h0) hsz⟩⟩, ?_⟩
                              · have hjl : j < (len + n) * st sz := by
                                  have := (List.getElem?_eq_some_iff.1 hj).1
                                  omega
                                rw [arrSet_at _ _ _ _ hend2]
                                by_cases hjo : j < len * st sz
                                · rw [List.getElem?_append_left (by simp; omega), List.getElem?_take, if_pos hjo, List.getElem?_drop] at hj
                                  obtain ⟨v, hv2, hb2⟩ := hX _ _ hj
                                  refine ⟨v, ?_, hb2.mono hsub⟩
                                  rw [if_neg (by simp only; omega)]
                                  simpa [Nat.add_assoc] using hv2
                                · have hol : ((c.drop off).take (len * st sz)).length = len * st sz := by
                                    simp
                                    omega
                                  rw [List.getElem?_append_right (by omega), hol] at hj
                                  obtain ⟨v, hv2, hb2⟩ := isL_at hL _ _ hj
                                  refine ⟨v, ?_, hb2.mono hsub⟩
                                  rw [Nat.add_mul] at hjl
                                  rw [if_pos (by simp only; omega), show l.s + off + j - (l.s + off + len * st sz) = j - len * st sz by omega]
                                  exact hv2
                              · rw [q1] at hj
                                simp only at hj ⊢
                                have hq := hf (off + j) (by
                                  rw [hlo, Nat.add_mul] at hj
                                  have : (l.d - n) * st sz + n * st sz = l.d * st sz := by rw [← Nat.add_mul, Nat.sub_add_cancel (by omega)]
                                  omega)
                                rwa [Nat.add_assoc]
                              · rw [q1]
                                simp only
                                rw [arrSet_size, hlo, Nat.add_mul]
                                have : (l.d - n) * st sz + n * st sz = l.d * st sz := by rw [← Nat.add_mul, Nat.sub_add_cancel (by omega)]
                                omega
                            have hst := step_move (l' := ⟨l.r, l.s + off, l.d - n⟩) R0 hb hl rfl k3 k2 k4 k5 k6 hy
                            refine ⟨_, _, _, by rw [hv]; exact app_in (ty := ty) hu hz hx c6 hlen (hfirst w rfl) hroom (by rw [add_here]; exact hrun), hst, .v (isA_one ⟨_, extE_at _ _ _, ?_⟩)⟩
                            simp only [Nat.add_zero]
                            congr 1
                            omega
                          · have hg := app_grow (ty := ty) (sCap := len + l.d) (w := w) hu hz hx c6 hlen hofirst (hfirst _ rfl) (by omega) (by omega) hby c3 hzp
                            have r1 := (step_drop R0 b).rep
                            have hst := grown_block (sCap := len + l.d) (e := elem) r1 hoL hL hlo hzs c2 ⟨(st_keep C elem c2.2 (rfl : st sz = st sz)).1, (st_keep C elem c2.2 (rfl : st sz = st sz)).2.1⟩
                            refine ⟨_, _, _, by rw [hv]; exact hg, (step_drop R0 b).trans hst, .v (isA_one ⟨_, extE_at _ _ _, ?_⟩)⟩
                            simp only [Nat.add_zero]
                            congr 1
                            have := grownCap_ge w (len + n) (len + l.d) elem
                            omega
                        · rw [if_neg hs2] at hr; cases hr
                    · rw [if_neg hle] at hr; cases hr
                · cases hr
              · cases hr
            · rw [if_neg hc] at hr; cases hr
end Go.Proofs.YtlhaaokldjdnnaaGreatDoor.Ev
