/-
  Parts, one behind the other: The evaluator's operations are the model's: values, new blocks, loads, stores. No condition; nothing of the program stands here. | The evaluator's operations are the model's: loads, stores, addresses, parts. No condition; nothing of the program stands here. | The evaluator's operations are the model's: addresses of parts, parts, cuts, functions, maps made, texts ranged over. No condition; nothing of the program stands here.
-/
import Derived.Test.YtlhaaokldjdnnaaGreatDoorEvAll
import Derived.Test.YtlhaaokldjdnnaaGreatDoorEvOpAll
import Derived.Laws.Cells
import Derived.Laws.IdiomCopy
namespace Go.Proofs.YtlhaaokldjdnnaaGreatDoor.Ev
open Go.RowKit
set_option linter.unusedVariables false
set_option linter.unusedSimpArgs false
variable {C : Cfg} {N0 : Nat} {E E' E1 : Env} {h h' h1 : Hp} {w w' w1 : World}

/-- What an operation of the evaluator says of the model's. -/
def OpOk (C : Cfg) (N0 : Nat) (t : Tmps) (o : Oper) (h : Hp) (r : R) (h' : Hp) : Prop :=
  ∀ (E : Env) (w : World) (a : Act), Rep C N0 E h w → TRel E t a → ∃ E' w' n, (execOp a.eval o).run C.P w = .ok n w' ∧ Step C N0 E h w E' h' w' ∧ Comes_ E' r n

/-- One that leaves the world alone. -/
def OpQ (C : Cfg) (N0 : Nat) (t : Tmps) (o : Oper) (h : Hp) (r : R) (h' : Hp) : Prop :=
  h' = h ∧ ∀ (E : Env) (w : World) (a : Act), Rep C N0 E h w → TRel E t a → ∃ n, (execOp a.eval o).run C.P w = .ok n w ∧ Comes_ E r n
theorem OpQ.ok {t : Tmps} {o : Oper} {r : R} (H : OpQ C N0 t o h r h') : OpOk C N0 t o h r h' := by
  obtain ⟨rfl, H⟩ := H
  exact fun E w a r ht => let ⟨n, hn, hc⟩ := H E w a r ht; ⟨E, w, n, hn, Step.refl r, hc⟩
theorem ok_still {t : Tmps} {o : Oper} {r : R} (H : ∀ (E : Env) (w : World) (a : Act), Rep C N0 E h w → TRel E t a → ∃ n, (execOp a.eval o).run C.P w = .ok n w ∧ Comes_ E r n) : OpQ C N0 t o h r h := ⟨rfl, H⟩

theorem isL_len : ∀ {l : List BV} {vs : List Value}, IsL E l vs → l.length = vs.length
  | [], [], _ => rfl
  | x :: l, v :: vs, h => by simp [isL_len h.2]
  | [], _ :: _, h => h.elim
  | _ :: _, [], h => h.elim
theorem isL_at : ∀ {l : List BV} {vs : List Value}, IsL E l vs → ∀ (j : Nat) (x : BV), l[j]? = some x → ∃ v : Value, vs[j]? = some v ∧ IsB E x v
  | [], [], _, j, x, hx => by simp at hx
  | y :: l, v :: vs, h, 0, x, hx => by
    simp at hx
    subst hx
    exact ⟨v, rfl, h.1⟩
  | y :: l, v :: vs, h, j + 1, x, hx => by
    simp at hx
    simpa using isL_at h.2 j x hx
  | [], _ :: _, h, _, _, _ => h.elim
  | _ :: _, [], h, _, _, _ => h.elim
theorem isL_of_at : ∀ {l : List BV} {vs : List Value}, l.length = vs.length → (∀ (j : Nat) (x : BV) (v : Value), l[j]? = some x → vs[j]? = some v → IsB E x v) → IsL E l vs
  | [], [], _, _ => trivial
  | x :: l, v :: vs, hl, h => ⟨h 0 x v rfl rfl, isL_of_at (by simpa using hl) fun j x v hx hv => h (j + 1) x v (by simpa using hx) (by simpa using hv)⟩
  | [], _ :: _, hl, _ => by simp at hl
  | _ :: _, [], hl, _ => by simp at hl
theorem okCell_one {x : BV} {v : Value} (hk : okCell x = true) (h : IsB E x v) : v.oneCell' = true := by
  cases x with
  | k y =>
    obtain rfl : v = y := h
    cases v <;> first | rfl | cases hk
  | ptr b off => obtain ⟨l, _, rfl⟩ := h; rfl
  | gp g off => obtain rfl := h; rfl
  | slc b off n c => obtain ⟨l, _, rfl⟩ := h; rfl
  | mp b => obtain ⟨l, _, rfl⟩ := h; rfl
  | emp b off => obtain ⟨l, _, rfl⟩ := h; rfl
  | tl b off off1 => obtain ⟨l, _, rfl⟩ := h; rfl
  | fn f caps => obtain ⟨l, _, rfl⟩ := h; rfl
theorem cells_one {v : Value} (hv : v.oneCell' = true) : v.cells = #[v] := by cases v <;> first | rfl | cases hv
theorem isL_ok : ∀ {l : List BV} {vs : List Value}, l.all okCell = true → IsL E l vs → ∀ v ∈ vs, v.oneCell' = true
  | [], [], _, _, v, hv => absurd hv List.not_mem_nil
  | x :: l, u :: vs, hk, h, v, hv => by
    simp only [List.all_cons, Bool.and_eq_true] at hk
    rcases List.mem_cons.1 hv with rfl | hv
    · exact okCell_one hk.1 h.1
    · exact isL_ok hk.2 h.2 v hv
  | [], _ :: _, _, h, _, _ => h.elim
  | _ :: _, [], _, h, _, _ => h.elim
theorem cellsOf_is {x : AV} {cs : List BV} {v : Value} (hc : cellsOf x = some cs) (hi : IsA E x v) : IsL E cs v.cells.toList ∧ ∀ u ∈ v.cells.toList, u.oneCell' = true := by
  cases x with
  | tup l => cases hc
  | val c =>
    obtain ⟨g, l⟩ := c
    simp only [cellsOf] at hc
    by_cases hk : l.all okCell = true
    · rw [if_pos hk] at hc
      cases g with
      | true =>
        simp at hc
        subst hc
        obtain ⟨vs, hv, rfl⟩ := hi
        exact ⟨hv, isL_ok hk hv⟩
      | false =>
        match l, hc, hi, hk with
        | [x], hc, hi, hk =>
          simp at hc
          subst hc
          simp at hk
          have h1 := okCell_one hk (show IsB E x v from hi)
          rw [cells_one h1]
          exact ⟨⟨hi, trivial⟩, fun u hu => by simp at hu; subst hu; exact h1⟩
        | [], _, hi, _ => exact hi.elim
        | _ :: _ :: _, _, hi, _ => exact hi.elim
    · rw [if_neg hk] at hc; cases hc
theorem asOne_is {x : AV} {b : BV} {v : Value} (hx : asOne x = some b) (hi : IsA E x v) : IsB E b v := by
  match x, hx, hi with
  | .val ⟨false, [y]⟩, hx, hi => simp only [asOne, Option.some.injEq] at hx; subst hx; exact hi
  | .val ⟨false, []⟩, hx, _ => cases hx
  | .val ⟨false, _ :: _ :: _⟩, hx, _ => cases hx
  | .val ⟨true, _⟩, hx, _ => cases hx
  | .tup _, hx, _ => cases hx
theorem intOf_is {x : AV} {n : Int} {v : Value} (hx : intOf x = some n) (hi : IsA E x v) : ∃ k, v = .int k n := by
  match x, hx, hi with
  | .val ⟨false, [.k (.int k m)]⟩, hx, hi => simp only [intOf, Option.some.injEq] at hx; subst hx; exact ⟨k, hi⟩

theorem move_ok {t : Tmps} {o : Oper} {x : Operand} (ho : o.op = .move x ∨ o.op = .assign x) : OpQ C N0 t o h (.v (opd t x)) h :=
  ok_still fun E w a _ ht => ⟨.value (a.eval x), by rcases ho with ho | ho <;> (simp only [execOp, ho]; rfl), .v (ht.opd x)⟩
theorem pick_ok {t : Tmps} {o : Oper} {c x y : Operand} {b : Bool} (ho : o.op = .pick c x y) (hc : asOne (opd t c) = some (.k (.bool b))) :
    OpQ C N0 t o h (.v (if b then opd t x else opd t y)) h :=
  ok_still fun E w a _ ht => by
    have e : a.eval c = .bool b := asOne_is hc (ht.opd c)
    refine ⟨.value (if b then a.eval x else a.eval y), ?_, .v ?_⟩
    · simp only [execOp, ho, e]; rfl
    · cases b
      · exact ht.opd y
      · exact ht.opd x

theorem st_lt {sz : Nat} (h : sz < mark) : st sz = sz ∧ sz / mark = 0 := ⟨Nat.mod_eq_of_lt h, Nat.div_eq_of_lt h⟩
theorem st_typed (e : Nat) {size : Nat} (h : size < mark) : st (mark * (e + 1) + size) = size ∧ (mark * (e + 1) + size) / mark = e + 1 := by
  have hm : 0 < mark := by decide
  refine ⟨?_, ?_⟩
  · unfold st
    rw [Nat.mul_add_mod, Nat.mod_eq_of_lt h]
  · rw [Nat.mul_add_div hm, Nat.div_eq_of_lt h, Nat.add_zero]
theorem st_tag (C : Cfg) (e : TypeId) {size : Nat} (h : size < mark) : st (tagOf C e size) = size ∧ ∀ e', tagOf C e size / mark = e' + 1 → e = e' := by
  unfold tagOf
  split
  · obtain ⟨h1, h2⟩ := st_typed e h
    exact ⟨h1, fun e' he => Nat.succ.inj (h2.symm.trans he)⟩
  · obtain ⟨h1, h2⟩ := st_lt h
    exact ⟨h1, fun e' he => by rw [h2] at he; omega⟩
theorem st_keep (C : Cfg) (e : TypeId) {size sz : Nat} (h : size < mark) (hs : st sz = size) : st (keepTag C e size sz) = size ∧ (∀ e', keepTag C e size sz / mark = e' + 1 → e = e') ∧ ∀ e', keepTag C e size sz / mark = e' + 1 → sz / mark = e' + 1 := by
  unfold keepTag
  split
  · rename_i hk
    exact ⟨hs, fun e' he => (st_tag C e h).2 e' (by rw [← hk]; exact he), fun e' he => he⟩
  · obtain ⟨h1, h2⟩ := st_lt h
    exact ⟨h1, fun e' he => by rw [h2] at he; omega, fun e' he => by rw [h2] at he; omega⟩
/-- A new block of cells. -/
theorem new_cells (r : Rep C N0 E h w) {cs : List BV} {X : Array Value} (elem : TypeId) (sz d : Nat) (hX : ∀ (j : Nat) (x : BV), cs[j]? = some x → ∃ v : Value, X[j]? = some v ∧ IsB E x v) (hd : sz = 0 → d = 0) (hs : cs.length + d * sz ≤ X.size) (hm : sz < mark := by decide) :
    Step C N0 E h w (extE E h.next ⟨w.heap.size, 0, d⟩) (h.new (.cells cs sz)) (w.alloc (.cells X elem)) := by
  refine step_alloc r _ _ ⟨w.heap.size, 0, d⟩ rfl ⟨X, elem, (0, 0), ?_, fun j x hj => ?_, fun j _ => by omega, ⟨fun h0 => hd (by rw [← (st_lt hm).1]; exact h0), fun e he => by rw [(st_lt hm).2] at he; omega⟩, by rw [(st_lt hm).1]; simpa using hs⟩
  · show (w.heap.push _)[w.heap.size]? = _
    simp
  · obtain ⟨v, hv, hx⟩ := hX j x hj
    exact ⟨v, by rw [Nat.zero_add]; exact hv, hx.mono (extE_sub r.none)⟩
theorem new_typed (r : Rep C N0 E h w) {cs : List BV} {X : Array Value} (elem : TypeId) (hX : ∀ (j : Nat) (x : BV), cs[j]? = some x → ∃ v : Value, X[j]? = some v ∧ IsB E x v) (hs : X.size = cs.length) :
    Step C N0 E h w (extE E h.next ⟨w.heap.size, 0, 0⟩) (h.new (.cells cs (mark * (elem + 1)))) (w.alloc (.cells X elem)) := by
  refine step_alloc r _ _ ⟨w.heap.size, 0, 0⟩ rfl ⟨X, elem, (0, 0), ?_, fun j x hj => ?_, fun j _ => by omega, ⟨fun _ => rfl, fun e he => ⟨Nat.succ.inj ((st_typed elem (size := 0) (by decide)).2.symm.trans he), fun _ => ⟨rfl, hs⟩⟩⟩, by simp [hs]⟩
  · show (w.heap.push _)[w.heap.size]? = _
    simp
  · obtain ⟨v, hv, hx⟩ := hX j x hj
    exact ⟨v, by rw [Nat.zero_add]; exact hv, hx.mono (extE_sub r.none)⟩
theorem zeroOf_is {t : TypeId} {cs : List BV} (hz : zeroOf C t = some cs) : ∃ z, pureOf C.P (zeroValue t) = some z ∧ ∀ E, IsL E cs z.cells.toList := by
  unfold zeroOf at hz
  cases e : pureOf C.P (zeroValue t) with
  | none => rw [e] at hz; cases hz
  | some z =>
    rw [e] at hz
    exact ⟨z, rfl, fun E => (cellsOf_is (E := E) hz (isC_emb E z)).1⟩
theorem alloc_ok {t : Tmps} {o : Oper} {elem : TypeId} {r : R} (ho : o.op = .alloc elem) (hr : opAlloc C elem h = some (r, h')) : OpOk C N0 t o h r h' := by
  unfold opAlloc at hr
  cases hz : zeroOf C elem with
  | none => rw [hz] at hr; cases hr
  | some cs =>
    rw [hz] at hr
    cases hr
    obtain ⟨z, hp, hL⟩ := zeroOf_is hz
    intro E w a r ht
    have hlen := isL_len (hL E)
    have hX : ∀ (j : Nat) (x : BV), cs[j]? = some x → ∃ v : Value, z.cells[j]? = some v ∧ IsB E x v := fun j x hx => by
      obtain ⟨v, hv, hb⟩ := isL_at (hL E) j x hx
      exact ⟨v, by rwa [Array.getElem?_toList] at hv, hb⟩
    have hs : Step C N0 E h w (extE E h.next ⟨w.heap.size, 0, 0⟩) (h.new (.cells cs (if C.marked elem then mark * (elem + 1) else 0))) (w.alloc (.cells z.cells elem)) := by
      split
      · exact new_typed r elem hX (by simpa using hlen.symm)
      · exact new_cells r elem 0 0 hX (fun _ => rfl) (by
          simp at hlen
          omega)
    refine ⟨_, _, .value (.pointer (some ⟨w.heap.size, 0, none⟩)), ?_, hs, .v (isA_one ⟨_, extE_at _ _ _, rfl⟩)⟩
    simp only [execOp, ho, Instr.alloc, Sem.run_bind, pureOf_run hp w, Result.andThen_ok]
    rfl
theorem box_ok {t : Tmps} {o : Oper} {elem : TypeId} {x : Operand} {r : R} (ho : o.op = .box elem x) (hr : opBox (opd t x) h = some (r, h')) : OpOk C N0 t o h r h' := by
  unfold opBox at hr
  cases hz : cellsOf (opd t x) with
  | none => rw [hz] at hr; cases hr
  | some cs =>
    rw [hz] at hr
    cases hr
    intro E w a r ht
    obtain ⟨hL, _⟩ := cellsOf_is hz (ht.opd x)
    have hs := new_cells r (cs := cs) (X := (a.eval x).cells) elem 0 0 (fun j x hx => by
      obtain ⟨v, hv, hb⟩ := isL_at hL j x hx
      exact ⟨v, by rwa [Array.getElem?_toList] at hv, hb⟩) (fun _ => rfl) (by
        have := isL_len hL
        simp at this
        omega)
    refine ⟨_, _, .value (.pointer (some ⟨w.heap.size, 0, none⟩)), ?_, hs, .v (isA_one ⟨_, extE_at _ _ _, rfl⟩)⟩
    simp only [execOp, ho, Instr.box, Sem.run_bind]
    rfl
end Go.Proofs.YtlhaaokldjdnnaaGreatDoor.Ev
namespace Go.Proofs.YtlhaaokldjdnnaaGreatDoor.Ev
open Go.RowKit
set_option linter.unusedVariables false
set_option linter.unusedSimpArgs false
variable {C : Cfg} {N0 : Nat} {E E' E1 : Env} {h h' h1 : Hp} {w w' w1 : World}

theorem add_here (b o j : Nat) : (⟨b, o, none⟩ : Addr).add j = ⟨b, o + j, none⟩ := by unfold Addr.add; split <;> simp_all
theorem cell_of {b o : Nat} {X : Array Value} {t : TypeId} {fr : Nat × Nat} (hw : w.heap[b]? = some (.cells X t fr)) : w.cell? ⟨b, o, none⟩ = X[o]? := by
  simp [World.cell?, hw]
theorem frozen_of {b o : Nat} {X : Array Value} {t : TypeId} {fr : Nat × Nat} (hw : w.heap[b]? = some (.cells X t fr)) (hf : ¬ (fr.1 ≤ o ∧ o < fr.2)) : w.frozen? ⟨b, o, none⟩ = false := by
  obtain ⟨lo, hi⟩ := fr
  simp only [World.frozen?, hw]
  simp only at hf
  simp
  omega

theorem readCells_is (r : Rep C N0 E h w) {b off n : Nat} {cs : List BV} (hr : readCells h b off n = some cs) {l : Loc} (hl : E b = some l) :
    ∃ vs : List Value, IsL E cs vs ∧ vs.length = n ∧ ∀ (j : Nat) (u : Value), vs[j]? = some u → w.cell? ⟨l.r, l.s + off + j, none⟩ = some u := by
  unfold readCells at hr
  cases hb : h.get b with
  | none => rw [hb] at hr; cases hr
  | some x =>
    cases x with
    | map es k => rw [hb] at hr; cases hr
    | iter s p => rw [hb] at hr; cases hr
    | cells c sz =>
      rw [hb] at hr
      simp only at hr
      by_cases hn : off + n ≤ c.length
      · rw [if_pos hn] at hr
        cases hr
        obtain ⟨m, e, X, t, fr, hw, hX, _⟩ := r.live b _ hb
        obtain rfl : l = m := by rw [hl] at e; exact Option.some.inj e
        have hx : ∀ j, j < n → ∃ v : Value, X[l.s + (off + j)]? = some v ∧ ∃ x, c[off + j]? = some x ∧ IsB E x v := fun j hj => by
          obtain ⟨v, hv, hb⟩ := hX (off + j) c[off + j] (List.getElem?_eq_getElem (by omega))
          exact ⟨v, hv, _, List.getElem?_eq_getElem (by omega), hb⟩
        refine ⟨(List.range n).map fun j => (X[l.s + (off + j)]?).getD undef, ?_, by simp, fun j u hu => ?_⟩
        · refine isL_of_at (by simp <;> omega) fun j x v hj hv => ?_
          rw [List.getElem?_take] at hj
          by_cases hjn : j < n
          · rw [if_pos hjn, List.getElem?_drop] at hj
            obtain ⟨u, hu, y, hy, hb⟩ := hx j hjn
            rw [hj] at hy
            cases hy
            simp [hjn, hu] at hv
            subst hv
            exact hb
          · rw [if_neg hjn] at hj; cases hj
        · rw [cell_of hw]
          by_cases hjn : j < n
          · obtain ⟨v, hv, _⟩ := hx j hjn
            simp [hjn, hv] at hu
            subst hu
            rw [Nat.add_assoc]
            exact hv
          · simp [hjn] at hu
      · rw [if_neg hn] at hr; cases hr
theorem tableCells_is (r : Rep C N0 E h w) {g : Nat} : ∀ {n off : Nat} {cs : List BV}, tableCells C g off n = some cs →
    ∃ vs : List Value, IsL E cs vs ∧ vs.length = n ∧ ∀ (j : Nat) (u : Value), vs[j]? = some u → w.cell? ⟨g, off + j, none⟩ = some u
  | 0, off, cs, hc => by
    simp only [tableCells, Option.some.injEq] at hc
    subst hc
    exact ⟨[], trivial, rfl, fun j u hu => by simp at hu⟩
  | n + 1, off, cs, hc => by
    simp only [tableCells] at hc
    cases e1 : C.table g off with
    | none => rw [e1] at hc; cases hc
    | some v =>
      cases e2 : tableCells C g (off + 1) n with
      | none => rw [e1, e2] at hc; cases hc
      | some l =>
        rw [e1, e2] at hc
        cases hc
        obtain ⟨vs, h1, h2, h3⟩ := tableCells_is r e2
        refine ⟨v :: vs, ⟨rfl, h1⟩, by simp [h2], fun j u hu => ?_⟩
        cases j with
        | zero =>
          simp at hu
          subst hu
          exact (r.tab _ _ _ e1).2
        | succ j =>
          simp at hu
          have := h3 j u hu
          rwa [show off + (j + 1) = off + 1 + j by omega]
theorem readAt_is (r : Rep C N0 E h w) {p : BV} {n : Nat} {cs : List BV} (hr : readAt C h p n = some cs) {v : Value} (hv : IsB E p v) :
    ∃ (b o : Nat) (vs : List Value), v = .pointer (some ⟨b, o, none⟩) ∧ IsL E cs vs ∧ vs.length = n ∧ ∀ (j : Nat) (u : Value), vs[j]? = some u → w.cell? ((⟨b, o, none⟩ : Addr).add j) = some u := by
  cases p with
  | ptr b off =>
    obtain ⟨l, hl, rfl⟩ := hv
    obtain ⟨vs, h1, h2, h3⟩ := readCells_is r hr hl
    exact ⟨_, _, vs, rfl, h1, h2, fun j u hu => by rw [add_here]; exact h3 j u hu⟩
  | gp g off =>
    obtain rfl := hv
    obtain ⟨vs, h1, h2, h3⟩ := tableCells_is r hr
    exact ⟨_, _, vs, rfl, h1, h2, fun j u hu => by rw [add_here]; exact h3 j u hu⟩
  | _ => cases hr
theorem load_is (r : Rep C N0 E h w) {t : TypeId} {x y : AV} (hl : load C t x h = some y) {v : Value} (hv : IsA E x v) : ∃ u, (Instr.loadAt t v).run C.P w = .ok u w ∧ IsA E y u := by
  unfold load at hl
  cases e1 : asOne x with
  | none => rw [e1] at hl; cases hl
  | some p =>
    cases e2 : aggOf C t with
    | none => rw [e1, e2] at hl; cases hl
    | some g =>
      cases e3 : szOf C t with
      | none => rw [e1, e2, e3] at hl; cases hl
      | some n =>
        rw [e1, e2, e3] at hl
        simp only at hl
        cases e4 : readAt C h p (if g then n else 1) with
        | none => rw [e4] at hl; cases hl
        | some cs =>
          rw [e4] at hl
          cases hl
          obtain ⟨b, o, vs, rfl, hL, hlen, hc⟩ := readAt_is r e4 (asOne_is e1 hv)
          have ha := pureOf_run e2 w
          have hz := pureOf_run e3 w
          cases g with
          | true =>
            simp at hlen
            refine ⟨.agg vs.toArray, ?_, ⟨vs, hL, rfl⟩⟩
            have := run_loadCells_list (P := C.P) w ⟨b, o, none⟩ vs hc
            rw [hlen] at this
            simp only [Instr.loadAt, Instr.sureAddr, loadVar, Sem.run_bind, Sem.run_pure, Result.andThen_ok, ha, if_true, hz, this]
          | false =>
            simp at hlen
            match vs, hL, hlen, hc with
            | [u], hL, _, hc =>
              have h0 := hc 0 u rfl
              rw [add_here, Nat.add_zero] at h0
              match cs, hL with
              | [c], hL =>
                refine ⟨u, ?_, hL.1⟩
                simp only [Instr.loadAt, Instr.sureAddr, loadVar, Sem.run_bind, Sem.run_pure, Result.andThen_ok, ha]
                simp [h0]
              | [], hL => exact hL.elim
              | _ :: _ :: _, hL => exact hL.2.elim
theorem load_ok {t : Tmps} {o : Oper} {ty : TypeId} {x : Operand} {y : AV} (ho : o.op = .load ty x) (hl : load C ty (opd t x) h = some y) : OpQ C N0 t o h (.v y) h :=
  ok_still fun E w a r ht => by
    obtain ⟨u, hu, hy⟩ := load_is r hl (ht.opd x)
    exact ⟨.value u, by simp only [execOp, ho, Sem.run_bind, hu]; rfl, .v hy⟩

/-! ### stores -/
def arrSet (X : Array Value) (o : Nat) : List Value → Array Value
  | [] => X
  | v :: vs => arrSet (X.setIfInBounds o v) (o + 1) vs
theorem arrSet_size : ∀ (vs : List Value) (X : Array Value) (o : Nat), (arrSet X o vs).size = X.size
  | [], _, _ => rfl
  | v :: vs, X, o => by rw [arrSet, arrSet_size vs, Array.size_setIfInBounds]
theorem arrSet_at : ∀ (vs : List Value) (X : Array Value) (o j : Nat), o + vs.length ≤ X.size → (arrSet X o vs)[j]? = if o ≤ j ∧ j < o + vs.length then vs[j - o]? else X[j]?
  | [], X, o, j, _ => by
    rw [if_neg (by simp <;> omega)]
    rfl
  | v :: vs, X, o, j, hl => by
    simp at hl
    rw [arrSet, arrSet_at vs _ (o + 1) j (by simp <;> omega)]
    by_cases h1 : o + 1 ≤ j ∧ j < o + 1 + vs.length
    · rw [if_pos h1, if_pos (by simp <;> omega)]
      obtain ⟨k, rfl⟩ : ∃ k, j = o + 1 + k := ⟨j - (o + 1), by omega⟩
      rw [show o + 1 + k - o = k + 1 by omega, show o + 1 + k - (o + 1) = k by omega]
      rfl
    · rw [if_neg h1]
      by_cases h2 : j = o
      · subst h2
        rw [if_pos (by simp <;> omega), Nat.sub_self]
        simp [show j < X.size by omega]
      · rw [if_neg (by simp <;> omega)]
        rw [Array.getElem?_setIfInBounds_ne (fun e => h2 e.symm)]
theorem setCell_block (w : World) {b o : Nat} {X : Array Value} {t : TypeId} {fr : Nat × Nat} (v : Value) (hw : w.heap[b]? = some (.cells X t fr)) :
    (w.setCell ⟨b, o, none⟩ v).heap[b]? = some (.cells (X.setIfInBounds o v) t fr) ∧ ∀ k, k ≠ b → (w.setCell ⟨b, o, none⟩ v).heap[k]? = w.heap[k]? := by
  constructor
  · show (w.heap.modify b _)[b]? = _
    rw [Array.getElem?_modify, if_pos rfl, hw]
    rfl
  · intro k hk
    show (w.heap.modify b _)[k]? = _
    rw [Array.getElem?_modify, if_neg (fun e => hk e.symm)]
theorem setCells_block : ∀ (vs : List Value) (o : Nat) (w : World) {b : Nat} {X : Array Value} {t : TypeId} {fr : Nat × Nat}, w.heap[b]? = some (.cells X t fr) →
    (w.setCells b o vs).heap[b]? = some (.cells (arrSet X o vs) t fr) ∧ (∀ k, k ≠ b → (w.setCells b o vs).heap[k]? = w.heap[k]?) ∧ (w.setCells b o vs).heap.size = w.heap.size ∧ (w.setCells b o vs).os = w.os ∧ (w.setCells b o vs).tape = w.tape ∧ (w.setCells b o vs).output = w.output
  | [], o, w, b, X, t, fr, hw => ⟨hw, fun _ _ => rfl, rfl, rfl, rfl, rfl⟩
  | v :: vs, o, w, b, X, t, fr, hw => by
    obtain ⟨h1, h2⟩ := setCell_block w (o := o) v hw
    obtain ⟨k1, k2, k3, k4, k5, k6⟩ := setCells_block vs (o + 1) _ h1
    refine ⟨k1, fun k hk => (k2 k hk).trans (h2 k hk), k3.trans (World.size_setCell ..), k4, k5, k6⟩
theorem setCells_at : ∀ (xs : List BV) (c : List BV) (o j : Nat), o + xs.length ≤ c.length → (setCells c o xs)[j]? = if o ≤ j ∧ j < o + xs.length then xs[j - o]? else c[j]?
  | [], c, o, j, _ => by
    rw [if_neg (by simp <;> omega)]
    rfl
  | x :: xs, c, o, j, hl => by
    simp at hl
    rw [setCells, setCells_at xs _ (o + 1) j (by simp <;> omega)]
    by_cases h1 : o + 1 ≤ j ∧ j < o + 1 + xs.length
    · rw [if_pos h1, if_pos (by simp <;> omega)]
      obtain ⟨k, rfl⟩ : ∃ k, j = o + 1 + k := ⟨j - (o + 1), by omega⟩
      rw [show o + 1 + k - o = k + 1 by omega, show o + 1 + k - (o + 1) = k by omega]
      rfl
    · rw [if_neg h1]
      by_cases h2 : j = o
      · subst h2
        rw [if_pos (by simp <;> omega), Nat.sub_self]
        simp [show j < c.length by omega]
      · rw [if_neg (by simp <;> omega)]
        rw [List.getElem?_set_ne (fun e => h2 e.symm)]
theorem setCells_len : ∀ (xs : List BV) (c : List BV) (o : Nat), (setCells c o xs).length = c.length
  | [], _, _ => rfl
  | x :: xs, c, o => by rw [setCells, setCells_len xs, List.length_set]

/-- Cells written into a block. -/
theorem write_cells (r : Rep C N0 E h w) {b off : Nat} {c xs : List BV} {sz : Nat} (hb : h.get b = some (.cells c sz)) {l : Loc} (hl : E b = some l) {vs : List Value} (hL : IsL E xs vs) (h1 : ∀ v ∈ vs, v.oneCell' = true) (ho : off + xs.length ≤ c.length) :
    (storeCells ⟨l.r, l.s + off, none⟩ vs).run C.P w = .ok () (w.setCells l.r (l.s + off) vs) ∧ Step C N0 E h w E (h.put b (.cells (setCells c off xs) sz)) (w.setCells l.r (l.s + off) vs) := by
  obtain ⟨m, e, X, t, fr, hw, hX, hf, hd, hs⟩ := r.live b _ hb
  obtain rfl : l = m := by rw [hl] at e; exact Option.some.inj e
  have hlen := isL_len hL
  obtain ⟨k1, k2, k3, k4, k5, k6⟩ := setCells_block vs (l.s + off) w hw
  constructor
  · refine run_storeCells_cells l.r (l.s + off) vs 0 w (fun j hj => ?_) (fun j hj => ?_) h1
    · rw [cell_of hw, Nat.add_zero]
      have : l.s + off + j < X.size := by omega
      simp [this]
    · exact frozen_of hw (by rw [Nat.add_zero, Nat.add_assoc]; exact hf (off + j) (by omega))
  · refine step_set r hb hl k3 k2 k4 k5 k6 ⟨_, t, fr, k1, fun j x hj => ?_, fun j hj => ?_, ⟨hd.1, fun e he => ?_⟩, ?_⟩
    · rw [setCells_at _ _ _ _ ho] at hj
      rw [arrSet_at _ _ _ _ (by omega)]
      by_cases hi : off ≤ j ∧ j < off + xs.length
      · rw [if_pos hi] at hj
        obtain ⟨v, hv, hx⟩ := isL_at hL _ _ hj
        refine ⟨v, ?_, hx⟩
        rw [if_pos (by omega), show l.s + j - (l.s + off) = j - off by omega]
        exact hv
      · rw [if_neg hi] at hj
        obtain ⟨v, hv, hx⟩ := hX j x hj
        refine ⟨v, ?_, hx⟩
        rw [if_neg (by omega)]
        exact hv
    · rw [setCells_len] at hj
      exact hf j hj
    · rw [setCells_len, arrSet_size]
      exact hd.2 e he
    · rw [setCells_len, arrSet_size]
      exact hs
theorem store_ok {t : Tmps} {o : Oper} {ty : TypeId} {x y : Operand} (ho : o.op = .store ty x y) (hl : store C ty (opd t x) (opd t y) h = some h') : OpOk C N0 t o h (.v (plain undef)) h' := by
  unfold store at hl
  cases e1 : asOne (opd t x) with
  | none => rw [e1] at hl; cases hl
  | some p =>
    cases e2 : cellsOf (opd t y) with
    | none => rw [e1, e2] at hl; cases p <;> cases hl
    | some cs =>
      cases e3 : szOf C ty with
      | none => rw [e1, e2, e3] at hl; cases p <;> cases hl
      | some n =>
        rw [e1, e2, e3] at hl
        cases p with
        | ptr b off =>
          simp only at hl
          cases hb : h.get b with
          | none => rw [hb] at hl; cases hl
          | some z =>
            cases z with
            | map es k => rw [hb] at hl; cases hl
            | iter s p => rw [hb] at hl; cases hl
            | cells c sz =>
              rw [hb] at hl
              simp only at hl
              by_cases hc : cs.length = n ∧ off + cs.length ≤ c.length
              · rw [if_pos hc] at hl
                cases hl
                intro E w a r ht
                obtain ⟨l, hl, hv⟩ := asOne_is e1 (ht.opd x)
                obtain ⟨hL, h1⟩ := cellsOf_is e2 (ht.opd y)
                obtain ⟨hrun, hst⟩ := write_cells r hb hl hL h1 hc.2
                have hz := pureOf_run e3 w
                have hlen := isL_len hL
                refine ⟨E, _, .skip, ?_, hst, .skip⟩
                simp only [execOp, ho, Instr.storeAt, hv, Instr.sureAddr, storeVar, Sem.run_bind, Sem.run_pure, Result.andThen_ok, hz]
                rw [if_neg (by simp at hlen ⊢; omega)]
                simp only [Result.andThen_ok, hrun]
              · rw [if_neg hc] at hl; cases hl
        | _ => cases hl
end Go.Proofs.YtlhaaokldjdnnaaGreatDoor.Ev
namespace Go.Proofs.YtlhaaokldjdnnaaGreatDoor.Ev
open Go.RowKit
set_option linter.unusedVariables false
set_option linter.unusedSimpArgs false
variable {C : Cfg} {N0 : Nat} {E E' E1 : Env} {h h' h1 : Hp} {w w' w1 : World}

theorem run_under {P : Program} {t : TypeId} {d : TypeDesc} (hd : P.underlying t = some d) (w : World) : (underlying t).run P w = .ok d w := by
  simp [underlying, hd]

theorem nil_ok {t : Tmps} {o : Oper} {x : Operand} {r : R} (ho : o.op = .nilCheck x) (hr : opNil (opd t x) h = some (r, h')) : OpQ C N0 t o h r h' := by
  unfold opNil at hr
  cases e : asOne (opd t x) with
  | none => rw [e] at hr; cases hr
  | some p =>
    rw [e] at hr
    have key : ∀ (E : Env) (a : Act), TRel E t a → IsB E p (a.eval x) := fun E a ht => asOne_is e (ht.opd x)
    cases p with
    | ptr b off =>
      cases hr
      refine ok_still fun E w a _ ht => ?_
      obtain ⟨l, hl, hv⟩ := key E a ht
      exact ⟨.value (a.eval x), by simp only [execOp, ho, hv]; rfl, .v (isA_one (key E a ht))⟩
    | fn f caps =>
      cases hr
      refine ok_still fun E w a _ ht => ?_
      obtain ⟨l, hl, hv⟩ := key E a ht
      exact ⟨.value (a.eval x), by simp only [execOp, ho, hv]; rfl, .v (isA_one (key E a ht))⟩
    | k y =>
      match y, hr, key with
      | .func (.func f) p q, hr, key =>
        cases hr
        refine ok_still fun E w a _ ht => ?_
        have hv : a.eval x = _ := key E a ht
        exact ⟨.value (a.eval x), by simp only [execOp, ho, hv]; rfl, .v (isA_one (key E a ht))⟩
    | _ => cases hr

theorem fieldOff_is {s : TypeId} {i n : Nat} (hf : fieldOff C s i = some n) : ∃ fields f m, C.P.underlying s = some (.struct fields) ∧ fields[i]? = some f ∧ szOf C f.type = some m ∧ m ≠ 0 ∧ f.offset = n := by
  unfold fieldOff at hf
  split at hf
  · rename_i fields hu
    split at hf
    · rename_i f hi
      split at hf
      · rename_i m hm
        split at hf
        · cases hf
        · rename_i h0
          cases hf
          exact ⟨fields, f, m, hu, hi, hm, h0, rfl⟩
      · cases hf
    · cases hf
  · cases hf
theorem fieldAddr_ok {t : Tmps} {o : Oper} {s : TypeId} {x : Operand} {i : Nat} {r : R} (ho : o.op = .fieldAddr s x i) (hr : opFieldAddr C s (opd t x) i h = some (r, h')) : OpQ C N0 t o h r h' := by
  unfold opFieldAddr at hr
  split at hr
  · rename_i b off n e1 e2
    cases hr
    obtain ⟨fields, f, m, hu, hi, hm, h0, rfl⟩ := fieldOff_is e2
    refine ok_still fun E w a _ ht => ?_
    obtain ⟨l, hl, hv⟩ := asOne_is e1 (ht.opd x)
    refine ⟨.value (.pointer (some ⟨l.r, l.s + (off + f.offset), none⟩)), ?_, .v (isA_one ⟨l, hl, rfl⟩)⟩
    simp only [execOp, ho, Instr.fieldAt, Sem.run_bind, run_under hu, Result.andThen_ok, hi, hv, Instr.sureAddr, Sem.run_pure, fieldPlace, pureOf_run hm w, h0, if_false, add_here]
    rw [Nat.add_assoc]
  · cases hr

theorem elemOf_is {t e : TypeId} {n : Nat} (he : elemOf C t = some (e, n)) : C.P.underlying t = some (.slice e) ∧ szOf C e = some n := by
  unfold elemOf at he
  split at he
  · rename_i e' hu
    split at he
    · rename_i m hm
      cases he
      exact ⟨hu, hm⟩
    · cases he
  · cases he
theorem arrayOf_is {t : TypeId} {len n : Nat} (he : arrayOf C t = some (len, n)) : ∃ e, C.P.underlying t = some (.array len e) ∧ szOf C e = some n := by
  unfold arrayOf at he
  split at he
  · rename_i l e' hu
    split at he
    · rename_i m hm
      cases he
      exact ⟨_, hu, hm⟩
    · cases he
  · cases he
theorem indexAddr_ok {t : Tmps} {o : Oper} {ty : TypeId} {x ix : Operand} {r : R} (ho : o.op = .indexAddr ty x ix) (hr : opIndexAddr C ty (opd t x) (opd t ix) h = some (r, h')) : OpQ C N0 t o h r h' := by
  unfold opIndexAddr at hr
  split at hr
  · rename_i b off len cap i e1 e2
    split at hr
    · rename_i el size e3
      split at hr
      · rename_i hi
        cases hr
        obtain ⟨hu, hz⟩ := elemOf_is e3
        refine ok_still fun E w a _ ht => ?_
        obtain ⟨l, hl, hv⟩ := asOne_is e1 (ht.opd x)
        obtain ⟨k, hk⟩ := intOf_is e2 (ht.opd ix)
        refine ⟨.value (.pointer (some ⟨l.r, l.s + (off + i.toNat * size), none⟩)), ?_, .v (isA_one ⟨l, hl, rfl⟩)⟩
        simp only [execOp, ho, Instr.indexAt, asIntOf, hk, Sem.run_bind, Sem.run_pure, Result.andThen_ok, run_under hu, hv]
        simp only [hi.1, hi.2, and_self, if_true, Sem.run_bind, Result.andThen_ok, pureOf_run hz w, add_here, Sem.run_pure]
        rw [Nat.add_assoc]
      · cases hr
    · cases hr
  · rename_i b off i e1 e2
    split at hr
    · rename_i len size e3
      split at hr
      · rename_i hi
        cases hr
        obtain ⟨el, hu, hz⟩ := arrayOf_is e3
        refine ok_still fun E w a _ ht => ?_
        obtain ⟨l, hl, hv⟩ := asOne_is e1 (ht.opd x)
        obtain ⟨k, hk⟩ := intOf_is e2 (ht.opd ix)
        refine ⟨.value (.pointer (some ⟨l.r, l.s + (off + i.toNat * size), none⟩)), ?_, .v (isA_one ⟨l, hl, rfl⟩)⟩
        simp only [execOp, ho, Instr.indexAt, asIntOf, hk, Sem.run_bind, Sem.run_pure, Result.andThen_ok, run_under hu, hv, Instr.sureAddr]
        simp only [hi.1, hi.2, and_self, if_true, Sem.run_bind, Result.andThen_ok, pureOf_run hz w, add_here, Sem.run_pure]
        rw [Nat.add_assoc]
      · cases hr
    · cases hr
  · rename_i b off i e1 e2
    split at hr
    · rename_i len size e3
      split at hr
      · rename_i hi
        cases hr
        obtain ⟨el, hu, hz⟩ := arrayOf_is e3
        refine ok_still fun E w a _ ht => ?_
        have hv : a.eval x = _ := asOne_is e1 (ht.opd x)
        obtain ⟨k, hk⟩ := intOf_is e2 (ht.opd ix)
        refine ⟨.value (.pointer (some ⟨b, off + i.toNat * size, none⟩)), ?_, .v (isA_one rfl)⟩
        simp only [execOp, ho, Instr.indexAt, asIntOf, hk, Sem.run_bind, Sem.run_pure, Result.andThen_ok, run_under hu, hv, Instr.sureAddr]
        simp only [hi.1, hi.2, and_self, if_true, Sem.run_bind, Result.andThen_ok, pureOf_run hz w, add_here, Sem.run_pure]
      · cases hr
    · cases hr
  · cases hr

theorem isL_cut : ∀ {l : List BV} {vs : List Value} (a n : Nat), IsL E l vs → IsL E ((l.drop a).take n) ((vs.drop a).take n) := by
  intro l vs a n hL
  have hl := isL_len hL
  refine isL_of_at (by simp [hl]) fun j x v hx hv => ?_
  rw [List.getElem?_take] at hx hv
  by_cases hj : j < n
  · rw [if_pos hj, List.getElem?_drop] at hx hv
    obtain ⟨u, hu, hb⟩ := isL_at hL _ _ hx
    rw [hv] at hu
    cases hu
    exact hb
  · rw [if_neg hj] at hx; cases hx
theorem field_ok {t : Tmps} {o : Oper} {ty : TypeId} {x : Operand} {i : Nat} {r : R} (ho : o.op = .field ty x i) (hr : opField C ty (opd t x) i h = some (r, h')) : OpQ C N0 t o h r h' := by
  unfold opField at hr
  split at hr
  · rename_i cs fields e1 hu
    split at hr
    · rename_i f hi
      split at hr
      · rename_i g n hg hn
        by_cases hle : f.offset + (if g then n else 1) ≤ cs.length
        · rw [if_pos hle] at hr
          cases hr
          refine ok_still fun E w a _ ht => ?_
          have hx := ht.opd x
          rw [e1] at hx
          obtain ⟨vs, hL, hv⟩ := hx
          replace hL : IsL E cs vs := hL
          have hlen : cs.length = vs.length := isL_len hL
          cases g with
          | true =>
            refine ⟨.value (.agg (vs.toArray.extract f.offset (f.offset + n))), ?_, .v ⟨(vs.drop f.offset).take n, isL_cut _ _ hL, ?_⟩⟩
            · simp only [execOp, ho, Instr.field, Sem.run_bind, run_under hu, Result.andThen_ok, hi, hv, asAgg, Sem.run_pure, part, pureOf_run hg w, if_true, pureOf_run hn w]
            · congr 1
              apply Array.toList_inj.1
              simp [List.extract_eq_take_drop]
          | false =>
            simp only [Bool.false_eq_true, if_false] at hle ⊢
            obtain ⟨v, hvv⟩ : ∃ v, vs[f.offset]? = some v := ⟨vs[f.offset]'(by omega), List.getElem?_eq_getElem _⟩
            have hc : (cs.drop f.offset).take 1 = [cs[f.offset]'(by omega)] := by
              rw [List.drop_eq_getElem_cons (by omega)]
              rfl
            refine ⟨.value v, ?_, .v ?_⟩
            · simp only [execOp, ho, Instr.field, Sem.run_bind, run_under hu, Result.andThen_ok, hi, hv, asAgg, Sem.run_pure, part, pureOf_run hg w]
              simp [hvv]
            · rw [hc]
              obtain ⟨u, hu2, hb⟩ := isL_at hL f.offset _ (List.getElem?_eq_getElem (by omega))
              rw [hvv] at hu2
              cases hu2
              exact hb
        · rw [if_neg hle] at hr; cases hr
      · cases hr
    · cases hr
  · cases hr
theorem isCs_at : ∀ {l : List Cmp} {vs : List Value}, IsCs E l vs → ∀ (j : Nat) (x : Cmp), l[j]? = some x → ∃ v : Value, vs[j]? = some v ∧ IsC E x v
  | [], [], _, j, x, hx => by simp at hx
  | y :: l, v :: vs, h, 0, x, hx => by
    simp at hx
    subst hx
    exact ⟨v, rfl, h.1⟩
  | y :: l, v :: vs, h, j + 1, x, hx => by
    simp at hx
    simpa using isCs_at h.2 j x hx
  | [], _ :: _, h, _, _, _ => h.elim
  | _ :: _, [], h, _, _, _ => h.elim
theorem extract_ok {t : Tmps} {o : Oper} {x : Operand} {i : Nat} {r : R} (ho : o.op = .extract x i) (hr : opExtract (opd t x) i h = some (r, h')) : OpQ C N0 t o h r h' := by
  unfold opExtract at hr
  split at hr
  · rename_i l e1
    split at hr
    · rename_i c hi
      cases hr
      refine ok_still fun E w a _ ht => ?_
      have hx := ht.opd x
      rw [e1] at hx
      obtain ⟨vs, hL, hv⟩ := hx
      obtain ⟨v, hvv, hc⟩ := isCs_at hL _ _ hi
      refine ⟨.value v, ?_, .v hc⟩
      simp only [execOp, ho, Instr.extract, hv]
      simp [hvv]
    · cases hr
  · cases hr
theorem ptrCaps_is {t : Tmps} {a : Act} (ht : TRel E t a) : ∀ {l : List Operand} {cs : List (Nat × Nat)}, ptrCaps t l = some cs → IsCaps E cs (l.map a.eval)
  | [], cs, hc => by
    simp only [ptrCaps, Option.some.injEq] at hc
    subst hc
    exact trivial
  | x :: l, cs, hc => by
    simp only [ptrCaps] at hc
    split at hc
    · rename_i b off r e1 e2
      cases hc
      exact ⟨asOne_is e1 (ht.opd x), ptrCaps_is ht e2⟩
    · cases hc
theorem makeFunc_ok {t : Tmps} {o : Oper} {f : FuncId} {first caps : Array Operand} {r : R} (ho : o.op = .makeFunc (.func f) first caps) (hf : first.size = 0) (hr : opMakeFunc t f caps.toList h = some (r, h')) : OpQ C N0 t o h r h' := by
  unfold opMakeFunc at hr
  split at hr
  · rename_i cs e1
    cases hr
    have : first = #[] := Array.eq_empty_of_size_eq_zero hf
    subst this
    refine ok_still fun E w a _ ht => ⟨.value (.func (.func f) #[] (caps.map a.eval)), by simp only [execOp, ho, Instr.makeFunc, Sem.run_bind, Sem.run_pure, Result.andThen_ok]; simp, .v (isA_one ⟨_, ptrCaps_is ht e1, ?_⟩)⟩
    congr 1
    apply Array.toList_inj.1
    simp
  · cases hr
theorem makeMap_ok {t : Tmps} {o : Oper} {ty : TypeId} {r : R} (ho : o.op = .makeMap ty none) (hr : opMakeMap h = some (r, h')) : OpOk C N0 t o h r h' := by
  unfold opMakeMap at hr
  cases hr
  intro E w a r ht
  have hs := step_alloc r (.map #[] 0) (.map [] 0) ⟨w.heap.size, 0, 0⟩ rfl ⟨[], by show (w.heap.push _)[w.heap.size]? = _; simp, trivial⟩
  refine ⟨_, _, .value (.map (some w.heap.size)), ?_, hs, .v (isA_one ⟨_, extE_at _ _ _, rfl⟩)⟩
  simp only [execOp, ho, Instr.makeMap]
  rfl
theorem range_ok {t : Tmps} {o : Oper} {ty : TypeId} {x : Operand} {r : R} (ho : o.op = .range ty x) (hr : opRange C ty (opd t x) h = some (r, h')) : OpOk C N0 t o h r h' := by
  unfold opRange at hr
  split at hr
  · rename_i s hu e1
    cases hr
    intro E w a r ht
    have hv : a.eval x = _ := asOne_is e1 (ht.opd x)
    have hs := step_alloc r (.stringIter s 0) (.iter s 0) ⟨w.heap.size, 0, 0⟩ rfl ⟨by show (w.heap.push _)[w.heap.size]? = _; simp, rfl⟩
    refine ⟨_, _, .value (.pointer (some ⟨w.heap.size, 0, none⟩)), ?_, hs, .v (isA_one ⟨_, extE_at _ _ _, rfl⟩)⟩
    simp only [execOp, ho, Instr.range, Sem.run_bind, run_under hu, Result.andThen_ok, hv]
    rfl
  · cases hr
theorem next_ok {t : Tmps} {o : Oper} {x : Operand} {r : R} (ho : o.op = .next x true) (hr : opNext (opd t x) h = some (r, h')) : OpOk C N0 t o h r h' := by
  unfold opNext at hr
  split at hr
  · rename_i b e1
    split at hr
    · rename_i s pos hb
      intro E w a r ht
      obtain ⟨l, hl, hv⟩ := asOne_is e1 (ht.opd x)
      obtain ⟨m, e, hw, hs0⟩ := r.live b _ hb
      obtain rfl : l = m := by rw [hl] at e; exact Option.some.inj e
      rw [hs0] at hv
      by_cases hp : pos < s.size
      · rw [if_pos hp] at hr
        cases hr
        have hlt : l.r < w.heap.size := by
          rcases Nat.lt_or_ge l.r w.heap.size with h | h
          · exact h
          · rw [Array.getElem?_eq_none h] at hw; cases hw
        have hst := step_set (w' := { w with heap := w.heap.setIfInBounds l.r (.stringIter s (pos + (Utf8.decode s pos).2)) }) (y := .iter s (pos + (Utf8.decode s pos).2)) r hb hl (by simp)
          (fun k hk => by simp [Array.getElem?_setIfInBounds_ne (fun e => hk e.symm)]) rfl rfl rfl ⟨by simp [hlt], hs0⟩
        refine ⟨E, _, .value (.tuple #[.bool true, .int .i64 pos, .int .i32 (Utf8.decode s pos).1]), ?_, hst, .v (isA_emb E _)⟩
        simp only [execOp, ho, Instr.next, hv, Nat.add_zero, Sem.run_bind]
        simp [getObj, setObj, Sem.run, hw, hp, goInt]
      · rw [if_neg hp] at hr
        cases hr
        refine ⟨E, w, .value (.tuple #[.bool false]), ?_, Step.refl r, .v (isA_emb E _)⟩
        simp only [execOp, ho, Instr.next, hv, Nat.add_zero, Sem.run_bind]
        simp [getObj, Sem.run, hw, hp]
    · cases hr
  · cases hr
end Go.Proofs.YtlhaaokldjdnnaaGreatDoor.Ev
