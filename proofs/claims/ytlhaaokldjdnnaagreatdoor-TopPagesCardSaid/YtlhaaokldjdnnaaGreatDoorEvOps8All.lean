/-
  Parts, one behind the other: The evaluator's operations are the model's: values built, slices made. No condition; nothing of the program stands here. | The evaluator's operations are the model's: all of them. No condition; nothing of the program stands here.
-/
import Derived.Test.YtlhaaokldjdnnaaGreatDoorEvOps6All
import Derived.Laws.Tables
import Derived.Great.BuildSlice
import Derived.IntWalk
import Derived.Test.YtlhaaokldjdnnaaGreatDoorEvOpAll
namespace Go.Proofs.YtlhaaokldjdnnaaGreatDoor.Ev
open Go.RowKit
set_option linter.unusedVariables false
set_option linter.unusedSimpArgs false
variable {C : Cfg} {N0 : Nat} {E E' E1 : Env} {h h' h1 : Hp} {w w' w1 : World}

theorem szOf_is {t : TypeId} {n : Nat} (hz : szOf C t = some n) : ∃ i, C.P.info? t = some i ∧ i.size = n := by
  unfold szOf at hz
  have hr := pureOf_run hz default
  cases e : C.P.info? t with
  | none => simp [sizeOf, typeInfo, e] at hr
  | some i =>
    simp [sizeOf, typeInfo, e] at hr
    exact ⟨i, rfl, hr⟩
theorem zero_info {t : TypeId} {z : Value} (hz : pureOf C.P (zeroValue t) = some z) : ∃ i, C.P.info? t = some i ∧ i.zero = some z := by
  have hr := pureOf_run hz default
  cases e : C.P.info? t with
  | none => simp [zeroValue, typeInfo, e] at hr
  | some i =>
    cases e2 : i.zero with
    | none => simp [zeroValue, typeInfo, e, e2] at hr
    | some z' =>
      simp [zeroValue, typeInfo, e, e2] at hr
      exact ⟨i, rfl, by rw [e2, hr]⟩
theorem placesOf_is : ∀ {fs : List Field} {ps : List (Nat × Nat)}, placesOf C fs = some ps → fs.mapM (fun f => (C.P.info? f.type).map fun i => (f.offset, i.size)) = some ps
  | [], ps, hp => by
    simp only [placesOf, Option.some.injEq] at hp
    subst hp
    rfl
  | f :: fs, ps, hp => by
    simp only [placesOf] at hp
    cases e : szOf C f.type with
    | none => rw [e] at hp; cases hp
    | some n =>
      cases e2 : placesOf C fs with
      | none => rw [e, e2] at hp; cases hp
      | some r =>
        rw [e, e2] at hp
        cases hp
        obtain ⟨i, hi, rfl⟩ := szOf_is e
        simp [List.mapM_cons, hi, placesOf_is e2]

theorem foldl_arrSet (off : Nat) : ∀ (l : List Value) (k : Nat) (X : Array Value), (l.zipIdx k).foldl (fun cs (x : Value × Nat) => cs.setIfInBounds (off + x.2) x.1) X = arrSet X (off + k) l
  | [], _, _ => rfl
  | v :: l, k, X => by
    rw [List.zipIdx_cons, List.foldl_cons, foldl_arrSet off l (k + 1), arrSet, Nat.add_assoc]
theorem isL_set {cs xs : List BV} {X : Array Value} {vs : List Value} {off : Nat} (h1 : IsL E cs X.toList) (h2 : IsL E xs vs) (ho : off + xs.length ≤ cs.length) : IsL E (setCells cs off xs) (arrSet X off vs).toList := by
  have hl := isL_len h1
  have hl2 := isL_len h2
  simp at hl
  refine isL_of_at (by rw [setCells_len]; simp [arrSet_size, hl]) fun j x v hj hv => ?_
  rw [Array.getElem?_toList, arrSet_at _ _ _ _ (by omega)] at hv
  rw [setCells_at _ _ _ _ ho] at hj
  by_cases hi : off ≤ j ∧ j < off + xs.length
  · rw [if_pos hi] at hj
    rw [if_pos (by omega)] at hv
    obtain ⟨u, hu, hb⟩ := isL_at h2 _ _ hj
    rw [hv] at hu
    cases hu
    exact hb
  · rw [if_neg hi] at hj
    rw [if_neg (by omega)] at hv
    obtain ⟨u, hu, hb⟩ := isL_at h1 _ _ hj
    rw [Array.getElem?_toList, hv] at hu
    cases hu
    exact hb
def IsParts (E : Env) : List (Nat × List BV) → List (Nat × Value) → Prop
  | [], [] => True
  | (i, c) :: l, (j, v) :: m => (i = j ∧ IsL E c v.cells.toList) ∧ IsParts E l m
  | _, _ => False
theorem fill_is {place : Nat → Option (Nat × Nat)} : ∀ {ps : List (Nat × List BV)} {qs : List (Nat × Value)} {cs cs' : List BV} {X : Array Value}, IsParts E ps qs → IsL E cs X.toList → fillB place cs ps = some cs' →
    ∃ X', Instr.fill place X qs = some X' ∧ IsL E cs' X'.toList
  | [], [], cs, cs', X, _, hL, hf => by
    simp only [fillB, Option.some.injEq] at hf
    subst hf
    exact ⟨X, rfl, hL⟩
  | (i, c) :: ps, (j, v) :: qs, cs, cs', X, hp, hL, hf => by
    obtain ⟨⟨rfl, hc⟩, hp2⟩ := hp
    simp only [fillB] at hf
    cases e : place i with
    | none => rw [e] at hf; cases hf
    | some os =>
      obtain ⟨off, size⟩ := os
      rw [e] at hf
      simp only at hf
      have hlc := isL_len hc
      have hlX := isL_len hL
      simp at hlc hlX
      by_cases hb : (c.length ≠ size || off + c.length > cs.length) = true
      · rw [if_pos hb] at hf; cases hf
      · rw [if_neg hb] at hf
        simp at hb
        have hL2 := isL_set hL hc (off := off) (by omega)
        obtain ⟨X', h1, h2⟩ := fill_is hp2 hL2 hf
        refine ⟨X', ?_, h2⟩
        simp only [Instr.fill, e]
        rw [if_neg (by simp; omega)]
        rw [← h1]
        congr 1
        rw [← Array.foldl_toList, Array.toList_zipIdx]
        exact foldl_arrSet off _ 0 X
  | [], _ :: _, _, _, _, hp, _, _ => hp.elim
  | _ :: _, [], _, _, _, hp, _, _ => hp.elim
theorem partsOf_is {t : Tmps} {a : Act} (ht : TRel E t a) : ∀ {ps : List (Nat × Operand)} {qs : List (Nat × List BV)}, partsOf t ps = some qs → IsParts E qs (ps.map fun x => (x.1, a.eval x.2))
  | [], qs, hp => by
    simp only [partsOf, Option.some.injEq] at hp
    subst hp
    exact trivial
  | (i, x) :: ps, qs, hp => by
    simp only [partsOf] at hp
    cases e : cellsOf (opd t x) with
    | none => rw [e] at hp; cases hp
    | some c =>
      cases e2 : partsOf t ps with
      | none => rw [e, e2] at hp; cases hp
      | some r =>
        rw [e, e2] at hp
        cases hp
        exact ⟨⟨rfl, (cellsOf_is e (ht.opd x)).1⟩, partsOf_is ht e2⟩
theorem build_ok {t : Tmps} {o : Oper} {ty : TypeId} {ps : Array (Nat × Operand)} {r : R} (ho : o.op = .build ty ps) (hr : opBuild C t ty ps.toList h = some (r, h')) : OpQ C N0 t o h r h' := by
  unfold opBuild at hr
  split at hr
  · rename_i qs e1
    split at hr
    · rename_i v e2
      cases hr
      refine ok_still fun E w a _ ht => ?_
      have hp := partsOf_is ht e1
      unfold build at e2
      cases hz : zeroOf C ty with
      | none => rw [hz] at e2; cases e2
      | some zero =>
        rw [hz] at e2
        simp only at e2
        obtain ⟨z, hzp, hzL⟩ := zeroOf_is hz
        obtain ⟨it, hit, hitz⟩ := zero_info hzp
        have hmap : (ps.map fun (i, x) => (i, a.eval x)).toList = ps.toList.map fun x => (x.1, a.eval x.2) := by simp
        have key : ∀ X, C.P.built ty (ps.toList.map fun x => (x.1, a.eval x.2)) = some X → (execOp a.eval o).run C.P w = .ok (.value (.agg X)) w := fun X hX => by
          rw [← hmap] at hX
          simp only [execOp, ho, Sem.run_bind, run_build w ty _ X hX]
          rfl
        split at e2
        · rename_i fields hu
          split at e2
          · rename_i places e3
            cases e4 : fillB (fun x => places[x]?) zero qs with
            | none => rw [e4] at e2; cases e2
            | some cs =>
              rw [e4] at e2
              cases e2
              obtain ⟨X, h1, h2⟩ := fill_is hp (hzL E) e4
              refine ⟨_, key X ?_, .v ⟨X.toList, h2, by simp⟩⟩
              unfold Program.built
              simp only [hit, hu, hitz, placesOf_is e3]
              simpa using h1
          · cases e2
        · rename_i len elem hu
          split at e2
          · rename_i size e3
            cases e4 : fillB (fun i => some (i * size, size)) zero qs with
            | none => rw [e4] at e2; cases e2
            | some cs =>
              rw [e4] at e2
              cases e2
              obtain ⟨X, h1, h2⟩ := fill_is hp (hzL E) e4
              obtain ⟨ie, hie, rfl⟩ := szOf_is e3
              refine ⟨_, key X ?_, .v ⟨X.toList, h2, by simp⟩⟩
              unfold Program.built
              simp only [hit, hu, hitz, hie]
              exact h1
          · cases e2
        · cases e2
    · cases hr
  · cases hr

theorem repl_len (zero : List BV) : ∀ n, (repl zero n).length = n * zero.length
  | 0 => by simp [repl]
  | n + 1 => by simp [repl, repl_len zero n, Nat.add_mul]; omega
theorem repl_at (zero : List BV) : ∀ (n j : Nat), j < n * zero.length → (repl zero n)[j]? = zero[j % zero.length]?
  | 0, j, hj => by simp at hj
  | n + 1, j, hj => by
    rw [repl]
    by_cases h1 : j < zero.length
    · rw [List.getElem?_append_left h1, Nat.mod_eq_of_lt h1]
    · rw [Nat.add_mul] at hj
      rw [List.getElem?_append_right (by omega), repl_at zero n (j - zero.length) (by omega), ← Nat.mod_eq_sub_mod (by omega)]
theorem zeros_is {zero : List BV} {Z : Array Value} (hL : IsL E zero Z.toList) (h0 : 0 < zero.length) (n : Nat) : IsL E (repl zero n) ((Array.range (n * zero.length)).map (Z[· % Z.size]!)).toList := by
  have hl := isL_len hL
  simp at hl
  refine isL_of_at (by simp [repl_len]) fun j x v hj hv => ?_
  have hjl : j < n * zero.length := by
    have := (List.getElem?_eq_some_iff.1 hj).1
    rwa [repl_len] at this
  rw [repl_at _ _ _ hjl] at hj
  have hm : j % zero.length < zero.length := Nat.mod_lt _ h0
  simp [hjl] at hv
  obtain ⟨u, hu, hb⟩ := isL_at hL _ _ hj
  rw [Array.getElem?_toList] at hu
  rw [← hl] at hv
  rw [getElem!_pos Z _ (by omega)] at hv
  rw [Array.getElem?_eq_getElem (by omega)] at hu
  cases hu
  rw [← hv]
  exact hb
theorem buildSlice_ok {t : Tmps} {o : Oper} {ty : TypeId} {len : Nat} {ps : Array (Nat × Operand)} {r : R} (ho : o.op = .buildSlice ty len ps) (hr : opBuildSlice C t ty len ps.toList h = some (r, h')) : OpOk C N0 t o h r h' := by
  unfold opBuildSlice at hr
  split at hr
  · rename_i qs elem size e1 e2
    obtain ⟨hu, hz⟩ := elemOf_is e2
    obtain ⟨ie, hie, hsz⟩ := szOf_is hz
    by_cases hl0 : len = 0 ∧ qs.length = 0
    · rw [if_pos hl0] at hr
      cases hr
      obtain ⟨rfl, hq⟩ := hl0
      obtain rfl : qs = [] := List.eq_nil_of_length_eq_zero hq
      intro E w a r ht
      have hp := partsOf_is ht e1
      have hps : ps.toList.map (fun x => (x.1, a.eval x.2)) = [] := by
        cases e : ps.toList.map (fun x => (x.1, a.eval x.2)) with
        | nil => rfl
        | cons y l => rw [e] at hp; exact hp.elim
      have hmap : (ps.map fun (i, x) => (i, a.eval x)).toList = [] := by
        rw [← hps]
        simp
      have hst := new_cells r (cs := []) (X := #[]) elem 0 0 (fun j x hx => by simp at hx) (fun _ => rfl) (by simp)
      refine ⟨_, _, .value (.slice (some ⟨w.heap.size, 0, none⟩) 0 0), ?_, hst, .v (isA_one ⟨_, extE_at _ _ _, rfl⟩)⟩
      have hrun : (Instr.buildSlice ty 0 (ps.map fun (i, x) => (i, a.eval x))).run C.P w = .ok (.slice (some ⟨w.heap.size, 0, none⟩) 0 0) (w.alloc (.cells #[] elem)) := by
        simp only [Instr.buildSlice, hmap]
        simp [run_under hu, pureOf_run hz, Instr.fill, newRow]
        congr 2
        apply Array.ext <;> simp
      simp only [execOp, ho, Sem.run_bind, hrun]
      rfl
    rw [if_neg hl0] at hr
    split at hr
    · rename_i zero e3
      split at hr
      · rename_i hc
        obtain ⟨c1, c2, c3, c4⟩ := hc
        split at hr
        · rename_i cs e4
          cases hr
          intro E w a r ht
          obtain ⟨z, hzp, hzL⟩ := zeroOf_is e3
          obtain ⟨it, hit, hitz⟩ := zero_info hzp
          obtain rfl : it = ie := by rw [hie] at hit; exact (Option.some.inj hit).symm
          have hzz := zeros_is (hzL E) (by omega) len
          rw [c1, ← hsz] at hzz
          rw [← hsz] at e4
          obtain ⟨X, h1, h2⟩ := fill_is (partsOf_is ht e1) hzz e4
          have hmap : (ps.map fun (i, x) => (i, a.eval x)).toList = ps.toList.map fun x => (x.1, a.eval x.2) := by simp
          rw [← hmap] at h1
          have hpos : 0 < len * it.size := Nat.mul_pos c3 (by omega)
          have hrun := run_buildSlice w ty elem len (ps.map fun (i, x) => (i, a.eval x)) X it z hu hie hitz (by rw [hsz]; omega) (by omega) h1
          have hst := new_cells r (cs := cs) (X := X) elem 0 0 (fun j x hx => by
            obtain ⟨v, hv, hb⟩ := isL_at h2 j x hx
            exact ⟨v, by rwa [Array.getElem?_toList] at hv, hb⟩) (fun _ => rfl) (by
              have := isL_len h2
              simp at this
              omega)
          refine ⟨_, _, .value (.slice (some ⟨w.heap.size, 0, none⟩) len len), ?_, hst, .v (isA_one ⟨_, extE_at _ _ _, rfl⟩)⟩
          simp only [execOp, ho, Sem.run_bind, hrun]
          rfl
        · cases hr
      · cases hr
    · cases hr
  · cases hr
theorem makeSlice_ok {t : Tmps} {o : Oper} {ty : TypeId} {l c : Operand} {r : R} (ho : o.op = .makeSlice ty l c) (hr : opMakeSlice C ty (opd t l) (opd t c) h = some (r, h')) : OpOk C N0 t o h r h' := by
  unfold opMakeSlice at hr
  split at hr
  · rename_i elem size ll cc e1 e2 e3
    obtain ⟨hu, hz⟩ := elemOf_is e1
    obtain ⟨ie, hie, hsz⟩ := szOf_is hz
    split at hr
    · rename_i zero bytes e4 e5
      split at hr
      · rename_i hc
        obtain ⟨c1, c2, c3, c4, c5, c6⟩ := hc
        cases hr
        intro E w a r ht
        obtain ⟨k1, hk1⟩ := intOf_is e2 (ht.opd l)
        obtain ⟨k2, hk2⟩ := intOf_is e3 (ht.opd c)
        obtain ⟨z, hzp, hzL⟩ := zeroOf_is e4
        rw [hie] at e5
        simp at e5
        have hw1 : IntKind.i64.wrap ll = ll := IntWalk.i64_in _ (by omega)
        have hw2 : IntKind.i64.wrap cc = cc := IntWalk.i64_in _ (by omega)
        have hzz := zeros_is (hzL E) (by omega) cc.toNat
        rw [c4] at hzz
        have hst := new_cells r (cs := repl zero cc.toNat) (X := (Array.range (cc.toNat * size)).map (z.cells[· % z.cells.size]!)) elem 0 0 (fun j x hx => by
            obtain ⟨v, hv, hb⟩ := isL_at hzz j x hx
            exact ⟨v, by rwa [Array.getElem?_toList] at hv, hb⟩) (fun _ => rfl) (by
              have := isL_len hzz
              simp at this
              simp
              omega)
        refine ⟨_, _, .value (.slice (some ⟨w.heap.size, 0, none⟩) ll.toNat cc.toNat), ?_, hst, .v (isA_one ⟨_, extE_at _ _ _, rfl⟩)⟩
        have hti : ∀ w, (typeInfo elem).run C.P w = .ok ie w := fun w => by simp [typeInfo, hie]
        have hbig : ¬ (281474976710656 < (ie.bytes : Int) * cc) := by
          have : (ie.bytes : Int) * cc ≤ 65536 * 65536 := Int.mul_le_mul (by omega) (by omega) (by omega) (by omega)
          omega
        simp only [execOp, ho, Instr.makeSlice, hk1, hk2, asInt, asIntOf]
        simp [run_under hu, hti, hw1, hw2, hbig, show ¬ cc < 0 by omega, show ¬ ll < 0 by omega, show ¬ cc < ll by omega, pureOf_run hz]
        by_cases h0 : cc.toNat = 0 ∨ size = 0
        · have hn : cc.toNat = 0 := by omega
          simp [hn, newRow]
          congr 2
          apply Array.ext <;> simp
        · have hnz : ¬ cc.toNat * size = 0 := fun e => h0 (Nat.mul_eq_zero.1 e)
          simp [hnz, pureOf_run hzp, newRow]
      · cases hr
    · cases hr
  · cases hr
end Go.Proofs.YtlhaaokldjdnnaaGreatDoor.Ev
namespace Go.Proofs.YtlhaaokldjdnnaaGreatDoor.Ev
open Go.RowKit
set_option linter.unusedVariables false
set_option linter.unusedSimpArgs false
variable {C : Cfg} {N0 : Nat} {E E' E1 : Env} {h h' h1 : Hp} {w w' w1 : World}

theorem closed_ok {t : Tmps} {o : Oper} {r : R} (hs : ∀ cs b, o.op ≠ .select cs b) (hr : closedOp C t o = some r) : OpQ C N0 t o h r h :=
  ok_still fun E w a _ ht => closedOp_run hr hs ht w

theorem arr_of_list {α : Type} {a : Array α} {l : List α} (h : a.toList = l) : a = l.toArray := by rw [← h]
theorem hasBody_is {f : FuncId} (hb : hasBody C f = true) (args : Array Value) (w : World) : (callFunc f args).run C.P w = .ok (.enter f args) w := by
  unfold hasBody at hb
  split at hb
  · rename_i fn hf
    simp only [Bool.and_eq_true, bne_iff_ne, ne_eq] at hb
    obtain ⟨h1, h2⟩ := hb
    cases hbd : fn.body with
    | none => rw [hbd] at h1; cases h1
    | some c => simp [callFunc, hf, h2, hbd]
  · cases hb
theorem isCaps_at : ∀ {l : List (Nat × Nat)} {vs : List Value}, IsCaps E l vs → l.length = vs.length ∧ ∀ (i : Nat) (x : AV) (u : Value), (l.map fun (x : Nat × Nat) => one (.ptr x.1 x.2))[i]? = some x → vs[i]? = some u → IsA E x u
  | [], [], _ => ⟨rfl, fun i x u hx => by simp at hx⟩
  | (b, off) :: l, v :: vs, hc => by
    obtain ⟨h1, h2⟩ := isCaps_at hc.2
    refine ⟨by simp [h1], fun i x u hx hu => ?_⟩
    cases i with
    | zero =>
      simp at hx hu
      subst hx hu
      exact isA_one hc.1
    | succ i =>
      simp at hx hu
      exact h2 i x u (by simpa using hx) hu
  | [], _ :: _, hc => hc.elim
  | _ :: _, [], hc => hc.elim
theorem args_at {t : Tmps} {a : Act} (ht : TRel E t a) (l : List Operand) (i : Nat) (x : AV) (u : Value) (hx : (l.map (opd t))[i]? = some x) (hu : (l.map a.eval)[i]? = some u) : IsA E x u := by
  rw [List.getElem?_map] at hx hu
  cases e : l[i]? with
  | none => rw [e] at hx; cases hx
  | some y =>
    rw [e] at hx hu
    cases hx
    cases hu
    exact ht.opd y
theorem builtin_ok {t : Tmps} {o : Oper} {c : Call} {b : Builtin} {r : R} (ho : o.op = .call c) (hcal : c.callee = .builtin b) (hr : opBuiltin C t b c.argTypes.toList c.args.toList h = some (r, h')) : OpOk C N0 t o h r h' := by
  have hB : ∀ (a : Act) (w : World) (v : Value) (w' : World), (builtin b c.argTypes o.type (c.args.map fun | .const _ => true | _ => false) (c.args.map a.eval)).run C.P w = .ok (.value v) w' → (execOp a.eval o).run C.P w = .ok (.value v) w' := fun a w v w' hh => by
    simp only [execOp, ho, resolve, hcal, Sem.run_bind, Sem.run_pure, Result.andThen_ok, invoke]
    exact hh
  unfold opBuiltin at hr
  split at hr
  · rename_i ty x e1 e2
    intro E w a R0 ht
    obtain ⟨rfl, v, hrun, hc⟩ := len_ok o.type hr R0 ht
    refine ⟨E, w, .value v, hB a w v w ?_, Step.refl R0, hc⟩
    rw [arr_of_list e1, show c.args.map a.eval = #[a.eval x] by rw [arr_of_list e2]; simp]
    simp only [builtin, Sem.run_bind, hrun, Result.andThen_ok, Sem.run_pure]
  · rename_i sT xT s x e1 e2
    intro E w a R0 ht
    obtain ⟨E', w', v, hrun, hst, hc⟩ := append_ok (ty := o.type) hr R0 ht
    refine ⟨E', w', .value v, hB a w v w' ?_, hst, hc⟩
    rw [arr_of_list e1, show c.args.map a.eval = #[a.eval s, a.eval x] by rw [arr_of_list e2]; simp]
    simp only [builtin, Sem.run_bind, hrun, Result.andThen_ok, Sem.run_pure]
  · rename_i mT kT m k e1 e2
    intro E w a R0 ht
    obtain ⟨w', v, hrun, hst, hc⟩ := delete_run (kt := kT) o.type hr R0 ht
    refine ⟨E, w', .value v, hB a w v w' ?_, hst, hc⟩
    rw [arr_of_list e1, show c.args.map a.eval = #[a.eval m, a.eval k] by rw [arr_of_list e2]; simp]
    simp only [builtin, Sem.run_bind, hrun, Result.andThen_ok, Sem.run_pure]
  · cases hr
theorem call_ok {t : Tmps} {o : Oper} {c : Call} {r : R} (ho : o.op = .call c) (hr : opCall C t c o h = some (r, h')) : OpOk C N0 t o h r h' := by
  have hs : ∀ cs b, o.op ≠ .select cs b := fun cs b e => by rw [ho] at e; cases e
  unfold opCall at hr
  cases hcal : c.callee with
  | builtin b =>
    rw [hcal] at hr
    simp only at hr
    split at hr
    · rename_i q hcl
      cases hr
      exact (closed_ok hs hcl).ok
    · exact builtin_ok ho hcal hr
  | invoke x m => rw [hcal] at hr; cases hr
  | value f =>
    rw [hcal] at hr
    simp only at hr
    split at hr
    · rename_i g first caps e1
      split at hr
      · rename_i h0
        obtain rfl : first = #[] := Array.eq_empty_of_size_eq_zero h0.1
        obtain rfl : caps = #[] := Array.eq_empty_of_size_eq_zero h0.2
        split at hr
        · rename_i hb
          cases hr
          refine OpQ.ok (ok_still fun E w a _ ht => ?_)
          have hv : a.eval f = _ := asOne_is e1 (ht.opd f)
          refine ⟨.enter g (c.args.map a.eval), ?_, .enter (by simp) fun i x u hx hu => ?_⟩
          · simp only [execOp, ho, resolve, hcal, hv, Deferred.ofValue, Sem.run_bind, Sem.run_pure, Result.andThen_ok, invoke]
            simp [hasBody_is hb]
          · exact args_at ht c.args.toList i x u hx (by rw [← hu, ← Array.toList_map, Array.getElem?_toList])
        · split at hr
          · rename_i q hcl
            cases hr
            exact (closed_ok hs hcl).ok
          · cases hr
      · cases hr
    · rename_i g caps e1
      split at hr
      · rename_i hb
        cases hr
        refine OpQ.ok (ok_still fun E w a _ ht => ?_)
        obtain ⟨ps, hps, hv⟩ := asOne_is e1 (ht.opd f)
        obtain ⟨hl, hat⟩ := isCaps_at hps
        refine ⟨.enter g (c.args.map a.eval ++ ps.toArray), ?_, .enter (by simp [hl]) fun i x u hx hu => ?_⟩
        · simp only [execOp, ho, resolve, hcal, hv, Deferred.ofValue, Sem.run_bind, Sem.run_pure, Result.andThen_ok, invoke]
          simp [hasBody_is hb]
        · rw [← Array.getElem?_toList, Array.toList_append, Array.toList_map] at hu
          by_cases hi : i < c.args.toList.length
          · rw [List.getElem?_append_left (by simpa using hi)] at hx hu
            exact args_at ht c.args.toList i x u hx hu
          · rw [List.getElem?_append_right (by simpa using Nat.le_of_not_lt hi)] at hx hu
            simp only [List.length_map] at hx hu
            exact hat _ x u hx hu
      · cases hr
    · cases hr
theorem op_ok {t : Tmps} {o : Oper} {r : R} (hr : op C t o h = some (r, h')) : OpOk C N0 t o h r h' := by
  have clo : (∀ cs b, o.op ≠ .select cs b) → (match closedOp C t o with | some (.v r) => some (R.v r, h) | _ => none) = some (r, h') → OpOk C N0 t o h r h' := fun hs hq => by
    split at hq
    · rename_i q hcl
      cases hq
      exact (closed_ok hs hcl).ok
    · cases hq
  unfold op at hr
  split at hr
  · rename_i x ho
    cases hr
    exact (move_ok (.inl ho)).ok
  · rename_i x ho
    cases hr
    exact (move_ok (.inr ho)).ok
  · rename_i c x y ho
    split at hr
    · rename_i b e1
      cases hr
      exact (pick_ok ho e1).ok
    · cases hr
  · rename_i elem ho
    exact alloc_ok ho hr
  · rename_i elem x ho
    exact box_ok ho hr
  · rename_i ty ps ho
    exact (build_ok ho hr).ok
  · rename_i ty len ps ho
    exact buildSlice_ok ho hr
  · rename_i ty x ho
    split at hr
    · rename_i v e1
      cases hr
      exact (load_ok ho e1).ok
    · cases hr
  · rename_i ty x y ho
    split at hr
    · rename_i v e1
      cases hr
      exact store_ok ho e1
    · cases hr
  · rename_i x ho
    exact (nil_ok ho hr).ok
  · rename_i s x i ho
    exact (fieldAddr_ok ho hr).ok
  · rename_i ty x ix ho
    exact (indexAddr_ok ho hr).ok
  · rename_i ty x i ho
    exact (field_ok ho hr).ok
  · rename_i x i ho
    exact (extract_ok ho hr).ok
  · rename_i ty x lo hi ho
    split at hr
    · rename_i v e1
      cases hr
      exact (slice_ok ho e1).ok
    · exact clo (fun cs b e => by rw [ho] at e; cases e) hr
  · rename_i ty x lo hi mx ho
    split at hr
    · rename_i v e1
      cases hr
      exact (slice3_ok ho e1).ok
    · exact (clo (fun cs b e => by rw [ho] at e; cases e) hr)
  · rename_i f first caps ho
    split at hr
    · rename_i h0
      exact (makeFunc_ok ho h0 hr).ok
    · cases hr
  · rename_i ty l c ho
    exact makeSlice_ok ho hr
  · rename_i ty ho
    exact makeMap_ok ho hr
  · rename_i ty m key ok ho
    exact (lookup_ok ho hr).ok
  · rename_i ty m key x ho
    exact mapUpdate_ok ho hr
  · rename_i ty x ho
    exact range_ok ho hr
  · rename_i x ho
    exact next_ok ho hr
  · rename_i bop ty x y yt ho
    split at hr
    · rename_i q hcl
      cases hr
      exact (closed_ok (fun cs b e => by rw [ho] at e; cases e) hcl).ok
    · exact (eq_ok ho hr).ok
  · rename_i src dst x ho
    split at hr
    · rename_i q e1
      cases hr
      exact convert_ok ho e1
    · exact clo (fun cs b e => by rw [ho] at e; cases e) hr
  · rename_i c ho
    exact call_ok ho hr
  · rename_i a b c ho
    exact clo (fun cs b e => by rw [ho] at e; cases e) hr
  · rename_i a b c ho
    exact clo (fun cs b e => by rw [ho] at e; cases e) hr
  · cases hr
theorem op_still {t : Tmps} {o : Oper} {r : R} (hk : stillKind o.op = true) (hr : op C t o h = some (r, h')) : OpQ C N0 t o h r h' := by
  have clo : (∀ cs b, o.op ≠ .select cs b) → (match closedOp C t o with | some (.v r) => some (R.v r, h) | _ => none) = some (r, h') → OpQ C N0 t o h r h' := fun hs hq => by
    split at hq
    · rename_i q hcl
      cases hq
      exact closed_ok hs hcl
    · cases hq
  unfold op at hr
  split at hr
  · rename_i x ho
    cases hr
    exact move_ok (.inl ho)
  · rename_i x ho
    cases hr
    exact move_ok (.inr ho)
  · rename_i c x y ho
    split at hr
    · rename_i b e1
      cases hr
      exact pick_ok ho e1
    · cases hr
  · rename_i elem ho
    rw [ho] at hk; cases hk
  · rename_i elem x ho
    rw [ho] at hk; cases hk
  · rename_i ty ps ho
    exact build_ok ho hr
  · rename_i ty len ps ho
    rw [ho] at hk; cases hk
  · rename_i ty x ho
    split at hr
    · rename_i v e1
      cases hr
      exact load_ok ho e1
    · cases hr
  · rename_i ty x y ho
    rw [ho] at hk; cases hk
  · rename_i x ho
    exact nil_ok ho hr
  · rename_i s x i ho
    exact fieldAddr_ok ho hr
  · rename_i ty x ix ho
    exact indexAddr_ok ho hr
  · rename_i ty x i ho
    exact field_ok ho hr
  · rename_i x i ho
    exact extract_ok ho hr
  · rename_i ty x lo hi ho
    split at hr
    · rename_i v e1
      cases hr
      exact slice_ok ho e1
    · exact clo (fun cs b e => by rw [ho] at e; cases e) hr
  · rename_i ty x lo hi mx ho
    split at hr
    · rename_i v e1
      cases hr
      exact slice3_ok ho e1
    · exact clo (fun cs b e => by rw [ho] at e; cases e) hr
  · rename_i f first caps ho
    split at hr
    · rename_i h0
      exact makeFunc_ok ho h0 hr
    · cases hr
  · rename_i ty l c ho
    rw [ho] at hk; cases hk
  · rename_i ty ho
    rw [ho] at hk; cases hk
  · rename_i ty m key ok ho
    exact lookup_ok ho hr
  · rename_i ty m key x ho
    rw [ho] at hk; cases hk
  · rename_i ty x ho
    rw [ho] at hk; cases hk
  · rename_i x ho
    rw [ho] at hk; cases hk
  · rename_i bop ty x y yt ho
    split at hr
    · rename_i q hcl
      cases hr
      exact closed_ok (fun cs b e => by rw [ho] at e; cases e) hcl
    · exact eq_ok ho hr
  · rename_i src dst x ho
    rw [ho] at hk; cases hk
  · rename_i c ho
    rw [ho] at hk
    simp only [stillKind, stillCall] at hk
    unfold opCall at hr
    split at hr
    · rename_i b hcal
      split at hr
      · rename_i q hcl
        cases hr
        exact closed_ok (fun cs b e => by rw [ho] at e; cases e) hcl
      · rw [hcal] at hk
        unfold opBuiltin at hr
        split at hr
        · rename_i ty x e1 e2
          have hh : h' = h := by
            unfold opLen at hr
            split at hr
            · cases hr; rfl
            · cases hr; rfl
            · split at hr
              · cases hr; rfl
              · cases hr
            · cases hr
          subst hh
          refine ⟨rfl, fun E w a R0 ht => ?_⟩
          obtain ⟨_, v, hrun, hc⟩ := len_ok o.type hr R0 ht
          refine ⟨.value v, ?_, hc⟩
          simp only [execOp, ho, resolve, hcal, Sem.run_bind, Sem.run_pure, Result.andThen_ok, invoke]
          rw [arr_of_list e1, show c.args.map a.eval = #[a.eval x] by rw [arr_of_list e2]; simp]
          simp only [builtin, Sem.run_bind, hrun, Result.andThen_ok, Sem.run_pure]
        · cases hk
        · cases hk
        · cases hr
    · rename_i f hcal
      rw [hcal] at hk
      cases hk
    · cases hr
  · rename_i a b c ho
    exact clo (fun cs b e => by rw [ho] at e; cases e) hr
  · rename_i a b c ho
    exact clo (fun cs b e => by rw [ho] at e; cases e) hr
  · cases hr
end Go.Proofs.YtlhaaokldjdnnaaGreatDoor.Ev
