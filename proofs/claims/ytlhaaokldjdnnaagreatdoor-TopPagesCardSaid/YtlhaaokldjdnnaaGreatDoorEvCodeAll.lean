/-
  Parts, one behind the other: The evaluator is the model's: one operation within a region, regions, code. No condition but what is told from outside; nothing of the program stands here. | The evaluator is the model's: regions that draw their order. No condition but what is told from outside; nothing of the program stands here. | The evaluator is the model's: code and calls. No condition but what is told from outside; nothing of the program stands here. | A closed call: what the evaluator answers is what every run of it returns (the form of OutOk's field 'orc': so closed calls become oracles of later ones).
-/
import Derived.Test.YtlhaaokldjdnnaaGreatDoorEvOps8All
import Derived.Tactics
import Derived.LoopN
import Derived.OrdersHeld
namespace Go.Proofs.YtlhaaokldjdnnaaGreatDoor.Ev
open Go.RowKit
set_option linter.unusedVariables false
set_option linter.unusedSimpArgs false
variable {C : Cfg} {N0 : Nat} {E E' E1 : Env} {h h' h1 : Hp} {w w' w1 : World}

/-- What a callee's answer says. -/
def CallOk (C : Cfg) (N0 : Nat) (call : CallF) : Prop :=
  ∀ f args h r h', call f args h = some (r, h') → ∀ (E : Env) (w : World) (us : Array Value), Rep C N0 E h w → args.length = us.size → (∀ (i : Nat) (x : AV) (u : Value), args[i]? = some x → us[i]? = some u → IsA E x u) →
    Calls C.P f us w fun e w' => ∃ v E', e = .returned v ∧ IsA E' r v ∧ Step C N0 E h w E' h' w'

theorem put_defers (a : Act) (d : Option Tmp) (v : Value) : (a.put d v).defers = a.defers := by cases d <;> rfl

theorem wanted_is {ops : Array Oper} {o : Oper} {t : Tmps} {b : Bool} (hw : wantedT ops o t = some b) {a : Act} (ht : TRel E t a) : Region.wanted o (yielded ops a.tmps) = b := by
  unfold wantedT at hw
  unfold Region.wanted
  cases hg : o.guard with
  | none => rw [hg] at hw; cases hw; rfl
  | some jw =>
    obtain ⟨j, want⟩ := jw
    rw [hg] at hw
    simp only at hw ⊢
    split at hw
    · rename_i d hd
      have hv : ∀ p, asOne (getT t d) = some p → IsB E p (a.tmps.getD d undef) := fun p e => asOne_is e (ht.at_ d)
      unfold yielded
      rw [hd]
      simp only [Option.bind_some]
      split at hw
      · rename_i q e1
        cases hw
        have h1 : a.tmps.getD d undef = .bool q := hv _ e1
        cases e : a.tmps[d]? with
        | none =>
          rw [Array.getD_eq_getD_getElem?, e] at h1
          cases h1
        | some u =>
          rw [Array.getD_eq_getD_getElem?, e] at h1
          simp at h1
          subst h1
          cases q <;> cases want <;> rfl
      · rename_i q e1
        cases hw
        have h1 : a.tmps.getD d undef = .tuple q := hv _ e1
        cases e : a.tmps[d]? with
        | none => rfl
        | some u =>
          rw [Array.getD_eq_getD_getElem?, e] at h1
          simp at h1
          subst h1
          rfl
      · cases hw
    · cases hw

/-- One operation. -/
theorem one_ok {call : CallF} (hcall : CallOk C N0 call) {o : Oper} {t t' : Tmps} (hs : stepOp C call o t h = some (t', h')) {a : Act} (r : Rep C N0 E h w) (ht : TRel E t a) {K : Act → World → Prop} {Q : Exit → Act → World → Prop}
    (hk : ∀ E' w' a', Step C N0 E h w E' h' w' → TRel E' t' a' → a'.defers = a.defers → K a' w') : o.wp C.P a w K Q := by
  unfold stepOp at hs
  cases hop : op C t o h with
  | none => rw [hop] at hs; cases hs
  | some q =>
    obtain ⟨q, h2⟩ := q
    obtain ⟨E2, w2, n, hrun, hst, hc⟩ := op_ok hop E w a r ht
    have ht2 := ht.mono (hst.sub r)
    rw [hop] at hs
    unfold Oper.wp
    rw [hrun]
    cases hc with
    | v hx =>
      simp only [Option.some.injEq, Prod.mk.injEq] at hs
      obtain ⟨rfl, rfl⟩ := hs
      exact hk _ _ _ hst (ht2.put o.dst hx) (put_defers ..)
    | skip =>
      simp only [Option.some.injEq, Prod.mk.injEq] at hs
      obtain ⟨rfl, rfl⟩ := hs
      exact hk _ _ _ hst (ht2.put o.dst (isA_plain _ _)) (put_defers ..)
    | enter hl hat =>
      rename_i f as us
      simp only at hs
      cases hcl : call f as h2 with
      | none => rw [hcl] at hs; cases hs
      | some q2 =>
        obtain ⟨rr, h3⟩ := q2
        rw [hcl] at hs
        simp only [Option.some.injEq, Prod.mk.injEq] at hs
        obtain ⟨rfl, rfl⟩ := hs
        refine Calls.mono (hcall f as h2 rr h3 hcl E2 w2 us hst.rep hl hat) fun e w3 hh => ?_
        obtain ⟨v, E3, rfl, hv, hst3⟩ := hh
        exact hk _ _ _ (hst.trans hst3) ((ht2.mono (hst3.sub hst.rep)).put o.dst hv) (put_defers ..)

/-- What stands behind a piece of code. -/
def Post (C : Cfg) (N0 : Nat) (x : Exit) (t' : Tmps) (h' : Hp) (E : Env) (h : Hp) (w : World) (d : List Deferred) : Exit → Act → World → Prop :=
  fun e a' w' => e = x ∧ ∃ E', Step C N0 E h w E' h' w' ∧ TRel E' t' a' ∧ a'.defers = d
theorem Post.trans {x : Exit} {t' : Tmps} {d : List Deferred} (s : Step C N0 E h w E1 h1 w1) {e : Exit} {a' : Act} (k : Post C N0 x t' h' E1 h1 w1 d e a' w') : Post C N0 x t' h' E h w d e a' w' := by
  obtain ⟨rfl, E', hs, ht, hd⟩ := k
  exact ⟨rfl, E', s.trans hs, ht, hd⟩

theorem region_ok {call : CallF} (hcall : CallOk C N0 call) {ops : Array Oper} {Q : Exit → Act → World → Prop} : ∀ {os : List Oper} {t t' : Tmps} {h h' : Hp}, region C call ops os t h = some (t', h') → ∀ {E : Env} {w : World} {a : Act}, Rep C N0 E h w → TRel E t a →
    (∀ E' w' a', Step C N0 E h w E' h' w' → TRel E' t' a' → a'.defers = a.defers → Q .normal a' w') → wpList C.P ops Q os a w
  | [], t, t', h, h', hr, E, w, a, r, ht, hq => by
    simp only [region, Option.some.injEq, Prod.mk.injEq] at hr
    obtain ⟨rfl, rfl⟩ := hr
    exact hq _ _ _ (Step.refl r) ht rfl
  | o :: os, t, t', h, h', hr, E, w, a, r, ht, hq => by
    simp only [region] at hr
    cases hw : wantedT ops o t with
    | none => rw [hw] at hr; cases hr
    | some b =>
      have hb := wanted_is hw ht
      rw [hw] at hr
      cases b with
      | false =>
        simp only at hr
        simp only [wpList, hb, Bool.false_eq_true, if_false]
        exact region_ok hcall hr r (ht.put o.dst (isA_plain E undef)) fun E' w' a' hs ht' hd => hq _ _ _ hs ht' (hd.trans (put_defers ..))
      | true =>
        simp only at hr
        cases hs : stepOp C call o t h with
        | none => rw [hs] at hr; cases hr
        | some q =>
          obtain ⟨t1, h1⟩ := q
          rw [hs] at hr
          simp only at hr
          simp only [wpList, hb, if_true]
          refine .inl (one_ok hcall hs r ht fun E1 w1 a1 hst ht1 hd1 => ?_)
          exact region_ok hcall hr hst.rep ht1 fun E' w' a' hs ht' hd => hq _ _ _ (hst.trans hs) ht' (hd.trans hd1)

/-! ### regions that draw their order -/
theorem isC_one {c : Cmp} {v u : Value} (h1 : IsC E c v) (h2 : IsC E c u) : v = u := by
  obtain ⟨g, l⟩ := c
  have key : ∀ {l : List BV} {vs us : List Value}, IsL E l vs → IsL E l us → vs = us := by
    intro l
    induction l with
    | nil =>
      intro vs us h k
      cases vs <;> cases us <;> first | rfl | exact h.elim | exact k.elim
    | cons x l ih =>
      intro vs us h k
      cases vs with
      | nil => exact h.elim
      | cons v vs =>
        cases us with
        | nil => exact k.elim
        | cons u us => rw [IsB.one h.1 k.1, ih h.2 k.2]
  cases g with
  | true =>
    obtain ⟨vs, hv, rfl⟩ := h1
    obtain ⟨us, hu, rfl⟩ := h2
    rw [key hv hu]
  | false =>
    match l, h1, h2 with
    | [x], h1, h2 => exact IsB.one h1 h2
    | [], h1, _ => exact h1.elim
    | _ :: _ :: _, h1, _ => exact h1.elim
theorem isA_one_ {x : AV} {v u : Value} (h1 : IsA E x v) (h2 : IsA E x u) : v = u := by
  cases x with
  | val c => exact isC_one h1 h2
  | tup l =>
    obtain ⟨vs, hv, rfl⟩ := h1
    obtain ⟨us, hu, rfl⟩ := h2
    have key : ∀ {l : List Cmp} {vs us : List Value}, IsCs E l vs → IsCs E l us → vs = us := by
      intro l
      induction l with
      | nil =>
        intro vs us h k
        cases vs <;> cases us <;> first | rfl | exact h.elim | exact k.elim
      | cons x l ih =>
        intro vs us h k
        cases vs with
        | nil => exact h.elim
        | cons v vs =>
          cases us with
          | nil => exact k.elim
          | cons u us => rw [isC_one h.1 k.1, ih h.2 k.2]
    rw [key hv hu]
theorem sameV_is {x y : Value} (h : sameV x y = true) : x = y := by
  unfold sameV at h
  split at h <;> try (simp_all; done)
  · rename_i a b
    simp only [beq_iff_eq] at h
    rw [ByteArray.ext (Array.ext' h)]
theorem sameB_is {x y : BV} (h : sameB x y = true) : x = y := by
  unfold sameB at h
  split at h <;> simp_all
  exact sameV_is h
theorem sameL_is : ∀ {l m : List BV}, sameL l m = true → l = m
  | [], [], _ => rfl
  | x :: l, y :: m, h => by
    simp only [sameL, Bool.and_eq_true] at h
    rw [sameB_is h.1, sameL_is h.2]
theorem sameE_is : ∀ {l m : List (Value × Cmp × Nat)}, sameE l m = true → l = m
  | [], [], _ => rfl
  | (k, c, n) :: l, (k', c', n') :: m, h => by
    simp only [sameE, Bool.and_eq_true, beq_iff_eq] at h
    obtain ⟨⟨⟨h1, h2, h3⟩, h4⟩, h5⟩ := h
    obtain ⟨g, cs⟩ := c
    obtain ⟨g', cs'⟩ := c'
    simp only at h2 h3
    rw [sameV_is h1, h2, sameL_is h3, h4, sameE_is h5]
theorem sameBlk_is {x y : Blk} (h : sameBlk x y = true) : x = y := by
  unfold sameBlk at h
  split at h
  · simp only [Bool.and_eq_true, beq_iff_eq] at h
    rw [sameL_is h.1, h.2]
  · simp only [Bool.and_eq_true, beq_iff_eq] at h
    rw [sameE_is h.1, h.2]
  · cases h
theorem sameC_is {c d : Cmp} (h : sameC c d = true) : c = d := by
  obtain ⟨g, l⟩ := c
  obtain ⟨g', l'⟩ := d
  simp only [sameC, Bool.and_eq_true, beq_iff_eq] at h
  rw [h.1, sameL_is h.2]
theorem sameCs_is : ∀ {l m : List Cmp}, sameCs l m = true → l = m
  | [], [], _ => rfl
  | x :: l, y :: m, h => by
    simp only [sameCs, Bool.and_eq_true] at h
    rw [sameC_is h.1, sameCs_is h.2]
theorem sameA_is {x y : AV} (h : sameA x y = true) : x = y := by
  cases x <;> cases y <;> first | (cases h; done) | skip
  · rw [sameC_is h]
  · rw [sameCs_is h]
theorem sameT_is : ∀ {l m : Tmps}, sameT l m = true → l = m
  | .e, .e, _ => rfl
  | .n l x r, .n l' x' r', h => by
    simp only [sameT, Bool.and_eq_true] at h
    rw [sameA_is h.1.1, sameT_is h.1.2, sameT_is h.2]
theorem sameBs_is : ∀ {l m : List (Nat × Blk)}, sameBs l m = true → l = m
  | [], [], _ => rfl
  | (b, x) :: l, (c, y) :: m, h => by
    simp only [sameBs, Bool.and_eq_true, beq_iff_eq] at h
    rw [h.1.1, sameBlk_is h.1.2, sameBs_is h.2]
theorem sameH_is {h g : Hp} (hs : sameH h g = true) : h = g := by
  obtain ⟨b, n⟩ := h
  obtain ⟨c, m⟩ := g
  simp only [sameH, Bool.and_eq_true, beq_iff_eq] at hs
  rw [hs.1, sameBs_is hs.2]
/-- What a block said, it says in the words of before. -/
theorem BlkIs.back {E0 : Env} {w0 : World} (hs : Sub E0 E) {l : Loc} {x : Blk} (h0 : BlkIs E0 l w0 x) (h1 : BlkIs E l w x) : BlkIs E0 l w x := by
  cases x with
  | cells c sz =>
    obtain ⟨X0, t0, fr0, _, b0, _⟩ := h0
    obtain ⟨X, t, fr, a1, b1, c1⟩ := h1
    refine ⟨X, t, fr, a1, fun j y hj => ?_, c1⟩
    obtain ⟨v, hv, hb⟩ := b1 j y hj
    obtain ⟨v0, _, hb0⟩ := b0 j y hj
    refine ⟨v, hv, ?_⟩
    rw [IsB.one hb (hb0.mono hs)]
    exact hb0
  | map es n =>
    obtain ⟨xs0, a0, b0⟩ := h0
    obtain ⟨xs, a1, b1⟩ := h1
    refine ⟨xs, a1, ?_⟩
    clear a1 a0
    induction es generalizing xs xs0 with
    | nil => cases xs <;> first | exact trivial | exact b1.elim
    | cons e es ih =>
      obtain ⟨k, c, m⟩ := e
      cases xs with
      | nil => exact b1.elim
      | cons y ys =>
        cases xs0 with
        | nil => exact b0.elim
        | cons y0 ys0 =>
          obtain ⟨⟨p1, p2, p3⟩, p4⟩ := b1
          obtain ⟨⟨q1, q2, q3⟩, q4⟩ := b0
          refine ⟨⟨p1, ?_, p3⟩, ih ys0 q4 ys p4⟩
          rw [isC_one p2 (q2.mono hs)]
          exact q2
  | iter s p => exact h1
theorem findB_filter (p : Nat → Bool) (b : Nat) : ∀ l : List (Nat × Blk), findB b (l.filter fun x => p x.1) = if p b then findB b l else none
  | [] => by simp [findB]
  | (c, x) :: l => by
    by_cases hp : p c = true
    · rw [List.filter_cons_of_pos (by simpa using hp)]
      by_cases hc : c = b
      · subst hc; simp [findB, hp]
      · simp [findB, hc, findB_filter p b l]
    · rw [List.filter_cons_of_neg (by simpa using hp), findB_filter p b l]
      by_cases hc : c = b
      · subst hc; simp [hp]
      · simp [findB, hc]
theorem keeps_is {hS h : Hp} : ∀ {l : List (Nat × Blk)}, keeps hS h l = true → ∀ b x, findB b l = some x → ∀ y, hS.get b = some y → h.get b = some y
  | [], _, b, x, hb, _, _ => by cases hb
  | (c, z) :: l, hk, b, x, hb, y, hy => by
    simp only [keeps, Bool.and_eq_true] at hk
    by_cases hc : c = b
    · subst hc
      have h1 := hk.1
      rw [hy] at h1
      cases e : h.get c with
      | none => rw [e] at h1; cases h1
      | some u =>
        rw [e] at h1
        rw [sameBlk_is h1]
    · simp only [findB, hc, if_false] at hb
      exact keeps_is hk.2 b x hb y hy
/-- The blocks that are read say what they said. -/
theorem rep_kept {E0 : Env} {hS h0 : Hp} {w0 : World} (r0 : Rep C N0 E0 hS w0) (hn : hS.next = h0.next) (he : ∀ b, b < h0.next → E b = E0 b) (hs : Sub E0 E) (r : Rep C N0 E h w) (hk : ∀ b x, hS.get b = some x → h.get b = some x) : Rep C N0 E0 hS w := by
  refine ⟨fun b x hb => ?_, r0.inj, r0.below, r0.base, r.tab, r.room⟩
  obtain ⟨l, e, k0⟩ := r0.live b x hb
  obtain ⟨l', e', k⟩ := r.live b x (hk b x hb)
  have : l = l' := by
    rw [hs b l e] at e'
    exact Option.some.inj e'
  subst this
  exact ⟨l, e, k0.back hs k⟩
theorem rep_up {E0 : Env} {hS : Hp} {n : Nat} (hs : Sub E0 E) (hb : ∀ b l, E b = some l → b < n) (r : Rep C N0 E0 hS w) : Rep C N0 E { hS with next := n } w := by
  have hE : ∀ b x l, hS.get b = some x → E b = some l → E0 b = some l := fun b x l hx e => by
    obtain ⟨m, e0, _⟩ := r.live b x hx
    have := hs b m e0
    rw [e] at this
    cases this
    exact e0
  refine ⟨fun b x hx => ?_, fun b b' x x' l l' hx hx' e e' hr => r.inj b b' x x' l l' hx hx' (hE _ _ _ hx e) (hE _ _ _ hx' e') hr, hb, fun b x l hx e => r.base b x l hx (hE _ _ _ hx e), r.tab, r.room⟩
  obtain ⟨l, e, k⟩ := r.live b x hx
  exact ⟨l, hs b l e, k.mono hs⟩
theorem still_value {o : Oper} {e : Operand → Value} (hk : stillKind o.op = true) {n : Next} (hr : (execOp e o).run C.P w = .ok n w') : ∃ u, n = .value u := by
  have key : ∀ (s : Sem Value), (do let v ← s; pure (Next.value v) : Sem Next).run C.P w = .ok n w' → ∃ u, n = .value u := fun s hs => by
    simp only [Sem.run_bind] at hs
    cases e : s.run C.P w with
    | ok v w2 =>
      rw [e] at hs
      simp only [Result.andThen_ok, Sem.run_pure, Result.ok.injEq] at hs
      exact ⟨v, hs.1.symm⟩
    | halt x w2 => rw [e] at hs; cases hs
  have key2 : ∀ {α : Type} (s : Sem α) (f : α → Sem Next) {w w' : World} {n : Next}, (∀ x w2 n2 w3, (f x).run C.P w2 = .ok n2 w3 → ∃ u, n2 = .value u) → (s >>= f).run C.P w = .ok n w' → ∃ u, n = .value u := fun s f w w' n hf hs => by
    simp only [Sem.run_bind] at hs
    cases e : s.run C.P w with
    | ok v w2 =>
      rw [e] at hs
      exact hf _ _ _ _ hs
    | halt x w2 => rw [e] at hs; cases hs
  have pur : ∀ (v : Value) {w w' : World} {n : Next}, (pure (Next.value v) : Sem Next).run C.P w = .ok n w' → ∃ u, n = .value u := fun v w w' n hs => by
    simp only [Sem.run_pure, Result.ok.injEq] at hs
    exact ⟨_, hs.1.symm⟩
  unfold execOp at hr
  cases ho : o.op <;> rw [ho] at hr hk <;> first
    | (cases hk; done)
    | (simp only at hr; exact key _ hr)
    | (exact pur _ hr)
    | skip
  case call c =>
    simp only [stillKind, stillCall] at hk
    simp only at hr
    split at hk
    · rename_i e1
      simp only [resolve, e1, Sem.run_bind, Sem.run_pure, Result.andThen_ok, invoke, builtin] at hr
      exact key _ (by simp only [Sem.run_bind, Sem.run_pure]; exact hr)
    · rename_i e1
      simp only [resolve, e1, Sem.run_bind, Sem.run_pure, Result.andThen_ok, invoke, builtin] at hr
      exact key _ (by simp only [Sem.run_bind, Sem.run_pure]; exact hr)
    · rename_i e1
      simp only [resolve, e1, Sem.run_bind, Sem.run_pure, Result.andThen_ok, invoke, builtin] at hr
      exact key _ (by simp only [Sem.run_bind, Sem.run_pure]; exact hr)
    · cases hk
  case pick c x y => exact key2 _ _ (fun b w2 n2 w3 h2 => pur _ h2) hr
  case nilCheck x =>
    simp only at hr
    split at hr
    · simp [runtimePanic] at hr
    · simp [runtimePanic] at hr
    · simp [runtimePanic] at hr
    · split at hr
      · simp [runtimePanic] at hr
      · refine key2 _ _ (fun p w2 n2 w3 h2 => key2 _ _ (fun b w4 n4 w5 h4 => ?_) h2) hr
        split at h4
        · simp at h4
        · exact pur _ h4
      · exact pur _ hr
    · exact pur _ hr
end Go.Proofs.YtlhaaokldjdnnaaGreatDoor.Ev
namespace Go.Proofs.YtlhaaokldjdnnaaGreatDoor.Ev
open Go.RowKit
set_option linter.unusedVariables false
set_option linter.unusedSimpArgs false
variable {C : Cfg} {N0 : Nat} {E E' E1 : Env} {h h' h1 : Hp} {w w' w1 : World}

/-- One that comes, whichever others might. -/
theorem come_ok {call : CallF} (hcall : CallOk C N0 call) {ops : Array Oper} {Q : Exit → Act → World → Prop} {E0 : Env} {hS h0 : Hp} (hn : hS.next = h0.next) {i : Nat} {t t1 : Tmps} {h h1 : Hp} (hr : come C call ops hS i t h = some (t1, h1))
    {E : Env} {w : World} {a : Act} (r : Rep C N0 E h w) (ht : TRel E t a) (r0 : Rep C N0 E0 hS w) (hs : Sub E0 E) (he : ∀ b, b < h0.next → E b = E0 b) (hnx : h0.next ≤ h.next) {K : Act → World → Prop}
    (hk : ∀ E1 w1 a1, Step C N0 E h w E1 h1 w1 → TRel E1 t1 a1 → a1.defers = a.defers → Rep C N0 E0 hS w1 → Sub E0 E1 → (∀ b, b < h0.next → E1 b = E0 b) → h0.next ≤ h1.next → K a1 w1) :
    wpOp C.P ops Q i (fun a' w' => Rep C N0 E0 hS w' ∧ K a' w') a w := by
  unfold come at hr
  cases hi : ops[i]? with
  | none => rw [hi] at hr; cases hr
  | some o =>
    rw [hi] at hr
    simp only at hr
    cases hw : wantedT ops o t with
    | none => rw [hw] at hr; cases hr
    | some b =>
      have hb := wanted_is hw ht
      rw [hw] at hr
      cases b with
      | false =>
        simp only [Option.some.injEq, Prod.mk.injEq] at hr
        obtain ⟨rfl, rfl⟩ := hr
        simp only [wpOp, hi, hb, Bool.false_eq_true, if_false]
        exact ⟨r0, hk _ _ _ (Step.refl r) (ht.put o.dst (isA_plain E undef)) (put_defers ..) r0 hs he hnx⟩
      | true =>
        simp only at hr
        cases hso : stepOp C call o t h with
        | none => rw [hso] at hr; cases hr
        | some q =>
          obtain ⟨t2, h2⟩ := q
          rw [hso] at hr
          simp only at hr
          by_cases hk2 : keeps hS h2 hS.blocks = true
          · rw [if_pos hk2] at hr
            cases hr
            simp only [wpOp, hi, hb, if_true]
            refine .inl (one_ok hcall hso r ht fun E1 w1 a1 hst ht1 hd1 => ?_)
            have hs1 : Sub E0 E1 := hs.trans (hst.sub r)
            have he1 : ∀ b, b < h0.next → E1 b = E0 b := fun b hb => by rw [hst.ext b (Nat.lt_of_lt_of_le hb hnx), he b hb]
            have r1 : Rep C N0 E0 hS w1 := rep_kept r0 hn he1 hs1 hst.rep fun b x hx => keeps_is hk2 b x hx x hx
            exact ⟨r1, hk _ _ _ hst ht1 hd1 r1 hs1 he1 (Nat.le_trans hnx hst.next)⟩
          · rw [if_neg hk2] at hr; cases hr

theorem planned_ok {call : CallF} (hcall : CallOk C N0 call) {ops : Array Oper} (hsel : Region.noSelect ops = true) {Q : Exit → Act → World → Prop} (hp : ∀ c a w, ¬ Q (.panic c) a w) {E0 : Env} {hS h0 : Hp} (hn : hS.next = h0.next) :
    ∀ {n : Nat} {pl : Plan} {t t' : Tmps} {h h' : Hp} {listed : Array Bool}, planned C call ops hS pl t h = some (t', h') → planOk ops n pl listed = true → ∀ {E : Env} {w : World} {a : Act}, Rep C N0 E h w → TRel E t a → Rep C N0 E0 hS w → Sub E0 E →
      (∀ b, b < h0.next → E b = E0 b) → h0.next ≤ h.next → (∀ E' w' a', Step C N0 E h w E' h' w' → TRel E' t' a' → a'.defers = a.defers → Q .normal a' w') →
      wpAnyH C.P .any ops Q (fun w => Rep C N0 E0 hS w) n listed a w
  | 0, .nil, t, t', h, h', listed, hr, hok, E, w, a, r, ht, r0, hs, he, hnx, hq => by
    simp only [planned, Option.some.injEq, Prod.mk.injEq] at hr
    obtain ⟨rfl, rfl⟩ := hr
    refine ⟨?_, hq _ _ _ (Step.refl r) ht rfl⟩
    simpa [planOk] using hok
  | n + 1, .nil, t, t', h, h', listed, hr, hok, E, w, a, r, ht, r0, hs, he, hnx, hq => by simp [planOk] at hok
  | 0, .one _ _ _, t, t', h, h', listed, hr, hok, E, w, a, r, ht, r0, hs, he, hnx, hq => by simp [planOk] at hok
  | 0, .both _ _ _ _, t, t', h, h', listed, hr, hok, E, w, a, r, ht, r0, hs, he, hnx, hq => by simp [planOk] at hok
  | n + 1, .one i true pl, t, t', h, h', listed, hr, hok, E, w, a, r, ht, r0, hs, he, hnx, hq => by
    simp only [planned, takeT] at hr
    cases hi : ops[i]? with
    | none => rw [hi] at hr; cases hr
    | some o =>
      rw [hi] at hr
      simp only at hr
      simp only [planOk, hi, Bool.and_eq_true] at hok
      obtain ⟨⟨⟨k1, k2⟩, k3⟩, k4⟩ := hok
      cases hw : wantedT ops o t with
      | none => rw [hw] at hr; cases hr
      | some b =>
        have hb := wanted_is hw ht
        rw [hw] at hr
        cases b with
        | false =>
          simp only at hr
          exact wpAnyH_take hi hsel k2 k1 (fun c a w hc => absurd hc (hp _ _ _)) (.inr ⟨hb, rfl⟩) r0 (planned_ok hcall hsel hp hn hr k4 r (ht.put o.dst (isA_plain E undef)) r0 hs he hnx fun E' w' a' hs' ht' hd => hq _ _ _ hs' ht' (hd.trans (put_defers ..)))
        | true =>
          simp only at hr
          cases hop : op C t o { hS with next := h.next } with
          | none => rw [hop] at hr; cases hr
          | some q =>
            obtain ⟨q, h2⟩ := q
            rw [hop] at hr
            cases q with
            | enter f as => cases hr
            | v x =>
              simp only at hr
              obtain ⟨_, hst⟩ := op_still (N0 := N0) k3 hop
              have yes : ∀ w2, Rep C N0 E0 hS w2 → ∃ u, (execOp a.eval o).run C.P w2 = .ok (.value u) w2 ∧ IsA E x u := fun w2 r2 => by
                obtain ⟨n, hrun, hc⟩ := hst E w2 a (rep_up hs r.below r2) ht
                obtain ⟨u, rfl⟩ := still_value k3 hrun
                cases hc with
                | v hx => exact ⟨u, hrun, hx⟩
              obtain ⟨u, hrun, hx⟩ := yes w r0
              refine wpAnyH_take (v := u) hi hsel k2 k1 (fun c a w hc => absurd hc (hp _ _ _)) (.inl ⟨hb, fun w2 r2 => ?_⟩) r0 ?_
              · obtain ⟨u2, hrun2, hx2⟩ := yes w2 r2
                rw [hrun2, isA_one_ hx hx2]
              · exact planned_ok hcall hsel hp hn hr k4 r (ht.put o.dst hx) r0 hs he hnx fun E' w' a' hs' ht' hd => hq _ _ _ hs' ht' (hd.trans (put_defers ..))
  | n + 1, .one i false pl, t, t', h, h', listed, hr, hok, E, w, a, r, ht, r0, hs, he, hnx, hq => by
    simp only [planned] at hr
    simp only [planOk, Bool.and_eq_true, beq_iff_eq] at hok
    obtain ⟨k1, k4⟩ := hok
    cases hc : come C call ops hS i t h with
    | none => rw [hc] at hr; cases hr
    | some q =>
      obtain ⟨t1, h1⟩ := q
      rw [hc] at hr
      refine wpAnyH_all k1 (by simp) fun j hj => ?_
      rw [List.mem_singleton] at hj
      subst hj
      exact come_ok hcall hn hc r ht r0 hs he hnx fun E1 w1 a1 hst ht1 hd1 r1 hs1 he1 hnx1 => planned_ok hcall hsel hp hn hr k4 hst.rep ht1 r1 hs1 he1 hnx1 fun E' w' a' hs' ht' hd => hq _ _ _ (hst.trans hs') ht' (hd.trans hd1)
  | n + 1, .both i j pl ql, t, t', h, h', listed, hr, hok, E, w, a, r, ht, r0, hs, he, hnx, hq => by
    simp only [planned] at hr
    simp only [planOk, Bool.and_eq_true, beq_iff_eq] at hok
    obtain ⟨⟨k1, k4⟩, k5⟩ := hok
    cases hc : come C call ops hS i t h with
    | none => rw [hc] at hr; cases hr
    | some q =>
      obtain ⟨t1, h1⟩ := q
      rw [hc] at hr
      simp only at hr
      cases hr1 : planned C call ops hS pl t1 h1 with
      | none => rw [hr1] at hr; cases hr
      | some q =>
        obtain ⟨t2, h2⟩ := q
        rw [hr1] at hr
        simp only at hr
        cases hc2 : come C call ops hS j t h with
        | none => rw [hc2] at hr; cases hr
        | some q =>
          obtain ⟨t3, h3⟩ := q
          rw [hc2] at hr
          simp only at hr
          cases hr2 : planned C call ops hS ql t3 h3 with
          | none => rw [hr2] at hr; cases hr
          | some q =>
            obtain ⟨t4, h4⟩ := q
            rw [hr2] at hr
            simp only at hr
            by_cases hse : (sameT t2 t4 && sameH h2 h4) = true
            · rw [if_pos hse] at hr
              cases hr
              rw [Bool.and_eq_true] at hse
              obtain rfl := sameT_is hse.1
              obtain rfl := sameH_is hse.2
              refine wpAnyH_all k1 (by simp) fun m hm => ?_
              simp only [List.mem_cons, List.not_mem_nil, or_false] at hm
              rcases hm with rfl | rfl
              · exact come_ok hcall hn hc r ht r0 hs he hnx fun E1 w1 a1 hst ht1 hd1 r1 hs1 he1 hnx1 => planned_ok hcall hsel hp hn hr1 k4 hst.rep ht1 r1 hs1 he1 hnx1 fun E' w' a' hs' ht' hd => hq _ _ _ (hst.trans hs') ht' (hd.trans hd1)
              · exact come_ok hcall hn hc2 r ht r0 hs he hnx fun E1 w1 a1 hst ht1 hd1 r1 hs1 he1 hnx1 => planned_ok hcall hsel hp hn hr2 k5 hst.rep ht1 r1 hs1 he1 hnx1 fun E' w' a' hs' ht' hd => hq _ _ _ (hst.trans hs') ht' (hd.trans hd1)
            · rw [if_neg hse] at hr; cases hr

theorem draw_ok {call : CallF} (hm : C.P.follows .mixedOrders = true) (hcall : CallOk C N0 call) {ops : Array Oper} {pl : Plan} (hf : planFits ops pl = true) {t t' : Tmps} (hr : regionDraw C call ops pl t h = some (t', h')) {a : Act} (r : Rep C N0 E h w) (ht : TRel E t a) {Q : Exit → Act → World → Prop} (hp : ∀ c a w, ¬ Q (.panic c) a w)
    (hq : ∀ E' w' a', Step C N0 E h w E' h' w' → TRel E' t' a' → a'.defers = a.defers → Q .normal a' w') {id : Nat} : (Code.region id ops true).wp C.P Q a w := by
  unfold regionDraw at hr
  simp only [planFits, Bool.and_eq_true] at hf
  obtain ⟨hsel, hok⟩ := hf
  have st := step_drew r
  refine wp_region_held (S := fun w => Rep C N0 E (restrict h (collect C ops h pl t [])) w) hm ?_
  have hless : Rep C N0 E (restrict h (collect C ops h pl t [])) w.drew := (step_less (h' := restrict h (collect C ops h pl t [])) st.rep (fun b x hb => by
    have : findB b (h.blocks.filter fun x => (collect C ops h pl t []).contains x.1) = some x := hb
    rw [findB_filter (fun b => (collect C ops h pl t []).contains b)] at this
    split at this
    · exact this
    · cases this) rfl).rep
  exact planned_ok hcall hsel hp (h0 := h) (hS := restrict h (collect C ops h pl t [])) rfl hr hok st.rep ht hless (Sub.refl E) (fun _ _ => rfl) (Nat.le_refl _) fun E' w' a' hs' ht' hd => hq _ _ _ (st.trans hs') ht' hd
end Go.Proofs.YtlhaaokldjdnnaaGreatDoor.Ev
namespace Go.Proofs.YtlhaaokldjdnnaaGreatDoor.Ev
open Go.RowKit
set_option linter.unusedVariables false
set_option linter.unusedSimpArgs false
variable {C : Cfg} {N0 : Nat} {E E' E1 : Env} {h h' h1 : Hp} {w w' w1 : World} {V : Out}

def X.out : X → Exit
  | .normal => .normal
  | .exit i => .exit i
  | .ret => .ret

def codeOk (plan : Nat → Option Plan) : Code → Bool
  | .region id ops true => (match plan id with | some pl => planFits ops pl | none => true)
  | .seq a b => codeOk plan a && codeOk plan b
  | .cond _ a b => codeOk plan a && codeOk plan b
  | .block _ c => codeOk plan c
  | .loop c => codeOk plan c
  | _ => true

theorem closedL_isL (E : Env) : ∀ {l : List BV} {r : List Value}, closedL l = some r → IsL E l r
  | [], r, h => by
    simp only [closedL, Option.some.injEq] at h
    subst h
    exact trivial
  | .k x :: l, r, h => by
    simp only [closedL] at h
    cases e : closedL l with
    | none => rw [e] at h; cases h
    | some r' =>
      rw [e] at h
      cases h
      exact ⟨rfl, closedL_isL E e⟩
  | .ptr .. :: _, _, h => by cases h
  | .gp .. :: _, _, h => by cases h
  | .slc .. :: _, _, h => by cases h
  | .mp .. :: _, _, h => by cases h
  | .emp .. :: _, _, h => by cases h
  | .tl .. :: _, _, h => by cases h
  | .fn .. :: _, _, h => by cases h
theorem closedC_isC (E : Env) {c : Cmp} {v : Value} (h : closedC c = some v) : IsC E c v := by
  obtain ⟨g, l⟩ := c
  cases g with
  | true =>
    simp only [closedC] at h
    cases e : closedL l with
    | none => rw [e] at h; cases h
    | some r =>
      rw [e] at h
      cases h
      exact ⟨r, closedL_isL E e, rfl⟩
  | false =>
    match l, h with
    | [.k x], h => simp only [closedC, Option.some.injEq] at h; subst h; exact rfl
    | [], h => cases h
    | [.ptr ..], h => cases h
    | [.gp ..], h => cases h
    | [.slc ..], h => cases h
    | [.mp ..], h => cases h
    | [.emp ..], h => cases h
    | [.tl ..], h => cases h
    | [.fn ..], h => cases h
    | _ :: _ :: _, h => simp [closedC] at h
theorem closedCs_isCs (E : Env) : ∀ {l : List Cmp} {r : List Value}, closedCs l = some r → IsCs E l r
  | [], r, h => by
    simp only [closedCs, Option.some.injEq] at h
    subst h
    exact trivial
  | c :: l, r, h => by
    simp only [closedCs] at h
    cases e : closedC c with
    | none => rw [e] at h; cases h
    | some x =>
      cases e2 : closedCs l with
      | none => rw [e, e2] at h; cases h
      | some r' =>
        rw [e, e2] at h
        cases h
        exact ⟨closedC_isC E e, closedCs_isCs E e2⟩
theorem closed_isA (E : Env) {x : AV} {v : Value} (h : closed x = some v) : IsA E x v := by
  cases x with
  | val c => exact closedC_isC E h
  | tup l =>
    simp only [closed] at h
    cases e : closedCs l with
    | none => rw [e] at h; cases h
    | some r =>
      rw [e] at h
      cases h
      exact ⟨r, closedCs_isCs E e, rfl⟩

theorem loadAt_ptr {P : Program} {t : TypeId} {v u : Value} (hl : (Instr.loadAt t v).run P w = .ok u w) : (do loadVar t (← asAddr v) : Sem Value).run P w = .ok u w := by
  cases v with
  | pointer a =>
    cases a with
    | none => simp [Instr.loadAt, Instr.sureAddr] at hl
    | some a => exact hl
  | _ => simp [Instr.loadAt, Instr.sureAddr] at hl
def rv (tmps : Array Value) : ResultVar → Sem Value
  | .tmp t => pure (tmps.getD t undef)
  | .cell x ty => do loadVar ty (← asAddr (tmps.getD x undef))
theorem results_eq (fn : Func) (tmps : Array Value) : results fn tmps = (do let vs ← fn.results.mapM (rv tmps); pure (if h : vs.size = 1 then vs[0] else .tuple vs) : Sem Value) := by
  unfold results
  congr 1
theorem results_is {t : Tmps} {a : Act} (r : Rep C N0 E h w) (ht : TRel E t a) : ∀ {l : List ResultVar} {cs : List Cmp}, resultsOf C t h l = some cs →
    ∃ vs : List Value, IsCs E cs vs ∧ (l.mapM (rv a.tmps)).run C.P w = .ok vs w
  | [], cs, hr => by
    simp only [resultsOf, Option.some.injEq] at hr
    subst hr
    exact ⟨[], trivial, rfl⟩
  | .tmp i :: l, cs, hr => by
    simp only [resultsOf] at hr
    split at hr
    · rename_i c q e1 e2
      cases hr
      obtain ⟨vs, h1, h2⟩ := results_is r ht e2
      have hc := ht.at_ i
      rw [e1] at hc
      refine ⟨a.tmps.getD i undef :: vs, ⟨hc, h1⟩, ?_⟩
      rw [List.mapM_cons]
      simp only [rv, Sem.run_bind, Sem.run_pure, Result.andThen_ok, h2]
    · cases hr
  | .cell i ty :: l, cs, hr => by
    simp only [resultsOf] at hr
    split at hr
    · rename_i c q e1 e2
      cases hr
      obtain ⟨vs, h1, h2⟩ := results_is r ht e2
      obtain ⟨u, hu, hc⟩ := load_is r e1 (ht.at_ i)
      refine ⟨u :: vs, ⟨hc, h1⟩, ?_⟩
      rw [List.mapM_cons]
      have := loadAt_ptr hu
      simp only [Sem.run_bind] at this
      simp only [rv, Sem.run_bind, this, Result.andThen_ok, h2, Sem.run_pure]
    · cases hr
theorem result_is {fn : Func} {t : Tmps} {a : Act} {x : AV} (hr : resultOf C fn t h = some x) (r : Rep C N0 E h w) (ht : TRel E t a) : ∃ v, (results fn a.tmps).run C.P w = .ok v w ∧ IsA E x v := by
  unfold resultOf at hr
  cases e : resultsOf C t h fn.results.toList with
  | none => rw [e] at hr; cases hr
  | some cs =>
    obtain ⟨vs, hI, hrun⟩ := results_is r ht e
    rw [e] at hr
    have hrun2 : (fn.results.mapM (rv a.tmps)).run C.P w = .ok vs.toArray w := by
      rw [Array.mapM_eq_mapM_toList, Sem.run_map, hrun]
      rfl
    match cs, hI, hr with
    | [c], hI, hr =>
      cases hr
      match vs, hI, hrun2 with
      | [v], hI, hrun2 =>
        refine ⟨v, ?_, hI.1⟩
        rw [results_eq]
        simp only [Sem.run_bind, hrun2, Result.andThen_ok]
        rfl
    | [], hI, hr =>
      cases hr
      match vs, hI, hrun2 with
      | [], hI, hrun2 =>
        refine ⟨.tuple #[], ?_, rfl⟩
        rw [results_eq]
        simp only [Sem.run_bind, hrun2, Result.andThen_ok]
        rfl
    | c :: d :: l, hI, hr =>
      cases hr
      match vs, hI, hrun2 with
      | v :: u :: vs, hI, hrun2 =>
        refine ⟨.tuple (v :: u :: vs).toArray, ?_, ⟨_, hI, rfl⟩⟩
        rw [results_eq]
        simp only [Sem.run_bind, hrun2, Result.andThen_ok]
        rw [dif_neg (by simp)]
        rfl

theorem pad_at : ∀ (n : Nat) (l : List AV) (i : Nat), l.length ≤ n → ((pad n l)[i]?).getD (plain (.tuple #[])) = (l[i]?).getD (plain (.tuple #[]))
  | 0, [], i, _ => rfl
  | n + 1, [], 0, _ => rfl
  | n + 1, [], i + 1, _ => by
    simp only [pad, List.getElem?_cons_succ]
    rw [pad_at n [] i (Nat.zero_le _)]
    simp
  | n + 1, x :: l, 0, _ => rfl
  | n + 1, x :: l, i + 1, h => by
    simp only [pad, List.getElem?_cons_succ]
    exact pad_at n l i (by simpa using h)
theorem pad_len : ∀ (n : Nat) (l : List AV), (pad n l).length = n
  | 0, _ => rfl
  | n + 1, [] => by simp [pad, pad_len n]
  | n + 1, x :: l => by simp [pad, pad_len n]
theorem start_rel {args : List AV} {us : Array Value} {n : Nat} (hl : args.length = us.size) (hn : args.length ≤ n) (hat : ∀ (i : Nat) (x : AV) (u : Value), args[i]? = some x → us[i]? = some u → IsA E x u) :
    TRel E (mkT n (pad n args)) { tmps := us ++ Array.replicate (n - us.size) undef, defers := [] } := by
  refine ⟨fun i => ?_, fun i => ?_⟩
  · rw [(mkT_at n (pad n args) i (by rw [pad_len]; exact Nat.le_refl _)).2]
    have e : (us ++ Array.replicate (n - us.size) undef).size = n := by simp; omega
    show _ = decide (i < (us ++ Array.replicate (n - us.size) undef).size)
    rw [e]
    by_cases hi : i < n
    · rw [List.getElem?_eq_getElem (by rw [pad_len]; exact hi)]
      simp [hi]
    · rw [List.getElem?_eq_none (by rw [pad_len]; omega)]
      simp [hi]
  rw [(mkT_at n (pad n args) i (by rw [pad_len]; exact Nat.le_refl _)).1, pad_at n args i hn]
  simp only [Array.getD_eq_getD_getElem?]
  by_cases hi : i < us.size
  · rw [Array.getElem?_append_left hi]
    cases e : args[i]? with
    | none => rw [List.getElem?_eq_none_iff] at e; omega
    | some x =>
      cases e2 : us[i]? with
      | none => rw [Array.getElem?_eq_none_iff] at e2; omega
      | some u => exact hat i x u e e2
  · rw [Array.getElem?_append_right (by omega), List.getElem?_eq_none (by omega)]
    have : ((Array.replicate (n - us.size) undef)[i - us.size]?).getD undef = undef := by
      rw [Array.getElem?_replicate]
      split <;> rfl
    rw [this]
    exact rfl

def closedAs : List AV → Option (List Value)
  | [] => some []
  | x :: l => match closed x, closedAs l with
    | some v, some r => some (v :: r)
    | _, _ => none
/-- What is told from outside is so. -/
structure OutOk (C : Cfg) (N0 : Nat) (V : Out) : Prop where
  mixed : C.P.follows .mixedOrders = true
  plans : ∀ f fn body, C.P.funcs[f]? = some fn → fn.body = some body → codeOk (V.plan f) body = true
  orc : ∀ f args r, V.orc f args = some r → ∃ us v, closedAs args = some us ∧ closed r = some v ∧ ∀ w : World, N0 ≤ w.heap.size → (∀ g i v, C.table g i = some v → w.cell? ⟨g, i, none⟩ = some v) → Calls C.P f us.toArray w fun e w' => e = .returned v ∧ Below w.heap.size w w'
  special : ∀ call, CallOk C N0 call → CallOk C N0 (V.special call)

theorem closedAs_is : ∀ {l : List AV} {us : List Value}, closedAs l = some us → ∀ {vs : Array Value}, l.length = vs.size → (∀ (i : Nat) (x : AV) (u : Value), l[i]? = some x → vs[i]? = some u → IsA E x u) → vs = us.toArray := by
  have key : ∀ {l : List AV} {us vs : List Value}, closedAs l = some us → l.length = vs.length → (∀ (i : Nat) (x : AV) (u : Value), l[i]? = some x → vs[i]? = some u → IsA E x u) → vs = us := by
    intro l
    induction l with
    | nil =>
      intro us vs h hl _
      simp only [closedAs, Option.some.injEq] at h
      subst h
      cases vs with
      | nil => rfl
      | cons v vs => simp at hl
    | cons x l ih =>
      intro us vs h hl hat
      simp only [closedAs] at h
      cases e : closed x with
      | none => rw [e] at h; cases h
      | some v =>
        cases e2 : closedAs l with
        | none => rw [e, e2] at h; cases h
        | some r =>
          rw [e, e2] at h
          cases h
          cases vs with
          | nil => simp at hl
          | cons u vs =>
            rw [closed_is e (hat 0 x u rfl rfl), ih (vs := vs) e2 (by simpa using hl) fun i y w hy hw => hat (i + 1) y w (by simpa using hy) (by simpa using hw)]
  intro l us h vs hl hat
  have := key h (vs := vs.toList) (by simpa using hl) fun i x u hx hu => hat i x u hx (by rwa [Array.getElem?_toList] at hu)
  rw [← this]

def cutE (E : Env) (n : Nat) : Env := fun b => if b < n then E b else none
theorem cutE_lt (E : Env) {n b : Nat} (h : b < n) : cutE E n b = E b := by simp [cutE, h]
section
variable {n : Nat}
theorem IsCaps.cut : ∀ {l : List (Nat × Nat)} {vs : List Value}, (∀ i ∈ l.map (·.1), i < n) → IsCaps E l vs → IsCaps (cutE E n) l vs
  | [], [], _, _ => trivial
  | (b, off) :: l, v :: vs, hi, h => ⟨let ⟨x, e, hv⟩ := h.1; ⟨x, by rw [cutE_lt E (hi b (by simp))]; exact e, hv⟩, IsCaps.cut (fun i hm => hi i (by simp at hm ⊢; exact .inr hm)) h.2⟩
  | [], _ :: _, _, h => h.elim
  | _ :: _, [], _, h => h.elim
theorem IsB.cut {x : BV} {v : Value} (hi : ∀ i ∈ idsB x, i < n) (h : IsB E x v) : IsB (cutE E n) x v := by
  cases x with
  | k x => exact h
  | gp g off => exact h
  | ptr b off => obtain ⟨l, e, hv⟩ := h; exact ⟨l, by rw [cutE_lt E (hi b (by simp [idsB]))]; exact e, hv⟩
  | slc b off m c => obtain ⟨l, e, hv⟩ := h; exact ⟨l, by rw [cutE_lt E (hi b (by simp [idsB]))]; exact e, hv⟩
  | mp b => obtain ⟨l, e, hv⟩ := h; exact ⟨l, by rw [cutE_lt E (hi b (by simp [idsB]))]; exact e, hv⟩
  | emp b off => obtain ⟨l, e, hv⟩ := h; exact ⟨l, by rw [cutE_lt E (hi b (by simp [idsB]))]; exact e, hv⟩
  | tl b off off1 => obtain ⟨l, e, hv⟩ := h; exact ⟨l, by rw [cutE_lt E (hi b (by simp [idsB]))]; exact e, hv⟩
  | fn f caps => obtain ⟨ps, e, hv⟩ := h; exact ⟨ps, IsCaps.cut hi e, hv⟩
theorem IsL.cut : ∀ {l : List BV} {vs : List Value}, (∀ i ∈ l.flatMap idsB, i < n) → IsL E l vs → IsL (cutE E n) l vs
  | [], [], _, _ => trivial
  | x :: l, v :: vs, hi, h => ⟨h.1.cut fun i hm => hi i (by simp at hm ⊢; exact .inl hm), IsL.cut (fun i hm => hi i (by simp at hm ⊢; exact .inr hm)) h.2⟩
  | [], _ :: _, _, h => h.elim
  | _ :: _, [], _, h => h.elim
theorem IsC.cut {c : Cmp} {v : Value} (hi : ∀ i ∈ c.cells.flatMap idsB, i < n) (h : IsC E c v) : IsC (cutE E n) c v := by
  obtain ⟨g, l⟩ := c
  cases g with
  | true => obtain ⟨vs, hv, e⟩ := h; exact ⟨vs, IsL.cut hi hv, e⟩
  | false =>
    match l, hi, h with
    | [x], hi, h => exact IsB.cut (fun i hm => hi i (by simpa using hm)) h
    | [], _, h => exact h.elim
    | _ :: _ :: _, _, h => exact h.elim
theorem IsCs.cut : ∀ {l : List Cmp} {vs : List Value}, (∀ i ∈ l.flatMap (fun c => c.cells.flatMap idsB), i < n) → IsCs E l vs → IsCs (cutE E n) l vs
  | [], [], _, _ => trivial
  | x :: l, v :: vs, hi, h => ⟨h.1.cut fun i hm => hi i (by rw [List.flatMap_cons]; exact List.mem_append_left _ hm), IsCs.cut (fun i hm => hi i (by rw [List.flatMap_cons]; exact List.mem_append_right _ hm)) h.2⟩
  | [], _ :: _, _, h => h.elim
  | _ :: _, [], _, h => h.elim
theorem IsA.cut {x : AV} {v : Value} (hi : ∀ i ∈ idsA x, i < n) (h : IsA E x v) : IsA (cutE E n) x v := by
  cases x with
  | val c => exact IsC.cut hi h
  | tup l => obtain ⟨vs, hv, e⟩ := h; exact ⟨vs, IsCs.cut hi hv, e⟩
theorem IsEs.cut : ∀ {l : List (Value × Cmp × Nat)} {xs : List MapEntry}, (∀ i ∈ l.flatMap (fun e => e.2.1.cells.flatMap idsB), i < n) → IsEs E l xs → IsEs (cutE E n) l xs
  | [], [], _, _ => trivial
  | (k, c, m) :: l, x :: xs, hi, h => ⟨⟨h.1.1, h.1.2.1.cut fun i hm => hi i (by rw [List.flatMap_cons]; exact List.mem_append_left _ hm), h.1.2.2⟩, IsEs.cut (fun i hm => hi i (by rw [List.flatMap_cons]; exact List.mem_append_right _ hm)) h.2⟩
  | [], _ :: _, _, h => h.elim
  | _ :: _, [], _, h => h.elim
theorem BlkIs.cut {l : Loc} {y : Blk} (hi : ∀ i ∈ idsBlk y, i < n) (k : BlkIs E l w y) : BlkIs (cutE E n) l w y := by
  cases y with
  | cells c sz =>
    obtain ⟨X, t, fr, h1, h2, h3⟩ := k
    exact ⟨X, t, fr, h1, fun j x hj => let ⟨v, hv, hx⟩ := h2 j x hj; ⟨v, hv, hx.cut fun i hm => hi i (List.mem_flatMap.2 ⟨x, List.mem_of_getElem? hj, hm⟩)⟩, h3⟩
  | map es clock => obtain ⟨xs, h1, h2⟩ := k; exact ⟨xs, h1, IsEs.cut hi h2⟩
  | iter s pos => exact k
end
theorem oldIds_none {n : Nat} : ∀ {l : List (Nat × Blk)}, oldIds n l = [] → ∀ b x, findB b l = some x → b < n → ∀ i ∈ idsBlk x, i < n
  | [], _, b, x, hb, _, _, _ => by cases hb
  | (c, y) :: l, ho, b, x, hb, hn, i, hi => by
    simp only [oldIds] at ho
    by_cases hc : c < n
    · rw [if_pos hc, List.append_eq_nil_iff] at ho
      by_cases hcb : c = b
      · simp only [findB, hcb, if_true, Option.some.injEq] at hb
        subst hb
        rcases Nat.lt_or_ge i n with h | h
        · exact h
        · have := List.filter_eq_nil_iff.1 ho.1 i hi
          simp at this
          omega
      · simp only [findB, hcb, if_false] at hb
        exact oldIds_none ho.2 b x hb hn i hi
    · rw [if_neg hc] at ho
      have hcb : ¬ c = b := fun e => hc (e ▸ hn)
      simp only [findB, hcb, if_false] at hb
      exact oldIds_none ho b x hb hn i hi
theorem tidy_ok {x : AV} {v : Value} (R0 : Rep C N0 E h w) (s : Step C N0 E h w E' h1 w') (hx : IsA E' x v) : ∃ E2, Step C N0 E h w E2 (tidy h.next x h1) w' ∧ IsA E2 x v := by
  unfold tidy
  by_cases hc : ((idsA x).all (· < h.next) && (oldIds h.next h1.blocks).isEmpty) = true
  · rw [if_pos hc]
    simp only [Bool.and_eq_true, List.all_eq_true, decide_eq_true_eq, List.isEmpty_iff] at hc
    have hget : ∀ b y, findB b (h1.blocks.filter fun x => decide (x.1 < h.next)) = some y → b < h.next ∧ h1.get b = some y := fun b y hb => by
      rw [findB_filter (fun b => decide (b < h.next))] at hb
      split at hb
      · rename_i hlt
        exact ⟨by simpa using hlt, hb⟩
      · cases hb
    refine ⟨cutE E' h.next, ⟨⟨fun b y hb => ?_, fun b b' y y' l l' hb hb' e e' hr => ?_, fun b l e => ?_, fun b y l hb e => ?_, s.rep.tab, s.rep.room⟩, fun b hb => by rw [cutE_lt E' hb]; exact s.ext b hb, Nat.le_refl _, s.keep, fun b y l hb e => ?_, s.size, s.os, s.tape, s.output⟩, hx.cut hc.1⟩
    · obtain ⟨hlt, hb⟩ := hget b y hb
      obtain ⟨l, e, k⟩ := s.rep.live b y hb
      exact ⟨l, by rw [cutE_lt E' hlt]; exact e, k.cut (oldIds_none hc.2 b y hb hlt)⟩
    · obtain ⟨hlt, hb⟩ := hget b y hb
      obtain ⟨hlt', hb'⟩ := hget b' y' hb'
      rw [cutE_lt E' hlt] at e
      rw [cutE_lt E' hlt'] at e'
      exact s.rep.inj b b' y y' l l' hb hb' e e' hr
    · unfold cutE at e
      split at e
      · rename_i hlt; exact hlt
      · cases e
    · obtain ⟨hlt, hb⟩ := hget b y hb
      rw [cutE_lt E' hlt] at e
      exact s.rep.base b y l hb e
    · obtain ⟨hlt, hb⟩ := hget b y hb
      rw [cutE_lt E' hlt] at e
      exact s.own b y l hb e
  · rw [if_neg hc]
    refine ⟨E', s.trans (step_less s.rep (fun b y hb => ?_) rfl), hx⟩
    have : findB b (h1.blocks.filter fun z => (decide (z.1 < h.next) || (reach h1 h.next 100000 (idsA x ++ oldIds h.next h1.blocks) []).contains z.1)) = some y := hb
    rw [findB_filter (fun b => (decide (b < h.next) || (reach h1 h.next 100000 (idsA x ++ oldIds h.next h1.blocks) []).contains b))] at this
    split at this
    · exact this
    · cases this
/-- What the evaluator's code says. -/
def CodeOk (C : Cfg) (N0 : Nat) (V : Out) (n : Nat) : Prop :=
  ∀ f c t h x t' h', codeOk (V.plan f) c = true → evCode C V n f c t h = some (x, t', h') →
    (∀ (E : Env) (w : World) (a : Act), Rep C N0 E h w → TRel E t a → c.wp C.P (Post C N0 x.out t' h' E h w a.defers) a w) ∧
    ∀ b, c = .loop b → ∃ k, ∀ (E : Env) (w : World) (a : Act) (Q : Exit → Act → World → Prop), Rep C N0 E h w → TRel E t a → (∀ e a' w', Post C N0 x.out t' h' E h w a.defers e a' w' → Q e a' w') → Code.rounds C.P b Q k a w

theorem out_normal {x : X} (h : x.out = .normal) : x = .normal := by cases x <;> first | rfl | cases h
theorem post_step {x : Exit} {t' : Tmps} {E' : Env} {a a' : Act} (s : Step C N0 E h w E' h' w') (ht : TRel E' t' a') (hd : a'.defers = a.defers) : Post C N0 x t' h' E h w a.defers x a' w' := ⟨rfl, E', s, ht, hd⟩

theorem code_step (O : OutOk C N0 V) {n : Nat} (ihc : CallOk C N0 (evCall C V n)) (ih : CodeOk C N0 V n) : CodeOk C N0 V (n + 1) := by
  have hpan : ∀ {x : Exit} {t' : Tmps} {h h' : Hp} {E : Env} {w : World} {d : List Deferred}, (∀ c, x ≠ .panic c) → ∀ c a w', ¬ Post C N0 x t' h' E h w d (.panic c) a w' := fun hx c a w' hp => hx c hp.1.symm
  intro f c t h x t' h' hok hr
  -- loops are walked round by round
  have hloop : ∀ b, c = .loop b → ∃ k, ∀ (E : Env) (w : World) (a : Act) (Q : Exit → Act → World → Prop), Rep C N0 E h w → TRel E t a → (∀ e a' w', Post C N0 x.out t' h' E h w a.defers e a' w' → Q e a' w') → Code.rounds C.P b Q k a w := by
    intro b hc
    subst hc
    simp only [codeOk] at hok
    simp only [evCode] at hr
    cases hb : evCode C V n f b t h with
    | none => rw [hb] at hr; cases hr
    | some q =>
      obtain ⟨x1, t1, h1⟩ := q
      rw [hb] at hr
      have h1b := (ih f b t h x1 t1 h1 hok hb).1
      cases x1 with
      | normal =>
        simp only at hr
        obtain ⟨k, hk⟩ := (ih f (.loop b) t1 h1 x t' h' (by simpa [codeOk] using hok) hr).2 b rfl
        refine ⟨k + 1, fun E w a Q r ht hq => ?_⟩
        rw [rounds_succ]
        refine wp_mono (h1b E w a r ht) fun e a1 w1 hp => ?_
        obtain ⟨rfl, E1, hs, ht1, hd1⟩ := hp
        refine hk E1 w1 a1 Q hs.rep ht1 fun e a' w' hp => hq _ _ _ ?_
        rw [hd1] at hp
        exact Post.trans hs hp
      | exit i =>
        simp only [Option.some.injEq, Prod.mk.injEq] at hr
        obtain ⟨rfl, rfl, rfl⟩ := hr
        refine ⟨1, fun E w a Q r ht hq => ?_⟩
        rw [rounds_succ]
        refine wp_mono (h1b E w a r ht) fun e a1 w1 hp => ?_
        have he := hp.1
        subst he
        exact hq _ _ _ hp
      | ret =>
        simp only [Option.some.injEq, Prod.mk.injEq] at hr
        obtain ⟨rfl, rfl, rfl⟩ := hr
        refine ⟨1, fun E w a Q r ht hq => ?_⟩
        rw [rounds_succ]
        refine wp_mono (h1b E w a r ht) fun e a1 w1 hp => ?_
        have he := hp.1
        subst he
        exact hq _ _ _ hp
  refine ⟨fun E w a r ht => ?_, hloop⟩
  cases c with
  | skip =>
    simp only [evCode, Option.some.injEq, Prod.mk.injEq] at hr
    obtain ⟨rfl, rfl, rfl⟩ := hr
    exact wp_skip (post_step (Step.refl r) ht rfl)
  | label l =>
    simp only [evCode, Option.some.injEq, Prod.mk.injEq] at hr
    obtain ⟨rfl, rfl, rfl⟩ := hr
    exact wp_label (post_step (Step.refl r) ht rfl)
  | ret =>
    simp only [evCode, Option.some.injEq, Prod.mk.injEq] at hr
    obtain ⟨rfl, rfl, rfl⟩ := hr
    exact wp_ret (post_step (Step.refl r) ht rfl)
  | exit i =>
    simp only [evCode, Option.some.injEq, Prod.mk.injEq] at hr
    obtain ⟨rfl, rfl, rfl⟩ := hr
    exact wp_exit (post_step (Step.refl r) ht rfl)
  | seq b c =>
    simp only [codeOk, Bool.and_eq_true] at hok
    simp only [evCode] at hr
    cases hb : evCode C V n f b t h with
    | none => rw [hb] at hr; cases hr
    | some q =>
      obtain ⟨x1, t1, h1⟩ := q
      rw [hb] at hr
      have h1b := (ih f b t h x1 t1 h1 hok.1 hb).1
      refine wp_seq (wp_mono (h1b E w a r ht) fun e a1 w1 hp => ?_)
      cases x1 with
      | normal =>
        simp only at hr
        obtain ⟨rfl, E1, hs, ht1, hd1⟩ := hp
        refine wp_mono ((ih f c t1 h1 x t' h' hok.2 hr).1 E1 w1 a1 hs.rep ht1) fun e a' w' hp => ?_
        rw [hd1] at hp
        exact Post.trans hs hp
      | exit i =>
        simp only [Option.some.injEq, Prod.mk.injEq] at hr
        obtain ⟨rfl, rfl, rfl⟩ := hr
        have he := hp.1
        subst he
        exact hp
      | ret =>
        simp only [Option.some.injEq, Prod.mk.injEq] at hr
        obtain ⟨rfl, rfl, rfl⟩ := hr
        have he := hp.1
        subst he
        exact hp
  | cond q b c =>
    simp only [codeOk, Bool.and_eq_true] at hok
    simp only [evCode] at hr
    split at hr
    · rename_i e1
      exact wp_cond_true (asOne_is e1 (ht.opd q)) ((ih f b t h x t' h' hok.1 hr).1 E w a r ht)
    · rename_i e1
      exact wp_cond_false (asOne_is e1 (ht.opd q)) ((ih f c t h x t' h' hok.2 hr).1 E w a r ht)
    · cases hr
  | block i b =>
    simp only [codeOk] at hok
    simp only [evCode] at hr
    cases hb : evCode C V n f b t h with
    | none => rw [hb] at hr; cases hr
    | some q =>
      obtain ⟨x1, t1, h1⟩ := q
      rw [hb] at hr
      have h1b := (ih f b t h x1 t1 h1 hok hb).1
      refine wp_block (wp_mono (h1b E w a r ht) fun e a1 w1 hp => ?_)
      have he := hp.1
      subst he
      cases x1 with
      | normal =>
        simp only [Option.some.injEq, Prod.mk.injEq] at hr
        obtain ⟨rfl, rfl, rfl⟩ := hr
        exact hp
      | exit j =>
        simp only [Option.some.injEq, Prod.mk.injEq] at hr
        obtain ⟨rfl, rfl, rfl⟩ := hr
        show Exit.inBlock i _ (.exit j) a1 w1
        unfold Exit.inBlock
        by_cases hj : j = i
        · simp only [hj, if_true]
          exact ⟨rfl, hp.2⟩
        · simp only [hj, if_false]
          exact hp
      | ret =>
        simp only [Option.some.injEq, Prod.mk.injEq] at hr
        obtain ⟨rfl, rfl, rfl⟩ := hr
        exact hp
  | loop b =>
    obtain ⟨k, hk⟩ := hloop b rfl
    exact wp_loop_rounds k (hk E w a _ r ht fun _ _ _ hp => hp)
  | region id ops dr =>
    cases dr with
    | false =>
      simp only [evCode] at hr
      cases hg : region C (evCall C V n) ops ops.toList t h with
      | none => rw [hg] at hr; cases hr
      | some q =>
        obtain ⟨t1, h1⟩ := q
        rw [hg] at hr
        simp only [Option.some.injEq, Prod.mk.injEq] at hr
        obtain ⟨rfl, rfl, rfl⟩ := hr
        exact wp_region_list (region_ok ihc hg r ht fun E' w' a' hs ht' hd => post_step hs ht' hd)
    | true =>
      simp only [evCode] at hr
      cases hpl : V.plan f id with
      | none => rw [hpl] at hr; cases hr
      | some pl =>
        rw [hpl] at hr
        simp only at hr
        simp only [codeOk, hpl] at hok
        cases hg : regionDraw C (evCall C V n) ops pl t h with
        | none => rw [hg] at hr; cases hr
        | some q =>
          obtain ⟨t1, h1⟩ := q
          rw [hg] at hr
          simp only [Option.some.injEq, Prod.mk.injEq] at hr
          obtain ⟨rfl, rfl, rfl⟩ := hr
          exact draw_ok O.mixed ihc hok hg r ht (hpan fun c e => by cases e) fun E' w' a' hs ht' hd => post_step hs ht' hd
  | scope b => simp only [evCode] at hr; cases hr
  | rangeFunc g ps x y => simp only [evCode] at hr; cases hr
  | goto l => simp only [evCode] at hr; cases hr
  | refuse s => simp only [evCode] at hr; cases hr

theorem body_step (O : OutOk C N0 V) {n : Nat} (ih : CodeOk C N0 V n) : CallOk C N0 (evBody C V (n + 1)) := by
  intro f args h r h' hr E w us R0 hl hat
  simp only [evBody] at hr
  cases hf : C.P.funcs[f]? with
  | none => rw [hf] at hr; cases hr
  | some fn =>
    rw [hf] at hr
    simp only at hr
    cases hb : fn.body with
    | none => rw [hb] at hr; cases hr
    | some body =>
      rw [hb] at hr
      simp only at hr
      cases hc : evCode C V n f body (mkT fn.ntmps (pad fn.ntmps args)) h with
      | none => rw [hc] at hr; cases hr
      | some q =>
        obtain ⟨x, t, h1⟩ := q
        rw [hc] at hr
        have hx : (∃ i, x = .exit i) ∨ ((x = .normal ∨ x = .ret) ∧ resultOf C fn t h1 = some r ∧ args.length ≤ fn.ntmps ∧ tidy h.next r h1 = h') := by
          cases x with
          | exit i => exact .inl ⟨i, rfl⟩
          | normal =>
            simp only at hr
            split at hr
            · rename_i r' e
              split at hr
              · rename_i hle
                cases hr
                exact .inr ⟨.inl rfl, e, hle, rfl⟩
              · cases hr
            · cases hr
          | ret =>
            simp only at hr
            split at hr
            · rename_i r' e
              split at hr
              · rename_i hle
                cases hr
                exact .inr ⟨.inr rfl, e, hle, rfl⟩
              · cases hr
            · cases hr
        rcases hx with ⟨i, rfl⟩ | ⟨hx, hres, hle, rfl⟩
        · cases hr
        · have ht := start_rel (n := fn.ntmps) hl hle hat
          refine calls_of_wp hf hb (wp_mono ((ih f body _ h x t h1 (O.plans f fn body hf hb) hc).1 E w _ R0 ht) fun e a' w' hp => ?_)
          obtain ⟨rfl, E', hs, ht', hd⟩ := hp
          obtain ⟨v, hv, hi⟩ := result_is hres hs.rep ht'
          obtain ⟨E2, hs2, hi2⟩ := tidy_ok R0 hs hi
          rcases hx with rfl | rfl
          · exact ⟨hd, v, hv, v, E2, rfl, hi2, hs2⟩
          · exact ⟨hd, v, hv, v, E2, rfl, hi2, hs2⟩

theorem call_step (O : OutOk C N0 V) {n : Nat} (ihc : CallOk C N0 (evCall C V n)) (ihb : CallOk C N0 (evBody C V n)) : CallOk C N0 (evCall C V (n + 1)) := by
  intro f args h r h' hr E w us R0 hl hat
  simp only [evCall] at hr
  cases ho : V.orc f args with
  | some q =>
    rw [ho] at hr
    simp only [Option.some.injEq, Prod.mk.injEq] at hr
    obtain ⟨rfl, rfl⟩ := hr
    obtain ⟨vs, v, h1, h2, h3⟩ := O.orc f args q ho
    rw [closedAs_is h1 hl hat]
    refine (h3 w R0.room fun g i v hg => (R0.tab g i v hg).2).mono fun e w' ⟨he, hb⟩ => ⟨v, E, he, closed_isA E h2, step_more R0 hb⟩
  | none =>
    rw [ho] at hr
    simp only at hr
    cases hs : V.special (evCall C V n) f args h with
    | some q =>
      rw [hs] at hr
      simp only [Option.some.injEq] at hr
      subst hr
      exact O.special _ ihc f args h r h' hs E w us R0 hl hat
    | none =>
      rw [hs] at hr
      simp only at hr
      by_cases hcl : allCl args = true
      · rw [if_pos hcl] at hr
        cases hb : evBody C V n f args { blocks := [], next := h.next } with
        | none => rw [hb] at hr; cases hr
        | some q =>
          obtain ⟨q, h1⟩ := q
          rw [hb] at hr
          simp only at hr
          have := ihb f args (bare h) q h1 hb E w us (rep_bare R0) hl hat
          refine this.mono fun e w' ⟨v, E', he, hi, hst⟩ => ?_
          cases hc : closed q with
          | some u =>
            simp only [hc, Option.isSome_some, if_true, Option.some.injEq, Prod.mk.injEq] at hr
            obtain ⟨rfl, rfl⟩ := hr
            refine ⟨v, E, he, ?_, step_forget R0 hst⟩
            rw [closed_is hc hi]
            exact closed_isA E hc
          | none =>
            simp only [hc, Option.isSome_none, Bool.false_eq_true, if_false, Option.some.injEq, Prod.mk.injEq] at hr
            obtain ⟨rfl, rfl⟩ := hr
            exact ⟨v, E', he, hi, step_join R0 hst⟩
      · rw [if_neg hcl] at hr
        exact ihb f args h r h' hr E w us R0 hl hat

/-- The evaluator is the model's. -/
theorem all_ok (O : OutOk C N0 V) : ∀ n, CallOk C N0 (evCall C V n) ∧ CallOk C N0 (evBody C V n) ∧ CodeOk C N0 V n
  | 0 => ⟨fun f args h r h' hr => by simp [evCall] at hr, fun f args h r h' hr => by simp [evBody] at hr, fun f c t h x t' h' _ hr => by simp [evCode] at hr⟩
  | n + 1 => by
    obtain ⟨i1, i2, i3⟩ := all_ok O n
    exact ⟨call_step O i1 i2, body_step O i3, code_step O i1 i3⟩
theorem call_is (O : OutOk C N0 V) (n : Nat) : CallOk C N0 (evCall C V n) := (all_ok O n).1
end Go.Proofs.YtlhaaokldjdnnaaGreatDoor.Ev
namespace Go.Proofs.YtlhaaokldjdnnaaGreatDoor.Ev
open Go.RowKit
set_option linter.unusedVariables false
set_option linter.unusedSimpArgs false
variable {C : Cfg} {N0 : Nat} {V : Out}

theorem closedAs_at (E : Env) : ∀ {l : List AV} {us : List Value}, closedAs l = some us → l.length = us.length ∧ ∀ (i : Nat) (x : AV) (u : Value), l[i]? = some x → us[i]? = some u → IsA E x u
  | [], us, h => by
    simp only [closedAs, Option.some.injEq] at h
    subst h
    exact ⟨rfl, fun i x u hx => by simp at hx⟩
  | x :: l, us, h => by
    simp only [closedAs] at h
    split at h
    · rename_i v r e1 e2
      cases h
      obtain ⟨k1, k2⟩ := closedAs_at E e2
      refine ⟨by simp [k1], fun i y u hy hu => ?_⟩
      cases i with
      | zero =>
        simp at hy hu
        subst hy hu
        exact closed_isA E e1
      | succ i => exact k2 i y u (by simpa using hy) (by simpa using hu)
    · cases h
theorem closed_call (O : OutOk C N0 V) (hg : ∀ g i v, C.table g i = some v → g < N0) {n m : Nat} {f : FuncId} {args : List AV} {us : List Value} {r : AV} {v : Value} {h' : Hp} (ha : closedAs args = some us) (he : evCall C V n f args { blocks := [], next := m } = some (r, h')) (hv : closed r = some v)
    (w : World) (hN : N0 ≤ w.heap.size) (ht : ∀ g i v, C.table g i = some v → w.cell? ⟨g, i, none⟩ = some v) : Calls C.P f us.toArray w fun e w' => e = .returned v ∧ Below w.heap.size w w' := by
  have nn : ∀ b x, ({ blocks := [], next := m } : Hp).get b = some x → False := fun b x hb => by cases hb
  have R0 : Rep C N0 (fun _ => none) { blocks := [], next := m } w := ⟨fun b x hb => (nn b x hb).elim, fun b b' x x' l l' hb => (nn b x hb).elim, fun b l e => (by cases e), fun b x l hb => (nn b x hb).elim, fun g i v e => ⟨hg g i v e, ht g i v e⟩, hN⟩
  obtain ⟨k1, k2⟩ := closedAs_at (fun _ => none) ha
  refine Calls.mono (call_is O n f args _ r h' he _ w us.toArray R0 (by simpa using k1) fun i x u hx hu => k2 i x u hx (by simpa using hu)) fun e w' hh => ?_
  obtain ⟨u, E', rfl, hu, hs⟩ := hh
  rw [closed_is hv hu]
  exact ⟨rfl, hs.os, hs.tape, hs.output, hs.size, fun k hk => hs.keep k hk fun b x l hb => (nn b x hb).elim⟩
end Go.Proofs.YtlhaaokldjdnnaaGreatDoor.Ev
