/-
  Parts, one behind the other: trap.catch at a function that does not panic: what the evaluator says of it is so. | trap.catch at a function that does not panic: what the evaluator answers for it is so.
-/
import Derived.Test.YtlhaaokldjdnnaaGreatDoorEvCodeAll
import Derived.Test.YtlhaaokldjdnnaaGreatDoorEvOpAll
import Derived.Test.YtlhaaokldjdnnaaGreatDoorProg
import Derived.WalkKit
import Derived.Defers
import Derived.Recover
import Derived.KernelRfl
namespace Go.Proofs.YtlhaaokldjdnnaaGreatDoor.Ev
open Go.RowKit
set_option linter.unusedVariables false
set_option linter.unusedSimpArgs false
variable {C : Cfg} {N0 : Nat} {E E' E1 : Env} {h h' h1 : Hp} {w w' w1 w2 w3 w4 : World}

theorem blk_below {l : Loc} {x : Blk} (k : BlkIs E l w x) : l.r < w.heap.size := by
  cases x with
  | cells c s => obtain ⟨X, t, fr, a, _⟩ := k; exact (Array.getElem?_eq_some_iff.1 a).1
  | map es n => obtain ⟨xs, a, _⟩ := k; exact (Array.getElem?_eq_some_iff.1 a).1
  | iter s p => exact (Array.getElem?_eq_some_iff.1 k.1).1
/-- New blocks that nobody of the abstract memory sees. -/
theorem rep_push (r : Rep C N0 E h w) (hk : ∀ k, k < w.heap.size → w2.heap[k]? = w.heap[k]?) (hs : w.heap.size ≤ w2.heap.size) : Rep C N0 E h w2 := by
  refine ⟨fun b x hb => ?_, r.inj, r.below, r.base, fun g i v hg => ?_, Nat.le_trans r.room hs⟩
  · obtain ⟨l, e, k⟩ := r.live b x hb
    exact ⟨l, e, k.same (hk _ (blk_below k))⟩
  · obtain ⟨h1, h2⟩ := r.tab g i v hg
    exact ⟨h1, (World.cell?_of_block (hk g (Nat.lt_of_lt_of_le h1 r.room))).trans h2⟩
/-- A step with blocks of its own beside it. -/
theorem step_aside (r : Rep C N0 E h w) (hk : ∀ k, k < w.heap.size → w2.heap[k]? = w.heap[k]?) (hs : w.heap.size ≤ w2.heap.size) (hos : w2.os = w.os) (ht : w2.tape = w.tape) (ho : w2.output = w.output)
    (s : Step C N0 E h w2 E' h' w3) (h4 : ∀ k, k < w.heap.size ∨ w2.heap.size ≤ k → w4.heap[k]? = w3.heap[k]?) (hs4 : w4.heap.size = w3.heap.size) (hos4 : w4.os = w3.os) (ht4 : w4.tape = w3.tape) (ho4 : w4.output = w3.output) : Step C N0 E h w E' h' w4 := by
  have side : ∀ b x l, h'.get b = some x → E' b = some l → l.r < w.heap.size ∨ w2.heap.size ≤ l.r := fun b x l hb e => by
    rcases s.own b x l hb e with h1 | ⟨b0, x0, l0, hb0, e0, hr⟩
    · exact .inr h1
    · obtain ⟨m, em, k⟩ := r.live b0 x0 hb0
      rw [e0] at em
      cases em
      exact .inl (hr ▸ blk_below k)
  refine ⟨⟨fun b x hb => ?_, s.rep.inj, s.rep.below, s.rep.base, fun g i v hg => ?_, ?_⟩, s.ext, s.next, fun k hk1 hn => ?_, fun b x l hb e => ?_, ?_, hos4.trans (s.os.trans hos), ht4.trans (s.tape.trans ht), ho4.trans (s.output.trans ho)⟩
  · obtain ⟨l, e, k⟩ := s.rep.live b x hb
    exact ⟨l, e, k.same (h4 _ (side b x l hb e))⟩
  · obtain ⟨h1, h2⟩ := s.rep.tab g i v hg
    exact ⟨h1, (World.cell?_of_block (h4 g (.inl (Nat.lt_of_lt_of_le h1 r.room)))).trans h2⟩
  · rw [hs4]; exact s.rep.room
  · rw [h4 k (.inl hk1), s.keep k (by omega) hn, hk k hk1]
  · rcases s.own b x l hb e with h1 | h1
    · exact .inl (by omega)
    · exact .inr h1
  · have := s.size
    omega

/-- The deferred function of trap.catch, behind a function that did not panic: it turns nothing. -/
theorem caught_idle (p q : Addr) (w : World) :
    CallsD Tryz.prog 196 #[.pointer (some p), .pointer (some q)] .returning w fun e u' w' => e = .returned (.tuple #[]) ∧ u' = .returning ∧ w' = w := by
  have hneq : ∀ w : World, (binOp BinOp.neq 20 .nilIface .nilIface).run Tryz.prog w = .ok (.bool false) w := fun _ => by kernel_rfl
  refine callsD_of_wpS Tryz.func196 rfl fun c₀ cs hu => ?_
  apply wpS_seq
  apply wpS_region
  simp [wpOpsS, go_sem, recoverD, hu, Tryz.ntmps196, Exit.thenS]
  apply wpS_seq
  apply wpS_region
  simp [wpOpsS, go_sem, Exit.thenS, hneq]
  refine wpS_cond (t := false) (by simp [Act.eval, Array.replicate]) ?_
  simp only [Bool.false_eq_true, if_false]
  refine wpS_of_wp (wp_skip ?_)
  cases c₀
  simp_all [bodyPostS, results, Tryz.results196, Exit.thenS]
/-- A cell that is laid what it holds. -/
theorem setCell_self {w : World} {r i : Nat} {v : Value} {c : Array Value} {t : TypeId} {fr : Nat × Nat} (hw : w.heap[r]? = some (.cells c t fr)) (hc : c[i]? = some v) : w.setCell ⟨r, i, none⟩ v = w := by
  unfold World.setCell
  have : w.heap.modify r (fun | .cells c elem frozen => .cells (if (⟨r, i, none⟩ : Addr).spot.isSome then c else c.setIfInBounds i v) elem frozen | o => o) = w.heap := by
    apply Array.ext_getElem?
    intro k
    rw [Array.getElem?_modify]
    by_cases hk : r = k
    · subst hk
      rw [if_pos rfl, hw]
      simp only [Option.map_some, Option.isSome_none, Bool.false_eq_true, if_false]
      congr 2
      apply Array.ext_getElem?
      intro j
      rw [Array.getElem?_setIfInBounds]
      split
      · rename_i hj
        subst hj
        rw [hc]
        have := (Array.getElem?_eq_some_iff.1 hc).1
        simp [this]
      · rfl
    · rw [if_neg hk]
  exact congrArg (fun h => { w with heap := h }) this
set_option maxRecDepth 100000 in
/-- trap.catch at a function that does not panic. -/
theorem catch_call {g : Nat} {caps : Array Value} {w : World} {R : World → Prop}
    (hcf : ∀ w, (callFunc g caps).run Tryz.prog w = .ok (.enter g caps) w)
    (hcall : Calls Tryz.prog g caps ((w.alloc (.cells #[.int .i64 0, .int .i64 0] 151)).alloc (.cells #[.bool false] 4)) fun e w3 => (∃ v, e = .returned v) ∧ R w3)
    (hR : ∀ w3, R w3 → w3.heap[w.heap.size]? = some (.cells #[.int .i64 0, .int .i64 0] 151) ∧ w3.heap[w.heap.size + 1]? = some (.cells #[.bool false] 4)) :
    Calls Tryz.prog 138 #[.func (.func g) #[] caps] w fun e w4 => e = .returned (.tuple #[.agg #[.int .i64 0, .int .i64 0], .bool false]) ∧ ∃ w3, R w3 ∧ (∀ k, k ≠ w.heap.size → k ≠ w.heap.size + 1 → w4.heap[k]? = w3.heap[k]?) ∧ w4.heap.size = w3.heap.size ∧ w4.os = w3.os ∧ w4.tape = w3.tape ∧ w4.output = w3.output := by
  have hmf : ∀ (fn : Fn) (first cap : Array Value) (w : World), (Instr.makeFunc fn first cap).run Tryz.prog w = .ok (.func fn first cap) w := fun _ _ _ _ => rfl
  have hnil : ∀ w : World, (binOp BinOp.eql 1 (.func (.func g) #[] caps) .nilFunc).run Tryz.prog w = .ok (.bool false) w := fun w => by
    have hE : (Op.equal 1 (.func (.func g) #[] caps) .nilFunc).run Tryz.prog w = .ok false w := by
      have H : ∀ d : Nat, (Op.equalIn (d + 1) 1 (.func (.func g) #[] caps) .nilFunc).run Tryz.prog w = .ok false w := fun d => by simp [Op.equalIn, run_under Tryz.underlying1]
      exact H 9999
    simp only [binOp, Sem.run_bind, hE]; rfl
  go_enter_defers Tryz.func138, Tryz.ntmps138
  refine wp_seq (wp_region_list ?_)
  simp [wpList, Oper.wp, go_sem, Exit.then]
  repeat apply Or.inl
  refine wp_seq (wp_seq (wp_region_list ?_))
  simp [wpList, Oper.wp, go_sem, hnil, Exit.then]
  repeat apply Or.inl
  refine wp_cond (t := false) (by simp [Act.eval, Array.replicate]) ?_
  simp only [Bool.false_eq_true, if_false]
  refine wp_skip ?_
  simp only [Exit.then]
  refine wp_seq (wp_region_list ?_)
  simp [wpList, Oper.wp, go_sem, hmf, Exit.then]
  repeat apply Or.inl
  refine wp_seq (wp_region_list ?_)
  simp [wpList, Oper.wp, go_sem, Exit.then]
  repeat apply Or.inl
  rw [hcf]
  refine Calls.mono hcall fun e w3 hh => ?_
  obtain ⟨⟨v, rfl⟩, hr⟩ := hh
  obtain ⟨k1, k2⟩ := hR w3 hr
  show Code.wp _ _ _ _ _
  refine wp_seq (wp_region_list ?_)
  have c0 : w3.cell? ⟨w.heap.size, 0, none⟩ = some (.int .i64 0) := by rw [cell_of k1]; rfl
  have c1 : w3.cell? ⟨w.heap.size, 1, none⟩ = some (.int .i64 0) := by rw [cell_of k1]; rfl
  have c2 : w3.cell? ⟨w.heap.size + 1, 0, none⟩ = some (.bool false) := by rw [cell_of k2]; rfl
  have f0 : w3.frozen? ⟨w.heap.size, 0, none⟩ = false := frozen_of k1 (by simp)
  have f1 : w3.frozen? ⟨w.heap.size, 1, none⟩ = false := frozen_of k1 (by simp)
  have f2 : w3.frozen? ⟨w.heap.size + 1, 0, none⟩ = false := frozen_of k2 (by simp)
  have s0 : w3.setCell ⟨w.heap.size, 0, none⟩ (.int .i64 0) = w3 := setCell_self k1 rfl
  have s1 : w3.setCell ⟨w.heap.size, 1, none⟩ (.int .i64 0) = w3 := setCell_self k1 rfl
  have s2 : w3.setCell ⟨w.heap.size + 1, 0, none⟩ (.bool false) = w3 := setCell_self k2 rfl
  simp [wpList, Oper.wp, go_sem, Exit.then, c0, c1, c2, f0, f1, f2, s0, s1, s2]
  repeat apply Or.inl
  refine wp_ret ?_
  show Leaves _ _ _ _ _ _ _
  refine leaves_cons (f := 196) (args := #[.pointer (some ⟨w.heap.size, 0, none⟩), .pointer (some ⟨w.heap.size + 1, 0, none⟩)]) (by simp) (by simp [go_sem]) ?_
  refine (caught_idle ⟨w.heap.size, 0, none⟩ ⟨w.heap.size + 1, 0, none⟩ _).mono ?_
  rintro e u' w'' ⟨rfl, rfl, rfl⟩
  simp [Leaves, settle, results, Tryz.results138, go_sem, c0, c1, c2]
  exact ⟨w'', hr, fun _ _ _ => rfl, rfl, rfl, rfl, rfl⟩
end Go.Proofs.YtlhaaokldjdnnaaGreatDoor.Ev
namespace Go.Proofs.YtlhaaokldjdnnaaGreatDoor.Ev
open Go.RowKit
set_option linter.unusedVariables false
set_option linter.unusedSimpArgs false
variable {C : Cfg} {N0 : Nat} {E E' E1 : Env} {h h' h1 : Hp} {w w' w1 w2 w3 w4 : World}

theorem caps_at {caps : List (Nat × Nat)} : ∀ {ps : List Value}, IsCaps E caps ps → caps.length = ps.length ∧ ∀ (i : Nat) (x : AV) (u : Value), (caps.map fun (b, off) => one (.ptr b off))[i]? = some x → ps[i]? = some u → IsA E x u := by
  induction caps with
  | nil =>
    intro ps h
    cases ps with
    | nil => exact ⟨rfl, fun i x u h => by simp at h⟩
    | cons _ _ => exact h.elim
  | cons c caps ih =>
    intro ps h
    obtain ⟨b, off⟩ := c
    cases ps with
    | nil => exact h.elim
    | cons p ps =>
      obtain ⟨h1, h2⟩ := h
      obtain ⟨k1, k2⟩ := ih h2
      refine ⟨by simp [k1], fun i x u hx hu => ?_⟩
      cases i with
      | zero =>
        simp at hx hu
        subst hx hu
        exact isA_one h1
      | succ i => exact k2 i x u (by simpa using hx) (by simpa using hu)
theorem catch_ok (hP : C.P = Tryz.prog) {call : CallF} (hc : CallOk C N0 call) {args : List AV} {r : AV} (hr : catch_ C call 138 args h = some (r, h')) {us : Array Value} (R0 : Rep C N0 E h w) (hl : args.length = us.size)
    (hat : ∀ (i : Nat) (x : AV) (u : Value), args[i]? = some x → us[i]? = some u → IsA E x u) :
    Calls C.P 138 us w fun e w' => ∃ v E', e = .returned v ∧ IsA E' r v ∧ Step C N0 E h w E' h' w' := by
  unfold catch_ at hr
  split at hr
  · rename_i x
    split at hr
    · rename_i g caps e1
      split at hr
      · rename_i hb
        split at hr
        · rename_i r0 h2 hcl
          cases hr
          obtain ⟨u, rfl⟩ : ∃ u, us = #[u] := Array.size_eq_one_iff.1 (by simpa using hl.symm)
          obtain ⟨ps, hps, hu⟩ := asOne_is e1 (hat 0 x u rfl rfl)
          subst hu
          obtain ⟨hlen, hcat⟩ := caps_at hps
          have hkeep : ∀ k, k < w.heap.size → ((w.alloc (.cells #[.int .i64 0, .int .i64 0] 151)).alloc (.cells #[.bool false] 4)).heap[k]? = w.heap[k]? := fun k hk => by
            show ((w.heap.push _).push _)[k]? = _
            rw [Array.getElem?_push_lt (by simp; omega), Array.getElem_push_lt hk, Array.getElem?_eq_getElem hk]
          have hsz : ((w.alloc (.cells #[.int .i64 0, .int .i64 0] 151)).alloc (.cells #[.bool false] 4)).heap.size = w.heap.size + 2 := by
            show ((w.heap.push _).push _).size = _
            simp
          have R2 := rep_push R0 hkeep (by omega)
          have hcallee := hc g _ h r0 h' hcl E _ ps.toArray R2 (by simpa using hlen) (fun i y v hy hv => hcat i y v hy (by simpa using hv))
          have hidden : ∀ b x l, h.get b = some x → E b = some l → l.r < w.heap.size := fun b x l hb he => by
            obtain ⟨m, em, k⟩ := R0.live b x hb
            rw [he] at em
            cases em
            exact blk_below k
          rw [hP]
          rw [hP] at hcallee
          refine Calls.mono (catch_call (R := fun w3 => ∃ E', Step C N0 E h ((w.alloc (.cells #[.int .i64 0, .int .i64 0] 151)).alloc (.cells #[.bool false] 4)) E' h' w3) (fun w => by rw [← hP]; exact hasBody_is hb _ w) (Calls.mono hcallee fun e w3 hh => ?_) fun w3 hh => ?_) fun e w4 hh => ?_
          · obtain ⟨v, E', rfl, _, hs⟩ := hh
            exact ⟨⟨v, rfl⟩, E', hs⟩
          · obtain ⟨E', hs⟩ := hh
            refine ⟨?_, ?_⟩
            · rw [hs.keep w.heap.size (by omega) fun b x l hb he hn => by have := hidden b x l hb he; omega]
              show ((w.heap.push _).push _)[w.heap.size]? = _
              simp [Array.getElem?_push]
            · rw [hs.keep (w.heap.size + 1) (by omega) fun b x l hb he hn => by have := hidden b x l hb he; omega]
              show ((w.heap.push _).push _)[w.heap.size + 1]? = _
              rw [Array.getElem?_push, if_pos (by simp)]
          · obtain ⟨rfl, w3, ⟨E', hs⟩, k1, k2, k3, k4, k5⟩ := hh
            refine ⟨_, E', rfl, ⟨[.agg #[.int .i64 0, .int .i64 0], .bool false], ⟨⟨[.int .i64 0, .int .i64 0], ⟨rfl, rfl, trivial⟩, rfl⟩, rfl, trivial⟩, rfl⟩, step_aside R0 hkeep (by omega) rfl rfl rfl hs (fun k hk => k1 k (by omega) (by omega)) k2 k3 k4 k5⟩
        · cases hr
      · cases hr
    · cases hr
  · cases hr
end Go.Proofs.YtlhaaokldjdnnaaGreatDoor.Ev
