/-
  A range over a function that makes memory between two rounds, whose body never leaves: what the iterator owes, and the statement's law. Nothing of the program stands here.
-/
import Derived.RangeFuncBox
import Derived.RangeFuncLeaves
import Derived.RangeFuncNested
import Derived.RangeFuncCalls
import Derived.Shelf.Abstract
import Derived.WalkKit
import Derived.OwnWalkIn
import Derived.TacticsInMore
import Derived.LoopNIn
import Derived.LoopIn
import Derived.Test.YtlhaaokldjdnnaaGreatDoorAidAll
namespace Go.Proofs.YtlhaaokldjdnnaaGreatDoor
open Go.RowKit Go.Shelf
set_option linter.unusedVariables false
set_option linter.unusedSimpArgs false

section
variable {P : Program} {F : Fence} {n : Nat}
/-- The iterator: own tells which blocks, of which type, it writes; Kp what a round must keep. -/
def SeqMakes {α : Type} (F : Fence) (n : Nat) (P : Program) (g : Nat) (lb : Array Value) (encs : α → Array Value) (Kp : World → World → Prop) (S : List α → Prop) (N : Nat) (Z : World → Prop) (W : World) : Prop :=
  ∀ (l : Nat) (J : List α → World → Prop) (W1 : World), Kp W W1 →
    (∀ pre X X', J pre X → Below X.heap.size X X' → J pre X') →
    (∀ pre x X, J pre X → pre.length < N → YieldAt F (n - 1) P l (encs x) X fun e X' => e = .returned (.bool true) ∧ J (pre ++ [x]) X' ∧ Kp X X') →
    J [] W1 → CallsIn F n P g (#[.func (.yield l) #[] #[]] ++ lb) W1 fun e W' => (∃ v, e = .returned v) ∧ ∃ xs, S xs ∧ J xs W' ∧ Z W'

theorem wpIn_rangeFunc_makes {α : Type} {g : Operand} {ps : Array Tmp} {assign body : Code} {Q : Exit → Act → World → Prop} {a : Act} {w : World}
    (hro : F.round = none) (h1 : 1 ≤ n) {gf : Nat} {lb : Array Value} (hg : a.eval g = .func (.func gf) #[] lb) (hFg : F.fn gf) (eg : ∀ args w, (callFunc gf args).run P w = .ok (.enter gf args) w)
    {encs : α → Array Value} {Kp : World → World → Prop} {S : List α → Prop} {N : Nat} {Z : World → Prop} (hseq : SeqMakes F (n - 1) P gf lb encs Kp S N Z w) (hZ : ∀ X X', Z X → (∀ (b : Nat) (o : Obj), X.heap[b]? = some o → o.isCells = true → X'.heap[b]? = some o) → Z X')
    (hKr : ∀ W, Kp W W) (hKt : ∀ {A B C : World}, Kp A B → Kp B C → Kp A C) (hKo : ∀ (W W' : World), (∀ b, b < w.heap.size → W'.heap[b]? = W.heap[b]?) → Kp W W') (hps : ∀ x, (encs x).size = ps.size)
    (I : List α → World → Prop) (hIo : ∀ pre X X', I pre X → (∀ b, b < w.heap.size → X'.heap[b]? = X.heap[b]?) → (∀ (b : Nat) (o : Obj), X.heap[b]? = some o → o.isCells = true → X'.heap[b]? = some o) → X'.os = X.os → X'.tape = X.tape → X'.output = X.output → X.heap.size ≤ X'.heap.size → I pre X')
    (h0 : I [] w) (a₁ : α → Nat → Act) (A : α → Nat → World → Prop) (hAk : ∀ x k X X', A x k X → (∀ (b : Nat) (o : Obj), X.heap[b]? = some o → o.isCells = true → X'.heap[b]? = some o) → A x k X')
    (hassign : ∀ (l : Nat) (x : α) (W : World) (K : Act → World → Prop), (∀ k W', Below W.heap.size W W' → A x k W' → K (a₁ x k) W') →
      assign.wpIn (F.inRound l) (n - 1 - 1) P (Exit.then K (fun _ _ _ => False)) { tmps := (ps.zip (encs x)).foldl (fun t (p, v) => t.setIfInBounds p v) a.tmps, defers := [] } W)
    (hbody : ∀ (l : Nat) (pre : List α) (x : α) (k : Nat) (W : World), I pre W → A x k W → pre.length < N → body.wpIn (F.inRound l) (n - 1 - 1) P (fun e _ W' => e = .normal ∧ KeepsFrom w.heap.size W W' ∧ Kp W W' ∧ I (pre ++ [x]) W') (a₁ x k) W)
    (hdone : ∀ (D : Nat) (xs : List α) (W : World), w.heap.size ≤ D → D < W.heap.size → S xs → I xs W → Z W → W.heap[D]? = some (.deferred (some [])) → Q .normal { a with defers := { target := .collected D, args := #[] } :: a.defers } W) :
    (Code.rangeFunc g ps assign body).wpIn F n P Q a w := by
  refine wpIn_rangeFunc fun fn hfn => ?_
  rw [hro]
  obtain ⟨rec, hrec⟩ : ∃ rec : LoopState → Option Code → Loop, rec = fun st pe => { state := st, pending := pe, fn, tmps := a.tmps, params := ps, assign, body, defers := w.heap.size } := ⟨_, rfl⟩
  obtain ⟨W1, hW1⟩ : ∃ W1, (w.alloc (.deferred (some []))).alloc (.loop (rec .ready none)) = W1 := ⟨_, rfl⟩
  have hL1 : W1.heap[w.heap.size + 1]? = some (.loop (rec .ready none)) := by
    rw [← hW1]
    have := World.alloc_heap_new (w.alloc (.deferred (some []))) (.loop (rec .ready none))
    rwa [World.size_alloc] at this
  have hK1 : W1.heap[w.heap.size]? = some (.deferred (some [])) := by
    rw [← hW1]
    exact (Below.heap_alloc _ _ _ (by simp)).trans (World.alloc_heap_new w _)
  have hlow : ∀ b, b < w.heap.size → W1.heap[b]? = w.heap[b]? := fun b hb => by
    rw [← hW1]
    exact (Below.heap_alloc _ _ _ (by simp; omega)).trans (Below.heap_alloc _ _ _ hb)
  have hI1 : I [] W1 := hIo [] w W1 h0 hlow (fun b o hb _ => (hlow b (Array.getElem?_eq_some_iff.1 hb).1).trans hb) (by rw [← hW1]; rfl) (by rw [← hW1]; rfl) (by rw [← hW1]; rfl) (by rw [← hW1, World.size_alloc, World.size_alloc]; omega)
  have put : ∀ (pre : List α) (X : World) (o o' : Obj), I pre X → X.heap[w.heap.size + 1]? = some o → o.isCells = false → I pre (X.putObj (w.heap.size + 1) o') := fun pre X o o' hi ho hc =>
    hIo pre X _ hi (fun b hb => World.putObj_heap_other (by omega)) (fun b o2 hb hc2 => by
      have hne : b ≠ w.heap.size + 1 := fun e => by
        subst e
        rw [ho] at hb
        cases hb
        rw [hc] at hc2
        cases hc2
      exact (World.putObj_heap_other hne).trans hb) rfl rfl rfl (by simp [World.putObj])
  refine ⟨w.heap.size + 1, [{ target := .collected w.heap.size, args := #[] }], W1, { target := .fn (.func gf) lb, args := #[.func (.yield (w.heap.size + 1)) #[] #[]] }, W1, gf,
    #[.func (.yield (w.heap.size + 1)) #[] #[]] ++ lb, W1, ?_, ?_, ?_, ?_, fun _ => h1, ?_⟩
  · rw [← hW1, hrec]
    exact run_enterLoop_outer _ _ _ _ _
  · simp only [resolve, hg]
    simp [go_sem]
  · intro f' hf'
    simp [Target.leads] at hf'
    subst hf'
    exact hFg
  · simp [invoke, go_sem, eg]
  refine (hseq (w.heap.size + 1) (fun pre W => I pre W ∧ W.heap[w.heap.size + 1]? = some (.loop (rec .ready none)) ∧ W.heap[w.heap.size]? = some (.deferred (some [])) ∧ True) W1 (hKo _ _ hlow) ?_ ?_ ⟨hI1, hL1, hK1, trivial⟩).mono ?_
  · rintro pre X X' ⟨hi, hl, hk, _⟩ hb
    have hlt : w.heap.size + 1 < X.heap.size := (Array.getElem?_eq_some_iff.1 hl).1
    exact ⟨hIo pre X X' hi (fun b hb' => hb.block b (by omega)) (fun b o ho _ => (hb.block b (Array.getElem?_eq_some_iff.1 ho).1).trans ho) hb.os hb.tape hb.output hb.size, (hb.block _ hlt).trans hl, (hb.block _ (by omega)).trans hk, trivial⟩
  · rintro pre x W ⟨hi, hl, hk, _⟩ hlen
    have hlt : w.heap.size + 1 < W.heap.size := (Array.getElem?_eq_some_iff.1 hl).1
    have hy := run_yield (P := P) (args := encs x) hl (by rw [hrec]; exact hps x)
    rw [hrec] at hy
    refine ⟨fn, _, assign, body, hy, roundIn_of_wpIn hfn (hassign _ x W _ fun q W' hbW hAW => ?_)⟩
    have hl' : W'.heap[w.heap.size + 1]? = some (.loop (rec .ready none)) := (hbW.block _ hlt).trans hl
    have hk' : W'.heap[w.heap.size]? = some (.deferred (some [])) := (hbW.block _ (by omega)).trans hk
    have hlt' : w.heap.size + 1 < W'.heap.size := (Array.getElem?_eq_some_iff.1 hl').1
    have hi' : I pre W' := hIo pre W W' hi (fun b hb' => hbW.block b (by omega)) (fun b o ho _ => (hbW.block b (Array.getElem?_eq_some_iff.1 ho).1).trans ho) hbW.os hbW.tape hbW.output hbW.size
    refine ⟨_, run_beginRound hl' (by rw [hrec]), ?_⟩
    obtain ⟨busy, hbusy⟩ : ∃ busy : Obj, busy = .loop { rec .ready none with state := .busy } := ⟨_, rfl⟩
    have hl2 : (W'.putObj (w.heap.size + 1) (.loop { rec .ready none with state := .busy })).heap[w.heap.size + 1]? = some (.loop { rec .ready none with state := .busy }) := World.putObj_heap_same hlt'
    have hk2 : (W'.putObj (w.heap.size + 1) (.loop { rec .ready none with state := .busy })).heap[w.heap.size]? = some (.deferred (some [])) := (World.putObj_heap_other (by omega)).trans hk'
    have hw2 : Kp W (W'.putObj (w.heap.size + 1) (.loop { rec .ready none with state := .busy })) := hKo _ _ fun b hb => (World.putObj_heap_other (by omega)).trans (hbW.block b (by omega))
    have hA2 : A x q (W'.putObj (w.heap.size + 1) (.loop { rec .ready none with state := .busy })) := hAk x q W' _ hAW fun b o hb hc => by
      have hne : b ≠ w.heap.size + 1 := fun e => by
        subst e
        rw [hl'] at hb
        cases hb
        cases hc
      exact (World.putObj_heap_other hne).trans hb
    refine wpIn_mono (hbody _ pre x q _ (put pre W' _ _ hi' hl' rfl) hA2 hlen) ?_
    rintro e a3 W3 ⟨rfl, hk3, hkp3, hi3⟩
    have hl3 := hk3.same _ _ (by omega) hl2 rfl
    have hr := run_endRound (P := P) none hl3
    rw [hrec] at hr
    refine ⟨_, _, hr, rfl, ⟨put _ W3 _ _ hi3 hl3 rfl, ?_, (World.putObj_heap_other (by omega)).trans (hk3.same _ _ (Nat.le_refl _) hk2 rfl), trivial⟩, hKt (hKt hw2 hkp3) (hKo _ _ fun b hb => World.putObj_heap_other (by omega))⟩
    rw [hrec]
    exact World.putObj_heap_same (Array.getElem?_eq_some_iff.1 hl3).1
  · rintro e W2 ⟨⟨v, rfl⟩, xs, hS, ⟨hi, hl, hk, _⟩, hz⟩
    have he := run_endLoop (P := P) hl (by rw [hrec]; simp)
    rw [hrec] at he
    refine ⟨none, _, he, hdone _ xs _ (Nat.le_refl _) ?_ hS (put xs W2 _ _ hi hl rfl) (hZ _ _ hz fun b o hb hc => ?_) ((World.putObj_heap_other (by omega)).trans hk)⟩
    · have := (Array.getElem?_eq_some_iff.1 hk).1
      simp [World.putObj]
      exact this
    · have hne : b ≠ w.heap.size + 1 := fun e => by
        subst e
        rw [hl] at hb
        cases hb
        cases hc
      exact (World.putObj_heap_other hne).trans hb
end
end Go.Proofs.YtlhaaokldjdnnaaGreatDoor
