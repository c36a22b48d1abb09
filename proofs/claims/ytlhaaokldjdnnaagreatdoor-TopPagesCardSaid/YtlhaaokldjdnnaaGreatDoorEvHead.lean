/-
  Calls at the headers of the page's response: what the evaluator finds is what every run hands back. No condition.
-/
import Derived.Test.YtlhaaokldjdnnaaGreatDoorEvCheckAll
import Derived.Test.YtlhaaokldjdnnaaGreatDoorQFirstAll
namespace Go.Proofs.YtlhaaokldjdnnaaGreatDoor.Ev
open Go.RowKit
set_option linter.unusedVariables false
set_option linter.unusedSimpArgs false

/-- Content-Type: text/html, as one element of a slice of headers. -/
def hcells : List BV := [vT [67, 111, 110, 116, 101, 110, 116, 45, 84, 121, 112, 101], vT [116, 101, 120, 116, 47, 104, 116, 109, 108]]
def hsz : Nat := 33554434
def hH : Hp := { blocks := [(0, .cells hcells hsz)], next := 1 }
def envAt (g d : Nat) : Env := fun b => if b = 0 then some ⟨g, 0, d⟩ else none
def HeadAt (w : World) (g d : Nat) : Prop := base0 ≤ g ∧ BlkIs (envAt g d) ⟨g, 0, d⟩ w (.cells hcells hsz)
theorem HeadAt.type {w : World} {g d : Nat} (h : HeadAt w g d) : ∃ C fr, w.heap[g]? = some (.cells C 31 fr) := by
  obtain ⟨_, C, t, fr, h1, _, _, ⟨_, h2⟩, _⟩ := h
  obtain ⟨rfl, _⟩ := h2 31 (by decide)
  exact ⟨C, fr, h1⟩
theorem HeadAt.same {w w' : World} {g d : Nat} (h : HeadAt w g d) (e : w'.heap[g]? = w.heap[g]?) : HeadAt w' g d := ⟨h.1, h.2.same e⟩
theorem HeadAt.kept {w w' : World} {B g d : Nat} {T : List TypeId} (h : HeadAt w g d) (hk : Kept w w' B T) (hT : 31 ∉ T) : HeadAt w' g d := by
  obtain ⟨C, fr, e⟩ := h.type
  exact h.same (hk.keep g C 31 fr e hT)
noncomputable def headB (l : List Ent) (f : FuncId) (args : List AV) (r : AV) : Bool := match evCall cfg (outOf l) 100000 f args hH with
  | some (r', h') => sameA r' r && (match h'.get 0 with
    | some (.cells c s) => sameL c hcells && Nat.beq s hsz
    | _ => false)
  | none => false
theorem head_of {l : List Ent} (hl : ∀ e ∈ l, Said e) {f : FuncId} {args : List AV} {r : AV} {v : Value} (h : headB l f args r = true) (hv : closed r = some v) {w : World} {g d B : Nat} (hw : Told w) (hh : HeadAt w g d) (us : Array Value) (hn : args.length = us.size)
    (hus : ∀ (i : Nat) (x : AV) (u : Value), args[i]? = some x → us[i]? = some u → IsA (envAt g d) x u) (hB : B ≤ g) : Calls Tryz.prog f us w fun e w' => e = .returned v ∧ HeadAt w' g d ∧ Kept w w' B [31] := by
  unfold headB at h
  split at h
  · rename_i r' h' he
    rw [Bool.and_eq_true] at h
    obtain ⟨h1, h2⟩ := h
    have hr := sameA_is h1
    subst hr
    split at h2
    · rename_i c s hg'
      rw [Bool.and_eq_true] at h2
      obtain ⟨h3, h4⟩ := h2
      have hc := sameL_is h3
      have hs := Nat.eq_of_beq_eq_true h4
      subst hc hs
      have e0 : envAt g d 0 = some ⟨g, 0, d⟩ := rfl
      have only : ∀ b x, hH.get b = some x → b = 0 ∧ x = .cells hcells hsz := by
        intro b x hb
        have hb : findB b [(0, .cells hcells hsz)] = some x := hb
        unfold findB at hb
        split at hb
        · rename_i e
          cases hb
          exact ⟨e.symm, rfl⟩
        · cases hb
      have envOnly : ∀ b l, envAt g d b = some l → b = 0 ∧ l = ⟨g, 0, d⟩ := by
        intro b l hb
        unfold envAt at hb
        split at hb
        · rename_i e
          cases hb
          exact ⟨e, rfl⟩
        · cases hb
      have R0 : Rep cfg base0 (envAt g d) hH w := by
        refine ⟨fun b x hb => ?_, fun b b' x x' l l' hb hb' _ _ _ => ?_, fun b l e => ?_, fun b x l hb e => ?_, fun g i v e => ⟨hg_cfg g i v e, hw.2 g i v e⟩, hw.1⟩
        · obtain ⟨rfl, rfl⟩ := only b x hb
          exact ⟨_, e0, hh.2⟩
        · rw [(only b x hb).1, (only b' x' hb').1]
        · rw [(envOnly b l e).1]
          decide
        · rw [(envOnly b l e).2]
          exact hh.1
      refine Calls.mono (call_is (out_ok hl) 100000 f args _ _ h' he _ w us R0 hn hus) fun e w' hx => ?_
      obtain ⟨u, E', rfl, hu, hs⟩ := hx
      rw [closed_is hv hu]
      have hE' : E' 0 = some ⟨g, 0, d⟩ := (hs.ext 0 (by decide)).trans e0
      obtain ⟨m, hm, k⟩ := hs.rep.live 0 _ hg'
      rw [hE'] at hm
      cases hm
      have hgl : g < w.heap.size := by
        obtain ⟨C, t, fr, a, _⟩ := hh.2
        exact (Array.getElem?_eq_some_iff.1 a).1
      obtain ⟨C0, fr0, hty⟩ := hh.type
      have keep : ∀ j, j < w.heap.size → j ≠ g → w'.heap[j]? = w.heap[j]? := fun j hj hne => hs.keep j hj fun b x l hb e => by rw [(envOnly b l e).2]; exact fun e => hne e.symm
      refine ⟨rfl, ⟨hh.1, ?_⟩, ⟨hs.os, hs.tape, hs.output, hs.size, fun j hj => keep j (by omega) (by omega)⟩, fun j cs t m hj ht => ?_⟩
      · obtain ⟨C, t, fr, a1, a2, a3⟩ := k
        refine ⟨C, t, fr, a1, fun j x hx => ?_, a3⟩
        obtain ⟨v, hv1, hv2⟩ := a2 j x hx
        refine ⟨v, hv1, ?_⟩
        have hx' : x = vT [67, 111, 110, 116, 101, 110, 116, 45, 84, 121, 112, 101] ∨ x = vT [116, 101, 120, 116, 47, 104, 116, 109, 108] := by
          have := List.mem_of_getElem? hx
          simpa [hcells] using this
        rcases hx' with rfl | rfl <;> exact hv2
      · refine keep j (by exact (Array.getElem?_eq_some_iff.1 hj).1) ?_
        rintro rfl
        rw [hty] at hj
        cases hj
        exact ht (by simp)
    · cases h2
  · cases h
end Go.Proofs.YtlhaaokldjdnnaaGreatDoor.Ev
