/-
  Layer 43 (mix): a script glued: plain, and a list of events whose last one's body grows. No condition; nothing is walked here.
-/
import Derived.Test.YtlalbfpdelfnfaaTwo
namespace Go.Proofs.Ytlalbfpdelfnfaa
open Go.RowKit
set_option linter.unusedVariables false

/-- Does e go into f? -/
def fits (f e : Ev) : Bool := decide (e.k = 3) && decide (f.k = 3) && decide (f.id = e.id)
def glueStep (os : List Ev) (e : Ev) : List Ev :=
  if h : 0 < os.length then (if fits os[os.length - 1] e = true then os.set (os.length - 1) { os[os.length - 1] with body := os[os.length - 1].body ++ e.body } else os ++ [e]) else os ++ [e]
def glueL (es : List Ev) : List Ev := es.foldl glueStep []
theorem glueL_more {es : List Ev} {i : Nat} (hi : i < es.length) : glueL (es.take (i + 1)) = glueStep (glueL (es.take i)) es[i] := by
  unfold glueL
  rw [List.take_succ_eq_append_getElem hi, List.foldl_append]
  rfl
theorem glueStep_len (os : List Ev) (e : Ev) : (glueStep os e).length ≤ os.length + 1 := by
  unfold glueStep
  split
  · split
    · rw [List.length_set]; omega
    · simp
  · simp
theorem glueStep_nil (e : Ev) : glueStep [] e = [e] := rfl
theorem glueStep_last {os : List Ev} {j : Nat} (h : os.length = j + 1) (e : Ev) : glueStep os e = if fits (os[j]'(by omega)) e = true then os.set j { os[j]'(by omega) with body := (os[j]'(by omega)).body ++ e.body } else os ++ [e] := by
  unfold glueStep
  have h1 : 0 < os.length := by omega
  have h2 : os.length - 1 = j := by omega
  rw [dif_pos h1]
  simp only [h2]
/-- The bodies do not grow beyond what came in. -/
theorem glue_size : ∀ (es os : List Ev) (s : Nat), (∀ x ∈ os, x.body.size ≤ s) → (∀ e ∈ es, e.body.size ≤ 100000) → ∀ x ∈ es.foldl glueStep os, x.body.size ≤ s + es.length * 100000
  | [], os, s, h, _ => fun x hx => by have := h x hx; simpa using this
  | e :: es, os, s, h, hb => by
    rw [List.foldl_cons]
    have h1 : ∀ x ∈ glueStep os e, x.body.size ≤ s + 100000 := by
      have he := hb e List.mem_cons_self
      intro x hx
      have key : x ∈ os ++ [e] → x.body.size ≤ s + 100000 := fun hx => by
        rcases List.mem_append.1 hx with hx | hx
        · have := h x hx
          omega
        · obtain rfl : x = e := by simpa using hx
          omega
      unfold glueStep at hx
      split at hx
      · rename_i hl
        split at hx
        · rcases List.mem_or_eq_of_mem_set hx with hx | rfl
          · have := h x hx
            omega
          · have := h os[os.length - 1] (List.getElem_mem _)
            show (os[os.length - 1].body ++ e.body).size ≤ _
            rw [ByteArray.size_append]
            omega
        · exact key hx
      · exact key hx
    intro x hx
    have := glue_size es (glueStep os e) (s + 100000) h1 (fun y hy => hb y (List.mem_cons_of_mem _ hy)) x hx
    rw [List.length_cons, Nat.add_mul]
    omega
theorem glueL_size {es : List Ev} (hb : ∀ e ∈ es, e.body.size ≤ 100000) (i : Nat) : ∀ x ∈ glueL (es.take i), x.body.size ≤ i * 100000 := fun x hx => by
  have h := glue_size (es.take i) [] 0 (fun x hx => by simp at hx) (fun e he => hb e (List.mem_of_mem_take he)) x hx
  rw [List.length_take] at h
  have : min i es.length * 100000 ≤ i * 100000 := Nat.mul_le_mul_right _ (by omega)
  omega
theorem glueL_len (es : List Ev) : (glueL es).length ≤ es.length := by
  have key : ∀ (es os : List Ev), (es.foldl glueStep os).length ≤ os.length + es.length := by
    intro es
    induction es with
    | nil => intro os; simp
    | cons e es ih =>
      intro os
      rw [List.foldl_cons, List.length_cons]
      have := ih (glueStep os e)
      have := glueStep_len os e
      omega
  have := key es []
  rw [List.length_nil, Nat.zero_add] at this
  exact this
/-- An event's body turns. -/
theorem Outs.setBody {w : World} {B lo n c g off i : Nat} {es : List Ev} (h : Outs w B lo (.slice (some ⟨g, off, none⟩) n c) n es) (hi : i < es.length) (z : ByteArray) :
    Outs (w.setCell ⟨g, off + i * 9 + 8, none⟩ (.string z)) B lo (.slice (some ⟨g, off, none⟩) n c) n (es.set i { es[i] with body := z }) := by
  have ht := h.typed
  obtain ⟨ps, h1, h2, h3, h4⟩ := h
  subst h1
  have hip : i < ps.length := by simpa using hi
  have hblk : ∀ k, k ≠ g → (w.setCell ⟨g, off + i * 9 + 8, none⟩ (.string z)).heap[k]? = w.heap[k]? := fun k hk => Below.heap_setCell w _ _ k fun e => hk (by rw [e])
  refine ⟨ps.set i ({ ps[i].1 with body := z }, ps[i].2), ?_, by simpa using h2, ?_, ?_⟩
  · rw [List.map_set]
    simp
  · rw [flat_set evp_len ps i 8 _ (.string z) hip (by omega) rfl, Nat.add_assoc]
    exact h3.set (i * 9 + 8) (.string z)
  · have key : ∀ p ∈ ps, Hds (w.setCell ⟨g, off + i * 9 + 8, none⟩ (.string z)) lo p.2 p.1.hs ∧ Apart (w.setCell ⟨g, off + i * 9 + 8, none⟩ (.string z)) B p.2 := fun p hp =>
      (h4 p hp).1.grown (h4 p hp).2 (row := some g) (by simp [World.setCell]) (fun k _ hk => hblk k fun e => hk (by rw [e])) (fun r hr => by cases hr; exact ht g rfl)
    intro p hp
    rcases List.mem_or_eq_of_mem_set hp with hp | rfl
    · exact key p hp
    · have := key ps[i] (List.getElem_mem hip)
      exact this
/-- A list's elements, where a body may turn. -/
theorem Outs.last {w : World} {B lo n c0 i : Nat} {A0 : Option Addr} {es : List Ev} (h : Outs w B lo (.slice A0 n c0) n es) (hl : i < n) :
    ∃ g off hv, ∃ hix : i < es.length, A0 = some ⟨g, off, none⟩ ∧ EvAt w g (off + i * 9) es[i] hv ∧ w.frozen? ⟨g, off + i * 9 + 8, none⟩ = false ∧ n ≤ c0 ∧ c0 ≤ maxLen ∧ B ≤ g := by
  obtain ⟨g, off, cap, hv, hv2, hc1, hc2, _, hg, he, hh⟩ := EvsG.get h.evs0 hl
  injection hv2 with q1 q2 q3
  obtain ⟨hB, cs, m, hb⟩ := h.typed g (by rw [q1]; rfl)
  refine ⟨g, off, hv, by rw [h.len]; exact hl, q1, he, ?_, by omega, by omega, hB⟩
  obtain ⟨ps, h1, h2, h3, h4⟩ := h
  rcases h3.2 with ⟨h0, _⟩ | ⟨g', off', cap', cur, hv3, _, hg3, _⟩
  · rw [q1] at h0; cases h0
  · rw [q1] at hv3
    cases hv3
    exact blk_frozen hg3 _
end Go.Proofs.Ytlalbfpdelfnfaa
