/-
  Layer 43 (mix): MixMerges, from what comes in. No condition.
-/
import Derived.Test.YtlalbfpdelfnfaaMixMerges
namespace Go.Proofs.Ytlalbfpdelfnfaa
open Go.RowKit Go.ChangeShapes Go.WideShapes Go.Deep
set_option linter.unusedVariables false
section
variable {H : Type} {enc : TypeId × Value → H} {w : World} {spare : Nat → Bool} {held : Bool}
theorem flat_one (l : List Bool) : (l.flatMap fun b => [Value.bool b]) = l.map Value.bool := by
  induction l with
  | nil => rfl
  | cons a l ih => rw [List.flatMap_cons, ih]; rfl
theorem open_turns {fuel : Nat} {a0 : Option Addr} {len0 cap0 : Nat} {x : DataW H × List MemPlace} (h : DataW.trod enc Try.prog w 0 spare held fuel 43 [.slice a0 len0 cap0] = some x) : ∃ ts, Tn w (.slice a0 len0 cap0) len0 ts := by
  rcases open_slice Try.underlying43 h with ⟨hcs, _⟩ | ⟨a, len, cap, m, n, D, Pl, hcs, hb, hl, hm, hmm, hx, hi⟩
  · simp at hcs
    obtain ⟨rfl, rfl, rfl⟩ := hcs
    exact ⟨[], rfl, Nat.zero_le _, .inl ⟨rfl, none, 0, rfl, fun _ => rfl⟩⟩
  · simp at hcs
    obtain ⟨rfl, rfl, rfl⟩ := hcs
    have hlm : len0 ≤ m := by rw [hmm]; split <;> omega
    obtain ⟨l, hll, hq⟩ := list_of (α := Bool) (Q := fun i b => ∀ r u, ([Value.bool b] : List Value)[r]? = some u → w.cell? (a.add (i * 1 + r)) = some u) (n := len0) fun i hil => by
      obtain ⟨cs', hc, ht⟩ := hi i (by omega)
      have h1 : Try.prog.cellsOf 4 = 1 := by kernel_rfl
      rw [h1] at hc
      obtain ⟨_, _, hat⟩ := World.cells?_some hc
      obtain ⟨b, rfl, _⟩ := DataW.trod_bool Try.underlying4 ht
      refine ⟨b, fun r u hr => ?_⟩
      match r with
      | 0 => rw [← Go.Deep.add_add, hat 0 (by omega)]; exact hr
      | r + 1 => simp at hr
    refine ⟨l, ?_⟩
    unfold Tn
    rw [← flat_one]
    exact rd_of (f := fun b => [Value.bool b]) (k := 1) Nat.one_pos (fun _ => rfl) hll hl hm hq
theorem MixMerges_walk {d0 d1 d2 : DataW H} {p0 p1 p2 : List MemPlace} (a0 : Option Addr) (len0 cap0 : Nat) (a1 : Option Addr) (len1 cap1 : Nat) (a2 : Option Addr) (len2 cap2 : Nat) (W : World) (k0 : DataW.Trod enc Try.prog W 0 spare held 22 (.slice a0 len0 cap0) d0 p0) (lt0 : ∀ x ∈ p0, x.block < W.heap.size)
    (k1 : DataW.Trod enc Try.prog W 0 spare held 22 (.slice a1 len1 cap1) d1 p1) (lt1 : ∀ x ∈ p1, x.block < W.heap.size) (k2 : DataW.Trod enc Try.prog W 0 spare held 43 (.slice a2 len2 cap2) d2 p2) (lt2 : ∀ x ∈ p2, x.block < W.heap.size) :
    Calls Try.prog 4 #[.slice a0 len0 cap0, .slice a1 len1 cap1, .slice a2 len2 cap2] W fun e W' => e = .returned (.bool true) ∧ Below W.heap.size W W' := by
  obtain ⟨fuel, hf⟩ := k0
  obtain ⟨fuel1, hf1⟩ := k1
  obtain ⟨fuel2, hf2⟩ := k2
  obtain ⟨es, hE, hF⟩ := open_evs (a0 := a0) (len0 := len0) (cap0 := cap0) (by simpa [Value.cells] using hf)
  obtain ⟨fs, hE1, hF1⟩ := open_evs (a0 := a1) (len0 := len1) (cap0 := cap1) (by simpa [Value.cells] using hf1)
  obtain ⟨ts, hT⟩ := open_turns (a0 := a2) (len0 := len2) (cap0 := cap2) (by simpa [Value.cells] using hf2)
  exact MixMerges_walk_ hE hF hE1 hF1 hT
end
end Go.Proofs.Ytlalbfpdelfnfaa
