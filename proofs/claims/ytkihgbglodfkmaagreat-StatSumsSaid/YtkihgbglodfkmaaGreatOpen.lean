/-
  Layer 41: a list of what is told that comes in, opened: what its cells hold. No condition; nothing is walked here.
-/
import Derived.Test.YtkihgbglodfkmaaGreatStatSums
import Derived.Deep.Slices
import Derived.Deep.Fields
import Derived.ChangeSame
import Derived.DataReads
namespace Go.Proofs.YtkihgbglodfkmaaGreat
open Go.RowKit Go.ChangeShapes Go.WideShapes Go.Deep
set_option linter.unusedVariables false

theorem list_of {α : Type} {Q : Nat → α → Prop} : ∀ {n : Nat}, (∀ i, i < n → ∃ a, Q i a) → ∃ l : List α, l.length = n ∧ ∀ i (hi : i < l.length), Q i l[i]
  | 0, h => ⟨[], rfl, fun i hi => absurd hi (by simp)⟩
  | n + 1, h => by
    obtain ⟨l, hl, hq⟩ := list_of (n := n) fun i hi => h i (by omega)
    obtain ⟨a, ha⟩ := h n (by omega)
    refine ⟨l ++ [a], by simp [hl], fun i hi => ?_⟩
    rcases Nat.lt_or_ge i l.length with h1 | h1
    · rw [List.getElem_append_left h1]
      exact hq i h1
    · have hi' : i = n := by simp at hi; omega
      subst hi'
      rw [List.getElem_append_right h1]
      simpa [hl] using ha
theorem rd_of {α : Type} {f : α → List Value} {k : Nat} (hk : 0 < k) (hf : ∀ a, (f a).length = k) {w : World} {a : Addr} {len cap : Nat} {l : List α} (hl : l.length = len) (h1 : len ≤ cap) (h2 : cap ≤ maxLen)
    (hc : ∀ i (hi : i < l.length) r u, (f l[i])[r]? = some u → w.cell? (a.add (i * k + r)) = some u) : Rd w 0 k (.slice (some a) len cap) len (l.flatMap f) := by
  refine ⟨by rw [flat_len hf, hl], Nat.le_trans h1 h2, ?_⟩
  by_cases h0 : len = 0
  · subst h0
    exact .inl ⟨rfl, some a, cap, rfl, fun h => by cases h⟩
  · obtain ⟨b, off, spot⟩ := a
    have hl0 : 0 < l.length := by omega
    have hc0 := hc 0 hl0 0 ((f l[0])[0]'(by rw [hf]; exact hk)) (List.getElem?_eq_getElem _)
    have hspot : spot = none := by simpa [Addr.add] using World.cell?_spot hc0
    subst hspot
    refine .inr ⟨b, off, cap, rfl, Nat.zero_le _, ?_, h1, h2, fun j u hj => ?_⟩
    · rw [Go.WideShapes.add_plain] at hc0
      exact lt_of_cell (p := ⟨b, _, none⟩) hc0
    · have hjl : j < l.length * k := by
        rcases Nat.lt_or_ge j (l.length * k) with h | h
        · exact h
        · rw [List.getElem?_eq_none (by rw [flat_len hf]; exact h)] at hj
          cases hj
      have hd : j / k < l.length := Nat.div_lt_of_lt_mul (by rw [Nat.mul_comm]; exact hjl)
      have hm := Nat.mod_lt j hk
      have he : j / k * k + j % k = j := by rw [Nat.mul_comm]; exact Nat.div_add_mod j k
      have hg := flat_get hf l (j / k) hd (j % k) hm
      rw [he, hj] at hg
      have := hc (j / k) hd (j % k) u hg.symm
      rw [he, Go.WideShapes.add_plain] at this
      exact this
theorem one_of {cs : List Value} {o : Nat} {v : Value} (h : (cs.drop o).take 1 = [v]) : cs[o]? = some v := by
  have := congrArg (fun l => l[0]?) h
  simpa using this

section
variable {H : Type} {enc : TypeId × Value → H} {w : World} {spare : Nat → Bool} {held : Bool}
theorem open_hd {fuel : Nat} {cs : List Value} {x : DataW H × List MemPlace} (h : DataW.trod enc Tryz.prog w 0 spare held fuel 46 cs = some x) : ∃ a n c, cs = [.slice a n c] := by
  rcases open_slice Tryz.underlying46 h with ⟨rfl, _⟩ | ⟨a, len, cap, m, n, D, Pl, rfl, hb, hl, hm, hmm, hx, hi⟩
  · exact ⟨_, _, _, rfl⟩
  · exact ⟨_, _, _, rfl⟩
theorem open_outs {fuel : Nat} {a0 : Option Addr} {len0 cap0 : Nat} {x : DataW H × List MemPlace} (h : DataW.trod enc Tryz.prog w 0 spare held fuel 22 [.slice a0 len0 cap0] = some x) :
    ∃ es, Os w 0 (.slice a0 len0 cap0) len0 es ∧ (∀ e ∈ es, FineO e) ∧ ∀ e ∈ es, WfI e.id := by
  rcases open_slice Tryz.underlying22 h with ⟨hcs, _⟩ | ⟨a, len, cap, m, n, D, Pl, hcs, hb, hl, hm, hmm, hx, hi⟩
  · simp at hcs
    obtain ⟨rfl, rfl, rfl⟩ := hcs
    exact ⟨[], ⟨rfl, ⟨rfl, Nat.zero_le _, .inl ⟨rfl, none, 0, rfl, fun _ => rfl⟩⟩⟩, fun p hp => by simp at hp, fun p hp => by simp at hp⟩
  · simp at hcs
    obtain ⟨rfl, rfl, rfl⟩ := hcs
    have hlm : len0 ≤ m := by rw [hmm]; split <;> omega
    obtain ⟨l, hll, hq⟩ := list_of (α := Ou) (Q := fun i p => (FineO p ∧ WfI p.id) ∧ ∀ r u, (ouc p)[r]? = some u → w.cell? (a.add (i * 6 + r)) = some u) (n := len0) fun i hil => by
      obtain ⟨cs', hc, ht⟩ := hi i (by omega)
      have h2 : Tryz.prog.cellsOf 48 = 6 := by kernel_rfl
      rw [h2] at hc
      obtain ⟨xs, n', _, _, hcl, hxl, hf⟩ := DataW.trod_struct Tryz.underlying48 ht
      have hxl' : xs.length = 6 := hxl
      obtain ⟨_, _, hat⟩ := World.cells?_some hc
      have h9 : Tryz.prog.cellsOf 9 = 1 := by kernel_rfl
      have h3 : Tryz.prog.cellsOf 3 = 1 := by kernel_rfl
      have h46 : Tryz.prog.cellsOf 46 = 1 := by kernel_rfl
      have f0 : DataW.trod enc Tryz.prog w 0 spare held n' 3 ((cs'.drop 0).take (Tryz.prog.cellsOf 3)) = xs[0]? := hf 0 _ rfl
      rw [h3] at f0
      have f1 : DataW.trod enc Tryz.prog w 0 spare held n' 3 ((cs'.drop 1).take (Tryz.prog.cellsOf 3)) = xs[1]? := hf 1 _ rfl
      rw [h3] at f1
      have f2 : DataW.trod enc Tryz.prog w 0 spare held n' 3 ((cs'.drop 2).take (Tryz.prog.cellsOf 3)) = xs[2]? := hf 2 _ rfl
      rw [h3] at f2
      have f3 : DataW.trod enc Tryz.prog w 0 spare held n' 46 ((cs'.drop 3).take (Tryz.prog.cellsOf 46)) = xs[3]? := hf 3 _ rfl
      rw [h46] at f3
      have f4 : DataW.trod enc Tryz.prog w 0 spare held n' 9 ((cs'.drop 4).take (Tryz.prog.cellsOf 9)) = xs[4]? := hf 4 _ rfl
      rw [h9] at f4
      have f5 : DataW.trod enc Tryz.prog w 0 spare held n' 9 ((cs'.drop 5).take (Tryz.prog.cellsOf 9)) = xs[5]? := hf 5 _ rfl
      rw [h9] at f5
      rw [List.getElem?_eq_getElem (by omega)] at f0 f1 f2 f3 f4 f5
      obtain ⟨s0, e0, _, z0⟩ := DataW.trod_int Tryz.underlying3 f0
      obtain ⟨s1, e1, _, z1⟩ := DataW.trod_int Tryz.underlying3 f1
      obtain ⟨s2, e2, _, z2⟩ := DataW.trod_int Tryz.underlying3 f2
      obtain ⟨ha, hn, hc', e3⟩ := open_hd f3
      obtain ⟨s4, e4, _, z4⟩ := DataW.trod_string Tryz.underlying9 f4
      obtain ⟨s5, e5, _, z5⟩ := DataW.trod_string Tryz.underlying9 f5
      have q0 := one_of e0
      have q1 := one_of e1
      have q2 := one_of e2
      have q3 := one_of e3
      have q4 := one_of e4
      have q5 := one_of e5
      refine ⟨⟨s0, s1, s2, ha, hn, hc', s4, s5⟩, ⟨⟨z4, z5⟩, z1⟩, fun r u hr => ?_⟩
      have hrl : r < 6 := by
        rcases Nat.lt_or_ge r 6 with h | h
        · exact h
        · rw [List.getElem?_eq_none (by rw [ouc_len]; exact h)] at hr
          cases hr
      rw [← Go.Deep.add_add, hat r hrl]
      match r, hrl with
      | 0, _ => rw [q0]; exact hr
      | 1, _ => rw [q1]; exact hr
      | 2, _ => rw [q2]; exact hr
      | 3, _ => rw [q3]; exact hr
      | 4, _ => rw [q4]; exact hr
      | 5, _ => rw [q5]; exact hr
    refine ⟨l, ⟨hll, rd_of (by decide) ouc_len hll hl hm fun i hi r u hr => (hq i hi).2 r u hr⟩, fun p hp => ?_, fun p hp => ?_⟩
    · obtain ⟨i, hi, rfl⟩ := List.mem_iff_getElem.1 hp
      exact (hq i hi).1.1
    · obtain ⟨i, hi, rfl⟩ := List.mem_iff_getElem.1 hp
      exact (hq i hi).1.2
theorem wf_bounds {a : Int} (h : (Lit.int .i64 a).wf = true) : -9223372036854775808 ≤ a ∧ a ≤ 9223372036854775807 := by
  simp [Lit.wf, IntKind.min, IntKind.max, IntKind.signed, IntKind.bits] at h
  omega
theorem StatSums_walk {d0 : DataW H} {p0 : List MemPlace} (a0 : Option Addr) (len0 cap0 : Nat) (a1 a2 : Int) (W : World) (k0 : DataW.Trod enc Tryz.prog W 0 spare held 22 (.slice a0 len0 cap0) d0 p0) (lt0 : ∀ x ∈ p0, x.block < W.heap.size) (w1 : (Lit.int .i64 a1).wf = true) (w2 : (Lit.int .i64 a2).wf = true) :
    Calls Tryz.prog 3 #[.slice a0 len0 cap0, .int .i64 a1, .int .i64 a2] W fun e W' => e = .returned (.bool true) ∧ Below W.heap.size W W' := by
  obtain ⟨fuel, hf⟩ := k0
  obtain ⟨es, hE, hF, hI⟩ := open_outs (a0 := a0) (len0 := len0) (cap0 := cap0) (by simpa [Value.cells] using hf)
  exact StatSums_any a1 a2 (wf_bounds w1).1 (wf_bounds w1).2 (wf_bounds w2).1 (wf_bounds w2).2 hE hF hI
end
end Go.Proofs.YtkihgbglodfkmaaGreat
