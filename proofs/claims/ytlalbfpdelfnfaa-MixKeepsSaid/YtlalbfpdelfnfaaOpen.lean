/-
  Layer 43 (mix): a list of events that comes in, opened: what its cells hold. No condition; nothing is walked here.
-/
import Derived.Test.YtlalbfpdelfnfaaParts
import Derived.Deep.Slices
import Derived.Deep.Fields
import Derived.ChangeSame
import Derived.DataReads
namespace Go.Proofs.Ytlalbfpdelfnfaa
open Go.RowKit Go.ChangeShapes Go.WideShapes Go.Deep
set_option linter.unusedVariables false

theorem list_of {α : Type} {Q : Nat → α → Prop} : ∀ {n : Nat}, (∀ i, i < n → ∃ a, Q i a) → ∃ l : List α, l.length = n ∧ ∀ i (hi : i < l.length), Q i l[i]
  | 0, h => ⟨[], rfl, fun i hi => absurd hi (by simp)⟩
  | n + 1, h => by
    obtain ⟨l, hl, hq⟩ := list_of (n := n) fun i hi => h i (by omega)
    obtain ⟨a, ha⟩ := h n (by omega)
    refine ⟨l ++ [a], by simp [hl], fun i hi => ?_⟩
    rcases Nat.lt_or_ge i l.length with h1 | h1
    · rw [List.getElem_append_left h1]
      exact hq i h1
    · have hi' : i = n := by simp at hi; omega
      subst hi'
      rw [List.getElem_append_right h1]
      simpa [hl] using ha
theorem rd_of {α : Type} {f : α → List Value} {k : Nat} (hk : 0 < k) (hf : ∀ a, (f a).length = k) {w : World} {a : Addr} {len cap : Nat} {l : List α} (hl : l.length = len) (h1 : len ≤ cap) (h2 : cap ≤ maxLen)
    (hc : ∀ i (hi : i < l.length) r u, (f l[i])[r]? = some u → w.cell? (a.add (i * k + r)) = some u) : Rd w 0 k (.slice (some a) len cap) len (l.flatMap f) := by
  refine ⟨by rw [flat_len hf, hl], Nat.le_trans h1 h2, ?_⟩
  by_cases h0 : len = 0
  · subst h0
    exact .inl ⟨rfl, some a, cap, rfl, fun h => by cases h⟩
  · obtain ⟨b, off, spot⟩ := a
    have hl0 : 0 < l.length := by omega
    have hc0 := hc 0 hl0 0 ((f l[0])[0]'(by rw [hf]; exact hk)) (List.getElem?_eq_getElem _)
    have hspot : spot = none := by simpa [Addr.add] using World.cell?_spot hc0
    subst hspot
    refine .inr ⟨b, off, cap, rfl, Nat.zero_le _, ?_, h1, h2, fun j u hj => ?_⟩
    · rw [Go.WideShapes.add_plain] at hc0
      exact lt_of_cell (p := ⟨b, _, none⟩) hc0
    · have hjl : j < l.length * k := by
        rcases Nat.lt_or_ge j (l.length * k) with h | h
        · exact h
        · rw [List.getElem?_eq_none (by rw [flat_len hf]; exact h)] at hj
          cases hj
      have hd : j / k < l.length := Nat.div_lt_of_lt_mul (by rw [Nat.mul_comm]; exact hjl)
      have hm := Nat.mod_lt j hk
      have he : j / k * k + j % k = j := by rw [Nat.mul_comm]; exact Nat.div_add_mod j k
      have hg := flat_get hf l (j / k) hd (j % k) hm
      rw [he, hj] at hg
      have := hc (j / k) hd (j % k) u hg.symm
      rw [he, Go.WideShapes.add_plain] at this
      exact this
theorem one_of {cs : List Value} {o : Nat} {v : Value} (h : (cs.drop o).take 1 = [v]) : cs[o]? = some v := by
  have := congrArg (fun l => l[0]?) h
  simpa using this

section
variable {H : Type} {enc : TypeId × Value → H} {w : World} {spare : Nat → Bool} {held : Bool}
theorem open_hdr {fuel : Nat} {cs : List Value} {x : DataW H × List MemPlace} (h : DataW.trod enc Try.prog w 0 spare held fuel 28 cs = some x) : ∃ v hs, cs = [v] ∧ Hdr w 0 v hs ∧ ∀ p ∈ hs, FineH p := by
  rcases open_slice Try.underlying28 h with ⟨rfl, _⟩ | ⟨a, len, cap, m, n, D, Pl, rfl, hb, hl, hm, hmm, hx, hi⟩
  · exact ⟨_, [], rfl, ⟨rfl, Nat.zero_le _, .inl ⟨rfl, none, 0, rfl, fun _ => rfl⟩⟩, fun p hp => by simp at hp⟩
  · have hlm : len ≤ m := by rw [hmm]; split <;> omega
    obtain ⟨l, hll, hq⟩ := list_of (α := ByteArray × ByteArray) (Q := fun i p => FineH p ∧ ∀ r u, (hdc p)[r]? = some u → w.cell? (a.add (i * 2 + r)) = some u) (n := len) fun i hil => by
      obtain ⟨cs', hc, ht⟩ := hi i (by omega)
      have h2 : Try.prog.cellsOf 34 = 2 := by kernel_rfl
      rw [h2] at hc
      obtain ⟨xs, n', _, _, hcl, hxl, hf⟩ := DataW.trod_struct Try.underlying34 ht
      have hxl' : xs.length = 2 := hxl
      obtain ⟨_, _, hat⟩ := World.cells?_some hc
      have h9 : Try.prog.cellsOf 9 = 1 := by kernel_rfl
      have f0 : DataW.trod enc Try.prog w 0 spare held n' 9 ((cs'.drop 0).take (Try.prog.cellsOf 9)) = xs[0]? := hf 0 _ rfl
      rw [h9] at f0
      have f1 : DataW.trod enc Try.prog w 0 spare held n' 9 ((cs'.drop 1).take (Try.prog.cellsOf 9)) = xs[1]? := hf 1 _ rfl
      rw [h9] at f1
      rw [List.getElem?_eq_getElem (by omega)] at f0 f1
      obtain ⟨s0, e0, _, z0⟩ := DataW.trod_string Try.underlying9 f0
      obtain ⟨s1, e1, _, z1⟩ := DataW.trod_string Try.underlying9 f1
      refine ⟨(s0, s1), ⟨z0, z1⟩, fun r u hr => ?_⟩
      have hrl : r < 2 := by
        rcases Nat.lt_or_ge r 2 with h | h
        · exact h
        · rw [List.getElem?_eq_none (by rw [hdc_len]; exact h)] at hr
          cases hr
      rw [← Go.Deep.add_add, hat r hrl]
      have q0 := one_of e0
      have q1 := one_of e1
      match r, hrl with
      | 0, _ => rw [q0]; exact hr
      | 1, _ => rw [q1]; exact hr
    refine ⟨_, l, rfl, ?_, fun p hp => ?_⟩
    · unfold Hdr
      rw [hll]
      exact rd_of (by decide) hdc_len hll hl hm fun i hi r u hr => (hq i hi).2 r u hr
    · obtain ⟨i, hi, rfl⟩ := List.mem_iff_getElem.1 hp
      exact (hq i hi).1
theorem open_evs {fuel : Nat} {a0 : Option Addr} {len0 cap0 : Nat} {x : DataW H × List MemPlace} (h : DataW.trod enc Try.prog w 0 spare held fuel 22 [.slice a0 len0 cap0] = some x) :
    ∃ es, EvsI w 0 (.slice a0 len0 cap0) len0 es ∧ ∀ e ∈ es, FineE e := by
  rcases open_slice Try.underlying22 h with ⟨hcs, _⟩ | ⟨a, len, cap, m, n, D, Pl, hcs, hb, hl, hm, hmm, hx, hi⟩
  · simp at hcs
    obtain ⟨rfl, rfl, rfl⟩ := hcs
    exact ⟨[], ⟨[], rfl, rfl, ⟨rfl, Nat.zero_le _, .inl ⟨rfl, none, 0, rfl, fun _ => rfl⟩⟩, fun p hp => by simp at hp⟩, fun p hp => by simp at hp⟩
  · simp at hcs
    obtain ⟨rfl, rfl, rfl⟩ := hcs
    have hlm : len0 ≤ m := by rw [hmm]; split <;> omega
    obtain ⟨l, hll, hq⟩ := list_of (α := Ev × Value) (Q := fun i p => (FineE p.1 ∧ Hdr w 0 p.2 p.1.hs) ∧ ∀ r u, (evp p)[r]? = some u → w.cell? (a.add (i * 9 + r)) = some u) (n := len0) fun i hil => by
      obtain ⟨cs', hc, ht⟩ := hi i (by omega)
      have h2 : Try.prog.cellsOf 32 = 9 := by kernel_rfl
      rw [h2] at hc
      obtain ⟨xs, n', _, _, hcl, hxl, hf⟩ := DataW.trod_struct Try.underlying32 ht
      have hxl' : xs.length = 8 := hxl
      obtain ⟨_, _, hat⟩ := World.cells?_some hc
      have h9 : Try.prog.cellsOf 9 = 1 := by kernel_rfl
      have h3 : Try.prog.cellsOf 3 = 1 := by kernel_rfl
      have h30 : Try.prog.cellsOf 30 = 2 := by kernel_rfl
      have h28 : Try.prog.cellsOf 28 = 1 := by kernel_rfl
      have f0 : DataW.trod enc Try.prog w 0 spare held n' 3 ((cs'.drop 0).take (Try.prog.cellsOf 3)) = xs[0]? := hf 0 _ rfl
      rw [h3] at f0
      have f1 : DataW.trod enc Try.prog w 0 spare held n' 3 ((cs'.drop 1).take (Try.prog.cellsOf 3)) = xs[1]? := hf 1 _ rfl
      rw [h3] at f1
      have f2 : DataW.trod enc Try.prog w 0 spare held n' 9 ((cs'.drop 2).take (Try.prog.cellsOf 9)) = xs[2]? := hf 2 _ rfl
      rw [h9] at f2
      have f3 : DataW.trod enc Try.prog w 0 spare held n' 9 ((cs'.drop 3).take (Try.prog.cellsOf 9)) = xs[3]? := hf 3 _ rfl
      rw [h9] at f3
      have f4 : DataW.trod enc Try.prog w 0 spare held n' 9 ((cs'.drop 4).take (Try.prog.cellsOf 9)) = xs[4]? := hf 4 _ rfl
      rw [h9] at f4
      have f5 : DataW.trod enc Try.prog w 0 spare held n' 3 ((cs'.drop 5).take (Try.prog.cellsOf 3)) = xs[5]? := hf 5 _ rfl
      rw [h3] at f5
      have f6 : DataW.trod enc Try.prog w 0 spare held n' 30 ((cs'.drop 6).take (Try.prog.cellsOf 30)) = xs[6]? := hf 6 _ rfl
      rw [h30] at f6
      have f7 : DataW.trod enc Try.prog w 0 spare held n' 9 ((cs'.drop 8).take (Try.prog.cellsOf 9)) = xs[7]? := hf 7 _ rfl
      rw [h9] at f7
      rw [List.getElem?_eq_getElem (by omega)] at f0 f1 f2 f3 f4 f5 f6 f7
      obtain ⟨s0, e0, _, z0⟩ := DataW.trod_int Try.underlying3 f0
      obtain ⟨s1, e1, _, z1⟩ := DataW.trod_int Try.underlying3 f1
      obtain ⟨s2, e2, _, z2⟩ := DataW.trod_string Try.underlying9 f2
      obtain ⟨s3, e3, _, z3⟩ := DataW.trod_string Try.underlying9 f3
      obtain ⟨s4, e4, _, z4⟩ := DataW.trod_string Try.underlying9 f4
      obtain ⟨s5, e5, _, z5⟩ := DataW.trod_int Try.underlying3 f5
      obtain ⟨s8, e8, _, z8⟩ := DataW.trod_string Try.underlying9 f7
      obtain ⟨ys, n2, _, _, _, hyl, hg⟩ := DataW.trod_struct Try.underlying30 f6
      have hyl' : ys.length = 2 := hyl
      have g0 : DataW.trod enc Try.prog w 0 spare held n2 3 ((((cs'.drop 6).take 2).drop 0).take (Try.prog.cellsOf 3)) = ys[0]? := hg 0 _ rfl
      rw [h3] at g0
      have g1 : DataW.trod enc Try.prog w 0 spare held n2 28 ((((cs'.drop 6).take 2).drop 1).take (Try.prog.cellsOf 28)) = ys[1]? := hg 1 _ rfl
      rw [h28] at g1
      rw [List.getElem?_eq_getElem (by omega)] at g0 g1
      obtain ⟨s6, e6, _, z6⟩ := DataW.trod_int Try.underlying3 g0
      obtain ⟨hv, hs, e7, hH, hF⟩ := open_hdr g1
      have q0 := one_of e0
      have q1 := one_of e1
      have q2 := one_of e2
      have q3 := one_of e3
      have q4 := one_of e4
      have q5 := one_of e5
      have q6 : cs'[6]? = some (.int .i64 s6) := by simpa using one_of e6
      have q7 : cs'[7]? = some hv := by simpa using one_of e7
      have q8 := one_of e8
      refine ⟨(⟨s0, s1, s2, s3, s4, s5, s6, hs, s8⟩, hv), ⟨⟨z2, z3, z4, z8, hF⟩, hH⟩, fun r u hr => ?_⟩
      have hrl : r < 9 := by
        rcases Nat.lt_or_ge r 9 with h | h
        · exact h
        · rw [List.getElem?_eq_none (by rw [evp_len]; exact h)] at hr
          cases hr
      rw [← Go.Deep.add_add, hat r hrl]
      match r, hrl with
      | 0, _ => rw [q0]; exact hr
      | 1, _ => rw [q1]; exact hr
      | 2, _ => rw [q2]; exact hr
      | 3, _ => rw [q3]; exact hr
      | 4, _ => rw [q4]; exact hr
      | 5, _ => rw [q5]; exact hr
      | 6, _ => rw [q6]; exact hr
      | 7, _ => rw [q7]; exact hr
      | 8, _ => rw [q8]; exact hr
    refine ⟨l.map (·.1), ⟨l, rfl, by simp [hll], rd_of (by decide) evp_len hll hl hm fun i hi r u hr => (hq i hi).2 r u hr, fun p hp => ?_⟩, fun p hp => ?_⟩
    · obtain ⟨i, hi, rfl⟩ := List.mem_iff_getElem.1 hp
      exact (hq i hi).1.2
    · obtain ⟨p2, hp2, rfl⟩ := List.mem_map.1 hp
      obtain ⟨i, hi, rfl⟩ := List.mem_iff_getElem.1 hp2
      exact (hq i hi).1.1
theorem MixParts_walk {d0 : DataW H} {p0 : List MemPlace} (a0 : Option Addr) (len0 cap0 : Nat) (a1 a2 : Int) (W : World) (k0 : DataW.Trod enc Try.prog W 0 spare held 22 (.slice a0 len0 cap0) d0 p0) (lt0 : ∀ x ∈ p0, x.block < W.heap.size) (w1 : (Lit.int .i64 a1).wf = true) (w2 : (Lit.int .i64 a2).wf = true) :
    Calls Try.prog 5 #[.slice a0 len0 cap0, .int .i64 a1, .int .i64 a2] W fun e W' => e = .returned (.bool true) ∧ Below W.heap.size W W' := by
  obtain ⟨fuel, hf⟩ := k0
  obtain ⟨es, hE, hF⟩ := open_evs (a0 := a0) (len0 := len0) (cap0 := cap0) (by simpa [Value.cells] using hf)
  exact MixParts_walk_ a1 a2 hE hF
end
end Go.Proofs.Ytlalbfpdelfnfaa
