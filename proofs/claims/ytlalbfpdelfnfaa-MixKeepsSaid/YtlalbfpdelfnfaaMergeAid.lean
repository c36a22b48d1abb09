/-
  Layer 43 (mix): what Merge's walk asks of lists. No condition; nothing is walked here.
-/
import Derived.Test.YtlalbfpdelfnfaaMrg
import Derived.Test.YtlalbfpdelfnfaaConcat
import Derived.Test.YtlalbfpdelfnfaaTwo
import Derived.Test.YtlalbfpdelfnfaaCutAid
import Derived.Test.YtlalbfpdelfnfaaOwn
namespace Go.Proofs.Ytlalbfpdelfnfaa
open Go.RowKit
set_option linter.unusedVariables false

/-- An element of a list of one's own, with its headers. -/
theorem Outs.at_ {w : World} {B lo n c0 i : Nat} {A0 : Option Addr} {es : List Ev} (h : Outs w B lo (.slice A0 n c0) n es) (hl : i < n) :
    ∃ g off A1 c1, ∃ hix : i < es.length, A0 = some ⟨g, off, none⟩ ∧ EvAt w g (off + i * 9) es[i] (.slice A1 es[i].hs.length c1) ∧ Hds w 0 (.slice A1 es[i].hs.length c1) es[i].hs := by
  obtain ⟨g, off, cap, hv, hv2, hc1, hc2, _, hg, he, hh⟩ := EvsG.get h.evs0 hl
  injection hv2 with q1 q2 q3
  obtain ⟨A1, c1, rfl⟩ := hh.slice
  exact ⟨g, off, A1, c1, by rw [h.len]; exact hl, q1, he, hh⟩
/-- A list without its first event. -/
theorem Evs.tail {w : World} {lo g off p cap : Nat} {e : Ev} {es : List Ev} (h : Evs w lo (.slice (some ⟨g, off, none⟩) p cap) p (e :: es)) :
    Evs w lo (.slice (if cap = 1 then some ⟨g, off, none⟩ else some ⟨g, off + 9, none⟩) (p - 1) (cap - 1)) (p - 1) es := by
  obtain ⟨ps, h1, h2, h3, h4⟩ := h
  cases ps with
  | nil => cases h1
  | cons q ps =>
    rw [List.map_cons] at h1
    injection h1 with h1 h1'
    obtain ⟨m, rfl⟩ : ∃ m, p = m + 1 := ⟨p - 1, by simp at h2; omega⟩
    refine ⟨ps, h1', by simpa using h2, ?_, fun x hx => h4 x (List.mem_cons_of_mem _ hx)⟩
    have := h3.tail
    rw [List.flatMap_cons, List.drop_left' (evp_len q)] at this
    exact this
theorem wpList_push3 {ops : Array Oper} {rest : List Oper} {o : Oper} {a : Act} {w : World} {Q : Exit → Act → World → Prop} (hgd : o.guard = none) (s x : Operand)
    (ho : o.op = .call { callee := .builtin .append, args := #[s, x], argTypes := #[22, 22] }) {B lo lo2 H : Nat} {A : Option Addr} {c j : Nat} {os : List Ev} {wr : World} {e : Ev} (hP : Pushing w B lo A c j os wr e) (hH : wr.heap.size = H)
    {M : Value} {nM : Nat} {ms : List Ev} (hM : Outs w B lo2 M nM ms) (hne : Off M (.slice A j c)) (hO : Outs w B lo (.slice A j c) j os)
    (hs : a.eval s = .slice A j c) (hx : a.eval x = .slice (some ⟨H, 0, none⟩) 1 1)
    (k : ∀ A' c' w', Outs w' B lo (.slice A' (j + 1) c') (j + 1) (os ++ [e]) → Below B wr w' → Outs w' B lo2 M nM ms → Off M (.slice A' (j + 1) c') → wpList Try.prog ops Q rest (a.put o.dst (.slice A' (j + 1) c')) w') : wpList Try.prog ops Q (o :: rest) a w := by
  subst hH
  obtain ⟨i0, hi, ⟨z, hz, hzc⟩, hsz, hby⟩ := infoE'
  obtain ⟨xs, ys, h1, h2, h3⟩ := hP.ex
  refine wpList_append_rk hgd s x 22 ho B 32 i0 z 9 Try.underlying22 hi hz hsz hby hzc _ j xs hs h1 _ 1 ys hx h2 hP.few hP.size fun A' c' w' hr hg hown => ?_
  obtain ⟨h4, h5⟩ := h3 A' c' w' hr hg
  have hlt : ∀ b, M.ownBlock = some b → b < w.heap.size := fun b hb => by
    obtain ⟨_, cs, m, hc⟩ := hM.typed b hb
    exact blk_lt hc
  refine k A' c' w' h4 h5 (hM.grown hg (fun b hb e => hne b hb e.symm) hO.typed) fun b hb e => ?_
  rcases hown b e with h | h
  · exact hne b hb h
  · exact absurd (hlt b hb) (by omega)
end Go.Proofs.Ytlalbfpdelfnfaa
