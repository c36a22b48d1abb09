/-
  Layer 43 (mix): two lists of events side by side: one grows, the other's ids turn. No condition; nothing is walked here.
-/
import Derived.Test.YtlalbfpdelfnfaaPush
namespace Go.Proofs.Ytlalbfpdelfnfaa
open Go.RowKit
set_option linter.unusedVariables false

def Off (v m : Value) : Prop := ∀ b, v.ownBlock = some b → m.ownBlock ≠ some b
theorem Off.symm {v m : Value} (h : Off v m) : Off m v := fun b hb e => h b e hb
theorem Outs.grown {w w' : World} {B lo n : Nat} {v : Value} {es : List Ev} {row : Option Nat} (h : Outs w B lo v n es) (hg : w.grownBy w' row) (hne : ∀ b, v.ownBlock = some b → some b ≠ row)
    (hrow : ∀ r, row = some r → B ≤ r ∧ ∃ cs m, w.heap[r]? = some (.cells cs 32 m)) : Outs w' B lo v n es := by
  obtain ⟨ps, h1, h2, h3, h4⟩ := h
  exact ⟨ps, h1, h2, h3.keep fun j hj => hg.block j (h3.lt j hj).2 (hne j hj), fun p hp => (h4 p hp).1.grown (h4 p hp).2 hg.size hg.block hrow⟩
theorem Outs.typed {w : World} {B lo n : Nat} {v : Value} {es : List Ev} (h : Outs w B lo v n es) : ∀ r, v.ownBlock = some r → B ≤ r ∧ ∃ cs m, w.heap[r]? = some (.cells cs 32 m) := by
  obtain ⟨ps, h1, h2, h3, h4⟩ := h
  exact h3.typed
/-- A cell of another list's row turns. -/
theorem Outs.other {w : World} {B lo n n2 : Nat} {v m : Value} {es fs : List Ev} (h : Outs w B lo v n es) (hm : Outs w B lo m n2 fs) (ho : Off v m) {g i : Nat} (hg : m.ownBlock = some g) (u : Value) : Outs (w.setCell ⟨g, i, none⟩ u) B lo v n es := by
  refine h.grown (row := some g) ⟨rfl, rfl, rfl, by simp [World.setCell], fun k _ hk => Below.heap_setCell w _ _ k fun e => hk (by rw [e])⟩ (fun b hb e => ho b hb (by rw [hg, e])) ?_
  intro r hr
  cases hr
  exact hm.typed g hg
/-- The same list in a world that is the same but for its count of draws. -/
theorem flat_set {α : Type} {f : α → List Value} {k : Nat} (hf : ∀ a, (f a).length = k) : ∀ (l : List α) (j i : Nat) (a : α) (u : Value) (hj : j < l.length), i < k → f a = (f l[j]).set i u → (l.set j a).flatMap f = (l.flatMap f).set (j * k + i) u
  | [], j, i, a, u, hj, hi, h => absurd hj (by simp)
  | b :: l, 0, i, a, u, hj, hi, h => by
    simp only [List.getElem_cons_zero] at h
    rw [List.set_cons_zero, List.flatMap_cons, List.flatMap_cons, Nat.zero_mul, Nat.zero_add, List.set_append_left _ _ (by rw [hf]; exact hi), h]
  | b :: l, j + 1, i, a, u, hj, hi, h => by
    simp only [List.getElem_cons_succ] at h
    rw [List.set_cons_succ, List.flatMap_cons, List.flatMap_cons, List.set_append_right _ _ (by rw [hf, Nat.add_mul]; omega), hf, show (j + 1) * k + i - k = j * k + i by rw [Nat.add_mul]; omega]
    rw [flat_set hf l j i a u (by simpa using hj) hi h]
theorem Rk.set {w : World} {B : Nat} {e : TypeId} {k g off n c : Nat} {xs : List Value} (h : Rk w B e k (.slice (some ⟨g, off, none⟩) n c) n xs) (j : Nat) (u : Value) : Rk (w.setCell ⟨g, off + j, none⟩ u) B e k (.slice (some ⟨g, off, none⟩) n c) n (xs.set j u) := by
  refine ⟨by rw [List.length_set]; exact h.1, .inr ?_⟩
  rcases h.2 with ⟨h0, _⟩ | ⟨g', off', cap', cur, hv, hb, hg, h1, h2, h3, hx⟩
  · cases h0
  · cases hv
    refine ⟨g, off, c, cur.setIfInBounds (off + j) u, rfl, hb, blk_set hg _ _, h1, h2, by simpa using h3, fun i v hi => ?_⟩
    rw [List.getElem?_set] at hi
    rw [Array.getElem?_setIfInBounds]
    by_cases hij : j = i
    · subst hij
      rw [if_pos rfl] at hi
      split at hi
      · rename_i hjl
        rw [if_pos rfl]
        have : cur[off + j]? = some xs[j] := hx j _ (List.getElem?_eq_getElem hjl)
        rw [if_pos (Array.getElem?_eq_some_iff.1 this).1]
        exact hi
      · cases hi
    · rw [if_neg hij] at hi
      rw [if_neg (by omega)]
      exact hx i v hi
/-- An event's id turns. -/
theorem Outs.setId {w : World} {B lo n c g off i : Nat} {es : List Ev} (h : Outs w B lo (.slice (some ⟨g, off, none⟩) n c) n es) (hi : i < es.length) (z : Int) :
    Outs (w.setCell ⟨g, off + i * 9 + 1, none⟩ (.int .i64 z)) B lo (.slice (some ⟨g, off, none⟩) n c) n (es.set i { es[i] with id := z }) := by
  have ht := h.typed
  obtain ⟨ps, h1, h2, h3, h4⟩ := h
  subst h1
  have hip : i < ps.length := by simpa using hi
  have hblk : ∀ k, k ≠ g → (w.setCell ⟨g, off + i * 9 + 1, none⟩ (.int .i64 z)).heap[k]? = w.heap[k]? := fun k hk => Below.heap_setCell w _ _ k fun e => hk (by rw [e])
  refine ⟨ps.set i ({ ps[i].1 with id := z }, ps[i].2), ?_, by simpa using h2, ?_, ?_⟩
  · rw [List.map_set]
    simp
  · rw [flat_set evp_len ps i 1 _ (.int .i64 z) hip (by omega) rfl, Nat.add_assoc]
    exact h3.set (i * 9 + 1) (.int .i64 z)
  · have key : ∀ p ∈ ps, Hds (w.setCell ⟨g, off + i * 9 + 1, none⟩ (.int .i64 z)) lo p.2 p.1.hs ∧ Apart (w.setCell ⟨g, off + i * 9 + 1, none⟩ (.int .i64 z)) B p.2 := fun p hp =>
      (h4 p hp).1.grown (h4 p hp).2 (row := some g) (by simp [World.setCell]) (fun k _ hk => hblk k fun e => hk (by rw [e])) (fun r hr => by cases hr; exact ht g rfl)
    intro p hp
    rcases List.mem_or_eq_of_mem_set hp with hp | rfl
    · exact key p hp
    · have := key ps[i] (List.getElem_mem hip)
      exact this
/-- An element of a list of one's own. -/
theorem Outs.elem {w : World} {B lo n c0 i : Nat} {A0 : Option Addr} {es : List Ev} (h : Outs w B lo (.slice A0 n c0) n es) (hl : i < n) :
    ∃ g off hv, ∃ hix : i < es.length, A0 = some ⟨g, off, none⟩ ∧ EvAt w g (off + i * 9) es[i] hv ∧ w.frozen? ⟨g, off + i * 9 + 1, none⟩ = false ∧ n ≤ c0 ∧ c0 ≤ maxLen := by
  obtain ⟨g, off, cap, hv, hv2, hc1, hc2, _, hg, he, hh⟩ := EvsG.get h.evs0 hl
  injection hv2 with q1 q2 q3
  obtain ⟨hB, cs, m, hb⟩ := h.typed g (by rw [q1]; rfl)
  refine ⟨g, off, hv, by rw [h.len]; exact hl, q1, he, ?_, by omega, by omega⟩
  obtain ⟨ps, h1, h2, h3, h4⟩ := h
  rcases h3.2 with ⟨h0, _⟩ | ⟨g', off', cap', cur, hv3, _, hg3, _⟩
  · rw [q1] at h0; cases h0
  · rw [q1] at hv3
    cases hv3
    exact blk_frozen hg3 _
theorem wpList_push2 {ops : Array Oper} {rest : List Oper} {o : Oper} {a : Act} {w : World} {Q : Exit → Act → World → Prop} (hgd : o.guard = none) (s x : Operand)
    (ho : o.op = .call { callee := .builtin .append, args := #[s, x], argTypes := #[22, 22] }) {B lo : Nat} {A : Option Addr} {c j : Nat} {os : List Ev} {wr : World} {e : Ev} (hP : Pushing w B lo A c j os wr e)
    {M : Value} {nM : Nat} {ms : List Ev} (hM : Outs w B lo M nM ms) (hne : Off M (.slice A j c)) (hO : Outs w B lo (.slice A j c) j os)
    (hs : a.eval s = .slice A j c) (hx : a.eval x = .slice (some ⟨wr.heap.size, 0, none⟩) 1 1)
    (k : ∀ A' c' w', Outs w' B lo (.slice A' (j + 1) c') (j + 1) (os ++ [e]) → Below B wr w' → Outs w' B lo M nM ms → Off M (.slice A' (j + 1) c') → wpList Try.prog ops Q rest (a.put o.dst (.slice A' (j + 1) c')) w') : wpList Try.prog ops Q (o :: rest) a w := by
  obtain ⟨i0, hi, ⟨z, hz, hzc⟩, hsz, hby⟩ := infoE'
  obtain ⟨xs, ys, h1, h2, h3⟩ := hP.ex
  refine wpList_append_rk hgd s x 22 ho B 32 i0 z 9 Try.underlying22 hi hz hsz hby hzc _ j xs hs h1 _ 1 ys hx h2 hP.few hP.size fun A' c' w' hr hg hown => ?_
  obtain ⟨h4, h5⟩ := h3 A' c' w' hr hg
  have hlt : ∀ b, M.ownBlock = some b → b < w.heap.size := fun b hb => by
    obtain ⟨_, cs, m, hc⟩ := hM.typed b hb
    exact blk_lt hc
  refine k A' c' w' h4 h5 (hM.grown hg (fun b hb e => hne b hb e.symm) hO.typed) fun b hb e => ?_
  rcases hown b e with h | h
  · exact hne b hb h
  · exact absurd (hlt b hb) (by omega)
end Go.Proofs.Ytlalbfpdelfnfaa
