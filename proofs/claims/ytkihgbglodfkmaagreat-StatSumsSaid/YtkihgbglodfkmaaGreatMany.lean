/-
  A slice of one-cell elements, and what an append of a whole slice makes of it. No condition but that both together are not longer than a thousand million; nothing of the program stands here.
-/
import Derived.Test.YtkihgbglodfkmaaGreatRow
import Derived.Deep.Upon
namespace Go.Proofs.YtkihgbglodfkmaaGreat
open Go.RowKit
set_option linter.unusedVariables false

theorem blk_sets {g : Nat} {t : TypeId} : ∀ (vs : List Value) (o : Nat) (w : World) (cs : Array Value), w.heap[g]? = some (.cells cs t (0, 0)) →
    ∃ cs' : Array Value, (w.setCells g o vs).heap[g]? = some (.cells cs' t (0, 0)) ∧ cs'.size = cs.size ∧ (∀ j, j < o → cs'[j]? = cs[j]?) ∧ (∀ j u, vs[j]? = some u → o + j < cs.size → cs'[o + j]? = some u)
  | [], o, w, cs, h => ⟨cs, h, rfl, fun _ _ => rfl, fun j u hj => by simp at hj⟩
  | v :: r, o, w, cs, h => by
    obtain ⟨cs', h1, h2, h3, h4⟩ := blk_sets r (o + 1) (w.setCell ⟨g, o, none⟩ v) _ (blk_set h o v)
    rw [Array.size_setIfInBounds] at h2 h4
    refine ⟨cs', h1, h2, fun j hj => ?_, fun j u hj hlt => ?_⟩
    · rw [h3 j (by omega), Array.getElem?_setIfInBounds, if_neg (by omega)]
    · cases j with
      | zero =>
        obtain rfl : v = u := by simpa using hj
        rw [h3 _ (by omega), Array.getElem?_setIfInBounds, if_pos (by omega), if_pos (by omega)]
      | succ j =>
        have := h4 j u (by simpa using hj) (by omega)
        rwa [show o + 1 + j = o + (j + 1) by omega] at this

section
variable {P : Program}
/-- A row as what is appended. -/
theorem Row.src {w : World} {B : Nat} {e t : TypeId} {v : Value} {n : Nat} {xs : List Value} (h : Row w B e v n xs) (ht : P.underlying t = some (.slice e)) (h1 : ∀ x ∈ xs, x.oneCell' = true) : Src P 1 t v n xs w := by
  rcases h.2 with ⟨rfl, rfl⟩ | ⟨g, off, cap, cur, rfl, hb, hg, hc1, hc2, hc3, hx⟩
  · obtain rfl : xs = [] := List.eq_nil_of_length_eq_zero h.1
    exact Src.ofNil w ht 0
  · refine Src.ofSlice w ht ⟨g, off, none⟩ n cap xs (by rw [h.1, Nat.mul_one]) (fun j u hj => ?_) h1
    rw [Addr.add_lit]
    rw [cell_of_row w g _ cur e (0, 0) hg]
    exact hx j u hj

theorem run_append_rows (w : World) (B : Nat) (t ty e : TypeId) (i : TypeInfo) (z : Value) (ht : P.underlying t = some (.slice e)) (hi : P.info? e = some i) (hz : i.zero = some z) (hsize : i.size = 1)
    (hby : i.bytes ≤ 1000) (hzs : z.cells.size = 1) (g off n cap : Nat) (xs : List Value) (h : Row w B e (.slice (some ⟨g, off, none⟩) n cap) n xs) (x : Value) (m : Nat) (ys : List Value) (hs : Src P 1 t x m ys w)
    (hn : n + m ≤ 1000000000) (hB : B ≤ w.heap.size) :
    ∃ A' c' w', (Builtin.append_ #[t, t] ty #[.slice (some ⟨g, off, none⟩) n cap, x]).run P w = .ok (.slice (some A') (n + m) c') w' ∧ Row w' B e (.slice (some A') (n + m) c') (n + m) (xs ++ ys) ∧ w.grownBy w' (some g) := by
  have hl := h.1
  have hlen : (xs ++ ys).length = n + m := by rw [List.length_append, hl, hs.newsLen, Nat.mul_one]
  have hs' : Src P i.size t x m ys w := by rw [hsize]; exact hs
  have hyl : ys.length = m := by rw [hs.newsLen, Nat.mul_one]
  rcases h.2 with ⟨h0, _⟩ | ⟨g', off', cap', cur, hv, hb, hg, hc1, hc2, hc3, hx⟩
  · cases h0
  · cases hv
    by_cases hroom : n + m ≤ cap
    · have hcell : ∀ j, w.cell? ⟨g, j, none⟩ = cur[j]? := fun j => cell_of_row w g j cur e (0, 0) hg
      have hr := run_append_room_src (P := P) (w := w) t t ty e i ht hi g off n cap x m ys hs' hroom
        (fun j hj => by
          rw [hcell, hsize, Array.getElem?_eq_getElem (by omega)]
          rfl)
        (fun j _ => by simp [World.frozen?, hg])
      rw [hsize, Nat.mul_one] at hr
      obtain ⟨cs', h1, h2, h3, h4⟩ := blk_sets ys (off + n) w cur hg
      refine ⟨_, _, _, hr, ⟨hlen, .inr ⟨g, off, cap, cs', rfl, hb, h1, hroom, hc2, by omega, fun j u hj => ?_⟩⟩, ⟨(World.os_setCells w g _ ys), ?_, World.output_setCells w g _ ys, ?_, fun k hk hne => World.heap_setCells_other w g _ ys hk fun e => hne (by rw [e])⟩⟩
      · rcases Nat.lt_or_ge j n with hjn | hjn
        · rw [h3 _ (by omega)]
          rw [List.getElem?_append_left (by omega)] at hj
          exact hx j u hj
        · have hjl : j < n + m := by
            rcases Nat.lt_or_ge j (n + m) with hlt | hge
            · exact hlt
            · rw [List.getElem?_eq_none (by omega)] at hj
              cases hj
          rw [List.getElem?_append_right (by omega), hl] at hj
          have := h4 (j - n) u hj (by omega)
          rwa [show off + n + (j - n) = off + j by omega] at this
      · exact tape_sets g ys (off + n) w
      · exact size_sets g ys (off + n) w
    · have hm : (n + m) * i.bytes ≤ 140737488355328 * 8 := Nat.le_trans (Nat.mul_le_mul hn hby) (by decide)
      have hold : (Builtin.firstCells i.size n (.slice (some ⟨g, off, none⟩) n cap)).run P w.drew = .ok xs.toArray w.drew := by
        refine run_firstCells_some w.drew i.size n ⟨g, off, none⟩ n cap xs (by rw [hsize, hl, Nat.mul_one]) (fun j u' hj => ?_)
        rw [Addr.add_lit]
        show w.cell? ⟨g, off + j, none⟩ = some u'
        rw [cell_of_row w g _ cur e (0, 0) hg]
        exact hx j u' hj
      have hr := run_append_grow_src (P := P) (w := w) t t ty e i z ht hi hz (some ⟨g, off, none⟩) n cap xs hold x m ys hs' (by omega) (by omega) (growslice_fits (by omega) (Nat.le_trans (Nat.mul_le_mul hn hby) (by decide)))
      have hge := grownCap_ge w (n + m) cap e
      have hcm : grownCap w (n + m) cap e ≤ maxLen := grownCap_le_maxLen w (n + m) cap e (by unfold maxLen; omega)
      refine ⟨_, _, _, hr, ⟨hlen, .inr ⟨w.heap.size, 0, _, _, rfl, hB, heap_alloc_new w.drew _, hge, hcm, ?_, ?_⟩⟩, ⟨rfl, rfl, rfl, by simp, fun k hk _ => Below.heap_alloc w.drew _ k hk⟩⟩
      · simp only [Array.size_append, List.size_toArray, size_zeroCells, hzs, hlen]
        omega
      · intro j u hj
        have hlt : j < (xs ++ ys).length := by
          rcases Nat.lt_or_ge j (xs ++ ys).length with hl | hl
          · exact hl
          · rw [List.getElem?_eq_none hl] at hj
            cases hj
        rw [Nat.zero_add, Array.getElem?_append_left (by simpa using hlt)]
        simpa using hj
where
  tape_sets (g : Nat) : ∀ (vs : List Value) (o : Nat) (w : World), (w.setCells g o vs).tape = w.tape
    | [], _, _ => rfl
    | v :: r, o, w => tape_sets g r (o + 1) (w.setCell ⟨g, o, none⟩ v)
  size_sets (g : Nat) : ∀ (vs : List Value) (o : Nat) (w : World), w.heap.size ≤ (w.setCells g o vs).heap.size
    | [], _, _ => Nat.le_refl _
    | v :: r, o, w => by
      have := size_sets g r (o + 1) (w.setCell ⟨g, o, none⟩ v)
      have e : (w.setCell ⟨g, o, none⟩ v).heap.size = w.heap.size := by simp [World.setCell]
      rw [e] at this
      exact this

theorem wpList_append_rows {ops : Array Oper} {rest : List Oper} {o : Oper} {a : Act} {w : World} {Q : Exit → Act → World → Prop} (hgd : o.guard = none) (s x : Operand) (t : TypeId)
    (ho : o.op = .call { callee := .builtin .append, args := #[s, x], argTypes := #[t, t] })
    (B : Nat) (e : TypeId) (i : TypeInfo) (z : Value) (ht : P.underlying t = some (.slice e)) (hi : P.info? e = some i) (hz : i.zero = some z) (hsize : i.size = 1)
    (hby : i.bytes ≤ 1000) (hzs : z.cells.size = 1) (g off n cap : Nat) (xs : List Value) (hs : a.eval s = .slice (some ⟨g, off, none⟩) n cap) (h : Row w B e (.slice (some ⟨g, off, none⟩) n cap) n xs) (xv : Value) (m : Nat) (ys : List Value) (hx : a.eval x = xv)
    (hsrc : Src P 1 t xv m ys w) (hn : n + m ≤ 1000000000) (hB : B ≤ w.heap.size)
    (k : ∀ (A' : Addr) c' w', Row w' B e (.slice (some A') (n + m) c') (n + m) (xs ++ ys) → w.grownBy w' (some g) → wpList P ops Q rest (a.put o.dst (.slice (some A') (n + m) c')) w') : wpList P ops Q (o :: rest) a w :=
  wpList_plain hgd fun K hK => by
    obtain ⟨A', c', w', hr, h2, h3⟩ := run_append_rows (P := P) w B t o.type e i z ht hi hz hsize hby hzs g off n cap xs h xv m ys hsrc hn hB
    unfold Oper.wp execOp
    simp only [ho, resolve, invoke, builtin, Sem.run_bind, Sem.run_pure, Result.andThen_ok, List.map_toArray, List.map_cons, List.map_nil, hs, hx, hr]
    exact hK _ _ (k A' c' w' h2 h3)
end
end Go.Proofs.YtkihgbglodfkmaaGreat
