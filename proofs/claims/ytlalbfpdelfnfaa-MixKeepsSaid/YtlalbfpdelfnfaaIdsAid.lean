/-
  Layer 43 (mix): a row of whole numbers sorted, and what is left of it where no number stands twice. No condition but that a slice is no longer than a thousand million.
-/
import Derived.Test.YtlalbfpdelfnfaaThose
namespace Go.Proofs.Ytlalbfpdelfnfaa
open Go.RowKit Go.Sort
set_option linter.unusedVariables false

abbrev vi : Int → Value := Value.int .i64
/-- os rises, and holds what ys holds. -/
def Up (os ys : List Int) : Prop := os.Pairwise (· < ·) ∧ ∀ x, x ∈ os ↔ x ∈ ys
theorem Up.same {os os2 ys : List Int} (h : Up os ys) (h2 : Up os2 ys) : os = os2 := by
  have e : ∀ l : List Int, l.Pairwise (· < ·) → l.Nodup := fun l hl => hl.imp fun h => by omega
  refine List.Perm.eq_of_pairwise (le := fun a b : Int => a < b) (fun a b _ _ h1 h2 => by omega) h.1 h2.1 ?_
  exact (List.perm_ext_iff_of_nodup (e _ h.1) (e _ h2.1)).2 fun x => (h.2 x).trans (h2.2 x).symm
theorem Up.put {os ys : List Int} (h : Up os ys) {k : Nat} (hk : k ≤ os.length) {x : Int} (hl : ∀ y ∈ os.take k, y < x) (hr : ∀ y ∈ os.drop k, x < y) : Up (os.take k ++ x :: os.drop k) (ys ++ [x]) := by
  have h0 := h.1
  rw [← List.take_append_drop k os, List.pairwise_append] at h0
  refine ⟨?_, fun y => ?_⟩
  · rw [List.pairwise_append]
    refine ⟨h0.1, List.pairwise_cons.2 ⟨hr, h0.2.1⟩, fun a ha b hb => ?_⟩
    rcases List.mem_cons.1 hb with rfl | hb
    · exact hl a ha
    · exact h0.2.2 a ha b hb
  · have := h.2 y
    rw [← List.take_append_drop k os, List.mem_append] at this
    rw [List.mem_append, List.mem_cons, List.mem_append, ← this, List.mem_singleton]
    exact ⟨fun h => by rcases h with h | h | h; exact .inl (.inl h); exact .inr h; exact .inl (.inr h), fun h => by rcases h with (h | h) | h; exact .inl h; exact .inr (.inr h); exact .inr (.inl h)⟩
theorem Up.keep {os ys : List Int} (h : Up os ys) {x : Int} (hx : x ∈ os) : Up os (ys ++ [x]) :=
  ⟨h.1, fun y => ⟨fun hy => List.mem_append.2 (.inl ((h.2 y).1 hy)), fun hy => by
    rcases List.mem_append.1 hy with hy | hy
    · exact (h.2 y).2 hy
    · rw [List.mem_singleton.1 hy]; exact hx⟩⟩

theorem compactUpTo_up (d : Array Int) (hs : ∀ i j, i < j → j < d.size → d[i]! ≤ d[j]!) (m : Nat) (hm : m ≤ d.size) :
    (Lib.compactUpTo d m).Pairwise (· < ·) ∧ (∀ x ∈ Lib.compactUpTo d m, ∃ j, j < m ∧ x = d[j]!) ∧ ∀ j, j < m → d[j]! ∈ Lib.compactUpTo d m := by
  induction m with
  | zero => simp [Lib.compactUpTo]
  | succ m ih =>
    obtain ⟨i1, i2, i3⟩ := ih (by omega)
    rw [Lib.compactUpTo_succ]
    by_cases hk : Lib.keeps d m = true
    · rw [if_pos hk]
      have hk' : m = 0 ∨ d[m]! ≠ d[m - 1]! := of_decide_eq_true hk
      refine ⟨?_, fun x hx => ?_, fun j hj => ?_⟩
      · rw [List.pairwise_append]
        refine ⟨i1, List.pairwise_singleton _ _, fun a ha b hb => ?_⟩
        rw [List.mem_singleton.1 hb]
        obtain ⟨j, hj, rfl⟩ := i2 a ha
        rcases hk' with hk' | hk'
        · omega
        · have h1 : d[j]! ≤ d[m - 1]! := by
            by_cases e : j = m - 1
            · rw [e]; exact Int.le_refl _
            · exact hs j (m - 1) (by omega) (by omega)
          have h2 := hs (m - 1) m (by omega) (by omega)
          omega
      · rcases List.mem_append.1 hx with hx | hx
        · obtain ⟨j, hj, e⟩ := i2 x hx
          exact ⟨j, by omega, e⟩
        · exact ⟨m, by omega, List.mem_singleton.1 hx⟩
      · rw [List.mem_append]
        by_cases e : j = m
        · exact .inr (by rw [e]; exact List.mem_singleton.2 rfl)
        · exact .inl (i3 j (by omega))
    · rw [if_neg hk, List.append_nil]
      have hk' : ¬ (m = 0 ∨ d[m]! ≠ d[m - 1]!) := fun h => hk (decide_eq_true h)
      have hk2 : m ≠ 0 ∧ d[m]! = d[m - 1]! := ⟨fun h => hk' (.inl h), Classical.byContradiction fun h => hk' (.inr h)⟩
      refine ⟨i1, fun x hx => ?_, fun j hj => ?_⟩
      · obtain ⟨j, hj, e⟩ := i2 x hx
        exact ⟨j, by omega, e⟩
      · by_cases e : j = m
        · rw [e, hk2.2]
          exact i3 (m - 1) (by omega)
        · exact i3 j (by omega)
theorem sorted_compact (zs : List Int) : Up (Lib.compact (zs.mergeSort fun x y => decide (x ≤ y))) zs := by
  have hp : (zs.mergeSort fun x y => decide (x ≤ y)).Perm zs := List.mergeSort_perm _ _
  have hs := List.pairwise_mergeSort (le := fun x y : Int => decide (x ≤ y)) (fun a b c h1 h2 => by simp at *; omega) (fun a b => by simp; omega) zs
  generalize (zs.mergeSort fun x y => decide (x ≤ y)) = l at hp hs
  have hg : ∀ j, j < l.length → l.toArray[j]! = l[j]! := fun j hj => by simp
  obtain ⟨h1, h2, h3⟩ := compactUpTo_up l.toArray (fun i j hij hj => by
    have hj' : j < l.length := by simpa using hj
    have := List.pairwise_iff_getElem.1 hs i j (by omega) hj' hij
    rw [hg i (by omega), hg j hj', getElem!_pos l i (by omega), getElem!_pos l j hj']
    simpa using this) l.length (by simp)
  refine ⟨h1, fun x => ?_⟩
  rw [← hp.mem_iff]
  refine ⟨fun hx => ?_, fun hx => ?_⟩
  · obtain ⟨j, hj, rfl⟩ := h2 x hx
    rw [hg j hj, getElem!_pos l j hj]
    exact List.getElem_mem hj
  · obtain ⟨j, hj, rfl⟩ := List.mem_iff_getElem.1 hx
    have := h3 j hj
    rw [hg j hj, getElem!_pos l j hj] at this
    exact this

theorem row_holds {w : World} {g off cap : Nat} {cur : Array Value} {zs : List Int} (hb : w.heap[g]? = some (.cells cur 3 (0, 0))) (hx : ∀ j u, (zs.map vi)[j]? = some u → cur[off + j]? = some u) : Holds vi w g off zs.toArray := by
  intro j hj
  have hj' : j < zs.length := by simpa using hj
  refine ⟨?_, blk_frozen hb _⟩
  rw [cell_of_row w g _ cur 3 (0, 0) hb, hx j (vi zs[j]) (by simp [hj'])]
  simp [hj']
/-- The row behind a writing of all its places. -/
theorem put_row {w : World} {B g off cap m : Nat} {d0 d' : Array Int} {cur : Array Value} (hH : Holds vi w g off d0) (hs : d'.size = d0.size) (hb : w.heap[g]? = some (.cells cur 3 (0, 0))) (hB : B ≤ g) (hm : m ≤ d'.size)
    (h1 : m ≤ cap) (h2 : cap ≤ maxLen) (h3 : off + cap ≤ cur.size) (n : Nat) (os : Array Obj) :
    Row (grow (putRow vi (Sort.ahead w n) g off d') os) B 3 (.slice (some ⟨g, off, none⟩) m cap) m ((d'.toList.take m).map vi) := by
  have hlt := blk_lt hb
  have hb' : (putRow vi (Sort.ahead w n) g off d').heap[g]? = some (.cells (putCells vi off d' cur) 3 (0, 0)) := by
    unfold putRow mapBlock Sort.ahead
    simp [Array.getElem?_modify, hb, onCells]
  have hblk : (grow (putRow vi (Sort.ahead w n) g off d') os).heap[g]? = some (.cells (putCells vi off d' cur) 3 (0, 0)) := by
    rw [heap_grow_old _ _ (by show g < (w.heap.modify g _).size; simpa using hlt)]
    exact hb'
  refine ⟨by simp; omega, .inr ⟨g, off, cap, _, rfl, hB, hblk, h1, h2, ?_, fun j u hu => ?_⟩⟩
  · unfold putCells
    simpa using h3
  · have hj : j < m := by
      rcases Nat.lt_or_ge j m with h | h
      · exact h
      · rw [List.getElem?_eq_none (by simp; omega)] at hu
        cases hu
    have hc := cell?_putRow vi (Sort.ahead w n) g off d0 d' hH hs j (by omega)
    rw [getElem!_pos d' j (by omega), cell_of_row _ g _ _ _ _ hb'] at hc
    rw [hc]
    rw [List.getElem?_map, List.getElem?_take, if_pos hj, List.getElem?_eq_getElem (by simp; omega)] at hu
    simpa using hu
theorem put_below {w : World} {B g off n : Nat} {d' : Array Int} {os : Array Obj} (hB : B ≤ g) (hg : g < w.heap.size) : RowKit.Below B w (grow (putRow vi (Sort.ahead w n) g off d') os) := by
  refine ⟨rfl, rfl, rfl, ?_, fun k hk => ?_⟩
  · unfold putRow mapBlock Sort.ahead grow
    simp
  · rw [heap_grow_old _ _ (by show k < (w.heap.modify g _).size; simp; omega)]
    unfold putRow mapBlock Sort.ahead
    rw [Array.getElem?_modify, if_neg (by omega)]
theorem grow_nil (w : World) : grow w #[] = w := by
  unfold grow
  simp

theorem sort36_any {w : World} {B n c : Nat} {A : Option Addr} {zs : List Int} (h : Row w B 3 (.slice A n c) n (zs.map vi)) (hn : n ≤ 1000000000) :
    Calls Try.prog 36 #[.slice A n c] w fun e w' => e = .returned (.tuple #[]) ∧ Row w' B 3 (.slice A n c) n ((zs.mergeSort fun x y => decide (x ≤ y)).map vi) ∧ Below B w w' := by
  have hl : zs.length = n := by simpa using h.1
  rcases h.2 with ⟨h0, h1⟩ | ⟨g, off, cap, cur, hv, hb, hg, h1, h2, h3, hx⟩
  · cases h0
    obtain rfl : zs = [] := List.eq_nil_of_length_eq_zero hl
    refine (Try.slices_Sort_int_none none 0 w).mono ?_
    rintro e w' ⟨rfl, rfl⟩
    exact ⟨rfl, by simpa using h, Below.refl _ _⟩
  · cases hv
    have hH := row_holds (cap := c) hg hx
    have hs := Try.slices_Sort_int g off c zs w hH (blk_lt hg) (by omega)
    rw [hl] at hs
    refine hs.mono ?_
    rintro e w' ⟨rfl, m, os, rfl⟩
    have hz : (zs.mergeSort fun x y => decide (x ≤ y)).length = n := by rw [List.length_mergeSort, hl]
    have hr := put_row (B := B) (m := n) (d' := (zs.mergeSort fun x y => decide (x ≤ y)).toArray) hH (by simp) hg hb (by simp [hl]) h1 h2 h3 m os
    rw [List.take_of_length_le (by simp [hl])] at hr
    exact ⟨rfl, hr, put_below hb (blk_lt hg)⟩
theorem compact37_any {w : World} {B n c : Nat} {A : Option Addr} {zs : List Int} (h : Row w B 3 (.slice A n c) n (zs.map vi)) (hn : n ≤ 1000000000) :
    Calls Try.prog 37 #[.slice A n c] w fun e w' => e = .returned (.slice A (Lib.compact zs).length c) ∧ Row w' B 3 (.slice A (Lib.compact zs).length c) (Lib.compact zs).length ((Lib.compact zs).map vi) ∧ Below B w w' := by
  have hl : zs.length = n := by simpa using h.1
  rcases h.2 with ⟨h0, h1⟩ | ⟨g, off, cap, cur, hv, hb, hg, h1, h2, h3, hx⟩
  · cases h0
    obtain rfl : zs = [] := List.eq_nil_of_length_eq_zero hl
    refine (Try.slices_Compact_int_empty none 0 w).mono ?_
    rintro e w' ⟨rfl, rfl⟩
    exact ⟨rfl, by simpa [Lib.compact, Lib.compactUpTo] using h, Below.refl _ _⟩
  · cases hv
    have hH := row_holds (cap := c) hg hx
    have hcl := Lib.compact_length_le zs
    have hs := Try.slices_Compact_int g off c zs w hH (by omega) (by omega)
    rw [hl] at hs
    refine hs.mono ?_
    rintro e w' ⟨rfl, q, rfl⟩
    have hr := put_row (B := B) (m := (Lib.compact zs).length) (d' := (Lib.compact zs ++ List.replicate (n - (Lib.compact zs).length) 0).toArray) hH (by simp; omega) hg hb (by simp) (by omega) h2 h3 q #[]
    rw [grow_nil] at hr
    have ht : ((Lib.compact zs ++ List.replicate (n - (Lib.compact zs).length) 0).toArray.toList.take (Lib.compact zs).length) = Lib.compact zs := by simp
    rw [ht] at hr
    refine ⟨rfl, hr, ?_⟩
    have := put_below (w := w) (B := B) (off := off) (n := q) (d' := (Lib.compact zs ++ List.replicate (n - (Lib.compact zs).length) 0).toArray) (os := #[]) hb (blk_lt hg)
    rw [grow_nil] at this
    exact this
end Go.Proofs.Ytlalbfpdelfnfaa
