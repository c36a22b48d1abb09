/-
  Layer 37 (hold): a hold in memory, and what its calls make of it. No condition but that the hold is one.
-/
import Derived.Test.YtamfkiimppfoaaaQDrop
namespace Go.Proofs.Ytamfkiimppfoaaa
open Go.RowKit
set_option linter.unusedVariables false
attribute [local go_sem] plus_cell

/-- The hold whose block is g, over the queue whose block is q. -/
structure Hol (w : World) (B g q : Nat) (bs : List UInt8) (most state came went : Nat) : Prop where
  low : B ≤ g
  blk : w.heap[g]? = some (.cells #[.pointer (some ⟨q, 0, none⟩), .int .i64 state, .int .i64 came, .int .i64 went] 41 (0, 0))
  que : ∃ out, Que w B q bs most out ∧ out + bs.length ≤ came
  came_ : came ≤ 1000000
  went_ : went ≤ came
  st : state ≤ 2

section
variable {w w' : World} {B g q : Nat} {bs : List UInt8} {most state came went : Nat}
theorem Hol.below (h : Hol w B g q bs most state came went) (hb : Below w.heap.size w w') : Hol w' B g q bs most state came went := by
  obtain ⟨out, hq, ho⟩ := h.que
  exact ⟨h.low, (hb.block g (blk_lt h.blk)).trans h.blk, ⟨out, hq.below hb, ho⟩, h.came_, h.went_, h.st⟩
theorem Hol.cells (h : Hol w B g q bs most state came went) : w.cell? ⟨g, 0, none⟩ = some (.pointer (some ⟨q, 0, none⟩)) ∧ w.cell? ⟨g, 1, none⟩ = some (.int .i64 state) ∧ w.cell? ⟨g, 2, none⟩ = some (.int .i64 came) ∧ w.cell? ⟨g, 3, none⟩ = some (.int .i64 went) :=
  ⟨cell_of_row w g 0 _ _ _ h.blk, cell_of_row w g 1 _ _ _ h.blk, cell_of_row w g 2 _ _ _ h.blk, cell_of_row w g 3 _ _ _ h.blk⟩
theorem Hol.ne (h : Hol w B g q bs most state came went) : g ≠ q := by
  obtain ⟨out, hq, ho⟩ := h.que
  obtain ⟨l, A, cap, k, hg, _⟩ := hq.ex
  intro e
  rw [← e, h.blk] at hg
  injection hg with hg
  injection hg with _ ht
  exact absurd ht (by decide)
/-- A number of the hold's is stored. -/
theorem Que.set_ {out : Nat} (hq : Que w B q bs most out) {g : Nat} {cs : Array Value} (hg : w.heap[g]? = some (.cells cs 41 (0, 0))) (i : Nat) (u : Value) : Que (w.setCell ⟨g, i, none⟩ u) B q bs most out := by
  obtain ⟨h1, h2, h3, h4, l, A, cap, k, hb, hr, hh⟩ := hq
  have hne : q ≠ g := by
    intro e
    rw [e, hg] at hb
    injection hb with hb
    injection hb with _ ht
    exact absurd ht (by decide)
  exact ⟨h1, h2, h3, h4, l, A, cap, k, (Below.heap_setCell w ⟨g, i, none⟩ u q hne).trans hb, hr.setCell (p := ⟨g, i, none⟩) (hr.apart hg (by decide)) u, hh⟩
end

theorem hNew_yes (n : Nat) (hn : n ≤ 1048576) (B : Nat) (w : World) (hB : B ≤ w.heap.size) :
    Calls Try.prog 5 #[.int .i64 n] w fun e w' => e = .returned (.tuple #[.pointer (some ⟨w.heap.size + 1, 0, none⟩), .int .i64 0]) ∧ Hol w' B (w.heap.size + 1) w.heap.size [] n 0 0 0 ∧ Below w.heap.size w w' := by
  have H16 := Lib.hid (New_exact n hn)
  go_enter Try.func5, Try.ntmps5
  go_wp2_with (go_at_call 16; refine (H16.out _).mono ?_; rintro e w1 ⟨rfl, rfl⟩)
  go_ret2
  refine ⟨by simp, ⟨by omega, ?_, ⟨0, ⟨hB, Nat.zero_le _, hn, Nat.zero_le _, [], none, 0, 0, ?_, Row.nil_ _ _ _, Held.start⟩, Nat.le_refl _⟩, by omega, Nat.le_refl _, by omega⟩, ((Below.refl _ _).alloc (Nat.le_refl _) _).alloc (by simp) _⟩
  · have := heap_alloc_new (w.alloc (.cells #[.slice none 0 0, .int .i64 0, .int .i64 0, .int .i64 n, .int .i64 0] 47)) (.cells #[.pointer (some ⟨w.heap.size, 0, none⟩), .int .i64 0, .int .i64 0, .int .i64 0] 41)
    simpa using this
  · exact (Below.heap_alloc _ _ _ (by simp)).trans (heap_alloc_new w _)
theorem hNew_no (n : Int) (hn : n < 0 ∨ 1048576 < n) (w : World) :
    Calls Try.prog 5 #[.int .i64 n] w fun e w' => e = .returned (.tuple #[.pointer none, .int .i64 1]) ∧ w = w' := by
  have H16 := Lib.hid (New_no n hn)
  clear hn
  go_enter Try.func5, Try.ntmps5
  go_wp2_with (go_at_call 16; refine (H16.out _).mono ?_; rintro e w1 ⟨rfl, rfl⟩)
  go_ret2
  exact ⟨rfl, rfl⟩

section
variable {w : World} {B g q : Nat} {bs : List UInt8} {most state came went : Nat}
theorem State_nil (w : World) : Calls Try.prog 13 #[.pointer none] w fun e w' => e = .returned (.int .i64 2) ∧ w = w' := by
  go_enter Try.func13, Try.ntmps13
  go_wp2
  go_ret
  exact ⟨rfl, rfl⟩
theorem State_any (h : Hol w B g q bs most state came went) : Calls Try.prog 13 #[.pointer (some ⟨g, 0, none⟩)] w fun e w' => e = .returned (.int .i64 state) ∧ w = w' := by
  obtain ⟨c0, c1, c2, c3⟩ := h.cells
  clear h
  go_enter Try.func13, Try.ntmps13
  go_wp2
  go_ret
  exact ⟨rfl, rfl⟩
theorem Came_nil (w : World) : Calls Try.prog 14 #[.pointer none] w fun e w' => e = .returned (.int .i64 0) ∧ w = w' := by
  go_enter Try.func14, Try.ntmps14
  go_wp2
  go_ret
  exact ⟨rfl, rfl⟩
theorem Came_any (h : Hol w B g q bs most state came went) : Calls Try.prog 14 #[.pointer (some ⟨g, 0, none⟩)] w fun e w' => e = .returned (.int .i64 came) ∧ w = w' := by
  obtain ⟨c0, c1, c2, c3⟩ := h.cells
  clear h
  go_enter Try.func14, Try.ntmps14
  go_wp2
  go_ret
  exact ⟨rfl, rfl⟩
theorem Went_nil (w : World) : Calls Try.prog 15 #[.pointer none] w fun e w' => e = .returned (.int .i64 0) ∧ w = w' := by
  go_enter Try.func15, Try.ntmps15
  go_wp2
  go_ret
  exact ⟨rfl, rfl⟩
theorem Went_any (h : Hol w B g q bs most state came went) : Calls Try.prog 15 #[.pointer (some ⟨g, 0, none⟩)] w fun e w' => e = .returned (.int .i64 went) ∧ w = w' := by
  obtain ⟨c0, c1, c2, c3⟩ := h.cells
  clear h
  go_enter Try.func15, Try.ntmps15
  go_wp2
  go_ret
  exact ⟨rfl, rfl⟩
theorem hLen_nil (w : World) : Calls Try.prog 12 #[.pointer none] w fun e w' => e = .returned (.int .i64 0) ∧ w = w' := by
  go_enter Try.func12, Try.ntmps12
  go_wp2
  go_ret
  exact ⟨rfl, rfl⟩
theorem hLen_any (h : Hol w B g q bs most state came went) : Calls Try.prog 12 #[.pointer (some ⟨g, 0, none⟩)] w fun e w' => e = .returned (.int .i64 bs.length) ∧ w = w' := by
  obtain ⟨c0, c1, c2, c3⟩ := h.cells
  obtain ⟨out, hq, ho⟩ := h.que
  have H21 := Lib.hid (Len_any hq)
  clear h hq ho
  go_enter Try.func12, Try.ntmps12
  go_wp2_with (go_at_call 21; refine H21.out.mono ?_; rintro e w1 ⟨rfl, rfl⟩)
  go_ret
  exact ⟨rfl, rfl⟩
theorem All_nil (w : World) : Calls Try.prog 11 #[.pointer none] w fun e w' => e = .returned (.string ⟨#[]⟩) ∧ w = w' := by
  go_enter Try.func11, Try.ntmps11
  go_wp2
  go_ret
  exact ⟨rfl, rfl⟩
theorem All_any (h : Hol w B g q bs most state came went) : Calls Try.prog 11 #[.pointer (some ⟨g, 0, none⟩)] w fun e w' => e = .returned (.string ⟨bs.toArray⟩) ∧ Below w.heap.size w w' := by
  obtain ⟨c0, c1, c2, c3⟩ := h.cells
  obtain ⟨out, hq, ho⟩ := h.que
  have H21 : Hid (∀ X, Calls Try.prog 21 #[.pointer (some ⟨q, 0, none⟩)] (plus w X) fun e w' => e = .returned (.int .i64 bs.length) ∧ plus w X = w') := fun X => Len_any (hq.below (plus_below w X))
  have H20 : Hid (∀ X, Calls Try.prog 20 #[.pointer (some ⟨q, 0, none⟩), .int .i64 bs.length] (plus w X) fun e w' => e = .returned (.string ⟨bs.toArray⟩) ∧ Below (plus w X).heap.size (plus w X) w') := fun X => by
    have h := Peek_any (hq.below (plus_below w X)) bs.length
    have e : cntN (bs.length : Int) bs.length = bs.length := by unfold cntN; omega
    rw [e, List.take_length] at h
    exact h
  clear h hq ho
  go_enter Try.func11, Try.ntmps11
  go_wp2_with fail
  refine wp_region_plus (by kernel_rfl) (by kernel_rfl) ?_
  repeat (first | go_big_quiet_skip | (go_big_quiet_want; go_big_quiet_op; first | go_big_quiet_on | (apply Exists.intro; refine ⟨fun _ => ?_, ?_⟩; (focus (first | (go_at_call 21; with_reducible exact plus_same (H21.out _)) | (go_at_call 20; with_reducible exact plus_call (H20.out _)))); go_big_quiet_on)))
  refine wpQuiet_nil ?_
  rintro _ ⟨X, rfl⟩
  go_wp2
  go_ret
  exact ⟨rfl, plus_below w X⟩

theorem pass_any (h : Hol w B g q bs most state came went) (s : ByteArray) (hs : went + s.size ≤ 1000000) :
    Calls Try.prog 17 #[.pointer (some ⟨g, 0, none⟩), .string s] w fun e w' => e = .returned (.string s) ∧ w.setCell ⟨g, 3, none⟩ (.int .i64 ((went + s.size : Nat) : Int)) = w' := by
  obtain ⟨c0, c1, c2, c3⟩ := h.cells
  have f3 := blk_frozen h.blk 3
  have HE : Hid ((went : Int) + s.size = ((went + s.size : Nat) : Int)) := by unfold Hid; omega
  clear h
  go_enter Try.func17, Try.ntmps17
  go_wp2
  go_ret
  exact ⟨rfl, by rw [← HE.out]⟩
end
end Go.Proofs.Ytamfkiimppfoaaa
