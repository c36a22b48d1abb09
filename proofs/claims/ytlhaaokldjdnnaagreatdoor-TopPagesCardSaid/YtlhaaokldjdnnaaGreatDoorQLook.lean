/-
  The queue in memory: its block, its pieces, what it holds; a new one; how much room there is, how many bytes it holds, how many a number means; and what is told of no queue. No condition but that the queue is one.
-/
import Derived.Test.YtlhaaokldjdnnaaGreatDoorProg
import Derived.Test.YtlhaaokldjdnnaaGreatDoorRow
import Derived.Test.YtlhaaokldjdnnaaGreatDoorAidAll
namespace Go.Proofs.YtlhaaokldjdnnaaGreatDoor
open Go.RowKit
set_option linter.unusedVariables false
set_option linter.unusedSimpArgs false

/-- The queue whose block is g: it holds bs, may hold so many, and so many have gone. -/
structure Que (w : World) (B g : Nat) (bs : List UInt8) (most out : Nat) : Prop where
  low : B ≤ g
  fits : bs.length ≤ most
  small : most ≤ 1048576
  outs : out ≤ 1000000000
  ex : ∃ (l : List ByteArray) (A : Option Addr) (cap k : Nat), w.heap[g]? = some (.cells #[.slice A l.length cap, .int .i64 k, .int .i64 bs.length, .int .i64 most, .int .i64 out] 101 (0, 0)) ∧ Row w B 9 (.slice A l.length cap) l.length (l.map Value.string) ∧ Held l k bs

/-- What a call may turn that writes to the queue: its block, and rows of texts, from block B on. -/
structure Turn (w w' : World) (B g : Nat) : Prop where
  below : Below B w w'
  keep : ∀ k cs t m, w.heap[k]? = some (.cells cs t m) → k ≠ g → t ≠ 9 → w'.heap[k]? = w.heap[k]?
theorem Turn.refl (w : World) (B g : Nat) : Turn w w B g := ⟨Below.refl _ _, fun _ _ _ _ _ _ _ => rfl⟩
theorem Turn.trans {a b c : World} {B g : Nat} (h : Turn a b B g) (k : Turn b c B g) : Turn a c B g :=
  ⟨h.below.trans k.below, fun i cs t m hi hg ht => (k.keep i cs t m ((h.keep i cs t m hi hg ht).trans hi) hg ht).trans (h.keep i cs t m hi hg ht)⟩
theorem Turn.of {w w' : World} {B g : Nat} (h : Below w.heap.size w w') (hB : B ≤ w.heap.size) : Turn w w' B g :=
  ⟨h.mono hB, fun k _ _ _ hk _ _ => h.block k (blk_lt hk)⟩

section
variable {w w' : World} {B g : Nat} {bs : List UInt8} {most out : Nat}
theorem Que.lt (h : Que w B g bs most out) : g < w.heap.size := by
  obtain ⟨l, A, cap, k, hg, _⟩ := h.ex
  exact blk_lt hg
theorem Que.below (h : Que w B g bs most out) (hb : Below w.heap.size w w') : Que w' B g bs most out := by
  have hlt := h.lt
  obtain ⟨h1, h2, h3, h4, l, A, cap, k, hg, hr, hh⟩ := h
  exact ⟨h1, h2, h3, h4, l, A, cap, k, (hb.block g hlt).trans hg, hr.below hb (Nat.le_refl _), hh⟩
theorem Que.nums (h : Que w B g bs most out) : w.cell? ⟨g, 2, none⟩ = some (.int .i64 bs.length) ∧ w.cell? ⟨g, 3, none⟩ = some (.int .i64 most) ∧ w.cell? ⟨g, 4, none⟩ = some (.int .i64 out) := by
  obtain ⟨l, A, cap, k, hg, _⟩ := h.ex
  exact ⟨cell_of_row w g 2 _ _ _ hg, cell_of_row w g 3 _ _ _ hg, cell_of_row w g 4 _ _ _ hg⟩
end

theorem New_yes (n : Nat) (hn : n ≤ 1048576) (B : Nat) (w : World) (hB : B ≤ w.heap.size) :
    Calls Tryz.prog 32 #[.int .i64 n] w fun e w' => e = .returned (.tuple #[.pointer (some ⟨w.heap.size, 0, none⟩), .int .i64 0]) ∧ Que w' B w.heap.size [] n 0 ∧ Below w.heap.size w w' := by
  go_enter Tryz.func32, Tryz.ntmps32
  go_wp2
  go_ret2
  refine ⟨rfl, ⟨hB, Nat.zero_le _, hn, Nat.zero_le _, [], none, 0, 0, ?_, Row.nil_ _ _ _, Held.start⟩, (Below.refl _ _).alloc (Nat.le_refl _) _⟩
  exact heap_alloc_new w _
theorem New_exact (n : Nat) (hn : n ≤ 1048576) (w : World) :
    Calls Tryz.prog 32 #[.int .i64 n] w fun e w' => e = .returned (.tuple #[.pointer (some ⟨w.heap.size, 0, none⟩), .int .i64 0]) ∧ w.alloc (.cells #[.slice none 0 0, .int .i64 0, .int .i64 0, .int .i64 n, .int .i64 0] 101) = w' := by
  go_enter Tryz.func32, Tryz.ntmps32
  go_wp2
  go_ret2
  exact ⟨rfl, rfl⟩
theorem New_no (n : Int) (hn : n < 0 ∨ 1048576 < n) (w : World) :
    Calls Tryz.prog 32 #[.int .i64 n] w fun e w' => e = .returned (.tuple #[.pointer none, .int .i64 1]) ∧ w = w' := by
  rcases hn with hn | hn
  · go_enter Tryz.func32, Tryz.ntmps32
    go_wp2
    go_ret2
    exact ⟨rfl, rfl⟩
  · have h0 : ¬ n < 0 := by omega
    go_enter Tryz.func32, Tryz.ntmps32
    go_wp2
    go_ret2
    exact ⟨rfl, rfl⟩

theorem room_nil (w : World) : Calls Tryz.prog 94 #[.pointer none] w fun e w' => e = .returned (.int .i64 0) ∧ w = w' := by
  go_enter Tryz.func94, Tryz.ntmps94
  go_wp2
  go_ret
  exact ⟨rfl, rfl⟩
theorem room_any {w : World} {B g : Nat} {bs : List UInt8} {most out : Nat} (h : Que w B g bs most out) :
    Calls Tryz.prog 94 #[.pointer (some ⟨g, 0, none⟩)] w fun e w' => e = .returned (.int .i64 ((most - bs.length : Nat) : Int)) ∧ Below w.heap.size w w' := by
  obtain ⟨c2, c3, c4⟩ := h.nums
  have h1 := h.fits
  have h2 := h.small
  obtain ⟨n, hn⟩ : ∃ n, bs.length = n := ⟨_, rfl⟩
  rw [hn] at c2 h1 ⊢
  clear h hn
  go_enter Tryz.func94, Tryz.ntmps94
  go_wp2
  go_quiet (fail)
  go_wp2
  go_ret
  exact ⟨ret_int (by omega), below_drewN (Below.refl _ _) _⟩

theorem Len_nil (w : World) : Calls Tryz.prog 54 #[.pointer none] w fun e w' => e = .returned (.int .i64 0) ∧ w = w' := by
  go_enter Tryz.func54, Tryz.ntmps54
  go_wp2
  go_ret
  exact ⟨rfl, rfl⟩
theorem Len_any {w : World} {B g : Nat} {bs : List UInt8} {most out : Nat} (h : Que w B g bs most out) :
    Calls Tryz.prog 54 #[.pointer (some ⟨g, 0, none⟩)] w fun e w' => e = .returned (.int .i64 bs.length) ∧ w = w' := by
  obtain ⟨c2, c3, c4⟩ := h.nums
  clear h
  go_enter Tryz.func54, Tryz.ntmps54
  go_wp2
  go_ret
  exact ⟨rfl, rfl⟩

/-- How many bytes are meant by a number, of so many. -/
def cntN (n : Int) (m : Nat) : Nat := min n.toNat m
theorem cntN_le (n : Int) (m : Nat) : cntN n m ≤ m := Nat.min_le_right _ _
theorem count_nil (n : Int) (w : World) : Calls Tryz.prog 91 #[.pointer none, .int .i64 n] w fun e w' => e = .returned (.int .i64 0) ∧ w = w' := by
  go_enter Tryz.func91, Tryz.ntmps91
  go_wp2
  go_ret
  exact ⟨rfl, rfl⟩
theorem count_any {w : World} {B g : Nat} {bs : List UInt8} {most out : Nat} (h : Que w B g bs most out) (n : Int) :
    Calls Tryz.prog 91 #[.pointer (some ⟨g, 0, none⟩), .int .i64 n] w fun e w' => e = .returned (.int .i64 (cntN n bs.length)) ∧ w = w' := by
  obtain ⟨c2, c3, c4⟩ := h.nums
  obtain ⟨m, hm⟩ : ∃ n, bs.length = n := ⟨_, rfl⟩
  rw [hm] at c2 ⊢
  clear h hm
  go_enter Tryz.func91, Tryz.ntmps91
  go_wp2
  all_goals
    go_ret
    exact ⟨ret_int (by unfold cntN; omega), rfl⟩
end Go.Proofs.YtlhaaokldjdnnaaGreatDoor
