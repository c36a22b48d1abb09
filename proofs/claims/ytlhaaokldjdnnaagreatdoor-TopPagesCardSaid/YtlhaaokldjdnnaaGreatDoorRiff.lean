/-
  Layer 13 (image): one pattern with a gap. No condition.
-/
import Derived.Test.YtlhaaokldjdnnaaGreatDoorMask2
import Derived.Laws.Rows
import Derived.Test.YtlhaaokldjdnnaaGreatDoorQLook
namespace Go.Proofs.YtlhaaokldjdnnaaGreatDoor
open Go.RowKit
set_option linter.unusedVariables false
set_option linter.unusedSimpArgs false

def ff (n : Nat) : ByteArray := ⟨(Lib.repeatL [255] n).toArray⟩
theorem exact_is (b t : ByteArray) (w : World) (hb : b.size ≤ 100) : Calls Tryz.prog 448 #[.string b, .string t] w fun e w' => e = .returned (patV b (ff b.size) .empty t) ∧ Below w.heap.size w w' := by
  have HR : Hid (∀ W, Calls Tryz.prog 355 #[.string ⟨#[255]⟩, .int .i64 b.size] W fun e w' => e = .returned (.string (ff b.size)) ∧ Below W.heap.size W w') := fun W => Tryz.strings_Repeat ⟨#[255]⟩ b.size W (by omega) (by show 1 * b.size ≤ _; omega)
  go_enter Tryz.func448, Tryz.ntmps448
  go_wp2_with (go_at_call 355; refine (HR.out _).mono ?_; rintro e w1 ⟨rfl, hb1⟩
               have hblk : w1.heap[w.heap.size]? = some (.cells #[.string .empty, .string .empty, .string .empty, .string .empty] 271 (0, 0)) := (hb1.block w.heap.size (by simp)).trans (heap_alloc_new w _)
               have c0 : w1.cell? ⟨w.heap.size, 0, none⟩ = some (.string .empty) := cell_of_row w1 _ 0 _ _ _ hblk
               have c1 : w1.cell? ⟨w.heap.size, 1, none⟩ = some (.string .empty) := cell_of_row w1 _ 1 _ _ _ hblk
               have c2 : w1.cell? ⟨w.heap.size, 2, none⟩ = some (.string .empty) := cell_of_row w1 _ 2 _ _ _ hblk
               have c3 : w1.cell? ⟨w.heap.size, 3, none⟩ = some (.string .empty) := cell_of_row w1 _ 3 _ _ _ hblk
               have f0 : w1.frozen? ⟨w.heap.size, 0, none⟩ = false := by simp [World.frozen?, hblk]
               have f1 : w1.frozen? ⟨w.heap.size, 1, none⟩ = false := by simp [World.frozen?, hblk]
               have f2 : w1.frozen? ⟨w.heap.size, 2, none⟩ = false := by simp [World.frozen?, hblk]
               have f3 : w1.frozen? ⟨w.heap.size, 3, none⟩ = false := by simp [World.frozen?, hblk]
               have HBK := Lib.hid hblk; have HB1 := Lib.hid hb1; clear hb1 hblk)
  have hrow := blk_set (blk_set (blk_set (blk_set HBK.out 0 (.string b)) 1 (.string (ff b.size))) 2 (.string .empty)) 3 (.string t)
  refine bodyPost_ret (results_cell_row Tryz.results448 _ _ w.heap.size 271 #[.string b, .string (ff b.size), .string .empty, .string t] (0, 0) _ rfl hrow Tryz.underlying271 rfl (by kernel_rfl)) rfl ?_
  have h0 : Below w.heap.size w (w.alloc (.cells #[.string .empty, .string .empty, .string .empty, .string .empty] 271)) := (Below.refl _ _).alloc (Nat.le_refl _) _
  have h1 := below_then h0 (Nat.le_refl _) HB1.out
  refine ⟨rfl, ?_⟩
  have k := fun (W : World) (h : Below w.heap.size w W) (i : Nat) (u : Value) => h.setCell (p := ⟨w.heap.size, i, none⟩) (Nat.le_refl _) u
  exact k _ (k _ (k _ (k _ h1 0 _) 1 _) 2 _) 3 _

def riffB : ByteArray := ⟨#[82, 73, 70, 70]⟩
def webpB : ByteArray := ⟨#[87, 69, 66, 80, 86, 80]⟩
def webpT : ByteArray := ⟨#[105, 109, 97, 103, 101, 47, 119, 101, 98, 112]⟩
def riffAll : ByteArray := ⟨#[82, 73, 70, 70, 0, 0, 0, 0, 87, 69, 66, 80, 86, 80]⟩
def riffMask : ByteArray := ⟨#[255, 255, 255, 255, 0, 0, 0, 0, 255, 255, 255, 255, 255, 255]⟩
set_option maxRecDepth 100000 in
set_option maxHeartbeats 2000000 in
theorem riff_is (w : World) : Calls Tryz.prog 449 #[.string riffB, .string webpB, .string webpT] w fun e w' => e = .returned (patV riffAll riffMask .empty webpT) ∧ Below w.heap.size w w' := by
  have HX : Hid (∀ W, Calls Tryz.prog 448 #[.string riffAll, .string webpT] W fun e w' => e = .returned (patV riffAll (ff 14) .empty webpT) ∧ Below W.heap.size W w') := fun W => exact_is riffAll webpT W (by decide)
  have e1 : riffB ++ (⟨#[0, 0, 0, 0]⟩ : ByteArray) ++ webpB = riffAll := by decide +kernel
  go_enter Tryz.func449, Tryz.ntmps449
  have l1 : (riffB.size : Int) = 4 := rfl
  have HW0 : Hid (∀ W : World, Below w.heap.size w W → W.heap[w.heap.size]? = some (.cells #[.string .empty, .string .empty, .string .empty, .string .empty] 271 (0, 0)) → True) := fun _ _ _ => trivial
  go_wp2_with (go_at_call 448; refine (HX.out _).mono ?_; rintro e w1 ⟨rfl, hb1⟩; have hlt := hb1.size; rw [World.size_alloc] at hlt
               have hblk : w1.heap[w.heap.size]? = some (.cells #[.string .empty, .string .empty, .string .empty, .string .empty] 271 (0, 0)) := (hb1.block w.heap.size (by simp)).trans (heap_alloc_new w _)
               have HBK := Lib.hid hblk; have HLT := Lib.hid hlt; have HB1 := Lib.hid hb1; clear hb1 hblk hlt)
  have c1 : (w1.alloc (.cells #[.string riffAll, .string (ff 14), .string .empty, .string webpT] 271)).cell? ⟨w1.heap.size, 1, none⟩ = some (.string (ff 14)) := by rw [World.cell?_alloc_new]; rfl
  have f1 : (w1.alloc (.cells #[.string riffAll, .string (ff 14), .string .empty, .string webpT] 271)).frozen? ⟨w1.heap.size, 1, none⟩ = false := blk_frozen (heap_alloc_new w1 _) 1
  have hsz : (ff 14).size = 14 := by decide +kernel
  have hw8 : IntKind.i64.wrap 8 = 8 := by decide
  have l2 : riffB.size = 4 := rfl
  obtain ⟨W1, hW1⟩ : ∃ W1, W1 = w1.alloc (.cells #[.string riffAll, .string (ff 14), .string .empty, .string webpT] 271) := ⟨_, rfl⟩
  rw [← hW1] at c1 f1 ⊢
  have b7 : W1.heap[w1.heap.size]? = some (.cells #[.string riffAll, .string (ff 14), .string .empty, .string webpT] 271 (0, 0)) := by rw [hW1]; exact heap_alloc_new w1 _
  have b6 : W1.heap[w.heap.size]? = some (.cells #[.string .empty, .string .empty, .string .empty, .string .empty] 271 (0, 0)) := by rw [hW1]; exact (Below.heap_alloc w1 _ _ (by have := HLT.out; omega)).trans HBK.out
  have hne : w.heap.size ≠ w1.heap.size := by have := HLT.out; omega
  have hne' : w1.heap.size ≠ w.heap.size := fun e => hne e.symm
  have a0 : W1.cell? ⟨w1.heap.size, 0, none⟩ = some (.string riffAll) := cell_of_row W1 _ 0 _ _ _ b7
  have a2 : W1.cell? ⟨w1.heap.size, 2, none⟩ = some (.string .empty) := cell_of_row W1 _ 2 _ _ _ b7
  have a3 : W1.cell? ⟨w1.heap.size, 3, none⟩ = some (.string webpT) := cell_of_row W1 _ 3 _ _ _ b7
  have d0 : W1.cell? ⟨w.heap.size, 0, none⟩ = some (.string .empty) := cell_of_row W1 _ 0 _ _ _ b6
  have d1 : W1.cell? ⟨w.heap.size, 1, none⟩ = some (.string .empty) := cell_of_row W1 _ 1 _ _ _ b6
  have d2 : W1.cell? ⟨w.heap.size, 2, none⟩ = some (.string .empty) := cell_of_row W1 _ 2 _ _ _ b6
  have d3 : W1.cell? ⟨w.heap.size, 3, none⟩ = some (.string .empty) := cell_of_row W1 _ 3 _ _ _ b6
  have g0 := blk_frozen b6 0
  have g1 := blk_frozen b6 1
  have g2 := blk_frozen b6 2
  have g3 := blk_frozen b6 3
  have HB6 := Lib.hid b6
  have HM : Hid ((ff 14).extract 0 4 ++ (⟨#[0, 0, 0, 0]⟩ : ByteArray) ++ (ff 14).extract 8 14 = riffMask) := by unfold Hid; decide +kernel
  have HBW : Hid (Below w.heap.size w W1) := by
    unfold Hid
    rw [hW1]
    have h0 := below_then ((Below.refl w.heap.size w).alloc (Nat.le_refl _) _) (Nat.le_refl _) HB1.out
    exact h0.alloc h0.size _
  clear b6 b7
  have c1' : W1.drew.cell? ⟨w1.heap.size, 1, none⟩ = some (.string (ff 14)) := c1
  have f1' : W1.drew.frozen? ⟨w1.heap.size, 1, none⟩ = false := f1
  have HWX := Lib.hid hW1
  clear HX HW0 e1 hW1
  go_still_tail 14, (by kernel_rfl)
  change wpList _ _ _ _ _ W1.drew
  go_wp2
  rw [HM.out]
  have hrow := blk_set (blk_set (blk_set (blk_set (w := W1.setCell ⟨w1.heap.size, 1, none⟩ (.string riffMask)) ((Below.heap_setCell W1 ⟨w1.heap.size, 1, none⟩ (.string riffMask) w.heap.size hne).trans HB6.out) 0 (.string riffAll)) 1 (.string riffMask)) 2 (.string .empty)) 3 (.string webpT)
  refine bodyPost_ret (results_cell_row Tryz.results449 _ _ w.heap.size 271 #[.string riffAll, .string riffMask, .string .empty, .string webpT] (0, 0) _ rfl hrow Tryz.underlying271 rfl (by kernel_rfl)) rfl ?_
  refine ⟨rfl, ?_⟩
  have k := fun (W : World) (h : Below w.heap.size w W) (p : Addr) (hp : w.heap.size ≤ p.block) (u : Value) => h.setCell (p := p) hp u
  have hl := HLT.out
  have h1 := k _ (k _ (k _ (k _ (k _ HBW.out ⟨w1.heap.size, 1, none⟩ (by show w.heap.size ≤ w1.heap.size; omega) (.string riffMask)) ⟨w.heap.size, 0, none⟩ (Nat.le_refl _) (.string riffAll)) ⟨w.heap.size, 1, none⟩ (Nat.le_refl _) (.string riffMask)) ⟨w.heap.size, 2, none⟩ (Nat.le_refl _) (.string .empty)) ⟨w.heap.size, 3, none⟩ (Nat.le_refl _) (.string webpT)
  exact ⟨h1.os, h1.tape, h1.output, h1.size, h1.block⟩
end Go.Proofs.YtlhaaokldjdnnaaGreatDoor
