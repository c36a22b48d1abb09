/-
  Layer 41: how many numbers are of which kind, by the program. No condition but that a series is one, or none.
-/
import Derived.Test.YtkihgbglodfkmaaStatAt
namespace Go.Proofs.Ytkihgbglodfkmaa
open Go.RowKit
set_option linter.unusedVariables false

/-- How many numbers are of a kind. -/
def kc (xs : List Nat) (j : Int) : Nat := (xs.filter fun x => decide (kindI x = j)).length
theorem kc_le (xs : List Nat) (j : Int) : kc xs j ≤ xs.length := List.length_filter_le _ _
theorem kc_snoc (xs : List Nat) (x : Nat) (j : Int) : kc (xs ++ [x]) j = kc xs j + if kindI x = j then 1 else 0 := by
  unfold kc
  rw [List.filter_append]
  by_cases h : kindI x = j <;> simp [h]
theorem kind_is (b : Nat) : kindI b = 0 ∨ kindI b = 1 ∨ kindI b = 2 ∨ kindI b = 3 ∨ kindI b = 4 := by
  unfold kindI
  repeat' split
  all_goals omega
/-- The row of the counts. -/
def krow (a b c d e : Nat) : Array Value := #[.int .i64 a, .int .i64 b, .int .i64 c, .int .i64 d, .int .i64 e]
def KRow (w : World) (g : Nat) (xs : List Nat) : Prop := w.heap[g]? = some (.cells (krow (kc xs 0) (kc xs 1) (kc xs 2) (kc xs 3) (kc xs 4)) 47 (0, 0))
theorem KRow.below {w w' : World} {g : Nat} {xs : List Nat} (h : KRow w g xs) (hb : Below w.heap.size w w') : KRow w' g xs := (hb.block g (blk_lt h)).trans h
theorem KRow.cells {w : World} {g : Nat} {a b c d e : Nat} (h : w.heap[g]? = some (.cells (krow a b c d e) 47 (0, 0))) :
    w.cell? ⟨g, 0, none⟩ = some (.int .i64 a) ∧ w.cell? ⟨g, 1, none⟩ = some (.int .i64 b) ∧ w.cell? ⟨g, 2, none⟩ = some (.int .i64 c) ∧ w.cell? ⟨g, 3, none⟩ = some (.int .i64 d) ∧ w.cell? ⟨g, 4, none⟩ = some (.int .i64 e) :=
  ⟨cell_of_row w g 0 _ _ _ h, cell_of_row w g 1 _ _ _ h, cell_of_row w g 2 _ _ _ h, cell_of_row w g 3 _ _ _ h, cell_of_row w g 4 _ _ _ h⟩
/-- One more. -/
theorem KRow.more {w : World} {g : Nat} {xs : List Nat} {x : Nat} {k : Nat} (h : KRow w g xs) (hk : kindI x = (k : Int)) : KRow (w.setCell ⟨g, k, none⟩ (.int .i64 ((kc xs (k : Int) : Int) + 1))) g (xs ++ [x]) := by
  unfold KRow
  rw [blk_set h k]
  have e : ∀ j, kc (xs ++ [x]) j = kc xs j + if (k : Int) = j then 1 else 0 := fun j => by rw [kc_snoc, hk]
  rw [e, e, e, e, e]
  have hk5 : k = 0 ∨ k = 1 ∨ k = 2 ∨ k = 3 ∨ k = 4 := by
    have := kind_is x
    omega
  rcases hk5 with rfl | rfl | rfl | rfl | rfl <;> simp [krow]

set_option maxHeartbeats 4000000 in
theorem Kinds_any {w : World} {B : Nat} {p : Value} {A : Option Addr} {cap : Nat} {xs : List Nat} (h : Has w B p A cap xs) (hw : ∀ x ∈ xs, x < W64) :
    Calls Try.prog 29 #[p] w fun e w' => e = .returned (.agg #[.int .i64 (kc xs 0), .int .i64 (kc xs 1), .int .i64 (kc xs 2), .int .i64 (kc xs 3), .int .i64 (kc xs 4)]) ∧ Below w.heap.size w w' := by
  have hlen := h.few
  have H1 := Lib.hid h.all
  have HR := Lib.hid h.row
  have HW := Lib.hid hw
  have HK := Lib.hid pKind_any
  obtain ⟨n, hN⟩ : ∃ n, xs.length = n := ⟨_, rfl⟩
  have HN := Lib.hid hN
  rw [hN] at H1 hlen
  clear h hw hN
  have hb0 : Hid (Below w.heap.size w ((w.alloc (.cells (krow 0 0 0 0 0) 47)).alloc (.cells (krow 0 0 0 0 0) 47))) := ((Below.refl _ _).alloc (Nat.le_refl _) _).alloc (by simp) _
  go_enter Try.func29, Try.ntmps29
  go_wp2_with (go_at_call 32; refine (H1.out _ hb0.out).mono ?_; rintro e w1 ⟨rfl, rfl⟩)
  have hk0 : KRow ((w.alloc (.cells (krow 0 0 0 0 0) 47)).alloc (.cells (krow 0 0 0 0 0) 47)) (w.heap.size + 1) [] := by
    have := heap_alloc_new (w.alloc (.cells (krow 0 0 0 0 0) 47)) (.cells (krow 0 0 0 0 0) 47)
    rw [World.size_alloc] at this
    exact this
  have hr0 : ((w.alloc (.cells (krow 0 0 0 0 0) 47)).alloc (.cells (krow 0 0 0 0 0) 47)).heap[w.heap.size]? = some (.cells (krow 0 0 0 0 0) 47 (0, 0)) := (Below.heap_alloc _ _ _ (by simp)).trans (heap_alloc_new w _)
  have HK0 := Lib.hid hk0
  have HR0 := Lib.hid hr0
  clear hk0 hr0
  go_loopw [9] (fun iv wr => ∃ i : Nat, iv = .int .i64 i ∧ i ≤ n ∧ Hid (KRow wr (w.heap.size + 1) (xs.take i)) ∧ Hid (wr.heap[w.heap.size]? = some (.cells (krow 0 0 0 0 0) 47 (0, 0))) ∧ Hid (Below w.heap.size w wr)) (fun iv _ => n - (intOf iv).toNat)
  case atStart => exact ⟨0, rfl, Nat.zero_le _, HK0, HR0, hb0⟩
  case round =>
    obtain ⟨i, rfl, hi, HC, HO, HB⟩ := hrel
    by_cases hin : i < n
    · have hix : i < xs.length := by rw [HN.out]; exact hin
      obtain ⟨g, off, rfl, _, hcell, hc1, hc2⟩ := (HR.out.below HB.out).get (j := i) hix
      have HT := Lib.hid (take_more hix)
      have HXW := Lib.hid (HW.out _ (List.getElem_mem hix))
      generalize xs[i]'hix = x at hcell HT HXW
      rw [HN.out] at hc1
      obtain ⟨k, hk⟩ : ∃ k : Nat, kindI x = k := ⟨(kindI x).toNat, by have := kind_is x; omega⟩
      have hk5 : k < 5 := by have := kind_is x; omega
      have HP := HK.out x HXW.out
      rw [hk] at HP
      have HP := Lib.hid HP
      have HKX := Lib.hid hk
      have hcm : kc (xs.take i) (k : Int) ≤ 10000 := Nat.le_trans (kc_le _ _) (by rw [List.length_take]; omega)
      have HM := Lib.hid (KRow.more HC.out hk)
      have hck : wr.cell? ⟨w.heap.size + 1, k, none⟩ = some (.int .i64 (kc (xs.take i) (k : Int) : Int)) := by
        rw [cell_of_row wr _ k _ _ _ HC.out]
        have h5 : k = 0 ∨ k = 1 ∨ k = 2 ∨ k = 3 ∨ k = 4 := by omega
        rcases h5 with rfl | rfl | rfl | rfl | rfl <;> rfl
      have hfr := blk_frozen HC.out k
      generalize kc (xs.take i) (k : Int) = m at hck hcm HM
      have i1 : (0 : Int) ≤ (k : Int) := by omega
      have i2 : (k : Int) < 5 := by omega
      clear hk hix
      go_wp2_with (go_at_call 42; refine (HP.out _).mono ?_; rintro e w2 ⟨rfl, rfl⟩)
      go_roundw
      case rel =>
        refine ⟨i + 1, by go_num, by omega, ?_, ?_, ?_⟩
        · unfold Hid
          rw [HT.out]
          exact HM.out
        · unfold Hid
          exact (Below.heap_setCell wr _ _ _ (by simp)).trans HO.out
        · unfold Hid
          exact HB.out.setCell (p := ⟨w.heap.size + 1, k, none⟩) (by simp) _
      case measure => simp [intOf]; omega
    · obtain rfl : i = n := by omega
      have HC2 : Hid (KRow wr (w.heap.size + 1) xs) := by
        have := HC.out
        rwa [List.take_of_length_le (by rw [HN.out]; exact Nat.le_refl _)] at this
      obtain ⟨c0, c1, c2, c3, c4⟩ := KRow.cells HC2.out
      have f0 := blk_frozen HO.out 0
      have f1 := blk_frozen HO.out 1
      have f2 := blk_frozen HO.out 2
      have f3 := blk_frozen HO.out 3
      have f4 := blk_frozen HO.out 4
      have hsz : w.heap.size < wr.heap.size := blk_lt HO.out
      obtain ⟨d0, d1, d2, d3, d4⟩ := KRow.cells HO.out
      go_wp2
      have hfin : (((((wr.setCell ⟨w.heap.size, 0, none⟩ (.int .i64 (kc xs 0))).setCell ⟨w.heap.size, 1, none⟩ (.int .i64 (kc xs 1))).setCell ⟨w.heap.size, 2, none⟩ (.int .i64 (kc xs 2))).setCell ⟨w.heap.size, 3, none⟩ (.int .i64 (kc xs 3))).setCell ⟨w.heap.size, 4, none⟩ (.int .i64 (kc xs 4))).heap[w.heap.size]? = some (.cells (krow (kc xs 0) (kc xs 1) (kc xs 2) (kc xs 3) (kc xs 4)) 47 (0, 0)) := by
        rw [blk_set (blk_set (blk_set (blk_set (blk_set HO.out 0 _) 1 _) 2 _) 3 _) 4 _]
        simp [krow]
      have hbf : Below w.heap.size w (((((wr.setCell ⟨w.heap.size, 0, none⟩ (.int .i64 (kc xs 0))).setCell ⟨w.heap.size, 1, none⟩ (.int .i64 (kc xs 1))).setCell ⟨w.heap.size, 2, none⟩ (.int .i64 (kc xs 2))).setCell ⟨w.heap.size, 3, none⟩ (.int .i64 (kc xs 3))).setCell ⟨w.heap.size, 4, none⟩ (.int .i64 (kc xs 4))) :=
        ((((HB.out.setCell (p := ⟨w.heap.size, 0, none⟩) (Nat.le_refl _) _).setCell (p := ⟨w.heap.size, 1, none⟩) (Nat.le_refl _) _).setCell (p := ⟨w.heap.size, 2, none⟩) (Nat.le_refl _) _).setCell (p := ⟨w.heap.size, 3, none⟩) (Nat.le_refl _) _).setCell (p := ⟨w.heap.size, 4, none⟩) (Nat.le_refl _) _
      generalize ((((wr.setCell ⟨w.heap.size, 0, none⟩ (.int .i64 (kc xs 0))).setCell ⟨w.heap.size, 1, none⟩ (.int .i64 (kc xs 1))).setCell ⟨w.heap.size, 2, none⟩ (.int .i64 (kc xs 2))).setCell ⟨w.heap.size, 3, none⟩ (.int .i64 (kc xs 3))).setCell ⟨w.heap.size, 4, none⟩ (.int .i64 (kc xs 4)) = W5 at hfin hbf ⊢
      obtain ⟨e0, e1, e2, e3, e4⟩ := KRow.cells hfin
      exact bodyPost_ret (v := .agg #[.int .i64 (kc xs 0), .int .i64 (kc xs 1), .int .i64 (kc xs 2), .int .i64 (kc xs 3), .int .i64 (kc xs 4)]) (by simp [results, Try.results29, go_sem, e0, e1, e2, e3, e4]) rfl ⟨rfl, hbf⟩
end Go.Proofs.Ytkihgbglodfkmaa
