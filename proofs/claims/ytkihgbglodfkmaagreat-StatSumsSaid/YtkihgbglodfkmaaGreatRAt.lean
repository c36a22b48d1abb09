/-
  Layer 41: the number at a share by the document, and that two lists of the same numbers are told to be the same. No condition but that a slice is no longer than ten thousand.
-/
import Derived.Test.YtkihgbglodfkmaaGreatRSort
namespace Go.Proofs.YtkihgbglodfkmaaGreat
open Go.RowKit
set_option linter.unusedVariables false
attribute [local go_sem ↓] Go.wp_at_zero Go.wp_at_succ

theorem is_any (a b : Nat) (w : World) : Calls Tryz.prog 14 #[.float .f64 a, .float .f64 b] w fun e w' => e = .returned (.bool (decide (bitsN a = bitsN b))) ∧ w = w' := by
  have H := Lib.hid rBits_any
  go_enter Tryz.func14, Tryz.ntmps14
  go_wp2_with (go_at_call 31; refine (H.out _ _).mono ?_; rintro e w1 ⟨rfl, rfl⟩)
  go_ret
  refine ⟨ret_bool ?_, rfl⟩
  rw [Bool.eq_iff_iff]
  simp
  exact Int.ofNat_inj

theorem Same_yes {w : World} {B B2 : Nat} {A A2 : Option Addr} {cap cap2 : Nat} {xs ys : List Nat} (h : Nums w B A cap xs) (h2 : Nums w B2 A2 cap2 ys) (he : xs.map bitsN = ys.map bitsN) (hn : xs.length ≤ 1000000) :
    Calls Tryz.prog 11 #[.slice A xs.length cap, .slice A2 ys.length cap2] w fun e w' => e = .returned (.bool true) ∧ ∃ q, w' = w.drewN q := by
  have HT := Lib.hid h
  have HT2 := Lib.hid h2
  have HE := Lib.hid he
  have hl : xs.length = ys.length := by have := congrArg List.length he; simpa using this
  have HL := Lib.hid hl
  rw [← hl]
  obtain ⟨n, hN⟩ : ∃ n, xs.length = n := ⟨_, rfl⟩
  have HN := Lib.hid hN
  have HC := Lib.hid (fun b w => still_of (rBits_any b w))
  rw [hN] at hn ⊢
  clear h h2 hN he hl
  go_enter Tryz.func11, Tryz.ntmps11
  go_wp2
  go_loopw [5] (fun iv wr => ∃ (i q : Nat), iv = .int .i64 i ∧ i ≤ n ∧ Hid (wr = w.drewN q)) (fun iv _ => n - (intOf iv).toNat)
  case atStart => exact ⟨0, 0, rfl, Nat.zero_le _, Lib.hid rfl⟩
  case round =>
    obtain ⟨i, q, rfl, hi, HW⟩ := hrel
    have HB : Hid (Below w.heap.size w wr) := by unfold Hid; rw [HW.out]; exact below_drewN (Below.refl _ _) q
    by_cases hin : i < n
    · have hix : i < xs.length := by rw [HN.out]; exact hin
      have hiy : i < ys.length := by rw [← HL.out]; exact hix
      obtain ⟨g, off, rfl, _, hcell, hc1, hc2⟩ := (HT.out.below HB.out).get (j := i) hix
      obtain ⟨g2, off2, rfl, _, hcell2, hc12, hc22⟩ := (HT2.out.below HB.out).get (j := i) hiy
      have hxy : bitsN (xs[i]'hix) = bitsN (ys[i]'hiy) := by
        have := congrArg (fun l => l[i]?) HE.out
        simp only [List.getElem?_map, List.getElem?_eq_getElem hix, List.getElem?_eq_getElem hiy] at this
        simpa using this
      generalize xs[i]'hix = x at hcell hxy
      generalize ys[i]'hiy = y at hcell2 hxy
      rw [HN.out] at hc1
      rw [← HL.out, HN.out] at hc12
      clear hix hiy
      go_wp2
      go_quiet ((go_at_call 31; exact Calls.quiet_of_same (HC.out _ _)))
      go_wp2
      go_roundw
      case rel => exact ⟨i + 1, _, rfl, by omega, by unfold Hid; rw [HW.out, World.drewN_drewN]⟩
      case measure => simp [intOf]; omega
    · go_wp2
      go_ret
      exact ⟨rfl, q, HW.out⟩

end Go.Proofs.YtkihgbglodfkmaaGreat
