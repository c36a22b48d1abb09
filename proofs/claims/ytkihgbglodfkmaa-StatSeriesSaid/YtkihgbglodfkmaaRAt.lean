/-
  Layer 41: the number at a share by the document, and that two lists of the same numbers are told to be the same. No condition but that a slice is no longer than ten thousand.
-/
import Derived.Test.YtkihgbglodfkmaaRSort
namespace Go.Proofs.Ytkihgbglodfkmaa
open Go.RowKit
set_option linter.unusedVariables false
attribute [local go_sem ↓] Go.wp_at_zero Go.wp_at_succ

theorem is_any (a b : Nat) (w : World) : Calls Try.prog 10 #[.float .f64 a, .float .f64 b] w fun e w' => e = .returned (.bool (decide (bitsN a = bitsN b))) ∧ w = w' := by
  have H := Lib.hid rBits_any
  go_enter Try.func10, Try.ntmps10
  go_wp2_with (go_at_call 31; refine (H.out _ _).mono ?_; rintro e w1 ⟨rfl, rfl⟩)
  go_ret
  refine ⟨ret_bool ?_, rfl⟩
  rw [Bool.eq_iff_iff]
  simp
  exact Int.ofNat_inj

theorem Same_yes {w : World} {B B2 : Nat} {A A2 : Option Addr} {cap cap2 : Nat} {xs ys : List Nat} (h : Nums w B A cap xs) (h2 : Nums w B2 A2 cap2 ys) (he : xs.map bitsN = ys.map bitsN) (hn : xs.length ≤ 1000000) :
    Calls Try.prog 26 #[.slice A xs.length cap, .slice A2 ys.length cap2] w fun e w' => e = .returned (.bool true) ∧ ∃ q, w' = w.drewN q := by
  have HT := Lib.hid h
  have HT2 := Lib.hid h2
  have HE := Lib.hid he
  have hl : xs.length = ys.length := by have := congrArg List.length he; simpa using this
  have HL := Lib.hid hl
  rw [← hl]
  obtain ⟨n, hN⟩ : ∃ n, xs.length = n := ⟨_, rfl⟩
  have HN := Lib.hid hN
  have HC := Lib.hid (fun b w => still_of (rBits_any b w))
  rw [hN] at hn ⊢
  clear h h2 hN he hl
  go_enter Try.func26, Try.ntmps26
  go_wp2
  go_loopw [5] (fun iv wr => ∃ (i q : Nat), iv = .int .i64 i ∧ i ≤ n ∧ Hid (wr = w.drewN q)) (fun iv _ => n - (intOf iv).toNat)
  case atStart => exact ⟨0, 0, rfl, Nat.zero_le _, Lib.hid rfl⟩
  case round =>
    obtain ⟨i, q, rfl, hi, HW⟩ := hrel
    have HB : Hid (Below w.heap.size w wr) := by unfold Hid; rw [HW.out]; exact below_drewN (Below.refl _ _) q
    by_cases hin : i < n
    · have hix : i < xs.length := by rw [HN.out]; exact hin
      have hiy : i < ys.length := by rw [← HL.out]; exact hix
      obtain ⟨g, off, rfl, _, hcell, hc1, hc2⟩ := (HT.out.below HB.out).get (j := i) hix
      obtain ⟨g2, off2, rfl, _, hcell2, hc12, hc22⟩ := (HT2.out.below HB.out).get (j := i) hiy
      have hxy : bitsN (xs[i]'hix) = bitsN (ys[i]'hiy) := by
        have := congrArg (fun l => l[i]?) HE.out
        simp only [List.getElem?_map, List.getElem?_eq_getElem hix, List.getElem?_eq_getElem hiy] at this
        simpa using this
      generalize xs[i]'hix = x at hcell hxy
      generalize ys[i]'hiy = y at hcell2 hxy
      rw [HN.out] at hc1
      rw [← HL.out, HN.out] at hc12
      clear hix hiy
      go_wp2
      go_quiet ((go_at_call 31; exact Calls.quiet_of_same (HC.out _ _)))
      go_wp2
      go_roundw
      case rel => exact ⟨i + 1, _, rfl, by omega, by unfold Hid; rw [HW.out, World.drewN_drewN]⟩
      case measure => simp [intOf]; omega
    · go_wp2
      go_ret
      exact ⟨rfl, q, HW.out⟩

set_option maxHeartbeats 2000000 in
theorem rAt_any {w : World} {B : Nat} {A : Option Addr} {cap : Nat} {xs : List Nat} (h : Nums w B A cap xs) (hf : xs.length ≤ 10000) (hw : ∀ x ∈ xs, x < W64) (num den : Int) :
    Calls Try.prog 12 #[.slice A xs.length cap, .int .i64 num, .int .i64 den] w (Flt (shareB xs num den) w) := by
  have H3 := Lib.hid rNaN_any
  have HS := Lib.hid (rSorted_any (w := w.drew) (Row.keep h fun _ _ => rfl) (Nat.le_trans hf (by decide)) hw)
  have HW := Lib.hid hw
  obtain ⟨o, ho⟩ : ∃ o, shareB xs num den = o := ⟨_, rfl⟩
  have HO := Lib.hid ho
  rw [ho]
  have HSH : Hid (Share_ xs num den ↔ (xs.length ≠ 0 ∧ 1 ≤ den ∧ den ≤ 1000 ∧ 0 ≤ num ∧ num ≤ den)) := Iff.rfl
  obtain ⟨n, hN⟩ : ∃ n, xs.length = n := ⟨_, rfl⟩
  have HN := Lib.hid hN
  rw [hN] at HS hf HSH ⊢
  clear h hw hN ho
  by_cases hs : n ≠ 0 ∧ 1 ≤ den ∧ den ≤ 1000 ∧ 0 ≤ num ∧ num ≤ den
  · have HE : Hid (o = atB xs (num * ((n : Int) - 1) / den)) := by
      unfold Hid
      rw [← HO.out, ← HN.out]
      unfold shareB
      rw [if_pos (HSH.out.2 hs)]
    obtain ⟨h0, h1, h2, h3, h4⟩ := hs
    have hz : ((n : Int) == 0) = false := by rw [beq_eq_false_iff_ne]; omega
    obtain ⟨hp1, hp2⟩ := prod_le h3 (by omega : num ≤ 1000) (by omega : (0 : Int) ≤ (n : Int) - 1) (by omega)
    have hden : ¬ den = 0 := by omega
    have hq : 0 ≤ num * ((n : Int) - 1) / den ∧ num * ((n : Int) - 1) / den ≤ (n : Int) - 1 := by
      refine ⟨Int.ediv_nonneg hp1 (by omega), ?_⟩
      have hm : num * ((n : Int) - 1) ≤ den * ((n : Int) - 1) := Int.mul_le_mul_of_nonneg_right h4 (by omega)
      have := Int.ediv_le_ediv (by omega : 0 < den) hm
      rwa [Int.mul_ediv_cancel_left _ hden] at this
    obtain ⟨k, hk⟩ : ∃ k : Nat, num * ((n : Int) - 1) / den = k := ⟨(num * ((n : Int) - 1) / den).toNat, by omega⟩
    rw [hk] at HE hq
    have hkn : k < n := by omega
    have htd : (num * ((n : Int) - 1)).tdiv den = k := by rw [Int.tdiv_eq_ediv_of_nonneg hp1]; exact hk
    have e1 : IntKind.i64.wrap ((n : Int) - 1) = (n : Int) - 1 := wrap_small _ (by omega) (by omega)
    have e2 : IntKind.i64.wrap (num * ((n : Int) - 1)) = num * ((n : Int) - 1) := wrap_small _ (by omega) (by omega)
    have e3 : IntKind.i64.wrap (k : Int) = k := wrap_small _ (by omega) (by omega)
    have HSK : Hid ((srt xs).length = n) := by unfold Hid; rw [srt_len, HN.out]
    have i1 : (0 : Int) ≤ k := by omega
    have i2 : (k : Int) < n := by omega
    clear h0 hp1 hp2 hq
    go_enter Try.func12, Try.ntmps12
    go_wp2
    go_region_with (go_at_call 28; refine HS.out.mono ?_; rintro e w1 ⟨A', c', rfl, hr, hb⟩; have hky : k < (srt xs).length := (by rw [HSK.out]; exact hkn); obtain ⟨g, off, rfl, _, hcell, hc1, hc2⟩ := hr.get hky; rw [HSK.out] at hc1; have HY := Lib.hid (atB_in (srt_sorts xs) HW.out hky); have HL := Lib.hid ((srt_sorts xs).lt HW.out _ (List.getElem_mem hky)); generalize (srt xs)[k]'hky = y at hcell HY HL; have HB : Hid (Below w.heap.size w w1) := (((Below.refl w.heap.size w).drew).trans hb); clear hky hb hr)
    all_goals go_wp2
    all_goals go_ret
    all_goals exact ⟨_, rfl, ⟨by rw [HE.out]; exact HY.out, HL.out⟩, HB.out⟩
  · have HE : Hid (o = NN) := by
      unfold Hid
      rw [← HO.out]
      unfold shareB
      rw [if_neg (fun h => hs (HSH.out.1 h))]
    by_cases h0 : n = 0
    · subst h0
      clear hs
      go_enter Try.func12, Try.ntmps12
      go_wp2_with (go_at_call 35; refine (H3.out _).mono ?_; rintro e w1 ⟨rfl, rfl⟩)
      go_ret
      exact ⟨_, rfl, by rw [HE.out]; exact ⟨bits_nn, nn_lt⟩, Below.refl _ _⟩
    · have hz : ((n : Int) == 0) = false := by rw [beq_eq_false_iff_ne]; omega
      by_cases h1 : den < 1
      · clear hs h0
        go_enter Try.func12, Try.ntmps12
        go_wp2_with (go_at_call 35; refine (H3.out _).mono ?_; rintro e w1 ⟨rfl, rfl⟩)
        go_ret
        exact ⟨_, rfl, by rw [HE.out]; exact ⟨bits_nn, nn_lt⟩, Below.refl _ _⟩
      · by_cases h2 : 1000 < den
        · clear hs h0
          go_enter Try.func12, Try.ntmps12
          go_wp2_with (go_at_call 35; refine (H3.out _).mono ?_; rintro e w1 ⟨rfl, rfl⟩)
          go_ret
          exact ⟨_, rfl, by rw [HE.out]; exact ⟨bits_nn, nn_lt⟩, Below.refl _ _⟩
        · by_cases h3 : num < 0
          · clear hs h0
            go_enter Try.func12, Try.ntmps12
            go_wp2_with (go_at_call 35; refine (H3.out _).mono ?_; rintro e w1 ⟨rfl, rfl⟩)
            go_ret
            exact ⟨_, rfl, by rw [HE.out]; exact ⟨bits_nn, nn_lt⟩, Below.refl _ _⟩
          · have h4 : den < num := by omega
            clear hs h0
            go_enter Try.func12, Try.ntmps12
            go_wp2_with (go_at_call 35; refine (H3.out _).mono ?_; rintro e w1 ⟨rfl, rfl⟩)
            go_ret
            exact ⟨_, rfl, by rw [HE.out]; exact ⟨bits_nn, nn_lt⟩, Below.refl _ _⟩
end Go.Proofs.Ytkihgbglodfkmaa
