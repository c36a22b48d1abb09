/-
  Layer 08 (float): whether a number is whole, by the program and by the reference; the law on kinds, walked. No condition but that a word has 64 bits.
-/
import Derived.Test.YtanekkcfkahinaaWhole
namespace Go.Proofs.Ytanekkcfkahinaa
open Go.RowKit
set_option linter.unusedVariables false

theorem cmp_iseq (a b : Int) : (some (compare a b) == some Ordering.eq) = decide (a = b) := by
  rcases Int.lt_trichotomy a b with h | h | h
  · rw [cmp_lt h, decide_eq_false (by omega)]; rfl
  · rw [h, cmp_eq, decide_eq_true rfl]; rfl
  · rw [cmp_gt h, decide_eq_false (by omega)]; rfl
theorem most_in : MOST < IN := by decide +kernel
theorem whole_is {b : Nat} {n : Int} (h : wholeB b = true) (hf : floatToIntVal .f64 b .i64 = some n) : wholeI b = n := by
  unfold wholeI
  rw [if_pos h, hf]
  rfl
theorem wholeB_of {b T : Nat} (h1 : nanB b = false) (h2 : magN b ≤ MOST) (hT : FloatKind.f64.encode ((FloatKind.f64.decode b).integral .zero) = T) : wholeB b = (FloatKind.f64.format.order T b == some .eq) := by
  unfold wholeB
  rw [h1, decide_eq_true h2, hT]
  rfl

theorem pWhole_any (b : Nat) (hb : b < W64) (w : World) : Calls Try.prog 23 #[.float .f64 b] w fun e w' => e = .returned (.tuple #[.int .i64 (wholeI b), .bool (wholeB b)]) ∧ w = w' := by
  have H36 := Lib.hid (Abs_any b hb w)
  by_cases hn : nanB b = false ∧ magN b ≤ MOST
  · obtain ⟨h1, h2⟩ := hn
    obtain ⟨n, T, q1, q2, q3, q4, q5, q6⟩ := small_cut hb h2
    have hw := wholeB_of h1 h2 q4
    have H37 := Lib.hid (Trunc_any q5 q4 w)
    have hcv := fun w => run_convert_float_int (P := Try.prog) w 23 3 .f64 .i64 b n (by kernel_rfl) Try.underlying3 q1
    have ho := order_pos (num_le h1) (Nat.le_of_lt most_in)
    have l1 := cmp_islt (magN b : Int) (MOST : Int)
    have l2 := cmp_iseq (magN b : Int) (MOST : Int)
    rw [← ho] at l1 l2
    have hle : decide ((magN b : Int) < (MOST : Int)) = true ∨ decide ((magN b : Int) = (MOST : Int)) = true := by
      simp only [decide_eq_true_eq]
      omega
    obtain ⟨d1, hd1⟩ : ∃ d, decide ((magN b : Int) < (MOST : Int)) = d := ⟨_, rfl⟩
    obtain ⟨d2, hd2⟩ : ∃ d, decide ((magN b : Int) = (MOST : Int)) = d := ⟨_, rfl⟩
    rw [hd1] at l1 hle
    rw [hd2] at l2 hle
    unfold MOST at l1 l2
    obtain ⟨m, hm⟩ : ∃ m, magN b = m := ⟨_, rfl⟩
    rw [hm] at H36 l1 l2
    cases hr : (FloatKind.f64.format.order T b == some .eq)
    · rw [hr] at hw
      have hi := whole_not hw
      rw [hw, hi]
      have hne : (FloatKind.f64.format.order T b != some .eq) = true := by unfold bne; rw [hr]; rfl
      clear ho hw hi hr q1 q2 q3 q4 q5 q6 h1 h2 hb hm hd1 hd2 hcv
      rcases hle with rfl | rfl
      · go_enter Try.func23, Try.ntmps23
        go_wp2_with (first | (go_at_call 36; (refine H36.out.mono ?_); rintro e w1 ⟨rfl, rfl⟩) | (go_at_call 37; (refine H37.out.mono ?_); rintro e w1 ⟨rfl, rfl⟩))
        go_ret2
        exact ⟨rfl, rfl⟩
      · go_enter Try.func23, Try.ntmps23
        go_wp2_with (first | (go_at_call 36; (refine H36.out.mono ?_); rintro e w1 ⟨rfl, rfl⟩) | (go_at_call 37; (refine H37.out.mono ?_); rintro e w1 ⟨rfl, rfl⟩))
        go_ret2
        exact ⟨rfl, rfl⟩
    · rw [hr] at hw
      have hi := whole_is hw q1
      rw [hw, hi]
      have hne : (FloatKind.f64.format.order T b != some .eq) = false := by unfold bne; rw [hr]; rfl
      clear ho hw hi hr q1 q2 q3 q4 q5 q6 h1 h2 hb hm hd1 hd2
      rcases hle with rfl | rfl
      · go_enter Try.func23, Try.ntmps23
        go_wp2_with (first | (go_at_call 36; (refine H36.out.mono ?_); rintro e w1 ⟨rfl, rfl⟩) | (go_at_call 37; (refine H37.out.mono ?_); rintro e w1 ⟨rfl, rfl⟩))
        go_ret2
        exact ⟨rfl, rfl⟩
      · go_enter Try.func23, Try.ntmps23
        go_wp2_with (first | (go_at_call 36; (refine H36.out.mono ?_); rintro e w1 ⟨rfl, rfl⟩) | (go_at_call 37; (refine H37.out.mono ?_); rintro e w1 ⟨rfl, rfl⟩))
        go_ret2
        exact ⟨rfl, rfl⟩
  · have hw : wholeB b = false := by
      unfold wholeB
      cases h1 : nanB b
      · rw [decide_eq_false (fun h => hn ⟨h1, h⟩)]
        rfl
      · rfl
    have hi := whole_not hw
    rw [hw, hi]
    have l : (FloatKind.f64.format.order (magN b) 4845873199050653695 == some .lt) = false ∧ (FloatKind.f64.format.order (magN b) 4845873199050653695 == some .eq) = false := by
      cases h1 : nanB b
      · have h2 : ¬ magN b ≤ MOST := fun h => hn ⟨h1, h⟩
        have ho := order_pos (num_le h1) (Nat.le_of_lt most_in)
        have l1 := cmp_islt (magN b : Int) (MOST : Int)
        have l2 := cmp_iseq (magN b : Int) (MOST : Int)
        rw [← ho] at l1 l2
        rw [decide_eq_false (by omega)] at l1 l2
        exact ⟨l1, l2⟩
      · have hm1 : nanB (magN b) = true := by
          have h3 := of_decide_eq_true h1
          exact decide_eq_true (by rw [mag_lo (mag_lt b)]; exact h3)
        rw [order_f64 _ _ (mag_w64 b) (by decide +kernel), if_pos (Or.inl hm1)]
        exact ⟨rfl, rfl⟩
    obtain ⟨l1, l2⟩ := l
    obtain ⟨m, hm⟩ : ∃ m, magN b = m := ⟨_, rfl⟩
    rw [hm] at H36 l1 l2
    clear hn hw hi hm hb
    go_enter Try.func23, Try.ntmps23
    go_wp2_with (go_at_call 36; (refine H36.out.mono ?_); rintro e w1 ⟨rfl, rfl⟩)
    go_ret2
    exact ⟨rfl, rfl⟩

theorem key_abs {b : Nat} (h1 : nanB b = false) : (magN b ≤ MOST) ↔ (-(MOST : Int) ≤ keyI b ∧ keyI b ≤ MOST) := by
  unfold keyI
  split <;> omega
theorem rWhole_any (b : Nat) (hb : b < W64) (w : World) : Calls Try.prog 24 #[.float .f64 b] w fun e w' => e = .returned (.tuple #[.int .i64 (wholeI b), .bool (wholeB b)]) ∧ w = w' := by
  have H26 := Lib.hid (rKind_any b w)
  obtain ⟨k, hk⟩ : ∃ k, kindI b = k := ⟨_, rfl⟩
  rw [hk] at H26
  by_cases hk2 : k < 2
  · have hw : wholeB b = false := by
      unfold wholeB
      cases h1 : nanB b
      · have h2 : ¬ magN b ≤ MOST := by
          intro h
          have hm := most_in
          unfold kindI at hk
          rw [h1, if_neg (by simp), if_neg (by omega)] at hk
          split at hk
          · omega
          · split at hk <;> omega
        rw [decide_eq_false h2]
        rfl
      · rfl
    have hi := whole_not hw
    rw [hw, hi]
    clear hw hi hk hb
    go_enter Try.func24, Try.ntmps24
    go_wp2_with (go_at_call 26; (refine H26.out.mono ?_); rintro e w1 ⟨rfl, rfl⟩)
    go_ret2
    exact ⟨rfl, rfl⟩
  · have h1 : nanB b = false := by
      cases h : nanB b
      · rfl
      · unfold kindI at hk
        rw [h, if_pos rfl] at hk
        omega
    have n1 : nanB MOST = false := by decide +kernel
    have n2 : nanB NMOST = false := by decide +kernel
    have k1 : keyI MOST = (MOST : Int) := by decide +kernel
    have k2 : keyI NMOST = -(MOST : Int) := by decide +kernel
    have o1 := order_f64 b MOST hb (by decide +kernel)
    rw [if_neg (by simp [h1, n1]), k1] at o1
    have o2 := order_f64 b NMOST hb (by decide +kernel)
    rw [if_neg (by simp [h1, n2]), k2] at o2
    have g1 := cmp_isgt (keyI b) (MOST : Int)
    have g2 := cmp_islt (keyI b) (-(MOST : Int))
    rw [← o1] at g1
    rw [← o2] at g2
    have ka := key_abs h1
    unfold MOST at g1
    unfold NMOST at g2
    by_cases hs : magN b ≤ MOST
    · obtain ⟨n, T, q1, q2, q3, q4, q5, q6⟩ := small_cut hb hs
      have hw := wholeB_of h1 hs q4
      have hcv := fun w => run_convert_float_int (P := Try.prog) w 23 3 .f64 .i64 b n (by kernel_rfl) Try.underlying3 q1
      rw [decide_eq_false (by have := (ka.1 hs).2; unfold MOST at this; omega)] at g1
      rw [decide_eq_false (by have := (ka.1 hs).1; omega)] at g2
      rw [q6] at hw
      obtain ⟨F, hF⟩ : ∃ F, floatOfInt .f64 n = F := ⟨_, rfl⟩
      have hfi := fun w => run_convert_int_float (P := Try.prog) w 3 23 .i64 .f64 n (by kernel_rfl) Try.underlying23
      rw [hF] at hfi hw
      cases hr : (FloatKind.f64.format.order F b == some .eq)
      · rw [hr] at hw
        have hi := whole_not hw
        rw [hw, hi]
        have hne : (FloatKind.f64.format.order F b != some .eq) = true := by unfold bne; rw [hr]; rfl
        clear hw hi hr q1 q4 q5 q6 h1 n1 n2 k1 k2 o1 o2 ka hs hb hk hF
        go_enter Try.func24, Try.ntmps24
        go_wp2_with (go_at_call 26; (refine H26.out.mono ?_); rintro e w1 ⟨rfl, rfl⟩)
        all_goals
          go_ret2
          exact ⟨rfl, rfl⟩
      · rw [hr] at hw
        have hi := whole_is hw q1
        rw [hw, hi]
        have hne : (FloatKind.f64.format.order F b != some .eq) = false := by unfold bne; rw [hr]; rfl
        clear hw hi hr q1 q4 q5 q6 h1 n1 n2 k1 k2 o1 o2 ka hs hb hk hF
        go_enter Try.func24, Try.ntmps24
        go_wp2_with (go_at_call 26; (refine H26.out.mono ?_); rintro e w1 ⟨rfl, rfl⟩)
        all_goals
          go_ret2
          exact ⟨rfl, rfl⟩
    · have hw : wholeB b = false := by
        unfold wholeB
        rw [h1, decide_eq_false hs]
        rfl
      have hi := whole_not hw
      rw [hw, hi]
      by_cases hg : (MOST : Int) < keyI b
      · rw [decide_eq_true (by unfold MOST at hg; exact hg)] at g1
        clear g2 hw hi h1 n1 n2 k1 k2 o1 o2 ka hs hb hk hg
        go_enter Try.func24, Try.ntmps24
        go_wp2_with (go_at_call 26; (refine H26.out.mono ?_); rintro e w1 ⟨rfl, rfl⟩)
        go_ret2
        exact ⟨rfl, rfl⟩
      · rw [decide_eq_false (by unfold MOST at hg; exact hg)] at g1
        rw [decide_eq_true (by omega)] at g2
        clear hw hi h1 n1 n2 k1 k2 o1 o2 ka hs hb hk hg
        go_enter Try.func24, Try.ntmps24
        go_wp2_with (go_at_call 26; (refine H26.out.mono ?_); rintro e w1 ⟨rfl, rfl⟩)
        go_ret2
        exact ⟨rfl, rfl⟩
end Go.Proofs.Ytanekkcfkahinaa
