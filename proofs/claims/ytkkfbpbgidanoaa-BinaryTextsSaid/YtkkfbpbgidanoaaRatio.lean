/-
  Layer 19 (binary): the quotient by the program and by the reference.
-/
import Derived.Test.YtkkfbpbgidanoaaShares
namespace Go.Proofs.Ytkkfbpbgidanoaa
open Go.RowKit
set_option linter.unusedVariables false

theorem of_nan (w : World) : Calls Try.prog 29 #[.int .u64 9221120237041090561] w fun e w' => e = .returned (.float .f64 9221120237041090561) ∧ w = w' := by
  have h33 : ∀ w, (callFunc 33 #[.int .u64 9221120237041090561]).run Try.prog w = .ok (.value (.float .f64 9221120237041090561)) w := from_run 9221120237041090561
  go_enter Try.func29, Try.ntmps29
  go_wp2
  go_ret
  exact ⟨rfl, rfl⟩
theorem nan_any (w : World) : Calls Try.prog 32 #[] w fun e w' => e = .returned (.float .f64 9221120237041090561) ∧ w = w' := by
  have h33 : ∀ w, (callFunc 33 #[.int .u64 9221120237041090561]).run Try.prog w = .ok (.value (.float .f64 9221120237041090561)) w := from_run 9221120237041090561
  go_enter Try.func32, Try.ntmps32
  go_wp2
  go_ret
  exact ⟨rfl, rfl⟩
theorem ratio_nought (w : World) : Calls Try.prog 26 #[.int .i64 0, .int .i64 0] w fun e w' => e = .returned (.float .f64 9221120237041090561) ∧ w = w' := by
  have H := Lib.hid nan_any
  go_enter Try.func26, Try.ntmps26
  go_wp2_with (go_at_call 32; (refine (H.out _).mono ?_); rintro e w1 ⟨rfl, rfl⟩)
  go_ret
  exact ⟨rfl, rfl⟩
theorem refRatio_nought (w : World) : Calls Try.prog 18 #[.int .i64 0, .int .i64 0] w fun e w' => e = .returned (.float .f64 9221120237041090561) ∧ w = w' := by
  have H := Lib.hid of_nan
  go_enter Try.func18, Try.ntmps18
  go_wp2_with (go_at_call 29; (refine (H.out _).mono ?_); rintro e w1 ⟨rfl, rfl⟩)
  go_ret
  exact ⟨rfl, rfl⟩
theorem ratio_some (p q r : Nat) (hq : 0 < q) (h : floatBits .quo .f64 (floatOfInt .f64 p) (floatOfInt .f64 q) = some r) (w : World) :
    Calls Try.prog 26 #[.int .i64 p, .int .i64 q] w fun e w' => e = .returned (.float .f64 r) ∧ w = w' := by
  have hrun := fun w => run_float_arith (P := Try.prog) w .quo 32 .f64 _ _ r h
  have hne : ¬ (q : Int) = 0 := by omega
  clear h
  go_enter Try.func26, Try.ntmps26
  go_wp2
  go_ret
  exact ⟨rfl, rfl⟩
theorem refRatio_some (p q r : Nat) (hq : 0 < q) (h : floatBits .quo .f64 (floatOfInt .f64 p) (floatOfInt .f64 q) = some r) (w : World) :
    Calls Try.prog 18 #[.int .i64 p, .int .i64 q] w fun e w' => e = .returned (.float .f64 r) ∧ w = w' := by
  have hrun := fun w => run_float_arith (P := Try.prog) w .quo 32 .f64 _ _ r h
  have hne : ¬ (q : Int) = 0 := by omega
  clear h
  go_enter Try.func18, Try.ntmps18
  go_wp2
  go_ret
  exact ⟨rfl, rfl⟩

/-- The share of a text of up to 200 bytes. -/
theorem share_all (s : ByteArray) (hs : s.size ≤ 200) : ∃ r : Nat,
    (∀ w, Calls Try.prog 15 #[.string s] w fun e w' => e = .returned (.float .f64 r) ∧ w = w') ∧
    (∀ w, Calls Try.prog 18 #[.int .i64 (countN s.data.toList), .int .i64 s.size] w fun e w' => e = .returned (.float .f64 r) ∧ w = w') ∧
    (0 < countN s.data.toList → 0 < r ∧ r ≤ 9218868437227405312) := by
  have hk := Lib.hid (fun w => count_any s (Nat.le_trans hs (by decide)) w)
  have hle : countN s.data.toList ≤ s.size := Nat.le_trans (countN_le _) (Nat.le_of_eq (Lib.size_eq s).symm)
  obtain ⟨p, hp⟩ : ∃ p, countN s.data.toList = p := ⟨_, rfl⟩
  rw [hp] at hle hk
  rw [hp]
  clear hp
  by_cases h0 : s.size = 0
  · obtain rfl : p = 0 := by omega
    have hk0 : ∀ w, Calls Try.prog 27 #[.string s] w fun e w' => e = .returned (.int .i64 0) ∧ w = w' := hk.out
    have H0 := Lib.hid hk0
    clear hk hk0
    have es : (s.size : Int) = 0 := by omega
    have ES := Lib.hid es
    have H := Lib.hid ratio_nought
    refine ⟨9221120237041090561, fun w => ?_, fun w => by rw [h0]; exact refRatio_nought w, fun h => absurd h (by omega)⟩
    clear es h0
    go_enter Try.func15, Try.ntmps15
    go_wp2_with (first
      | (go_at_call 27; (refine (H0.out _).mono ?_); rintro e w1 ⟨rfl, rfl⟩)
      | (go_at_call 26; rw [ES.out]; (refine (H.out _).mono ?_); rintro e w1 ⟨rfl, rfl⟩))
    go_ret
    exact ⟨rfl, rfl⟩
  · obtain ⟨r, hr, hr1⟩ := quo_any p s.size (by omega) (by omega) (by omega)
    have H := Lib.hid (ratio_some p s.size r (by omega) hr)
    refine ⟨r, fun w => ?_, refRatio_some p s.size r (by omega) hr, hr1⟩
    clear hr hr1
    go_enter Try.func15, Try.ntmps15
    go_wp2_with (first
      | (go_at_call 27; (refine (hk.out _).mono ?_); rintro e w1 ⟨rfl, rfl⟩)
      | (go_at_call 26; (with_reducible refine (H.out _).mono ?_); rintro e w1 ⟨rfl, rfl⟩))
    go_ret
    exact ⟨rfl, rfl⟩
end Go.Proofs.Ytkkfbpbgidanoaa
