/-
  Layer 19 (binary): where the first binary byte stands, how many there are, which share they are, what a number is, by bits; the mark and the rule by the reference.
-/
import Derived.Test.YtkkfbpbgidanoaaQuo
import Derived.Laws.Externs
namespace Go.Proofs.Ytkkfbpbgidanoaa
open Go.RowKit
set_option linter.unusedVariables false

theorem bits_run (b : Nat) (w : World) : (callFunc 28 #[.float .f64 b]).run Try.prog w = .ok (.value (.int .u64 b)) w := by
  rw [run_callFunc_extern Try.func28 (by kernel_rfl) (by kernel_rfl) (by kernel_rfl) (e := Extern.MathFloatBits.float64bits) (by kernel_rfl)]
  rfl
theorem from_run (n : Nat) (w : World) : (callFunc 33 #[.int .u64 n]).run Try.prog w = .ok (.value (.float .f64 n)) w := by
  rw [run_callFunc_extern Try.func33 (by kernel_rfl) (by kernel_rfl) (by kernel_rfl) (e := Extern.MathFloatBits.float64frombits) (by kernel_rfl)]
  rfl

theorem First_any (s : ByteArray) (hs : s.size ≤ maxLen) (w : World) :
    Calls Try.prog 12 #[.string s] w fun e w' => e = .returned (.tuple #[.int .i64 (max (seekI s.data.toList) 0), .bool (decide (0 ≤ seekI s.data.toList))]) ∧ w = w' := by
  have hk := Lib.hid (fun w => seek_any s hs w)
  obtain ⟨x, hx⟩ : ∃ x, seekI s.data.toList = x := ⟨_, rfl⟩
  rw [hx] at hk ⊢
  clear hx hs
  by_cases h : x < 0
  · have hm : max x 0 = 0 := by omega
    have hd : decide (0 ≤ x) = false := by simpa using h
    rw [hm, hd]
    go_enter Try.func12, Try.ntmps12
    go_wp2_with (go_at_call 25; (refine (hk.out _).mono ?_); rintro e w1 ⟨rfl, rfl⟩)
    go_ret2
    exact ⟨rfl, rfl⟩
  · have hm : max x 0 = x := by omega
    have hd : decide (0 ≤ x) = true := by simpa using h
    rw [hm, hd]
    go_enter Try.func12, Try.ntmps12
    go_wp2_with (go_at_call 25; (refine (hk.out _).mono ?_); rintro e w1 ⟨rfl, rfl⟩)
    go_ret2
    exact ⟨rfl, rfl⟩
theorem Count_any (s : ByteArray) (hs : s.size ≤ maxLen) (w : World) :
    Calls Try.prog 16 #[.string s] w fun e w' => e = .returned (.int .i64 (countN s.data.toList)) ∧ w = w' := by
  have hk := Lib.hid (fun w => count_any s hs w)
  go_enter Try.func16, Try.ntmps16
  go_wp2_with (go_at_call 27; (refine (hk.out _).mono ?_); rintro e w1 ⟨rfl, rfl⟩)
  go_ret
  exact ⟨rfl, rfl⟩

theorem Bits_any (b : Nat) : ∃ n : Int, ∀ w, Calls Try.prog 17 #[.float .f64 b] w fun e w' => e = .returned (.int .u64 n) ∧ w = w' := by
  have h28 := bits_run b
  by_cases h : (b : Int) % 9223372036854775808 > 9218868437227405312
  · refine ⟨9221120237041090561, fun w => ?_⟩
    go_enter Try.func17, Try.ntmps17
    go_wp2
    go_ret
    exact ⟨rfl, rfl⟩
  · refine ⟨b, fun w => ?_⟩
    go_enter Try.func17, Try.ntmps17
    go_wp2
    go_ret
    exact ⟨rfl, rfl⟩

/-- A number above 0 and up to the infinite one: it is neither none nor 0. -/
theorem Kind_pos (b : Nat) (h0 : 0 < b) (h1 : b ≤ 9218868437227405312) : ∃ k : Int, (k ≠ 0 ∧ k ≠ 2) ∧ ∀ w, Calls Try.prog 23 #[.float .f64 b] w fun e w' => e = .returned (.int .i64 k) ∧ w = w' := by
  have h28 := bits_run b
  obtain ⟨m, hm⟩ : ∃ m : Int, (b : Int) % 9223372036854775808 = m := ⟨_, rfl⟩
  have hm1 : ¬ m > 9218868437227405312 := by omega
  have hm3 : ¬ m = 0 := by omega
  clear h0 h1
  by_cases h : m = 9218868437227405312
  · refine ⟨1, by decide, fun w => ?_⟩
    go_enter Try.func23, Try.ntmps23
    go_wp2
    go_ret
    exact ⟨rfl, rfl⟩
  · by_cases h4 : m < 4503599627370496
    · refine ⟨3, by decide, fun w => ?_⟩
      go_enter Try.func23, Try.ntmps23
      go_wp2
      go_ret
      exact ⟨rfl, rfl⟩
    · refine ⟨4, by decide, fun w => ?_⟩
      go_enter Try.func23, Try.ntmps23
      go_wp2
      go_ret
      exact ⟨rfl, rfl⟩
theorem Kind_any (b : Nat) : ∃ k : Int, ∀ w, Calls Try.prog 23 #[.float .f64 b] w fun e w' => e = .returned (.int .i64 k) ∧ w = w' := by
  have h28 := bits_run b
  obtain ⟨m, hm⟩ : ∃ m : Int, (b : Int) % 9223372036854775808 = m := ⟨_, rfl⟩
  have hm0 : 0 ≤ m := by omega
  by_cases h1 : m > 9218868437227405312
  · refine ⟨0, fun w => ?_⟩
    go_enter Try.func23, Try.ntmps23
    go_wp2
    go_ret
    exact ⟨rfl, rfl⟩
  · by_cases h2 : m = 9218868437227405312
    · refine ⟨1, fun w => ?_⟩
      go_enter Try.func23, Try.ntmps23
      go_wp2
      go_ret
      exact ⟨rfl, rfl⟩
    · by_cases h3 : m = 0
      · refine ⟨2, fun w => ?_⟩
        go_enter Try.func23, Try.ntmps23
        go_wp2
        go_ret
        exact ⟨rfl, rfl⟩
      · by_cases h4 : m < 4503599627370496
        · refine ⟨3, fun w => ?_⟩
          go_enter Try.func23, Try.ntmps23
          go_wp2
          go_ret
          exact ⟨rfl, rfl⟩
        · refine ⟨4, fun w => ?_⟩
          go_enter Try.func23, Try.ntmps23
          go_wp2
          go_ret
          exact ⟨rfl, rfl⟩
end Go.Proofs.Ytkkfbpbgidanoaa
