/-
  Which bytes are what: the program's judges of bytes. No condition.
-/
import Derived.Test.YtlhaaokldjdnnaaGreatDoorAidAll
import Derived.Test.YtlhaaokldjdnnaaGreatDoorProg
namespace Go.Proofs.YtlhaaokldjdnnaaGreatDoor
open Go.RowKit
set_option linter.unusedVariables false
set_option linter.unusedSimpArgs false

def smaB (z : Int) : Bool := decide (97 ≤ z) && decide (z ≤ 122)
def greB (z : Int) : Bool := decide (65 ≤ z) && decide (z ≤ 90)
def letB (z : Int) : Bool := smaB z || greB z
def digB (z : Int) : Bool := decide (48 ≤ z) && decide (z ≤ 57)
def innB (z : Int) : Bool := letB z || digB z || z == 95 || z == 36 || decide (128 ≤ z)
def feeB (z : Int) : Bool := z == 10 || z == 13
def whiB (z : Int) : Bool := z == 32 || decide (9 ≤ z) && decide (z ≤ 13)
abbrev IsB (f : FuncId) (z : Int) (b : Bool) : Prop := ∀ w : World, Calls Tryz.prog f #[.int .u8 z] w fun e w' => e = .returned (.bool b) ∧ w = w'
theorem small_is (z : Int) : IsB 363 z (smaB z) := fun w => by
  by_cases h : 97 ≤ z
  all_goals
    go_enter Tryz.func363, Tryz.ntmps363
    go_wp2
    go_ret
    exact ⟨ret_bool (by simp [smaB, h] <;> omega), rfl⟩
theorem great_is (z : Int) : IsB 364 z (greB z) := fun w => by
  by_cases h : 65 ≤ z
  all_goals
    go_enter Tryz.func364, Tryz.ntmps364
    go_wp2
    go_ret
    exact ⟨ret_bool (by simp [greB, h] <;> omega), rfl⟩
theorem digit_is (z : Int) : IsB 308 z (digB z) := fun w => by
  by_cases h : 48 ≤ z
  all_goals
    go_enter Tryz.func308, Tryz.ntmps308
    go_wp2
    go_ret
    exact ⟨ret_bool (by simp [digB, h] <;> omega), rfl⟩
theorem Digit_is (z : Int) : IsB 231 z (digB z) := fun w => by
  have H := Lib.hid (digit_is z)
  go_enter Tryz.func231, Tryz.ntmps231
  go_wp2_with (go_at_call 308; refine (H.out _).mono ?_; rintro e _ ⟨rfl, rfl⟩)
  go_ret
  exact ⟨rfl, rfl⟩
theorem letter_is (z : Int) : IsB 314 z (letB z) := fun w => by
  have H1 := Lib.hid (small_is z)
  have H2 := Lib.hid (great_is z)
  unfold letB
  cases h : smaB z
  all_goals
    rw [h] at H1
    go_enter Tryz.func314, Tryz.ntmps314
    go_wp2_with (first | (go_at_call 363; refine (H1.out _).mono ?_; rintro e _ ⟨rfl, rfl⟩) | (go_at_call 364; refine (H2.out _).mono ?_; rintro e _ ⟨rfl, rfl⟩))
    go_ret
    exact ⟨ret_bool (by simp), rfl⟩
theorem Letter_is (z : Int) : IsB 310 z (letB z) := fun w => by
  have H := Lib.hid (letter_is z)
  go_enter Tryz.func310, Tryz.ntmps310
  go_wp2_with (go_at_call 314; refine (H.out _).mono ?_; rintro e _ ⟨rfl, rfl⟩)
  go_ret
  exact ⟨rfl, rfl⟩
theorem feed_is (z : Int) : IsB 235 z (feeB z) := fun w => by
  by_cases h : z = 10
  all_goals
    go_enter Tryz.func235, Tryz.ntmps235
    go_wp2
    go_ret
    exact ⟨ret_bool (by simp [feeB, h]), rfl⟩
theorem white_is (z : Int) : IsB 236 z (whiB z) := fun w => by
  by_cases h : z = 32
  · subst h
    go_enter Tryz.func236, Tryz.ntmps236
    go_wp2
    go_ret
    exact ⟨rfl, rfl⟩
  · by_cases h9 : 9 ≤ z
    all_goals
      go_enter Tryz.func236, Tryz.ntmps236
      go_wp2
      go_ret
      exact ⟨ret_bool (by simp [whiB, h, h9] <;> omega), rfl⟩
set_option maxRecDepth 100000 in
theorem inner_is (z : Int) : IsB 237 z (innB z) := fun w => by
  have H1 := Lib.hid (Letter_is z)
  have H2 := Lib.hid (Digit_is z)
  unfold innB
  cases h1 : letB z
  · cases h2 : digB z
    · cases h3 : (z == 95)
      · cases h4 : (z == 36)
        all_goals
          rw [h1] at H1
          rw [h2] at H2
          go_enter Tryz.func237, Tryz.ntmps237
          go_wp2_with (first | (go_at_call 310; refine (H1.out _).mono ?_; rintro e _ ⟨rfl, rfl⟩) | (go_at_call 231; refine (H2.out _).mono ?_; rintro e _ ⟨rfl, rfl⟩))
          go_ret
          exact ⟨ret_bool (by simp), rfl⟩
      · rw [h1] at H1
        rw [h2] at H2
        go_enter Tryz.func237, Tryz.ntmps237
        go_wp2_with (first | (go_at_call 310; refine (H1.out _).mono ?_; rintro e _ ⟨rfl, rfl⟩) | (go_at_call 231; refine (H2.out _).mono ?_; rintro e _ ⟨rfl, rfl⟩))
        go_ret
        exact ⟨ret_bool (by simp), rfl⟩
    · rw [h1] at H1
      rw [h2] at H2
      go_enter Tryz.func237, Tryz.ntmps237
      go_wp2_with (first | (go_at_call 310; refine (H1.out _).mono ?_; rintro e _ ⟨rfl, rfl⟩) | (go_at_call 231; refine (H2.out _).mono ?_; rintro e _ ⟨rfl, rfl⟩))
      go_ret
      exact ⟨rfl, rfl⟩
  · rw [h1] at H1
    go_enter Tryz.func237, Tryz.ntmps237
    go_wp2_with (first | (go_at_call 310; refine (H1.out _).mono ?_; rintro e _ ⟨rfl, rfl⟩) | (go_at_call 231; refine (H2.out _).mono ?_; rintro e _ ⟨rfl, rfl⟩))
    go_ret
    exact ⟨rfl, rfl⟩
end Go.Proofs.YtlhaaokldjdnnaaGreatDoor
