/-
  Layer 17 (webm): how many bytes a number has, by its first one; powers of two; the given cut. No condition.
-/
import Derived.Test.YtinigkmjegpddaaRows
import Derived.Test.YtinigkmjegpddaaAid
import Derived.Test.YtinigkmjegpddaaShelf
namespace Go.Proofs.Ytinigkmjegpddaa
open Go.RowKit
set_option linter.unusedVariables false

/-- How many bytes a number has, by its first byte. -/
def widthN (n : Nat) : Nat := if 128 ≤ n then 1 else if 64 ≤ n then 2 else if 32 ≤ n then 3 else if 16 ≤ n then 4 else if 8 ≤ n then 5 else if 4 ≤ n then 6 else if 2 ≤ n then 7 else 8
theorem widthN_bounds (n : Nat) : 1 ≤ widthN n ∧ widthN n ≤ 8 := by
  unfold widthN
  repeat' split
  all_goals omega

theorem bitLen_tab : ∀ n, n < 256 → min (8 - (Lib.bitLen n : Int) + 1) 8 = widthN n := by decide +kernel

theorem zeros_any (n : Nat) (hn : n < 256) (w : World) : Calls Try.prog 25 #[.int .u8 (n : Int)] w fun e w' => e = .returned (.int .i64 (8 - (Lib.bitLen n : Int))) ∧ w = w' :=
  (Try.bits_LeadingZeros8 n w (by omega) (by omega)).mono fun _ _ h => ⟨h.1, h.2.symm⟩

theorem width_any (n : Nat) (hn : n < 256) (w : World) : Calls Try.prog 19 #[.int .u8 (n : Int)] w fun e w' => e = .returned (.int .i64 (widthN n)) ∧ w = w' := by
  have ht := Lib.hid (bitLen_tab n hn)
  have hl : Lib.bitLen n ≤ 8 := (by decide +kernel : ∀ n, n < 256 → Lib.bitLen n ≤ 8) n hn
  obtain ⟨b, hb⟩ : ∃ b, Lib.bitLen n = b := ⟨_, rfl⟩
  have H := Lib.hid (fun w => hb ▸ zeros_any n hn w)
  rw [hb] at ht hl
  clear hb
  by_cases h : (8 : Int) - b + 1 < 8
  all_goals
    go_enter Try.func19, Try.ntmps19
    go_wp2_with (go_at_call 25; (with_reducible refine (H.out _).mono ?_); rintro e w1 ⟨rfl, rfl⟩)
    go_ret
    exact ⟨ret_int (by have := ht.out; omega), rfl⟩

theorem Width_any (n : Nat) (hn : n < 256) (w : World) : Calls Try.prog 9 #[.int .u8 (n : Int)] w fun e w' => e = .returned (.int .i64 (widthN n)) ∧ w = w' := by
  have H := Lib.hid (fun w => width_any n hn w)
  go_enter Try.func9, Try.ntmps9
  go_wp2_with (go_at_call 19; (with_reducible refine (H.out _).mono ?_); rintro e w1 ⟨rfl, rfl⟩)
  go_ret
  exact ⟨rfl, rfl⟩

theorem refWidth_any (n : Nat) (hn : n < 256) (w : World) : Calls Try.prog 10 #[.int .u8 (n : Int)] w fun e w' => e = .returned (.int .i64 (widthN n)) ∧ w = w' := by
  go_enter Try.func10, Try.ntmps10
  go_wp2
  go_loop [3, 4] (fun a b => ∃ k : Nat, 1 ≤ k ∧ k ≤ 8 ∧ a = .int .i64 k ∧ b = .int .i64 ((2 ^ (8 - k) : Nat) : Int) ∧ n < 2 ^ (9 - k)) (fun a _ => 8 - (intOf a).toNat)
  case atStart => exact ⟨1, by omega, by omega, rfl, rfl, by omega⟩
  case round =>
    obtain ⟨k, hk1, hk8, rfl, rfl, hlt⟩ := hrel
    have HL := Lib.hid hlt
    clear hlt
    by_cases h8 : k < 8
    · by_cases hb : n < 2 ^ (8 - k)
      · obtain ⟨p, hp⟩ : ∃ p : Nat, 2 ^ (8 - k) = p := ⟨_, rfl⟩
        have hp2 : p ≤ 128 ∧ 1 ≤ p := by
          rcases (by omega : k = 1 ∨ k = 2 ∨ k = 3 ∨ k = 4 ∨ k = 5 ∨ k = 6 ∨ k = 7) with rfl | rfl | rfl | rfl | rfl | rfl | rfl <;> (subst hp; decide)
        have HP := Lib.hid hp
        rw [hp] at hb ⊢
        clear hp
        obtain ⟨hp3, hp4⟩ := hp2
        go_wp2
        go_round
        case rel =>
          refine ⟨k + 1, by omega, by omega, by go_num, ?_, ?_⟩
          · have : 2 ^ (8 - (k + 1)) = p / 2 := by
              rw [← HP.out]
              rcases (by omega : k = 1 ∨ k = 2 ∨ k = 3 ∨ k = 4 ∨ k = 5 ∨ k = 6 ∨ k = 7) with rfl | rfl | rfl | rfl | rfl | rfl | rfl <;> rfl
            rw [this]
            go_num
          · have e : 9 - (k + 1) = 8 - k := by omega
            rw [e, HP.out]
            exact hb
        case measure => simp [intOf]; omega
      · have hb' : ¬ (n : Int) < ((2 ^ (8 - k) : Nat) : Int) := by omega
        obtain ⟨p, hp⟩ : ∃ p : Nat, 2 ^ (8 - k) = p := ⟨_, rfl⟩
        have HP := Lib.hid hp
        rw [hp] at hb hb' ⊢
        clear hp
        go_wp2
        go_ret
        refine ⟨ret_int ?_, rfl⟩
        have hl := HL.out
        have hp := HP.out
        rcases (by omega : k = 1 ∨ k = 2 ∨ k = 3 ∨ k = 4 ∨ k = 5 ∨ k = 6 ∨ k = 7) with rfl | rfl | rfl | rfl | rfl | rfl | rfl
        all_goals
          simp at hl hp
          unfold widthN
          repeat' split
          all_goals omega
    · obtain rfl : k = 8 := by omega
      go_wp2
      go_ret
      refine ⟨ret_int ?_, rfl⟩
      have hl := HL.out
      simp at hl
      unfold widthN
      repeat' split
      all_goals omega
end Go.Proofs.Ytinigkmjegpddaa
