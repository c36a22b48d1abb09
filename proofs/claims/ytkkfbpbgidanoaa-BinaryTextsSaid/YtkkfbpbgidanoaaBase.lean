/-
  Layer 19 (binary): what each function of the program and of the reference answers, function by function, at every input; no condition but that a text is no longer than a text can be.
-/
import Derived.Test.YtkkfbpbgidanoaaRows
import Derived.Test.YtkkfbpbgidanoaaAid
namespace Go.Proofs.Ytkkfbpbgidanoaa
open Go.RowKit
set_option linter.unusedVariables false

/-- Which bytes are binary. -/
def oddN (n : Nat) : Bool := decide (n ≤ 8) || n == 11 || (decide (14 ≤ n) && decide (n ≤ 26)) || (decide (28 ≤ n) && decide (n ≤ 31))

theorem odd_tab : ∀ n, n < 32 → (bits BinOp.and IntKind.i64 (4160735743 / 2 ^ n) 1 == 1) = oddN n := by decide

theorem oddN_hi (n : Nat) (h : ¬ n < 32) : oddN n = false := by
  unfold oddN
  simp
  omega

theorem odd_any (n : Nat) (hn : n < 256) (w : World) : Calls Try.prog 24 #[.int .u8 (n : Int)] w fun e w' => e = .returned (.bool (oddN n)) ∧ w = w' := by
  by_cases h : n < 32
  · have ht := Lib.hid (odd_tab n h)
    have h' : (n : Int) < 32 := by omega
    go_enter Try.func24, Try.ntmps24
    go_wp2
    go_ret
    exact ⟨ret_bool (by simpa using ht.out), rfl⟩
  · have ht := Lib.hid (oddN_hi n h)
    have h' : ¬ (n : Int) < 32 := by omega
    go_enter Try.func24, Try.ntmps24
    go_wp2
    go_ret
    exact ⟨ret_bool ht.out.symm, rfl⟩

theorem byte_any (n : Nat) (hn : n < 256) (w : World) : Calls Try.prog 6 #[.int .u8 (n : Int)] w fun e w' => e = .returned (.bool (oddN n)) ∧ w = w' := by
  go_enter Try.func6, Try.ntmps6
  go_wp2_with (go_at_call 24; refine (odd_any _ hn _).mono ?_; rintro e w' ⟨rfl, rfl⟩)
  go_ret
  exact ⟨rfl, rfl⟩

theorem refByte_any (n : Nat) (hn : n < 256) (w : World) : Calls Try.prog 7 #[.int .u8 (n : Int)] w fun e w' => e = .returned (.bool (oddN n)) ∧ w = w' := by
  by_cases a : (n : Int) ≤ 8
  · go_enter Try.func7, Try.ntmps7
    go_wp2
    go_ret
    exact ⟨ret_bool (by simp [oddN]; omega), rfl⟩
  · by_cases b : (n : Int) = 11
    · have b' : ((n : Int) == 11) = true := by simpa using b
      have B := Lib.hid b
      clear b
      go_enter Try.func7, Try.ntmps7
      go_wp2
      go_ret
      exact ⟨ret_bool (by have := B.out; simp [oddN]; omega), rfl⟩
    · have b' : ((n : Int) == 11) = false := by simpa using b
      by_cases c : (14 : Int) ≤ n <;> by_cases d : (n : Int) ≤ 26 <;> by_cases f : (28 : Int) ≤ n <;> by_cases g : (n : Int) ≤ 31
      all_goals first
        | (exfalso; omega)
        | (go_enter Try.func7, Try.ntmps7
           go_wp2
           go_ret
           exact ⟨ret_bool (by simp [oddN]; omega), rfl⟩)

theorem pre_any (s t : ByteArray) (w : World) :
    Calls Try.prog 34 #[.string s, .string t] w fun e w' => e = .returned (.bool (Lib.hasPrefix s.data.toList t.data.toList)) ∧ w = w' := by
  have hr := Lib.hid (Lib.hasPrefix_raw s t)
  by_cases h : t.size ≤ s.size
  all_goals
    go_enter Try.func34, Try.ntmps34
    go_wp2
    go_ret
    exact ⟨ret_bool (by have := hr.out; simp only [h] at this; simpa using this), rfl⟩

/-- How many bytes are a mark of the order of bytes. -/
def markN (l : List UInt8) : Int :=
  if Lib.hasPrefix l [239, 187, 191] = true then 3 else if Lib.hasPrefix l [254, 255] = true then 2 else if Lib.hasPrefix l [255, 254] = true then 2 else 0

theorem pre_is (s t : ByteArray) (b : Bool) (h : Lib.hasPrefix s.data.toList t.data.toList = b) (w : World) :
    Calls Try.prog 34 #[.string s, .string t] w fun e w' => e = .returned (.bool b) ∧ w = w' := h ▸ pre_any s t w

set_option maxHeartbeats 1000000 in
theorem mark_any (s : ByteArray) (w : World) :
    Calls Try.prog 30 #[.string s] w fun e w' => e = .returned (.int .i64 (markN s.data.toList)) ∧ Below w.heap.size w w' := by
  cases h1 : Lib.hasPrefix s.data.toList [239, 187, 191] <;> cases h2 : Lib.hasPrefix s.data.toList [254, 255] <;> cases h3 : Lib.hasPrefix s.data.toList [255, 254]
  all_goals
    have H1 := Lib.hid h1
    have H2 := Lib.hid h2
    have H3 := Lib.hid h3
    clear h1 h2 h3
    go_enter Try.func30, Try.ntmps30
    go_wp2
    refine wp_loop_rounds 4 ?_
    repeat any_goals (rw [rounds_succ]; go_wp2_with (first
      | (go_at_call 34; (with_reducible refine (pre_is s ⟨#[239, 187, 191]⟩ _ H1.out _).mono ?_); rintro e w' ⟨rfl, rfl⟩)
      | (go_at_call 34; (with_reducible refine (pre_is s ⟨#[254, 255]⟩ _ H2.out _).mono ?_); rintro e w' ⟨rfl, rfl⟩)
      | (go_at_call 34; (with_reducible refine (pre_is s ⟨#[255, 254]⟩ _ H3.out _).mono ?_); rintro e w' ⟨rfl, rfl⟩)))
    go_ret
    exact ⟨ret_int (by simp [markN, H1.out, H2.out, H3.out]), (Below.refl _ _).alloc (Nat.le_refl _) _⟩
end Go.Proofs.Ytkkfbpbgidanoaa
