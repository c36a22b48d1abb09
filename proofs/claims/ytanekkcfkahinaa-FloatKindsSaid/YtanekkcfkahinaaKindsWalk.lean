/-
  Layer 08 (float): signs; the law on what any number is, walked. No condition but that a word has 64 bits.
-/
import Derived.Test.YtanekkcfkahinaaKinds
namespace Go.Proofs.Ytanekkcfkahinaa
open Go.RowKit
set_option linter.unusedVariables false

theorem pSign_any (b : Nat) (hb : b < W64) (w : World) : Calls Try.prog 27 #[.float .f64 b] w fun e w' => e = .returned (.int .i64 (signI b)) ∧ w = w' := by
  have H1 := Lib.hid (psign_any b hb w)
  clear hb
  go_enter Try.func27, Try.ntmps27
  go_wp2_with (go_at_call 39; (refine H1.out.mono ?_); rintro e w1 ⟨rfl, rfl⟩)
  go_ret
  exact ⟨rfl, rfl⟩
theorem rSign_any (b : Nat) (w : World) : Calls Try.prog 28 #[.float .f64 b] w fun e w' => e = .returned (.int .i64 (signI b)) ∧ w = w' := by
  have H26 := Lib.hid (rKind_any b w)
  have h28 := bits_run b
  have hk := kind_nan b
  obtain ⟨k, hk'⟩ : ∃ k, kindI b = k := ⟨_, rfl⟩
  rw [hk'] at H26 hk
  have hs1 : SG = 9223372036854775808 := rfl
  obtain ⟨x, hx⟩ : ∃ x : Int, (b : Int) = x := ⟨_, rfl⟩
  rw [hx] at h28
  cases hn : nanB b
  · rw [hn] at hk
    by_cases hs : SG ≤ b
    · have HE : Hid (signI b = -1) := by unfold Hid signI; rw [hn, if_pos hs]; rfl
      have c1 : (9223372036854775808 : Int) ≤ x := by omega
      clear hn hs hx hk' hs1
      go_enter Try.func28, Try.ntmps28
      go_wp2_with (go_at_call 26; (refine H26.out.mono ?_); rintro e w1 ⟨rfl, rfl⟩)
      go_ret
      exact ⟨ret_int HE.out.symm, rfl⟩
    · have HE : Hid (signI b = 1) := by unfold Hid signI; rw [hn, if_neg hs]; rfl
      have c1 : ¬ (9223372036854775808 : Int) ≤ x := by omega
      clear hn hs hx hk' hs1
      go_enter Try.func28, Try.ntmps28
      go_wp2_with (go_at_call 26; (refine H26.out.mono ?_); rintro e w1 ⟨rfl, rfl⟩)
      go_ret
      exact ⟨ret_int HE.out.symm, rfl⟩
  · rw [hn] at hk
    have HE : Hid (signI b = 0) := by unfold Hid signI; rw [hn]; rfl
    clear hn hx hk' hs1 h28
    go_enter Try.func28, Try.ntmps28
    go_wp2_with (go_at_call 26; (refine H26.out.mono ?_); rintro e w1 ⟨rfl, rfl⟩)
    go_ret
    exact ⟨ret_int HE.out.symm, rfl⟩

set_option maxRecDepth 100000 in
theorem kinds_core (b : Nat) (hb : b < W64) (w : World) :
    Calls Try.prog 6 #[.int .u64 b] w fun e w' => e = .returned (.bool true) ∧ w = w' := by
  have H7 := Lib.hid (Of_any b w)
  have H23 := Lib.hid (pWhole_any b hb w)
  have H24 := Lib.hid (rWhole_any b hb w)
  have H25 := Lib.hid (pKind_any b hb w)
  have H26 := Lib.hid (rKind_any b w)
  have H27 := Lib.hid (pSign_any b hb w)
  have H28 := Lib.hid (rSign_any b w)
  have H8 := Lib.hid (pBits_any b hb w)
  have H10 := Lib.hid (rBits_any b w)
  have H14 := Lib.hid (lives_any w)
  obtain ⟨n, hn⟩ : ∃ n, wholeI b = n := ⟨_, rfl⟩
  obtain ⟨ok, hok⟩ : ∃ ok, wholeB b = ok := ⟨_, rfl⟩
  obtain ⟨k, hk⟩ : ∃ k, kindI b = k := ⟨_, rfl⟩
  obtain ⟨s, hs⟩ : ∃ s, signI b = s := ⟨_, rfl⟩
  obtain ⟨x, hx⟩ : ∃ x, bitsN b = x := ⟨_, rfl⟩
  rw [hn, hok] at H23 H24
  rw [hk] at H25 H26
  rw [hs] at H27 H28
  rw [hx] at H8 H10
  clear hb hn hok hk hs hx
  go_enter Try.func6, Try.ntmps6
  go_wp2_with (first
    | (go_at_call 7; (with_reducible refine H7.out.mono ?_); rintro e w1 ⟨rfl, rfl⟩)
    | (go_at_call 23; (with_reducible refine H23.out.mono ?_); rintro e w1 ⟨rfl, rfl⟩)
    | (go_at_call 24; (with_reducible refine H24.out.mono ?_); rintro e w1 ⟨rfl, rfl⟩)
    | (go_at_call 25; (with_reducible refine H25.out.mono ?_); rintro e w1 ⟨rfl, rfl⟩)
    | (go_at_call 26; (with_reducible refine H26.out.mono ?_); rintro e w1 ⟨rfl, rfl⟩)
    | (go_at_call 27; (with_reducible refine H27.out.mono ?_); rintro e w1 ⟨rfl, rfl⟩)
    | (go_at_call 28; (with_reducible refine H28.out.mono ?_); rintro e w1 ⟨rfl, rfl⟩)
    | (go_at_call 8; (with_reducible refine H8.out.mono ?_); rintro e w1 ⟨rfl, rfl⟩)
    | (go_at_call 10; (with_reducible refine H10.out.mono ?_); rintro e w1 ⟨rfl, rfl⟩)
    | (go_at_call 14; (with_reducible refine H14.out.mono ?_); rintro e w1 ⟨rfl, rfl⟩))
  go_ret
  exact ⟨rfl, rfl⟩
theorem kinds_walk (a : Int) (w : World) (wa : (Lit.int .u64 a).wf = true) :
    Calls Try.prog 6 #[.int .u64 a] w fun e w' => e = .returned (.bool true) ∧ Below w.heap.size w w' := by
  obtain ⟨m, rfl, hm⟩ := u64_of a wa
  exact (kinds_core m hm w).mono fun e w' hw => by
    obtain ⟨he, rfl⟩ := hw
    exact ⟨he, Below.refl _ _⟩
end Go.Proofs.Ytanekkcfkahinaa
