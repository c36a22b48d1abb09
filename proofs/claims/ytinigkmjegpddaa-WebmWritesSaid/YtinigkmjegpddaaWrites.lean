/-
  Layer 17 (webm): the law on what is written: it is read as it was, whatever stands behind it.
-/
import Derived.Test.YtinigkmjegpddaaWrite
namespace Go.Proofs.Ytinigkmjegpddaa
open Go.RowKit
set_option linter.unusedVariables false

theorem first_byte (n k : Nat) (hk1 : 1 ≤ k) (hk8 : k ≤ 8) (hn : n < 2 ^ (7 * k)) (l : List UInt8) :
    byteN (bytesR k (2 ^ (7 * k) + n) ++ l) 0 = (2 ^ (7 * k) + n) / 256 ^ (k - 1) := by
  have hl : 0 < (bytesR k (2 ^ (7 * k) + n)).length := by rw [bytesR_length]; omega
  unfold byteN
  rw [List.getD_eq_getElem?_getD, List.getElem?_append_left hl, List.getElem?_eq_getElem hl, bytesR_get _ _ _ (by omega)]
  have hlt : (2 ^ (7 * k) + n) / 256 ^ (k - 1) < 256 := by
    rcases (by omega : k = 1 ∨ k = 2 ∨ k = 3 ∨ k = 4 ∨ k = 5 ∨ k = 6 ∨ k = 7 ∨ k = 8) with rfl | rfl | rfl | rfl | rfl | rfl | rfl | rfl
    all_goals
      simp at hn ⊢
      omega
  rw [Nat.sub_zero, Nat.mod_eq_of_lt hlt]
  simp
  omega
theorem first_width (n k : Nat) (hk1 : 1 ≤ k) (hk8 : k ≤ 8) (hn : n < 2 ^ (7 * k)) :
    widthN ((2 ^ (7 * k) + n) / 256 ^ (k - 1)) = k ∧ (2 ^ (7 * k) + n) / 256 ^ (k - 1) ≠ 0 := by
  rcases (by omega : k = 1 ∨ k = 2 ∨ k = 3 ∨ k = 4 ∨ k = 5 ∨ k = 6 ∨ k = 7 ∨ k = 8) with rfl | rfl | rfl | rfl | rfl | rfl | rfl | rfl
  all_goals
    refine ⟨?_, ?_⟩
    · simp at hn ⊢
      unfold widthN
      repeat' split
      all_goals omega
    · simp at hn
      simp only [Nat.reduceMul, Nat.reducePow, Nat.reduceSub]
      omega
theorem written (n k : Nat) (hk1 : 1 ≤ k) (hk8 : k ≤ 8) (hn : n < 2 ^ (7 * k)) (l : List UInt8) :
    numOk (bytesR k (2 ^ (7 * k) + n) ++ l) = true ∧ numK (bytesR k (2 ^ (7 * k) + n) ++ l) = k ∧ numV (bytesR k (2 ^ (7 * k) + n) ++ l) = n := by
  obtain ⟨h1, h2⟩ := first_width n k hk1 hk8 hn
  have hf := first_byte n k hk1 hk8 hn l
  rw [← hf] at h1 h2
  have hok : numOk (bytesR k (2 ^ (7 * k) + n) ++ l) = true := by
    simp only [numOk, h1, Bool.and_eq_true, decide_eq_true_eq, Bool.not_eq_true', beq_eq_false_iff_ne]
    rw [List.length_append, bytesR_length]
    exact ⟨⟨by omega, h2⟩, by omega⟩
  refine ⟨hok, by rw [numK, if_pos hok, h1], ?_⟩
  rw [numV, if_pos hok, h1, List.take_append_of_le_length (by rw [bytesR_length]; omega), List.take_of_length_le (by rw [bytesR_length]; omega), beN_bytesR]
  have : 2 ^ (7 * k) + n < 256 ^ k := by
    rcases (by omega : k = 1 ∨ k = 2 ∨ k = 3 ∨ k = 4 ∨ k = 5 ∨ k = 6 ∨ k = 7 ∨ k = 8) with rfl | rfl | rfl | rfl | rfl | rfl | rfl | rfl
    all_goals
      simp at hn ⊢
      omega
  rw [Nat.mod_eq_of_lt this]
  omega

theorem writes_walk (a b : Int) (s : ByteArray) (w : World) (wa : (Lit.int .u64 a).wf = true) (wb : (Lit.int .i64 b).wf = true) (hs : s.size ≤ maxLen) :
    Calls Try.prog 5 #[.int .u64 a, .int .i64 b, .string s] w fun e w' => e = .returned (.bool true) ∧ Below w.heap.size w w' := by
  obtain ⟨n, rfl, hn⟩ := u64_of a wa
  have H11 := Lib.hid lives_any
  have H18 := fun w => fits_any n b w
  by_cases hr : (decide (0 < b) && decide (b < 9) && decide (n < 2 ^ (7 * b.toNat))) = true
  · rw [hr] at H18
    have H18 := Lib.hid H18
    simp only [Bool.and_eq_true, decide_eq_true_eq] at hr
    obtain ⟨⟨h0, h9⟩, hlt⟩ := hr
    obtain ⟨k, rfl⟩ : ∃ k : Nat, b = k := ⟨b.toNat, by omega⟩
    rw [Int.toNat_natCast] at hlt
    have hw := fun w => write_yes n k (by omega) (by omega) hlt w
    obtain ⟨t, ht⟩ : ∃ t : ByteArray, ⟨(bytesR k (2 ^ (7 * k) + n)).toArray⟩ = t := ⟨_, rfl⟩
    have hts : t.size = k := by rw [← ht]; exact (by simp [ByteArray.size, bytesR_length])
    rw [ht] at hw
    have H17 := Lib.hid hw
    have hcs : (s.extract 0 10).size ≤ 10 := (extract_cut_le s 10).1
    have H6 := fun w => cut_any s 10 hs w
    obtain ⟨c, hc⟩ : ∃ c, s.extract 0 10 = c := ⟨_, rfl⟩
    rw [hc] at hcs H6
    have H6 := Lib.hid H6
    have hd : (t ++ c).data.toList = bytesR k (2 ^ (7 * k) + n) ++ c.data.toList := by rw [← ht]; simp
    have hsz : (t ++ c).size ≤ maxLen := by
      rw [ByteArray.size_append]
      unfold maxLen
      omega
    obtain ⟨e1, e2, e3⟩ := written n k (by omega) (by omega) hlt c.data.toList
    have h7 := (numbers_both (t ++ c) hsz).1
    rw [hd, e1, e2, e3] at h7
    have H7 := Lib.hid h7
    have hk9 : k < 9 := by omega
    clear ht hw hc hd e1 e2 e3 h7 hlt h0 h9 wa wb
    go_enter Try.func5, Try.ntmps5
    go_wp2_with (first
      | (go_at_call 17; (with_reducible refine (H17.out _).mono ?_); rintro e w1 ⟨rfl, hb1⟩; have HB1 := Lib.hid hb1; clear hb1)
      | (go_at_call 18; (with_reducible refine (H18.out _).mono ?_); rintro e w1 ⟨rfl, rfl⟩)
      | (go_at_call 6; (refine (H6.out _).mono ?_); rintro e w1 ⟨rfl, rfl⟩)
      | (go_at_call 7; (with_reducible refine (H7.out _).mono ?_); rintro e w1 ⟨rfl, rfl⟩)
      | (go_at_call 11; (with_reducible refine (H11.out _).mono ?_); rintro e w1 ⟨rfl, rfl⟩))
    go_ret
    exact ⟨rfl, HB1.out⟩
  · rw [Bool.not_eq_true] at hr
    have hw := write_no n b hr
    rw [hr] at H18
    have H18 := Lib.hid H18
    have H17 := Lib.hid hw
    clear hr hw wa wb
    go_enter Try.func5, Try.ntmps5
    go_wp2_with (first
      | (go_at_call 17; (with_reducible refine (H17.out _).mono ?_); rintro e w1 ⟨rfl, rfl⟩)
      | (go_at_call 18; (with_reducible refine (H18.out _).mono ?_); rintro e w1 ⟨rfl, rfl⟩)
      | (go_at_call 11; (with_reducible refine (H11.out _).mono ?_); rintro e w1 ⟨rfl, rfl⟩))
    go_ret
    exact ⟨rfl, Below.refl _ _⟩
end Go.Proofs.Ytinigkmjegpddaa
