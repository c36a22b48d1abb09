/-
  Layer 17 (webm): that the program and the reference read one number out of any bytes. No condition but that a text is no longer than a text can be.
-/
import Derived.Test.YtinigkmjegpddaaNumber
namespace Go.Proofs.Ytinigkmjegpddaa
open Go.RowKit
set_option linter.unusedVariables false

theorem empty_iff (s : ByteArray) (h : 0 < s.size) : s.toList.isEmpty = false := by
  rw [Lib.toList_data]
  cases h' : s.data.toList
  · rw [Lib.size_eq, h'] at h
    simp at h
  · rfl
theorem empty_nil (s : ByteArray) (h : s.size = 0) : s = ⟨#[]⟩ := by
  apply ext_data
  rw [Lib.size_eq] at h
  exact List.eq_nil_of_length_eq_zero h

theorem number_none (s : ByteArray) (h : s.size = 0) (w : World) : Calls Try.prog 7 #[.string s] w fun e w' => e = .returned (.tuple #[.int .u64 0, .int .i64 0, .bool false]) ∧ w = w' := by
  obtain rfl := empty_nil s h
  go_enter Try.func7, Try.ntmps7
  go_wp2
  go_ret3
  exact ⟨rfl, rfl⟩

theorem number_nought (s : ByteArray) (hs : s.size ≤ maxLen) (h0 : 0 < s.size) (hz : ((s[0].toNat : Int) == 0) = true) (w : World) :
    Calls Try.prog 7 #[.string s] w fun e w' => e = .returned (.tuple #[.int .u64 0, .int .i64 0, .bool false]) ∧ w = w' := by
  unfold maxLen at hs
  have hne' := empty_iff s h0
  go_enter Try.func7, Try.ntmps7
  go_wp2
  go_ret3
  exact ⟨rfl, rfl⟩

theorem number_short (s : ByteArray) (k : Nat) (hs : s.size ≤ maxLen) (h0 : 0 < s.size) (hz : ((s[0].toNat : Int) == 0) = false) (hw : widthN s[0].toNat = k) (hk : s.size < k) (w : World) :
    Calls Try.prog 7 #[.string s] w fun e w' => e = .returned (.tuple #[.int .u64 0, .int .i64 0, .bool false]) ∧ w = w' := by
  unfold maxLen at hs
  have hne' := empty_iff s h0
  have HW := Lib.hid (fun w => hw ▸ width_any s[0].toNat (UInt8.toNat_lt _) w)
  clear hw
  go_enter Try.func7, Try.ntmps7
  go_wp2_with (go_at_call 19; (with_reducible refine (HW.out _).mono ?_); rintro e w1 ⟨rfl, rfl⟩)
  go_ret3
  exact ⟨rfl, rfl⟩

theorem refNumber_none (s : ByteArray) (h : s.size = 0) (w : World) : Calls Try.prog 8 #[.string s] w fun e w' => e = .returned (.tuple #[.int .u64 0, .int .i64 0]) ∧ w = w' := by
  obtain rfl := empty_nil s h
  go_enter Try.func8, Try.ntmps8
  go_wp2
  go_ret2
  exact ⟨rfl, rfl⟩

theorem refNumber_nought (s : ByteArray) (hs : s.size ≤ maxLen) (h0 : 0 < s.size) (hz : ((s[0].toNat : Int) == 0) = true) (w : World) :
    Calls Try.prog 8 #[.string s] w fun e w' => e = .returned (.tuple #[.int .u64 0, .int .i64 0]) ∧ w = w' := by
  unfold maxLen at hs
  have hne : ((s.size : Int) == 0) = false := by
    have : ¬ (s.size : Int) = 0 := by omega
    simpa using this
  go_enter Try.func8, Try.ntmps8
  go_wp2
  go_ret2
  exact ⟨rfl, rfl⟩

theorem refNumber_short (s : ByteArray) (k : Nat) (hs : s.size ≤ maxLen) (h0 : 0 < s.size) (hz : ((s[0].toNat : Int) == 0) = false) (hw : widthN s[0].toNat = k) (hk : s.size < k) (w : World) :
    Calls Try.prog 8 #[.string s] w fun e w' => e = .returned (.tuple #[.int .u64 0, .int .i64 0]) ∧ w = w' := by
  unfold maxLen at hs
  have hne : ((s.size : Int) == 0) = false := by
    have : ¬ (s.size : Int) = 0 := by omega
    simpa using this
  have HW := Lib.hid (fun w => hw ▸ refWidth_any s[0].toNat (UInt8.toNat_lt _) w)
  clear hw
  go_enter Try.func8, Try.ntmps8
  go_wp2_with (go_at_call 10; (with_reducible refine (HW.out _).mono ?_); rintro e w1 ⟨rfl, rfl⟩)
  go_ret2
  exact ⟨rfl, rfl⟩

theorem refNumber_loop (s : ByteArray) (k : Nat) (hs : s.size ≤ maxLen) (h0 : 0 < s.size) (hz : ((s[0].toNat : Int) == 0) = false) (hw : widthN s[0].toNat = k) (hk1 : 1 ≤ k) (hk8 : k ≤ 8) (hks : k ≤ s.size)
    (htop : 2 ^ (7 * k) ≤ beN (s.data.toList.take k) ∧ beN (s.data.toList.take k) < 2 * 2 ^ (7 * k)) (w : World) :
    Calls Try.prog 8 #[.string s] w fun e w' => e = .returned (.tuple #[.int .u64 ((beN (s.data.toList.take k) - 2 ^ (7 * k) : Nat) : Int), .int .i64 k]) ∧ w = w' := by
  unfold maxLen at hs
  have HT := Lib.hid htop
  clear htop
  have hne : ((s.size : Int) == 0) = false := by
    have : ¬ (s.size : Int) = 0 := by omega
    simpa using this
  have HW := Lib.hid (fun w => hw ▸ refWidth_any s[0].toNat (UInt8.toNat_lt _) w)
  have HP := Lib.hid (fun w => power_any (7 * k) (by omega) w)
  clear hw
  go_enter Try.func8, Try.ntmps8
  go_wp2_with (go_at_call 10; (with_reducible refine (HW.out _).mono ?_); rintro e w1 ⟨rfl, rfl⟩)
  go_loop [5, 6] (fun n i => ∃ j : Nat, j ≤ k ∧ i = .int .i64 j ∧ n = .int .u64 ((beN (s.data.toList.take j) : Nat) : Int)) (fun _ i => k - (intOf i).toNat)
  case atStart => exact ⟨0, Nat.zero_le _, rfl, rfl⟩
  case round =>
    obtain ⟨j, hj, rfl, rfl⟩ := hrel
    have hb := beN_lt (s.data.toList.take j)
    rw [List.length_take, Nat.min_eq_left (by rw [← Lib.size_eq]; omega)] at hb
    obtain ⟨m, hm⟩ : ∃ m, beN (s.data.toList.take j) = m := ⟨_, rfl⟩
    have HM := Lib.hid hm
    rw [hm] at hb ⊢
    clear hm
    by_cases hlt : j < k
    · have hb56 : m < 2 ^ 56 := Nat.lt_of_lt_of_le hb (Nat.pow_le_pow_right (by omega : 256 > 0) (by omega : j ≤ 7))
      have HB := Lib.hid hb
      clear hb
      have hjs : j < s.size := by omega
      have hby := s[j].toNat_lt
      go_wp2
      go_round
      case rel =>
        refine ⟨j + 1, by omega, by go_num, ?_⟩
        rw [take_snoc s j hjs, beN_snoc, HM.out]
        go_num
      case measure => simp [intOf]; omega
    · obtain rfl : j = k := by omega
      have hp : 2 ^ (7 * j) ≤ 2 ^ 56 := Nat.pow_le_pow_right (by omega) (by omega)
      have ht := HT.out
      rw [HM.out] at ht
      obtain ⟨p, hpp⟩ : ∃ p, 2 ^ (7 * j) = p := ⟨_, rfl⟩
      have HPP := Lib.hid hpp
      have HP' := Lib.hid (hpp ▸ HP.out)
      rw [hpp] at hp ht
      obtain ⟨ht1, ht2⟩ := ht
      have hb' : m < 2 ^ 64 := by omega
      clear hpp hb
      go_wp2_with (go_at_call 20; (refine (HP'.out _).mono ?_); rintro e w1 ⟨rfl, rfl⟩)
      go_ret2
      refine ⟨?_, rfl⟩
      rw [HM.out, HPP.out]
      show Ending.returned (.tuple #[.int .u64 ((m : Int) - p), .int .i64 j]) = _
      have e : (m : Int) - p = ((m - p : Nat) : Int) := by omega
      rw [e]

/-- Both read just that. -/
theorem numbers_both (s : ByteArray) (hs : s.size ≤ maxLen) :
    (∀ w, Calls Try.prog 7 #[.string s] w fun e w' => e = .returned (.tuple #[.int .u64 (numV s.data.toList), .int .i64 (numK s.data.toList), .bool (numOk s.data.toList)]) ∧ w = w') ∧
    (∀ w, Calls Try.prog 8 #[.string s] w fun e w' => e = .returned (.tuple #[.int .u64 (numV s.data.toList), .int .i64 (numK s.data.toList)]) ∧ w = w') := by
  have hsz := Lib.size_eq s
  have no : numOk s.data.toList = false → ((numV s.data.toList : Int) = 0 ∧ (numK s.data.toList : Int) = 0) := fun h => by simp [numV, numK, h]
  by_cases h0 : s.size = 0
  · have hn : numOk s.data.toList = false := by
      rw [← Bool.not_eq_true]
      simp only [numOk, Bool.and_eq_true, decide_eq_true_eq]
      omega
    rw [(no hn).1, (no hn).2, hn]
    exact ⟨number_none s h0, refNumber_none s h0⟩
  have h0' : 0 < s.size := by omega
  have b0 := byteN_at s 0 h0'
  cases hz : ((s[0].toNat : Int) == 0)
  · have hz' : s[0].toNat ≠ 0 := by
      intro h
      rw [h] at hz
      simp at hz
    by_cases hk : widthN s[0].toNat ≤ s.size
    · have hy : numOk s.data.toList = true := by
        simp only [numOk, b0, Bool.and_eq_true, decide_eq_true_eq, Bool.not_eq_true', beq_eq_false_iff_ne]
        exact ⟨⟨by omega, hz'⟩, by omega⟩
      have ht := beN_take_top s.data.toList hy
      rw [b0] at ht
      have hb := widthN_bounds s[0].toNat
      have e1 : numV s.data.toList = beN (s.data.toList.take (widthN s[0].toNat)) - 2 ^ (7 * widthN s[0].toNat) := by simp [numV, hy, b0]
      have e2 : numK s.data.toList = widthN s[0].toNat := by simp [numK, hy, b0]
      rw [e1, e2, hy]
      exact ⟨number_loop s _ hs h0' hz rfl hb.1 hb.2 hk ht, refNumber_loop s _ hs h0' hz rfl hb.1 hb.2 hk ht⟩
    · have hn : numOk s.data.toList = false := by
        rw [← Bool.not_eq_true]
        simp only [numOk, b0, Bool.and_eq_true, decide_eq_true_eq]
        omega
      rw [(no hn).1, (no hn).2, hn]
      exact ⟨number_short s _ hs h0' hz rfl (by omega), refNumber_short s _ hs h0' hz rfl (by omega)⟩
  · have hn : numOk s.data.toList = false := by
      have h : s[0].toNat = 0 := by
        have := eq_of_beq hz
        omega
      simp [numOk, b0, h]
    rw [(no hn).1, (no hn).2, hn]
    exact ⟨number_nought s hs h0' hz, refNumber_nought s hs h0' hz⟩

theorem numOk_K (l : List UInt8) : decide ((0 : Int) < (numK l : Int)) = numOk l := by
  cases h : numOk l
  · simp [numK, h]
  · have := widthN_bounds (byteN l 0)
    simp [numK, h]
    omega
end Go.Proofs.Ytinigkmjegpddaa
