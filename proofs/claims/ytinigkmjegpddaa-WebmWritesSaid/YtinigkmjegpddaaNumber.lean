/-
  Layer 17 (webm): which number any bytes begin with, by the program and by the reference. No condition but that a text is no longer than a text can be.
-/
import Derived.Test.YtinigkmjegpddaaWidth
namespace Go.Proofs.Ytinigkmjegpddaa
open Go.RowKit
set_option linter.unusedVariables false

theorem power_any (n : Nat) (hn : n ≤ 56) (w : World) : Calls Try.prog 20 #[.int .i64 n] w fun e w' => e = .returned (.int .u64 ((2 ^ n : Nat) : Int)) ∧ w = w' := by
  go_enter Try.func20, Try.ntmps20
  go_wp2
  go_loop [3, 4] (fun p i => ∃ k : Nat, k ≤ n ∧ i = .int .i64 k ∧ p = .int .u64 ((2 ^ k : Nat) : Int)) (fun _ i => n - (intOf i).toNat)
  case atStart => exact ⟨0, Nat.zero_le _, rfl, rfl⟩
  case round =>
    obtain ⟨k, hk, rfl, rfl⟩ := hrel
    have hb : 2 ^ k ≤ 2 ^ 56 := Nat.pow_le_pow_right (by omega) (by omega)
    obtain ⟨p, hp⟩ : ∃ p : Nat, 2 ^ k = p := ⟨_, rfl⟩
    have HP := Lib.hid hp
    rw [hp] at hb ⊢
    clear hp
    by_cases hlt : k < n
    · go_wp2
      go_round
      case rel => exact ⟨k + 1, by omega, by go_num, by rw [Nat.pow_succ, HP.out]; go_num⟩
      case measure => simp [intOf]; omega
    · obtain rfl : k = n := by omega
      go_wp2
      go_ret
      exact ⟨ret_int (by rw [← HP.out]; simp), rfl⟩

/-- The number that bytes are, the first one the greatest. -/
def beN (l : List UInt8) : Nat := l.foldl (fun a b => 256 * a + b.toNat) 0
theorem beN_snoc (l : List UInt8) (b : UInt8) : beN (l ++ [b]) = 256 * beN l + b.toNat := by simp [beN, List.foldl_append]
theorem beN_lt' : ∀ (n : Nat) (l : List UInt8), l.length = n → beN l < 256 ^ n
  | 0, l, h => by
    have : l = [] := List.eq_nil_of_length_eq_zero h
    subst this
    simp [beN]
  | n + 1, l, h => by
    have hne : l ≠ [] := by intro e; subst e; simp at h
    have ih := beN_lt' n l.dropLast (by simp [h])
    have e := beN_snoc l.dropLast (l.getLast hne)
    rw [List.dropLast_concat_getLast hne] at e
    rw [e, Nat.pow_succ]
    have := (l.getLast hne).toNat_lt
    omega
theorem beN_lt (l : List UInt8) : beN l < 256 ^ l.length := beN_lt' _ l rfl

theorem or_byte (m b : Nat) (hm : m < 2 ^ 56) (hb : b < 256) : bits BinOp.or IntKind.u64 ((m : Int) * 256) (IntKind.u64.wrap (b : Int)) = ((256 * m + b : Nat) : Int) := by
  rw [IntWalk.u64_in _ (by omega)]
  have e : (m : Int) * 256 = ((2 ^ 8 * m : Nat) : Int) := by omega
  rw [e, u64_or_nat _ _ (by omega) (by omega), ← Nat.two_pow_add_eq_or_of_lt (by omega : b < 2 ^ 8)]

theorem clear_top (m r : Nat) (hm : m ≤ 56) (hr : r < 2 ^ m) : bits BinOp.andNot IntKind.u64 ((2 ^ m + r : Nat) : Int) ((2 ^ m : Nat) : Int) = (r : Int) := by
  have h56 : 2 ^ m ≤ 2 ^ 56 := Nat.pow_le_pow_right (by omega) hm
  rw [u64_andNot_nat _ _ (by omega) (by omega)]
  congr 1
  have e : 18446744073709551615 - 2 ^ m = 2 ^ 64 - (2 ^ m + 1) := by omega
  rw [e]
  apply Nat.eq_of_testBit_eq
  intro i
  rw [Nat.testBit_and, Nat.testBit_two_pow_sub_succ (by omega), Nat.testBit_two_pow]
  by_cases h1 : i = m
  · subst h1
    have : r.testBit i = false := Nat.testBit_lt_two_pow hr
    simp [this]
  · have hne : ¬ m = i := fun h => h1 h.symm
    by_cases h2 : i < m
    · rw [Nat.testBit_two_pow_add_gt h2]
      have : i < 64 := by omega
      simp [this, hne]
    · have h3 : 2 ^ m + r < 2 ^ i := by
        have : 2 ^ (m + 1) ≤ 2 ^ i := Nat.pow_le_pow_right (by omega) (by omega)
        rw [Nat.pow_succ] at this
        omega
      rw [Nat.testBit_lt_two_pow h3, Nat.testBit_lt_two_pow (by omega : r < 2 ^ i)]
      simp

theorem foldl_be : ∀ (l : List UInt8) (a : Nat), l.foldl (fun a b => 256 * a + b.toNat) a = a * 256 ^ l.length + beN l
  | [], a => by simp [beN]
  | b :: l, a => by
    rw [List.foldl_cons, foldl_be l]
    have e : beN (b :: l) = b.toNat * 256 ^ l.length + beN l := by
      show (b :: l).foldl (fun a b => 256 * a + b.toNat) 0 = _
      rw [List.foldl_cons, foldl_be l]
      simp
    rw [e, List.length_cons, Nat.pow_succ, Nat.add_mul, Nat.mul_comm (256 ^ l.length) 256, ← Nat.mul_assoc, Nat.mul_comm a 256]
    omega
theorem beN_cons (b : UInt8) (l : List UInt8) : beN (b :: l) = b.toNat * 256 ^ l.length + beN l := by
  show (b :: l).foldl (fun a b => 256 * a + b.toNat) 0 = _
  rw [List.foldl_cons, foldl_be l]
  simp

/-- The mark of a number stands above all its other bits. -/
theorem beN_top (b : UInt8) (l : List UInt8) (k : Nat) (hb : b.toNat ≠ 0) (hw : widthN b.toNat = k) (hl : l.length + 1 = k) : 2 ^ (7 * k) ≤ beN (b :: l) ∧ beN (b :: l) < 2 * 2 ^ (7 * k) := by
  rw [beN_cons]
  have h1 := beN_lt l
  have h2 := widthN_bounds b.toNat
  rw [hw] at h2
  have hlt := b.toNat_lt
  have hl' : l.length = k - 1 := by omega
  rw [hl'] at h1 ⊢
  obtain ⟨x, hx⟩ : ∃ x, beN l = x := ⟨_, rfl⟩
  obtain ⟨y, hy⟩ : ∃ y, b.toNat = y := ⟨_, rfl⟩
  rw [hx] at h1 ⊢
  rw [hy] at hb hw hlt ⊢
  clear hx hy hl hl'
  unfold widthN at hw
  rcases (by omega : k = 1 ∨ k = 2 ∨ k = 3 ∨ k = 4 ∨ k = 5 ∨ k = 6 ∨ k = 7 ∨ k = 8) with rfl | rfl | rfl | rfl | rfl | rfl | rfl | rfl
  all_goals
    simp at h1 ⊢
    repeat' split at hw
    all_goals omega

def byteN (l : List UInt8) (i : Nat) : Nat := (l.getD i 0).toNat
theorem byteN_at (s : ByteArray) (i : Nat) (h : i < s.size) : byteN s.data.toList i = s[i].toNat := by
  unfold byteN
  rw [List.getD_eq_getElem?_getD, List.getElem?_eq_getElem (by rw [← Lib.size_eq]; exact h), byte_at s i h]
  rfl
/-- Whether a text begins with a number; how many bytes it has; which one it is. -/
def numOk (l : List UInt8) : Bool := decide (0 < l.length) && !(byteN l 0 == 0) && decide (widthN (byteN l 0) ≤ l.length)
def numK (l : List UInt8) : Nat := if numOk l = true then widthN (byteN l 0) else 0
def numV (l : List UInt8) : Nat := if numOk l = true then beN (l.take (widthN (byteN l 0))) - 2 ^ (7 * widthN (byteN l 0)) else 0

theorem beN_take_top (l : List UInt8) (h : numOk l = true) : 2 ^ (7 * widthN (byteN l 0)) ≤ beN (l.take (widthN (byteN l 0))) ∧ beN (l.take (widthN (byteN l 0))) < 2 * 2 ^ (7 * widthN (byteN l 0)) := by
  simp only [numOk, Bool.and_eq_true, decide_eq_true_eq, Bool.not_eq_true', beq_eq_false_iff_ne] at h
  obtain ⟨⟨h0, hz⟩, hw⟩ := h
  cases l with
  | nil => simp at h0
  | cons b t =>
    have e : byteN (b :: t) 0 = b.toNat := rfl
    rw [e] at hz hw ⊢
    have hb := widthN_bounds b.toNat
    obtain ⟨k, hk⟩ : ∃ k, widthN b.toNat = k + 1 := ⟨widthN b.toNat - 1, by omega⟩
    rw [hk] at hw ⊢
    rw [List.take_succ_cons]
    exact beN_top b (t.take k) (k + 1) hz hk (by rw [List.length_take]; simp at hw; omega)

theorem number_loop (s : ByteArray) (k : Nat) (hs : s.size ≤ maxLen) (h0 : 0 < s.size) (hz : ((s[0].toNat : Int) == 0) = false) (hw : widthN s[0].toNat = k) (hk1 : 1 ≤ k) (hk8 : k ≤ 8) (hks : k ≤ s.size)
    (htop : 2 ^ (7 * k) ≤ beN (s.data.toList.take k) ∧ beN (s.data.toList.take k) < 2 * 2 ^ (7 * k)) (w : World) :
    Calls Try.prog 7 #[.string s] w fun e w' => e = .returned (.tuple #[.int .u64 ((beN (s.data.toList.take k) - 2 ^ (7 * k) : Nat) : Int), .int .i64 k, .bool true]) ∧ w = w' := by
  unfold maxLen at hs
  have HT := Lib.hid htop
  clear htop
  have hne : (s.toList == []) = false := by
    rw [Lib.toList_data, beq_eq_false_iff_ne]
    intro h
    rw [Lib.size_eq, h] at h0
    simp at h0
  have hne' : s.toList.isEmpty = false := by
    rw [Lib.toList_data]
    cases h : s.data.toList
    · rw [Lib.size_eq, h] at h0
      simp at h0
    · rfl
  have HW := Lib.hid (fun w => hw ▸ width_any s[0].toNat (UInt8.toNat_lt _) w)
  clear hw
  go_enter Try.func7, Try.ntmps7
  go_wp2_with (go_at_call 19; (with_reducible refine (HW.out _).mono ?_); rintro e w1 ⟨rfl, rfl⟩)
  go_loop [2, 22] (fun n i => ∃ j : Nat, j ≤ k ∧ i = .int .i64 j ∧ n = .int .u64 ((beN (s.data.toList.take j) : Nat) : Int)) (fun _ i => k - (intOf i).toNat)
  case atStart => exact ⟨0, Nat.zero_le _, rfl, rfl⟩
  case round =>
    obtain ⟨j, hj, rfl, rfl⟩ := hrel
    have hb := beN_lt (s.data.toList.take j)
    rw [List.length_take, Nat.min_eq_left (by rw [← Lib.size_eq]; omega)] at hb
    obtain ⟨m, hm⟩ : ∃ m, beN (s.data.toList.take j) = m := ⟨_, rfl⟩
    have HM := Lib.hid hm
    rw [hm] at hb ⊢
    clear hm
    by_cases hlt : j < k
    · have hb56 : m < 2 ^ 56 := Nat.lt_of_lt_of_le hb (Nat.pow_le_pow_right (by omega : 256 > 0) (by omega : j ≤ 7))
      have HB := Lib.hid hb
      clear hb
      have hjs : j < s.size := by omega
      go_wp2
      go_round
      case rel =>
        refine ⟨j + 1, by omega, by go_num, ?_⟩
        rw [or_byte m _ hb56 (UInt8.toNat_lt _), take_snoc s j hjs, beN_snoc, HM.out]
      case measure => simp [intOf]; omega
    · obtain rfl : j = k := by omega
      go_wp2
      go_ret3
      refine ⟨?_, rfl⟩
      have ht := HT.out
      rw [HM.out] at ht
      have hp : 2 ^ (7 * j) ≤ 2 ^ 56 := Nat.pow_le_pow_right (by omega) (by omega)
      have e1 : IntKind.u64.wrap (2 ^ (7 * j)) = ((2 ^ (7 * j) : Nat) : Int) := by
        rw [IntWalk.u64_in _ (by
          have : ((2 ^ (7 * j) : Nat) : Int) = (2 : Int) ^ (7 * j) := by simp
          omega)]
        simp
      have e2 := clear_top (7 * j) (m - 2 ^ (7 * j)) (by omega) (by omega)
      rw [show 2 ^ (7 * j) + (m - 2 ^ (7 * j)) = m by omega] at e2
      rw [HM.out]
      show Ending.returned (.tuple #[.int .u64 (bits BinOp.andNot IntKind.u64 (m : Int) (IntKind.u64.wrap (2 ^ (7 * j)))), .int .i64 j, .bool true]) = _
      rw [e1, e2]
end Go.Proofs.Ytinigkmjegpddaa
