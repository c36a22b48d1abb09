/-
  Floats by their bits: the program's kinds, quotients, tens: the contracts. No condition but that a word has 64 bits.
-/
import Derived.Test.YtkihgbglodfkmaaFlCmp
namespace Go.Proofs.Ytkihgbglodfkmaa
open Go.RowKit
set_option linter.unusedVariables false

theorem andNot_mag (b : Nat) (hb : b < W64) : bits .andNot .u64 (b : Int) (9223372036854775808 : Int) = ((magN b : Nat) : Int) := by
  have h := u64_andNot_nat b 9223372036854775808 hb (by decide)
  have e : (18446744073709551615 - 9223372036854775808 : Nat) = 2 ^ 63 - 1 := by decide
  rw [e, Nat.and_two_pow_sub_one_eq_mod] at h
  exact h
theorem mag_w64 (b : Nat) : magN b < W64 := Nat.lt_trans (mag_lt b) (by decide +kernel)
theorem Abs_any (b : Nat) (hb : b < W64) (w : World) : Calls Try.prog 54 #[.float .f64 b] w fun e w' => e = .returned (.float .f64 (magN b)) ∧ w = w' := by
  have h28 := bits_run b
  have h29 := from_run (magN b)
  have han := andNot_mag b hb
  obtain ⟨x, hx⟩ : ∃ x : Int, (b : Int) = x := ⟨_, rfl⟩
  obtain ⟨m, hm⟩ : ∃ m : Nat, magN b = m := ⟨_, rfl⟩
  rw [hx] at h28 han
  rw [hm] at h29 han ⊢
  clear hb hx hm
  go_enter Try.func54, Try.ntmps54
  go_wp2
  go_ret
  exact ⟨rfl, rfl⟩

/-- Two numbers that are not below nought. -/
theorem order_pos {a b : Nat} (ha : a ≤ IN) (hb : b ≤ IN) : FloatKind.f64.format.order a b = some (compare (a : Int) (b : Int)) := by
  have g := sg_in
  have g2 := sg2
  rw [order_f64 a b (by omega) (by omega)]
  have n1 : nanB a = false := decide_eq_false (by rw [mag_lo (by omega : a < SG)]; omega)
  have n2 : nanB b = false := decide_eq_false (by rw [mag_lo (by omega : b < SG)]; omega)
  rw [if_neg (by simp [n1, n2])]
  unfold keyI
  rw [if_neg (by omega), if_neg (by omega), mag_lo (by omega : a < SG), mag_lo (by omega : b < SG)]
theorem cmp_isgt (a b : Int) : (some (compare a b) == some Ordering.gt) = decide (b < a) := by
  rcases Int.lt_trichotomy a b with h | h | h
  · rw [cmp_lt h, decide_eq_false (by omega)]; rfl
  · rw [h, cmp_eq, decide_eq_false (by omega)]; rfl
  · rw [cmp_gt h, decide_eq_true h]; rfl
theorem cmp_islt (a b : Int) : (some (compare a b) == some Ordering.lt) = decide (a < b) := by
  rcases Int.lt_trichotomy a b with h | h | h
  · rw [cmp_lt h, decide_eq_true h]; rfl
  · rw [h, cmp_eq, decide_eq_false (by omega)]; rfl
  · rw [cmp_gt h, decide_eq_false (by omega)]; rfl

theorem IsInf_any (b : Nat) (hb : b < W64) (hn : nanB b = false) (w : World) : Calls Try.prog 53 #[.float .f64 b, .int .i64 0] w fun e w' => e = .returned (.bool (decide (magN b = IN))) ∧ w = w' := by
  have H1 := Lib.hid (Abs_any b hb w)
  have hle := num_le hn
  have ho : (FloatKind.f64.format.order (magN b) 9218868437227405311 == some .gt) = decide (magN b = IN) := by
    rw [order_pos hle (by decide +kernel), cmp_isgt]
    have : IN = 9218868437227405312 := rfl
    rw [Bool.eq_iff_iff, decide_eq_true_eq, decide_eq_true_eq]
    omega
  obtain ⟨m, hm⟩ : ∃ m : Nat, magN b = m := ⟨_, rfl⟩
  obtain ⟨r, hr⟩ : ∃ r, decide (magN b = IN) = r := ⟨_, rfl⟩
  rw [hr] at ho ⊢
  rw [hm] at ho H1
  clear hm hr hle hb hn
  go_enter Try.func53, Try.ntmps53
  go_wp2_with (go_at_call 54; (refine H1.out.mono ?_); rintro e w1 ⟨rfl, rfl⟩)
  go_ret
  exact ⟨rfl, rfl⟩

theorem kind_any (b : Nat) (hb : b < W64) (w : World) : Calls Try.prog 48 #[.float .f64 b] w fun e w' => e = .returned (.int .i64 (kindI b)) ∧ w = w' := by
  have HE : Hid (kindI b = if nanB b = true then 0 else if magN b = IN then 1 else if magN b = 0 then 2 else if magN b < 4503599627370496 then 3 else 4) := rfl
  cases hn : nanB b
  · have e1 := self_num hb hn
    have H1 := Lib.hid (IsInf_any b hb hn w)
    have H2 := Lib.hid (Abs_any b hb w)
    have z1 := zero_ord b hb
    have hle := num_le hn
    have ho : (FloatKind.f64.format.order (magN b) 4503599627370496 == some .lt) = decide (magN b < 4503599627370496) := by
      rw [order_pos hle (by decide +kernel), cmp_islt]
      rw [Bool.eq_iff_iff, decide_eq_true_eq, decide_eq_true_eq]
      omega
    rw [hn] at HE
    obtain ⟨m, hm⟩ : ∃ m : Nat, magN b = m := ⟨_, rfl⟩
    rw [hm] at ho H1 H2 z1 HE
    clear hm hle hb hn
    by_cases c1 : m = IN
    · rw [if_neg (by simp), if_pos c1] at HE
      rw [decide_eq_true c1] at H1
      clear c1 ho z1
      go_enter Try.func48, Try.ntmps48
      go_wp2_with (go_at_call 53; (refine H1.out.mono ?_); rintro e w1 ⟨rfl, rfl⟩)
      go_ret
      exact ⟨ret_int HE.out.symm, rfl⟩
    · rw [decide_eq_false c1] at H1
      by_cases c2 : m = 0
      · rw [if_neg (by simp), if_neg c1, if_pos c2] at HE
        rw [decide_eq_true c2] at z1
        clear c1 c2 ho
        go_enter Try.func48, Try.ntmps48
        go_wp2_with (go_at_call 53; (refine H1.out.mono ?_); rintro e w1 ⟨rfl, rfl⟩)
        go_ret
        exact ⟨ret_int HE.out.symm, rfl⟩
      · rw [decide_eq_false c2] at z1
        by_cases c3 : m < 4503599627370496
        · rw [if_neg (by simp), if_neg c1, if_neg c2, if_pos c3] at HE
          rw [decide_eq_true c3] at ho
          clear c1 c2 c3
          go_enter Try.func48, Try.ntmps48
          go_wp2_with (first | (go_at_call 53; (refine H1.out.mono ?_); rintro e w1 ⟨rfl, rfl⟩) | (go_at_call 54; (refine H2.out.mono ?_); rintro e w1 ⟨rfl, rfl⟩))
          go_ret
          exact ⟨ret_int HE.out.symm, rfl⟩
        · rw [if_neg (by simp), if_neg c1, if_neg c2, if_neg c3] at HE
          rw [decide_eq_false c3] at ho
          clear c1 c2 c3
          go_enter Try.func48, Try.ntmps48
          go_wp2_with (first | (go_at_call 53; (refine H1.out.mono ?_); rintro e w1 ⟨rfl, rfl⟩) | (go_at_call 54; (refine H2.out.mono ?_); rintro e w1 ⟨rfl, rfl⟩))
          go_ret
          exact ⟨ret_int HE.out.symm, rfl⟩
  · have e1 := self_nan hb hn
    rw [hn, if_pos rfl] at HE
    clear hb hn
    go_enter Try.func48, Try.ntmps48
    go_wp2
    go_ret
    exact ⟨ret_int HE.out.symm, rfl⟩
theorem pKind_any (b : Nat) (hb : b < W64) (w : World) : Calls Try.prog 42 #[.float .f64 b] w fun e w' => e = .returned (.int .i64 (kindI b)) ∧ w = w' := by
  have H1 := Lib.hid (kind_any b hb w)
  clear hb
  go_enter Try.func42, Try.ntmps42
  go_wp2_with (go_at_call 48; (refine H1.out.mono ?_); rintro e w1 ⟨rfl, rfl⟩)
  go_ret
  exact ⟨rfl, rfl⟩

def NINF : Nat := 18442240474082181120
/-- The quotient of two whole numbers. -/
def quoN (a b : Int) : Nat := (floatBits .quo .f64 (floatOfInt .f64 a) (floatOfInt .f64 b)).getD 0
def ratioN (a b : Int) : Nat := if b = 0 then (if 0 < a then IN else if a < 0 then NINF else NN) else quoN a b
/-- It is a number, where the second one is not nought. -/
def Quo (a b : Int) : Prop := b ≠ 0 → floatBits .quo .f64 (floatOfInt .f64 a) (floatOfInt .f64 b) = some (quoN a b)

/-- The tens. -/
def TEN : Nat := 4621819117588971520
def tensN : Nat → Nat
  | 0 => 4607182418800017408
  | k + 1 => (floatBits .mul .f64 (tensN k) 4621819117588971520).getD 0
theorem tens_next : ∀ k, k < 22 → floatBits .mul .f64 (tensN k) 4621819117588971520 = some (tensN (k + 1)) := by decide +kernel
theorem tens_num : ∀ k, k < 23 → tensN k < W64 ∧ nanB (tensN k) = false := by decide +kernel
def limI (k : Int) : Nat := min k.toNat 22
end Go.Proofs.Ytkihgbglodfkmaa
