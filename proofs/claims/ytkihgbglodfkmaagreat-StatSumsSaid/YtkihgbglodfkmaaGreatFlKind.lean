/-
  Floats by their bits: the program's kinds, quotients, tens: the contracts. No condition but that a word has 64 bits.
-/
import Derived.Test.YtkihgbglodfkmaaGreatFlCmp
namespace Go.Proofs.YtkihgbglodfkmaaGreat
open Go.RowKit
set_option linter.unusedVariables false

theorem andNot_mag (b : Nat) (hb : b < W64) : bits .andNot .u64 (b : Int) (9223372036854775808 : Int) = ((magN b : Nat) : Int) := by
  have h := u64_andNot_nat b 9223372036854775808 hb (by decide)
  have e : (18446744073709551615 - 9223372036854775808 : Nat) = 2 ^ 63 - 1 := by decide
  rw [e, Nat.and_two_pow_sub_one_eq_mod] at h
  exact h
theorem mag_w64 (b : Nat) : magN b < W64 := Nat.lt_trans (mag_lt b) (by decide +kernel)
/-- Two numbers that are not below nought. -/
theorem order_pos {a b : Nat} (ha : a ≤ IN) (hb : b ≤ IN) : FloatKind.f64.format.order a b = some (compare (a : Int) (b : Int)) := by
  have g := sg_in
  have g2 := sg2
  rw [order_f64 a b (by omega) (by omega)]
  have n1 : nanB a = false := decide_eq_false (by rw [mag_lo (by omega : a < SG)]; omega)
  have n2 : nanB b = false := decide_eq_false (by rw [mag_lo (by omega : b < SG)]; omega)
  rw [if_neg (by simp [n1, n2])]
  unfold keyI
  rw [if_neg (by omega), if_neg (by omega), mag_lo (by omega : a < SG), mag_lo (by omega : b < SG)]
theorem cmp_isgt (a b : Int) : (some (compare a b) == some Ordering.gt) = decide (b < a) := by
  rcases Int.lt_trichotomy a b with h | h | h
  · rw [cmp_lt h, decide_eq_false (by omega)]; rfl
  · rw [h, cmp_eq, decide_eq_false (by omega)]; rfl
  · rw [cmp_gt h, decide_eq_true h]; rfl
theorem cmp_islt (a b : Int) : (some (compare a b) == some Ordering.lt) = decide (a < b) := by
  rcases Int.lt_trichotomy a b with h | h | h
  · rw [cmp_lt h, decide_eq_true h]; rfl
  · rw [h, cmp_eq, decide_eq_false (by omega)]; rfl
  · rw [cmp_gt h, decide_eq_false (by omega)]; rfl

def NINF : Nat := 18442240474082181120
theorem Inf_pos (w : World) : Calls Tryz.prog 55 #[.int .i64 1] w fun e w' => e = .returned (.float .f64 IN) ∧ w = w' := by
  have h : ∀ w, (callFunc 56 #[.int .u64 9218868437227405312]).run Tryz.prog w = .ok (.value (.float .f64 IN)) w := fun w => from_run IN w
  go_enter Tryz.func55, Tryz.ntmps55
  go_wp2
  go_ret
  exact ⟨rfl, rfl⟩
theorem Inf_neg (w : World) : Calls Tryz.prog 55 #[.int .i64 (-1)] w fun e w' => e = .returned (.float .f64 NINF) ∧ w = w' := by
  have h : ∀ w, (callFunc 56 #[.int .u64 18442240474082181120]).run Tryz.prog w = .ok (.value (.float .f64 NINF)) w := fun w => from_run NINF w
  go_enter Tryz.func55, Tryz.ntmps55
  go_wp2
  go_ret
  exact ⟨rfl, rfl⟩

/-- The quotient of two whole numbers. -/
def quoN (a b : Int) : Nat := (floatBits .quo .f64 (floatOfInt .f64 a) (floatOfInt .f64 b)).getD 0
def ratioN (a b : Int) : Nat := if b = 0 then (if 0 < a then IN else if a < 0 then NINF else NN) else quoN a b
/-- It is a number, where the second one is not nought. -/
def Quo (a b : Int) : Prop := b ≠ 0 → floatBits .quo .f64 (floatOfInt .f64 a) (floatOfInt .f64 b) = some (quoN a b)

theorem pRatio_any (a b : Int) (hq : Quo a b) (w : World) : Calls Tryz.prog 37 #[.int .i64 a, .int .i64 b] w fun e w' => e = .returned (.float .f64 (ratioN a b)) ∧ w = w' := by
  have H1 := Lib.hid (Inf_pos w)
  have H2 := Lib.hid (Inf_neg w)
  have H3 := Lib.hid (NaN_any w)
  have HE : Hid (ratioN a b = if b = 0 then (if 0 < a then IN else if a < 0 then NINF else NN) else quoN a b) := rfl
  by_cases hb : b = 0
  · rw [if_pos hb] at HE
    subst hb
    clear hq
    rcases Int.lt_trichotomy a 0 with h | h | h
    · rw [if_neg (by omega), if_pos h] at HE
      go_enter Tryz.func37, Tryz.ntmps37
      go_wp2_with (first | (go_at_call 55; (refine H2.out.mono ?_); rintro e w1 ⟨rfl, rfl⟩))
      go_ret
      exact ⟨by rw [HE.out]; rfl, rfl⟩
    · rw [if_neg (by omega), if_neg (by omega)] at HE
      have h1 : ¬ 0 < a := by omega
      have h2 : ¬ a < 0 := by omega
      clear h
      go_enter Tryz.func37, Tryz.ntmps37
      go_wp2_with (go_at_call 53; (refine H3.out.mono ?_); rintro e w1 ⟨rfl, rfl⟩)
      go_ret
      exact ⟨by rw [HE.out]; rfl, rfl⟩
    · rw [if_pos h] at HE
      go_enter Tryz.func37, Tryz.ntmps37
      go_wp2_with (first | (go_at_call 55; (refine H1.out.mono ?_); rintro e w1 ⟨rfl, rfl⟩))
      go_ret
      exact ⟨by rw [HE.out]; rfl, rfl⟩
  · rw [if_neg hb] at HE
    have hb' : (b == 0) = false := beq_eq_false_iff_ne.2 hb
    have hr := fun w => run_float_arith (P := Tryz.prog) w .quo 40 .f64 _ _ _ (hq hb)
    clear hb hq
    go_enter Tryz.func37, Tryz.ntmps37
    go_wp2
    go_ret
    exact ⟨by rw [HE.out]; rfl, rfl⟩

/-- The tens. -/
def TEN : Nat := 4621819117588971520
def tensN : Nat → Nat
  | 0 => 4607182418800017408
  | k + 1 => (floatBits .mul .f64 (tensN k) 4621819117588971520).getD 0
theorem tens_next : ∀ k, k < 22 → floatBits .mul .f64 (tensN k) 4621819117588971520 = some (tensN (k + 1)) := by decide +kernel
theorem tens_num : ∀ k, k < 23 → tensN k < W64 ∧ nanB (tensN k) = false := by decide +kernel
def limI (k : Int) : Nat := min k.toNat 22
end Go.Proofs.YtkihgbglodfkmaaGreat
