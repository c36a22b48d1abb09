/-
  Floats by their bits: the program's kinds, quotients, tens: the contracts. No condition but that a word has 64 bits.
-/
import Derived.Test.YtanekkcfkahinaaFlPick
namespace Go.Proofs.Ytanekkcfkahinaa
open Go.RowKit
set_option linter.unusedVariables false

theorem andNot_mag (b : Nat) (hb : b < W64) : bits .andNot .u64 (b : Int) (9223372036854775808 : Int) = ((magN b : Nat) : Int) := by
  have h := u64_andNot_nat b 9223372036854775808 hb (by decide)
  have e : (18446744073709551615 - 9223372036854775808 : Nat) = 2 ^ 63 - 1 := by decide
  rw [e, Nat.and_two_pow_sub_one_eq_mod] at h
  exact h
theorem mag_w64 (b : Nat) : magN b < W64 := Nat.lt_trans (mag_lt b) (by decide +kernel)
theorem Abs_any (b : Nat) (hb : b < W64) (w : World) : Calls Try.prog 36 #[.float .f64 b] w fun e w' => e = .returned (.float .f64 (magN b)) ∧ w = w' := by
  have h28 := bits_run b
  have h29 := from_run (magN b)
  have han := andNot_mag b hb
  obtain ⟨x, hx⟩ : ∃ x : Int, (b : Int) = x := ⟨_, rfl⟩
  obtain ⟨m, hm⟩ : ∃ m : Nat, magN b = m := ⟨_, rfl⟩
  rw [hx] at h28 han
  rw [hm] at h29 han ⊢
  clear hb hx hm
  go_enter Try.func36, Try.ntmps36
  go_wp2
  go_ret
  exact ⟨rfl, rfl⟩

/-- Two numbers that are not below nought. -/
theorem order_pos {a b : Nat} (ha : a ≤ IN) (hb : b ≤ IN) : FloatKind.f64.format.order a b = some (compare (a : Int) (b : Int)) := by
  have g := sg_in
  have g2 := sg2
  rw [order_f64 a b (by omega) (by omega)]
  have n1 : nanB a = false := decide_eq_false (by rw [mag_lo (by omega : a < SG)]; omega)
  have n2 : nanB b = false := decide_eq_false (by rw [mag_lo (by omega : b < SG)]; omega)
  rw [if_neg (by simp [n1, n2])]
  unfold keyI
  rw [if_neg (by omega), if_neg (by omega), mag_lo (by omega : a < SG), mag_lo (by omega : b < SG)]
theorem cmp_isgt (a b : Int) : (some (compare a b) == some Ordering.gt) = decide (b < a) := by
  rcases Int.lt_trichotomy a b with h | h | h
  · rw [cmp_lt h, decide_eq_false (by omega)]; rfl
  · rw [h, cmp_eq, decide_eq_false (by omega)]; rfl
  · rw [cmp_gt h, decide_eq_true h]; rfl
theorem cmp_islt (a b : Int) : (some (compare a b) == some Ordering.lt) = decide (a < b) := by
  rcases Int.lt_trichotomy a b with h | h | h
  · rw [cmp_lt h, decide_eq_true h]; rfl
  · rw [h, cmp_eq, decide_eq_false (by omega)]; rfl
  · rw [cmp_gt h, decide_eq_false (by omega)]; rfl

theorem IsInf_any (b : Nat) (hb : b < W64) (hn : nanB b = false) (w : World) : Calls Try.prog 44 #[.float .f64 b, .int .i64 0] w fun e w' => e = .returned (.bool (decide (magN b = IN))) ∧ w = w' := by
  have H1 := Lib.hid (Abs_any b hb w)
  have hle := num_le hn
  have ho : (FloatKind.f64.format.order (magN b) 9218868437227405311 == some .gt) = decide (magN b = IN) := by
    rw [order_pos hle (by decide +kernel), cmp_isgt]
    have : IN = 9218868437227405312 := rfl
    rw [Bool.eq_iff_iff, decide_eq_true_eq, decide_eq_true_eq]
    omega
  obtain ⟨m, hm⟩ : ∃ m : Nat, magN b = m := ⟨_, rfl⟩
  obtain ⟨r, hr⟩ : ∃ r, decide (magN b = IN) = r := ⟨_, rfl⟩
  rw [hr] at ho ⊢
  rw [hm] at ho H1
  clear hm hr hle hb hn
  go_enter Try.func44, Try.ntmps44
  go_wp2_with (go_at_call 36; (refine H1.out.mono ?_); rintro e w1 ⟨rfl, rfl⟩)
  go_ret
  exact ⟨rfl, rfl⟩

theorem kind_any (b : Nat) (hb : b < W64) (w : World) : Calls Try.prog 38 #[.float .f64 b] w fun e w' => e = .returned (.int .i64 (kindI b)) ∧ w = w' := by
  have HE : Hid (kindI b = if nanB b = true then 0 else if magN b = IN then 1 else if magN b = 0 then 2 else if magN b < 4503599627370496 then 3 else 4) := rfl
  cases hn : nanB b
  · have e1 := self_num hb hn
    have H1 := Lib.hid (IsInf_any b hb hn w)
    have H2 := Lib.hid (Abs_any b hb w)
    have z1 := zero_ord b hb
    have hle := num_le hn
    have ho : (FloatKind.f64.format.order (magN b) 4503599627370496 == some .lt) = decide (magN b < 4503599627370496) := by
      rw [order_pos hle (by decide +kernel), cmp_islt]
      rw [Bool.eq_iff_iff, decide_eq_true_eq, decide_eq_true_eq]
      omega
    rw [hn] at HE
    obtain ⟨m, hm⟩ : ∃ m : Nat, magN b = m := ⟨_, rfl⟩
    rw [hm] at ho H1 H2 z1 HE
    clear hm hle hb hn
    by_cases c1 : m = IN
    · rw [if_neg (by simp), if_pos c1] at HE
      rw [decide_eq_true c1] at H1
      clear c1 ho z1
      go_enter Try.func38, Try.ntmps38
      go_wp2_with (go_at_call 44; (refine H1.out.mono ?_); rintro e w1 ⟨rfl, rfl⟩)
      go_ret
      exact ⟨ret_int HE.out.symm, rfl⟩
    · rw [decide_eq_false c1] at H1
      by_cases c2 : m = 0
      · rw [if_neg (by simp), if_neg c1, if_pos c2] at HE
        rw [decide_eq_true c2] at z1
        clear c1 c2 ho
        go_enter Try.func38, Try.ntmps38
        go_wp2_with (go_at_call 44; (refine H1.out.mono ?_); rintro e w1 ⟨rfl, rfl⟩)
        go_ret
        exact ⟨ret_int HE.out.symm, rfl⟩
      · rw [decide_eq_false c2] at z1
        by_cases c3 : m < 4503599627370496
        · rw [if_neg (by simp), if_neg c1, if_neg c2, if_pos c3] at HE
          rw [decide_eq_true c3] at ho
          clear c1 c2 c3
          go_enter Try.func38, Try.ntmps38
          go_wp2_with (first | (go_at_call 44; (refine H1.out.mono ?_); rintro e w1 ⟨rfl, rfl⟩) | (go_at_call 36; (refine H2.out.mono ?_); rintro e w1 ⟨rfl, rfl⟩))
          go_ret
          exact ⟨ret_int HE.out.symm, rfl⟩
        · rw [if_neg (by simp), if_neg c1, if_neg c2, if_neg c3] at HE
          rw [decide_eq_false c3] at ho
          clear c1 c2 c3
          go_enter Try.func38, Try.ntmps38
          go_wp2_with (first | (go_at_call 44; (refine H1.out.mono ?_); rintro e w1 ⟨rfl, rfl⟩) | (go_at_call 36; (refine H2.out.mono ?_); rintro e w1 ⟨rfl, rfl⟩))
          go_ret
          exact ⟨ret_int HE.out.symm, rfl⟩
  · have e1 := self_nan hb hn
    rw [hn, if_pos rfl] at HE
    clear hb hn
    go_enter Try.func38, Try.ntmps38
    go_wp2
    go_ret
    exact ⟨ret_int HE.out.symm, rfl⟩
theorem pKind_any (b : Nat) (hb : b < W64) (w : World) : Calls Try.prog 25 #[.float .f64 b] w fun e w' => e = .returned (.int .i64 (kindI b)) ∧ w = w' := by
  have H1 := Lib.hid (kind_any b hb w)
  clear hb
  go_enter Try.func25, Try.ntmps25
  go_wp2_with (go_at_call 38; (refine H1.out.mono ?_); rintro e w1 ⟨rfl, rfl⟩)
  go_ret
  exact ⟨rfl, rfl⟩

def NINF : Nat := 18442240474082181120
theorem Inf_pos (w : World) : Calls Try.prog 31 #[.int .i64 1] w fun e w' => e = .returned (.float .f64 IN) ∧ w = w' := by
  have h : ∀ w, (callFunc 29 #[.int .u64 9218868437227405312]).run Try.prog w = .ok (.value (.float .f64 IN)) w := fun w => from_run IN w
  go_enter Try.func31, Try.ntmps31
  go_wp2
  go_ret
  exact ⟨rfl, rfl⟩
theorem Inf_neg (w : World) : Calls Try.prog 31 #[.int .i64 (-1)] w fun e w' => e = .returned (.float .f64 NINF) ∧ w = w' := by
  have h : ∀ w, (callFunc 29 #[.int .u64 18442240474082181120]).run Try.prog w = .ok (.value (.float .f64 NINF)) w := fun w => from_run NINF w
  go_enter Try.func31, Try.ntmps31
  go_wp2
  go_ret
  exact ⟨rfl, rfl⟩

/-- The quotient of two whole numbers. -/
def quoN (a b : Int) : Nat := (floatBits .quo .f64 (floatOfInt .f64 a) (floatOfInt .f64 b)).getD 0
def ratioN (a b : Int) : Nat := if b = 0 then (if 0 < a then IN else if a < 0 then NINF else NN) else quoN a b
/-- It is a number, where the second one is not nought. -/
def Quo (a b : Int) : Prop := b ≠ 0 → floatBits .quo .f64 (floatOfInt .f64 a) (floatOfInt .f64 b) = some (quoN a b)

theorem pRatio_any (a b : Int) (hq : Quo a b) (w : World) : Calls Try.prog 9 #[.int .i64 a, .int .i64 b] w fun e w' => e = .returned (.float .f64 (ratioN a b)) ∧ w = w' := by
  have H1 := Lib.hid (Inf_pos w)
  have H2 := Lib.hid (Inf_neg w)
  have H3 := Lib.hid (NaN_any w)
  have HE : Hid (ratioN a b = if b = 0 then (if 0 < a then IN else if a < 0 then NINF else NN) else quoN a b) := rfl
  by_cases hb : b = 0
  · rw [if_pos hb] at HE
    subst hb
    clear hq
    rcases Int.lt_trichotomy a 0 with h | h | h
    · rw [if_neg (by omega), if_pos h] at HE
      go_enter Try.func9, Try.ntmps9
      go_wp2_with (first | (go_at_call 31; (refine H2.out.mono ?_); rintro e w1 ⟨rfl, rfl⟩))
      go_ret
      exact ⟨by rw [HE.out]; rfl, rfl⟩
    · rw [if_neg (by omega), if_neg (by omega)] at HE
      have h1 : ¬ 0 < a := by omega
      have h2 : ¬ a < 0 := by omega
      clear h
      go_enter Try.func9, Try.ntmps9
      go_wp2_with (go_at_call 32; (refine H3.out.mono ?_); rintro e w1 ⟨rfl, rfl⟩)
      go_ret
      exact ⟨by rw [HE.out]; rfl, rfl⟩
    · rw [if_pos h] at HE
      go_enter Try.func9, Try.ntmps9
      go_wp2_with (first | (go_at_call 31; (refine H1.out.mono ?_); rintro e w1 ⟨rfl, rfl⟩))
      go_ret
      exact ⟨by rw [HE.out]; rfl, rfl⟩
  · rw [if_neg hb] at HE
    have hb' : (b == 0) = false := beq_eq_false_iff_ne.2 hb
    have hr := fun w => run_float_arith (P := Try.prog) w .quo 23 .f64 _ _ _ (hq hb)
    clear hb hq
    go_enter Try.func9, Try.ntmps9
    go_wp2
    go_ret
    exact ⟨by rw [HE.out]; rfl, rfl⟩

/-- The tens. -/
def TEN : Nat := 4621819117588971520
def tensN : Nat → Nat
  | 0 => 4607182418800017408
  | k + 1 => (floatBits .mul .f64 (tensN k) 4621819117588971520).getD 0
theorem tens_next : ∀ k, k < 22 → floatBits .mul .f64 (tensN k) 4621819117588971520 = some (tensN (k + 1)) := by decide +kernel
theorem tens_num : ∀ k, k < 23 → tensN k < W64 ∧ nanB (tensN k) = false := by decide +kernel
def limI (k : Int) : Nat := min k.toNat 22
theorem Tens_low (k : Int) (hk : k < 0) (w : World) : Calls Try.prog 12 #[.int .i64 k] w fun e w' => e = .returned (.float .f64 (tensN 0)) ∧ w = w' := by
  have hx : ¬ (0 : Int) ≤ k := by omega
  go_enter Try.func12, Try.ntmps12
  go_wp2
  go_loop [3, 7] (fun f i => i = .int .i64 0 ∧ f = .float .f64 4607182418800017408) (fun _ _ => 0)
  case atStart => exact ⟨rfl, rfl⟩
  case round =>
    obtain ⟨rfl, rfl⟩ := hrel
    go_wp2
    go_ret
    exact ⟨rfl, rfl⟩
theorem Tens_any (k : Int) (w : World) : Calls Try.prog 12 #[.int .i64 k] w fun e w' => e = .returned (.float .f64 (tensN (limI k))) ∧ w = w' := by
  rcases (show k < 0 ∨ (0 ≤ k ∧ k ≤ 22) ∨ 22 < k by omega) with h | h | h
  · have e : limI k = 0 := by unfold limI; omega
    rw [e]
    exact Tens_low k h w
  · obtain ⟨n, rfl⟩ : ∃ n : Nat, k = n := ⟨k.toNat, by omega⟩
    have e : limI n = n := by unfold limI; omega
    have hn22 : n ≤ 22 := by omega
    rw [e]
    clear e h
    go_enter Try.func12, Try.ntmps12
    go_wp2
    go_loop [3, 7] (fun f i => ∃ j : Nat, j ≤ n ∧ i = .int .i64 j ∧ f = .float .f64 (tensN j)) (fun _ i => n - (intOf i).toNat)
    case atStart => exact ⟨0, Nat.zero_le _, rfl, rfl⟩
    case round =>
      obtain ⟨j, hj, rfl, rfl⟩ := hrel
      by_cases hlt : j < n
      · have hr := fun w => run_float_arith (P := Try.prog) w .mul 23 .f64 _ _ _ (tens_next j (by omega))
        obtain ⟨x, hx⟩ : ∃ x, tensN j = x := ⟨_, rfl⟩
        obtain ⟨y, hy⟩ : ∃ y, tensN (j + 1) = y := ⟨_, rfl⟩
        rw [hx, hy] at hr
        rw [hx]
        have HY := Lib.hid hy
        clear hx hy
        go_wp2
        go_round
        case rel => exact ⟨j + 1, by omega, by go_num, by rw [HY.out]⟩
        case measure => simp [intOf]; omega
      · obtain rfl : j = n := by omega
        obtain ⟨x, hx⟩ : ∃ x, tensN j = x := ⟨_, rfl⟩
        have HX := Lib.hid hx
        rw [hx]
        clear hx
        go_wp2
        go_ret
        exact ⟨by rw [HX.out]; rfl, rfl⟩
  · have e : limI k = 22 := by unfold limI; omega
    rw [e]
    have hx0 : (0 : Int) ≤ k := by omega
    clear e
    go_enter Try.func12, Try.ntmps12
    go_wp2
    go_loop [3, 7] (fun f i => ∃ j : Nat, j ≤ 22 ∧ i = .int .i64 j ∧ f = .float .f64 (tensN j)) (fun _ i => 22 - (intOf i).toNat)
    case atStart => exact ⟨0, Nat.zero_le _, rfl, rfl⟩
    case round =>
      obtain ⟨j, hj, rfl, rfl⟩ := hrel
      by_cases hlt : j < 22
      · have hr := fun w => run_float_arith (P := Try.prog) w .mul 23 .f64 _ _ _ (tens_next j (by omega))
        obtain ⟨x, hx⟩ : ∃ x, tensN j = x := ⟨_, rfl⟩
        obtain ⟨y, hy⟩ : ∃ y, tensN (j + 1) = y := ⟨_, rfl⟩
        rw [hx, hy] at hr
        rw [hx]
        have HY := Lib.hid hy
        clear hx hy
        go_wp2
        go_round
        case rel => exact ⟨j + 1, by omega, by go_num, by rw [HY.out]⟩
        case measure => simp [intOf]; omega
      · obtain rfl : j = 22 := by omega
        obtain ⟨x, hx⟩ : ∃ x, tensN 22 = x := ⟨_, rfl⟩
        have HX := Lib.hid hx
        rw [hx]
        clear hx
        go_wp2
        go_ret
        exact ⟨by rw [HX.out]; rfl, rfl⟩
end Go.Proofs.Ytanekkcfkahinaa
