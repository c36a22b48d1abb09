/-
  Floats by their bits: the program's signs, its order, the contracts. No condition but that a word has 64 bits.
-/
import Derived.Test.YtkihgbglodfkmaaGreatFlPlace
namespace Go.Proofs.YtkihgbglodfkmaaGreat
open Go.RowKit
set_option linter.unusedVariables false

theorem signbit_any (b : Nat) (hb : b < W64) (w : World) : Calls Tryz.prog 109 #[.float .f64 b] w fun e w' => e = .returned (.bool (decide (SG ≤ b))) ∧ w = w' := by
  have h28 := bits_run b
  have hs1 : SG = 9223372036854775808 := rfl
  have hs3 : W64 = 18446744073709551616 := rfl
  obtain ⟨x, hx⟩ : ∃ x : Int, (b : Int) = x := ⟨_, rfl⟩
  have hw := IntKind.wrap_i64 x
  obtain ⟨y, hy⟩ : ∃ y, IntKind.i64.wrap x = y := ⟨_, rfl⟩
  rw [hy] at hw
  by_cases h : SG ≤ b
  · have c : y < 0 := by omega
    have e : decide (SG ≤ b) = true := decide_eq_true h
    rw [e]
    rw [hx] at h28
    clear h e hw hx hs1 hs3 hb
    go_enter Tryz.func109, Tryz.ntmps109
    go_wp2
    go_ret
    exact ⟨rfl, rfl⟩
  · have c : ¬ y < 0 := by omega
    have e : decide (SG ≤ b) = false := decide_eq_false h
    rw [e]
    rw [hx] at h28
    clear h e hw hx hs1 hs3 hb
    go_enter Tryz.func109, Tryz.ntmps109
    go_wp2
    go_ret
    exact ⟨rfl, rfl⟩

/-- A number's sign; 0: it is none. -/
def signI (b : Nat) : Int := if nanB b = true then 0 else if SG ≤ b then -1 else 1
theorem psign_any (b : Nat) (hb : b < W64) (w : World) : Calls Tryz.prog 90 #[.float .f64 b] w fun e w' => e = .returned (.int .i64 (signI b)) ∧ w = w' := by
  have H1 := Lib.hid (signbit_any b hb w)
  cases hn : nanB b
  · have e := self_num hb hn
    by_cases hs : SG ≤ b
    · rw [decide_eq_true hs] at H1
      have HE : Hid (signI b = -1) := by unfold Hid signI; rw [hn, if_pos hs]; rfl
      clear hb hn hs
      go_enter Tryz.func90, Tryz.ntmps90
      go_wp2_with (go_at_call 109; (refine H1.out.mono ?_); rintro e w1 ⟨rfl, rfl⟩)
      go_ret
      exact ⟨ret_int HE.out.symm, rfl⟩
    · rw [decide_eq_false hs] at H1
      have HE : Hid (signI b = 1) := by unfold Hid signI; rw [hn, if_neg hs]; rfl
      clear hb hn hs
      go_enter Tryz.func90, Tryz.ntmps90
      go_wp2_with (go_at_call 109; (refine H1.out.mono ?_); rintro e w1 ⟨rfl, rfl⟩)
      go_ret
      exact ⟨ret_int HE.out.symm, rfl⟩
  · have e := self_nan hb hn
    have HE : Hid (signI b = 0) := by unfold Hid signI; rw [hn]; rfl
    clear hb hn H1
    go_enter Tryz.func90, Tryz.ntmps90
    go_wp2
    go_ret
    exact ⟨ret_int HE.out.symm, rfl⟩

/-- Two whole numbers. -/
def ordI (x y : Int) : Int := if x < y then -1 else if y < x then 1 else 0
theorem ci_isNaN (x : Int) (w : World) : Calls Tryz.prog 97 #[.int .i64 x] w fun e w' => e = .returned (.bool false) ∧ w = w' := by
  go_enter Tryz.func97, Tryz.ntmps97
  go_wp2
  go_ret
  exact ⟨rfl, rfl⟩
theorem ci_Compare (x y : Int) (w : World) : Calls Tryz.prog 89 #[.int .i64 x, .int .i64 y] w fun e w' => e = .returned (.int .i64 (ordI x y)) ∧ w = w' := by
  have H1 := Lib.hid (fun x => ci_isNaN x w)
  have HE : Hid (ordI x y = if x < y then -1 else if y < x then 1 else 0) := rfl
  rcases Int.lt_trichotomy x y with h | h | h
  · rw [HE.out, if_pos h]
    clear HE
    go_enter Tryz.func89, Tryz.ntmps89
    go_wp2_with (go_at_call 97; (refine (H1.out _).mono ?_); rintro e w1 ⟨rfl, rfl⟩)
    go_ret
    exact ⟨rfl, rfl⟩
  · subst h
    rw [HE.out, if_neg (Int.lt_irrefl _), if_neg (Int.lt_irrefl _)]
    clear HE
    go_enter Tryz.func89, Tryz.ntmps89
    go_wp2_with (go_at_call 97; (refine (H1.out _).mono ?_); rintro e w1 ⟨rfl, rfl⟩)
    go_ret
    exact ⟨rfl, rfl⟩
  · have h' : ¬ x < y := by omega
    rw [HE.out, if_neg h', if_pos h]
    clear HE
    go_enter Tryz.func89, Tryz.ntmps89
    go_wp2_with (go_at_call 97; (refine (H1.out _).mono ?_); rintro e w1 ⟨rfl, rfl⟩)
    go_ret
    exact ⟨rfl, rfl⟩

theorem cf_isNaN (b : Nat) (hb : b < W64) (w : World) : Calls Tryz.prog 110 #[.float .f64 b] w fun e w' => e = .returned (.bool (nanB b)) ∧ w = w' := by
  cases hn : nanB b
  · have e := self_num hb hn
    clear hb hn
    go_enter Tryz.func110, Tryz.ntmps110
    go_wp2
    go_ret
    exact ⟨rfl, rfl⟩
  · have e := self_nan hb hn
    clear hb hn
    go_enter Tryz.func110, Tryz.ntmps110
    go_wp2
    go_ret
    exact ⟨rfl, rfl⟩

theorem cf_Compare (a b : Nat) (ha : a < W64) (hb : b < W64) (hz : ¬ (magN a = 0 ∧ magN b = 0)) (w : World) :
    Calls Tryz.prog 91 #[.float .f64 a, .float .f64 b] w fun e w' => e = .returned (.int .i64 (cmpI a b)) ∧ w = w' := by
  have H1 := Lib.hid (cf_isNaN a ha w)
  have H2 := Lib.hid (cf_isNaN b hb w)
  have ho := order_f64 a b ha hb
  obtain ⟨C, hC⟩ : ∃ C, cmpI a b = C := ⟨_, rfl⟩
  rw [hC]
  unfold cmpI at hC
  cases h1 : nanB a <;> cases h2 : nanB b
  · have pk := place_key ha hb h1 h2 hz
    have pk' := place_key hb ha h2 h1 (fun h => hz ⟨h.2, h.1⟩)
    rw [if_neg (by simp [h1, h2])] at ho
    rw [h1] at H1
    rw [h2] at H2
    rcases Int.lt_trichotomy (keyI a) (keyI b) with h | h | h
    · rw [cmp_lt h] at ho
      rw [if_pos (pk.2 h)] at hC
      subst hC
      clear pk pk' h h1 h2 hz ha hb
      go_enter Tryz.func91, Tryz.ntmps91
      go_wp2_with fail
      refine H1.out.mono ?_
      rintro e w1 ⟨rfl, rfl⟩
      go_wp2_with fail
      refine H2.out.mono ?_
      rintro e w1 ⟨rfl, rfl⟩
      go_wp2_with fail
      go_ret
      exact ⟨rfl, rfl⟩
    · rw [h, cmp_eq] at ho
      rw [if_neg (fun hh => by have := pk.1 hh; omega), if_neg (fun hh => by have := pk'.1 hh; omega)] at hC
      subst hC
      clear pk pk' h h1 h2 hz ha hb
      go_enter Tryz.func91, Tryz.ntmps91
      go_wp2_with fail
      refine H1.out.mono ?_
      rintro e w1 ⟨rfl, rfl⟩
      go_wp2_with fail
      refine H2.out.mono ?_
      rintro e w1 ⟨rfl, rfl⟩
      go_wp2_with fail
      go_ret
      exact ⟨rfl, rfl⟩
    · rw [cmp_gt h] at ho
      rw [if_neg (fun hh => by have := pk.1 hh; omega), if_pos (pk'.2 h)] at hC
      subst hC
      clear pk pk' h h1 h2 hz ha hb
      go_enter Tryz.func91, Tryz.ntmps91
      go_wp2_with fail
      refine H1.out.mono ?_
      rintro e w1 ⟨rfl, rfl⟩
      go_wp2_with fail
      refine H2.out.mono ?_
      rintro e w1 ⟨rfl, rfl⟩
      go_wp2_with fail
      go_ret
      exact ⟨rfl, rfl⟩
  all_goals
    rw [h1] at H1
    rw [h2] at H2
    have pa := place_pos ha
    have pb := place_pos hb
    rw [h1] at pa
    rw [h2] at pb
    first
      | (have e1 := place_nan h1
         have e2 := place_nan h2
         rw [e1, e2, if_neg (by omega), if_neg (by omega)] at hC)
      | (have e1 := place_nan h1
         have := pb rfl
         rw [e1, if_pos (by omega)] at hC)
      | (have e2 := place_nan h2
         have := pa rfl
         rw [e2, if_neg (by omega), if_pos (by omega)] at hC)
    subst hC
    clear ho pa pb h1 h2 hz ha hb
    go_enter Tryz.func91, Tryz.ntmps91
    go_wp2_with fail
    refine H1.out.mono ?_
    rintro e w1 ⟨rfl, rfl⟩
    go_wp2_with fail
    refine H2.out.mono ?_
    rintro e w1 ⟨rfl, rfl⟩
    go_wp2_with fail
    go_ret
    exact ⟨rfl, rfl⟩

/-- A number and the nought. -/
theorem zero_ord (a : Nat) (ha : a < W64) : (FloatKind.f64.format.order a 0 == some .eq) = decide (magN a = 0) := by
  have h0 : nanB 0 = false := by decide +kernel
  have k0 : keyI 0 = 0 := by decide +kernel
  rw [order_f64 a 0 ha (by decide +kernel)]
  cases hn : nanB a
  · rw [if_neg (by simp [h0]), k0]
    have hk : keyI a = 0 ↔ magN a = 0 := by
      unfold keyI
      by_cases h : SG ≤ a
      · rw [if_pos h]; omega
      · rw [if_neg h]; omega
    rcases Int.lt_trichotomy (keyI a) 0 with h | h | h
    · rw [cmp_lt h, decide_eq_false (fun e => by rw [← hk] at e; omega)]
      rfl
    · rw [h, cmp_eq, decide_eq_true (hk.1 h)]
      rfl
    · rw [cmp_gt h, decide_eq_false (fun e => by rw [← hk] at e; omega)]
      rfl
  · rw [if_pos (Or.inl rfl), decide_eq_false (fun e => by have := of_decide_eq_true hn; rw [e] at this; omega)]
    rfl
theorem zero_cmp {a b : Nat} (ha : a < W64) (hb : b < W64) (h1 : magN a = 0) (h2 : magN b = 0) : ordI (signI a) (signI b) = cmpI a b := by
  have n1 : nanB a = false := decide_eq_false (by rw [h1]; omega)
  have n2 : nanB b = false := decide_eq_false (by rw [h2]; omega)
  unfold ordI signI cmpI placeN
  rw [n1, n2]
  simp only [Bool.false_eq_true, if_false]
  by_cases c1 : SG ≤ a <;> by_cases c2 : SG ≤ b
  · rw [mag_hi c1 ha] at h1
    rw [mag_hi c2 hb] at h2
    have e1 : a = SG := by omega
    have e2 : b = SG := by omega
    rw [e1, e2]
    simp
  · rw [mag_hi c1 ha] at h1
    rw [mag_lo (by omega : b < SG)] at h2
    rw [if_pos c1, if_neg c2, if_pos c1, if_neg c2]
    rw [if_pos (by omega), if_pos (by omega)]
  · rw [mag_lo (by omega : a < SG)] at h1
    rw [mag_hi c2 hb] at h2
    rw [if_neg c1, if_pos c2, if_neg c1, if_pos c2]
    rw [if_neg (by omega), if_pos (by omega), if_neg (by omega), if_pos (by omega)]
  · rw [mag_lo (by omega : a < SG)] at h1
    rw [mag_lo (by omega : b < SG)] at h2
    rw [h1, h2]
    simp

theorem compare_any (a b : Nat) (ha : a < W64) (hb : b < W64) (w : World) : Calls Tryz.prog 66 #[.float .f64 a, .float .f64 b] w fun e w' => e = .returned (.int .i64 (cmpI a b)) ∧ w = w' := by
  have z1 := zero_ord a ha
  have z2 := zero_ord b hb
  have H1 := Lib.hid (psign_any a ha w)
  have H2 := Lib.hid (psign_any b hb w)
  by_cases c1 : magN a = 0
  · by_cases c2 : magN b = 0
    · have HZ := Lib.hid (zero_cmp ha hb c1 c2)
      have H3 := Lib.hid (fun x y => ci_Compare x y w)
      rw [decide_eq_true c1] at z1
      rw [decide_eq_true c2] at z2
      clear c1 c2 ha hb
      go_enter Tryz.func66, Tryz.ntmps66
      go_wp2_with fail
      refine H1.out.mono ?_
      rintro e w1 ⟨rfl, rfl⟩
      go_wp2_with fail
      refine H2.out.mono ?_
      rintro e w1 ⟨rfl, rfl⟩
      go_wp2_with (go_at_call 89; (refine (H3.out _ _).mono ?_); rintro e w1 ⟨rfl, rfl⟩)
      go_ret
      exact ⟨ret_int HZ.out, rfl⟩
    · have H3 := Lib.hid (cf_Compare a b ha hb (fun h => c2 h.2) w)
      rw [decide_eq_true c1] at z1
      rw [decide_eq_false c2] at z2
      clear c1 c2 ha hb
      go_enter Tryz.func66, Tryz.ntmps66
      go_wp2_with (go_at_call 91; (refine H3.out.mono ?_); rintro e w1 ⟨rfl, rfl⟩)
      go_ret
      exact ⟨rfl, rfl⟩
  · have H3 := Lib.hid (cf_Compare a b ha hb (fun h => c1 h.1) w)
    rw [decide_eq_false c1] at z1
    clear c1 ha hb z2
    go_enter Tryz.func66, Tryz.ntmps66
    go_wp2_with (go_at_call 91; (refine H3.out.mono ?_); rintro e w1 ⟨rfl, rfl⟩)
    go_ret
    exact ⟨rfl, rfl⟩
theorem Cmp_any (a b : Nat) (ha : a < W64) (hb : b < W64) (w : World) : Calls Tryz.prog 51 #[.float .f64 a, .float .f64 b] w fun e w' => e = .returned (.int .i64 (cmpI a b)) ∧ w = w' := by
  have H1 := Lib.hid (compare_any a b ha hb w)
  clear ha hb
  go_enter Tryz.func51, Tryz.ntmps51
  go_wp2_with (go_at_call 66; (refine H1.out.mono ?_); rintro e w1 ⟨rfl, rfl⟩)
  go_ret
  exact ⟨rfl, rfl⟩
theorem NaN_any (w : World) : Calls Tryz.prog 53 #[] w fun e w' => e = .returned (.float .f64 NN) ∧ w = w' := by
  have h : ∀ w, (callFunc 56 #[.int .u64 9221120237041090561]).run Tryz.prog w = .ok (.value (.float .f64 NN)) w := fun w => from_run NN w
  go_enter Tryz.func53, Tryz.ntmps53
  go_wp2
  go_ret
  exact ⟨rfl, rfl⟩
end Go.Proofs.YtkihgbglodfkmaaGreat
