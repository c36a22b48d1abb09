/-
  Floats by their bits: which are no numbers, where each stands; the reference's answers and the program's, the contracts: bits, kinds, signs, places. No condition but that a word has 64 bits.
-/
import Derived.Test.YtkihgbglodfkmaaGreatRows
import Derived.Test.YtkihgbglodfkmaaGreatFlOrder
import Derived.Laws.Externs
namespace Go.Proofs.YtkihgbglodfkmaaGreat
open Go.RowKit
set_option linter.unusedVariables false

def SG : Nat := 9223372036854775808
def IN : Nat := 9218868437227405312
def NN : Nat := 9221120237041090561
def magN (b : Nat) : Nat := b % SG
def nanB (b : Nat) : Bool := decide (IN < magN b)
def keyI (b : Nat) : Int := if SG ≤ b then -(magN b : Int) else magN b
def W64 : Nat := 18446744073709551616

theorem sg2 : W64 = 2 * SG := by decide +kernel
theorem sg_in : IN < SG := by decide +kernel
theorem sg_nn : IN < NN ∧ NN < SG := by decide +kernel
theorem mag_lo {b : Nat} (h : b < SG) : magN b = b := Nat.mod_eq_of_lt h
theorem mag_hi {b : Nat} (h1 : SG ≤ b) (h2 : b < W64) : magN b = b - SG := by
  rw [sg2] at h2
  unfold magN
  rw [Nat.mod_eq_sub_mod h1, Nat.mod_eq_of_lt (by omega)]
theorem mag_lt (b : Nat) : magN b < SG := Nat.mod_lt _ (by decide +kernel)

theorem dbl_sign : Ieee.double.signWeight = SG := by decide +kernel
theorem dbl_inf : Ieee.double.infRung = IN := by decide +kernel
theorem dbl_bin : Ieee.double.binade ≤ Ieee.double.infRung := by decide +kernel
theorem order_f64 (a b : Nat) (ha : a < W64) (hb : b < W64) : FloatKind.f64.format.order a b = if nanB a = true ∨ nanB b = true then none else some (compare (keyI a) (keyI b)) := by
  have hneg : ∀ c, c < W64 → negF Ieee.double c = decide (SG ≤ c) := fun c hc => by
    unfold negF
    rw [dbl_sign]
    rw [sg2] at hc
    by_cases h : SG ≤ c
    · have : c / SG = 1 := by
        rw [Nat.div_eq_iff (by decide +kernel)]
        omega
      rw [this]
      simp [h]
    · rw [Nat.div_eq_of_lt (by omega)]
      simp [h]
  have h := order_keys Ieee.double dbl_bin a b
  unfold keyF nanF rungF at h
  rw [hneg a ha, hneg b hb, dbl_sign, dbl_inf] at h
  refine (show FloatKind.f64.format.order a b = _ from h).trans ?_
  unfold nanB keyI magN
  simp only [decide_eq_true_eq]

/-- A number and itself. -/
theorem self_nan {a : Nat} (ha : a < W64) (h : nanB a = true) : FloatKind.f64.format.order a a = none := by rw [order_f64 a a ha ha, if_pos (Or.inl h)]
theorem self_num {a : Nat} (ha : a < W64) (h : nanB a = false) : FloatKind.f64.format.order a a = some .eq := by
  rw [order_f64 a a ha ha, if_neg (by simp [h]), cmp_eq]

theorem bits_run (b : Nat) (w : World) : (callFunc 48 #[.float .f64 b]).run Tryz.prog w = .ok (.value (.int .u64 b)) w := by
  rw [run_callFunc_extern Tryz.func48 (by kernel_rfl) (by kernel_rfl) (by kernel_rfl) (e := Extern.MathFloatBits.float64bits) (by kernel_rfl)]
  rfl
theorem from_run (b : Nat) (w : World) : (callFunc 56 #[.int .u64 b]).run Tryz.prog w = .ok (.value (.float .f64 b)) w := by
  rw [run_callFunc_extern Tryz.func56 (by kernel_rfl) (by kernel_rfl) (by kernel_rfl) (e := Extern.MathFloatBits.float64frombits) (by kernel_rfl)]
  rfl

theorem Of_any (b : Nat) (w : World) : Calls Tryz.prog 38 #[.int .u64 b] w fun e w' => e = .returned (.float .f64 b) ∧ w = w' := by
  have h := from_run b
  go_enter Tryz.func38, Tryz.ntmps38
  go_wp2
  go_ret
  exact ⟨rfl, rfl⟩

/-- A number's bits; the same ones for all that are none. -/
def bitsN (b : Nat) : Nat := if nanB b = true then NN else b
/-- The reference's rest of a word, as the walk writes it. -/
theorem mag_int (b : Nat) : ((b : Int) % 9223372036854775808) = ((magN b : Nat) : Int) := by
  unfold magN SG
  omega
theorem rBits_any (b : Nat) (w : World) : Calls Tryz.prog 31 #[.float .f64 b] w fun e w' => e = .returned (.int .u64 (bitsN b)) ∧ w = w' := by
  have h28 := bits_run b
  have hm := mag_int b
  cases hn : nanB b
  · have h : ¬ (b : Int) % 9223372036854775808 > 9218868437227405312 := by
      rw [hm]
      have := of_decide_eq_false hn
      unfold IN at this
      omega
    have HE : Hid (bitsN b = b) := by unfold Hid bitsN; rw [hn]; rfl
    clear hn hm
    go_enter Tryz.func31, Tryz.ntmps31
    go_wp2
    go_ret
    exact ⟨by rw [HE.out]; rfl, rfl⟩
  · have h : (b : Int) % 9223372036854775808 > 9218868437227405312 := by
      rw [hm]
      have := of_decide_eq_true hn
      unfold IN at this
      omega
    have HE : Hid (bitsN b = NN) := by unfold Hid bitsN; rw [hn]; rfl
    clear hn hm
    go_enter Tryz.func31, Tryz.ntmps31
    go_wp2
    go_ret
    exact ⟨by rw [HE.out]; rfl, rfl⟩

/-- What a number is. -/
def kindI (b : Nat) : Int := if nanB b = true then 0 else if magN b = IN then 1 else if magN b = 0 then 2 else if magN b < 4503599627370496 then 3 else 4
theorem rKind_any (b : Nat) (w : World) : Calls Tryz.prog 67 #[.float .f64 b] w fun e w' => e = .returned (.int .i64 (kindI b)) ∧ w = w' := by
  have h28 := bits_run b
  have hm := mag_int b
  obtain ⟨k, hk⟩ : ∃ k, kindI b = k := ⟨_, rfl⟩
  have HK := Lib.hid hk
  rw [hk]
  unfold kindI nanB IN at hk
  obtain ⟨m, hm'⟩ : ∃ m, magN b = m := ⟨_, rfl⟩
  rw [hm'] at hk hm
  have hk2 : (if 9218868437227405312 < m then 0 else if m = 9218868437227405312 then 1 else if m = 0 then 2 else if m < 4503599627370496 then 3 else 4) = k := by
    rw [← hk]
    simp only [decide_eq_true_eq]
  clear hm' hk HK
  by_cases c1 : 9218868437227405312 < m
  · rw [if_pos c1] at hk2
    subst hk2
    have d1 : (9218868437227405312 : Int) < (m : Int) := by omega
    clear c1
    go_enter Tryz.func67, Tryz.ntmps67
    go_wp2
    go_ret
    exact ⟨rfl, rfl⟩
  · rw [if_neg c1] at hk2
    have d1 : ¬ (9218868437227405312 : Int) < (m : Int) := by omega
    by_cases c2 : m = 9218868437227405312
    · rw [if_pos c2] at hk2
      subst hk2
      have d2 : ((m : Int) == 9218868437227405312) = true := by rw [beq_iff_eq]; omega
      clear c1 c2
      go_enter Tryz.func67, Tryz.ntmps67
      go_wp2
      go_ret
      exact ⟨rfl, rfl⟩
    · rw [if_neg c2] at hk2
      have d2 : ((m : Int) == 9218868437227405312) = false := by rw [beq_eq_false_iff_ne]; omega
      by_cases c3 : m = 0
      · rw [if_pos c3] at hk2
        subst hk2
        have d3 : ((m : Int) == 0) = true := by rw [beq_iff_eq]; omega
        clear c1 c2 c3
        go_enter Tryz.func67, Tryz.ntmps67
        go_wp2
        go_ret
        exact ⟨rfl, rfl⟩
      · rw [if_neg c3] at hk2
        have d3 : ((m : Int) == 0) = false := by rw [beq_eq_false_iff_ne]; omega
        by_cases c4 : m < 4503599627370496
        · rw [if_pos c4] at hk2
          subst hk2
          have d4 : (m : Int) < 4503599627370496 := by omega
          clear c1 c2 c3 c4
          go_enter Tryz.func67, Tryz.ntmps67
          go_wp2
          go_ret
          exact ⟨rfl, rfl⟩
        · rw [if_neg c4] at hk2
          subst hk2
          have d4 : ¬ (m : Int) < 4503599627370496 := by omega
          clear c1 c2 c3 c4
          go_enter Tryz.func67, Tryz.ntmps67
          go_wp2
          go_ret
          exact ⟨rfl, rfl⟩
end Go.Proofs.YtkihgbglodfkmaaGreat
