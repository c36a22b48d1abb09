/-
  Layer 08 (float): numbers that are whole, by the reference and by the program; the law on kinds, walked. No condition but that a word has 64 bits.
-/
import Derived.Test.YtanekkcfkahinaaOrders
import Derived.Test.YtanekkcfkahinaaFlSum
namespace Go.Proofs.Ytanekkcfkahinaa
open Go.RowKit
set_option linter.unusedVariables false

def MOST : Nat := 4845873199050653695
def NMOST : Nat := 14069245235905429503
/-- What a small number is, cut towards nought. -/
theorem small_read {b : Nat} (hb : b < W64) (h : magN b ≤ MOST) : ∃ m d : Nat, m < 9007199254740992 ∧ Ieee.double.read b = .number (negF Ieee.double b) m (-(d : Int)) := by
  have e : rungF Ieee.double b = magN b := by unfold rungF magN; rw [dbl_sign]
  have hI : MOST < IN := by decide +kernel
  rw [read_rung Ieee.double dbl_bin b, e, dbl_inf, if_pos (by omega), dbl_lp]
  have h1 : vE Ieee.double (magN b) ≤ 1074 := by
    unfold vE
    rw [dbl_b]
    split
    · omega
    · have : magN b / 2 ^ 52 ≤ MOST / 2 ^ 52 := Nat.div_le_div_right h
      have e2 : MOST / 2 ^ 52 = 1075 := by decide +kernel
      omega
  have h2 : vM Ieee.double (magN b) < 9007199254740992 := by
    unfold vM
    rw [dbl_b]
    have hlt := Nat.mod_lt (magN b) (Nat.two_pow_pos 52)
    have e3 : (2 : Nat) ^ 52 = 4503599627370496 := by decide +kernel
    rw [e3] at hlt ⊢
    split <;> omega
  refine ⟨vM Ieee.double (magN b), 1074 - vE Ieee.double (magN b), h2, ?_⟩
  have e4 : (-1074 : Int) + (vE Ieee.double (magN b) : Nat) = -((1074 - vE Ieee.double (magN b) : Nat) : Int) := by omega
  rw [e4]
theorem cut_zero (s : Bool) (n d : Nat) : Ieee.Toward.zero.cut s n d ≤ n := by
  unfold Ieee.Toward.cut
  exact Nat.div_le_self _ _
set_option maxRecDepth 100000 in
/-- A small number, cut towards nought: as a whole number, and as a float; and how that float and the one of the whole number stand to the number. -/
theorem small_cut {b : Nat} (hb : b < W64) (h : magN b ≤ MOST) : ∃ (n : Int) (T : Nat), floatToIntVal .f64 b .i64 = some n ∧ -9007199254740992 ≤ n ∧ n ≤ 9007199254740992 ∧
    FloatKind.f64.encode ((FloatKind.f64.decode b).integral .zero) = T ∧ (∃ s m i, FloatKind.f64.decode b = .number s m i) ∧ FloatKind.f64.format.order T b = FloatKind.f64.format.order (floatOfInt .f64 n) b := by
  obtain ⟨m, d, hm, he⟩ := small_read hb h
  have he' : FloatKind.f64.decode b = .number (negF Ieee.double b) m (-(d : Int)) := he
  obtain ⟨s, hs⟩ : ∃ s, negF Ieee.double b = s := ⟨_, rfl⟩
  rw [hs] at he'
  obtain ⟨c, hc⟩ : ∃ c, Ieee.Toward.zero.cut s (m <<< (-(d : Int)).toNat) (- -(d : Int)).toNat = c := ⟨_, rfl⟩
  have hc2 : c ≤ m := by
    have h0 : (-(d : Int)).toNat = 0 := by omega
    have := cut_zero s (m <<< (-(d : Int)).toNat) (- -(d : Int)).toNat
    rw [hc, h0, Nat.shiftLeft_eq, Nat.pow_zero, Nat.mul_one] at this
    exact this
  have hint : (FloatKind.f64.decode b).integral .zero = .number s c 0 := by
    rw [he']
    show Ieee.Datum.number s (Ieee.Toward.zero.cut s (m <<< (-(d : Int)).toNat) (- -(d : Int)).toNat) 0 = _
    rw [hc]
  have hto : (FloatKind.f64.decode b).toInt .zero = some (if s = true then -(c : Int) else c) := by
    unfold Ieee.Datum.toInt
    rw [hint]
    simp [Ieee.signed]
  obtain ⟨n, hn⟩ : ∃ n : Int, (if s = true then -(c : Int) else c) = n := ⟨_, rfl⟩
  rw [hn] at hto
  have hn1 : -9007199254740992 ≤ n ∧ n ≤ 9007199254740992 := by
    cases s
    · simp at hn; omega
    · simp at hn; omega
  refine ⟨n, _, ?_, hn1.1, hn1.2, rfl, ⟨s, m, _, he'⟩, ?_⟩
  · unfold floatToIntVal
    rw [hto]
    have b1 : IntKind.i64.min ≤ n := by have : IntKind.i64.min = -9223372036854775808 := by decide +kernel
                                        omega
    have b2 : n ≤ IntKind.i64.max := by have : IntKind.i64.max = 9223372036854775807 := by decide +kernel
                                        omega
    show (if IntKind.i64.min ≤ n ∧ n ≤ IntKind.i64.max then some n else none) = some n
    rw [if_pos ⟨b1, b2⟩]
  · rw [hint]
    change FloatKind.f64.format.order (Ieee.double.nearest s c 0) b = FloatKind.f64.format.order (Ieee.double.nearest (n < 0) n.natAbs 0) b
    have hna : n.natAbs = c := by
      cases s
      · simp at hn; omega
      · simp at hn; omega
    rw [hna]
    by_cases hc0 : c = 0
    · subst hc0
      have e0 : ∀ t : Bool, Ieee.double.nearest t 0 0 = Ieee.double.word t 0 := fun t => by unfold Ieee.Format.nearest; simp
      have ho : ∀ t : Bool, FloatKind.f64.format.order (Ieee.double.word t 0) b = FloatKind.f64.format.order 0 b := fun t => by
        cases t
        · rfl
        · have e1 : Ieee.double.word true 0 = SG := by decide +kernel
          rw [e1, order_f64 SG b (by decide +kernel) hb, order_f64 0 b (by decide +kernel) hb]
          have n1 : nanB SG = nanB 0 := by decide +kernel
          have n2 : keyI SG = keyI 0 := by decide +kernel
          rw [n1, n2]
      rw [e0, e0, ho, ho]
    · have : decide (n < 0) = s := by
        cases s
        · simp at hn
          exact decide_eq_false (by omega)
        · simp at hn
          exact decide_eq_true (by omega)
      rw [this]

/-- Whether a number is whole, and which. -/
def wholeB (b : Nat) : Bool := !nanB b && decide (magN b ≤ MOST) && (FloatKind.f64.format.order (FloatKind.f64.encode ((FloatKind.f64.decode b).integral .zero)) b == some .eq)
def wholeI (b : Nat) : Int := if wholeB b = true then (floatToIntVal .f64 b .i64).getD 0 else 0
theorem whole_not {b : Nat} (h : wholeB b = false) : wholeI b = 0 := by unfold wholeI; rw [h]; rfl

theorem trunc_run {b : Nat} (h : ∃ s m i, FloatKind.f64.decode b = .number s m i) (w : World) : (callFunc 42 #[.float .f64 b]).run Try.prog w = .ok (.value (.float .f64 (FloatKind.f64.encode ((FloatKind.f64.decode b).integral .zero)))) w := by
  obtain ⟨s, m, i, he⟩ := h
  rw [run_callFunc_extern Try.func42 (by kernel_rfl) (by kernel_rfl) (by kernel_rfl) (e := Extern.MathFloor.toIntegral "math.archTrunc" .zero) (by kernel_rfl)]
  have e : Extern.MathFloor.toIntegral "math.archTrunc" .zero #[.float .f64 b] = pure (.float .f64 (FloatKind.f64.encode ((FloatKind.f64.decode b).integral .zero))) := by
    unfold Extern.MathFloor.toIntegral
    generalize FloatKind.f64.decode = D at he ⊢
    conv => lhs; whnf
    rw [he]
  rw [e]
  rfl
theorem Trunc_any {b T : Nat} (h : ∃ s m i, FloatKind.f64.decode b = .number s m i) (hT : FloatKind.f64.encode ((FloatKind.f64.decode b).integral .zero) = T) (w : World) :
    Calls Try.prog 37 #[.float .f64 b] w fun e w' => e = .returned (.float .f64 T) ∧ w = w' := by
  have hr := fun w => trunc_run h w
  rw [hT] at hr
  clear h hT
  go_enter Try.func37, Try.ntmps37
  go_wp2
  go_ret
  exact ⟨rfl, rfl⟩
end Go.Proofs.Ytanekkcfkahinaa
