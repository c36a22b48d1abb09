/-
  Layer 19 (binary): the quotient of two whole numbers that are no more than 200: it is a number, and above 0 if the first one is.
-/
import Derived.Test.YtkkfbpbgidanoaaLives
import Derived.Laws.FloatArith
namespace Go.Proofs.Ytkkfbpbgidanoaa
open Go.RowKit
set_option linter.unusedVariables false

def readB (p : Nat) : Bool := match Ieee.double.read (floatOfInt .f64 p) with
  | .number neg m i => !neg && decide (0 < m) && decide (m < 2 ^ 53) && decide (-60 ≤ i) && decide (i ≤ 0)
  | _ => false
theorem read_tab : ∀ p, p < 201 → 0 < p → readB p = true := by decide +kernel
theorem read_at (p : Nat) (h0 : 0 < p) (h : p < 201) : ∃ m i, Ieee.double.read (floatOfInt .f64 p) = .number false m i ∧ 0 < m ∧ m < 2 ^ 53 ∧ -60 ≤ i ∧ i ≤ 0 := by
  have ht := read_tab p h h0
  unfold readB at ht
  split at ht
  · rename_i neg m i he
    simp only [Bool.and_eq_true, Bool.not_eq_true', decide_eq_true_eq] at ht
    obtain ⟨⟨⟨⟨rfl, h1⟩, h2⟩, h3⟩, h4⟩ := ht
    exact ⟨m, i, he, h1, h2, h3, h4⟩
  · exact absurd ht (by simp)
theorem read_nought : Ieee.double.read (floatOfInt .f64 0) = .number false 0 (-1074) := by decide +kernel

theorem nearest_pos (mag : Nat) (place : Int) (hm : 0 < mag) (hp : -1000 ≤ place) :
    0 < Ieee.double.nearest false mag place ∧ Ieee.double.nearest false mag place ≤ 9218868437227405312 := by
  unfold Ieee.Format.nearest
  rw [if_neg (by omega)]
  obtain ⟨g, hg⟩ : ∃ g : Nat, g = mag.log2 := ⟨_, rfl⟩
  rw [← hg]
  have e1 : Ieee.double.leastPlace = -1074 := by decide +kernel
  have e2 : Ieee.double.infRung = 9218868437227405312 := by decide +kernel
  have e3 : Ieee.double.binade = 4503599627370496 := by decide +kernel
  have e4 : (Ieee.double.fractionBits : Int) = 52 := by decide +kernel
  simp only [e1, e2, e3, e4, Ieee.Format.word]
  obtain ⟨k, hk⟩ : ∃ k, Ieee.Toward.even.cut false (mag <<< (place - max (place + (g : Int) - 52) (-1074)).toNat) (max (place + (g : Int) - 52) (-1074) - place).toNat = k := ⟨_, rfl⟩
  rw [hk]
  simp only [Bool.false_eq_true, if_false]
  obtain ⟨l, hl⟩ : ∃ l : Int, max (place + (g : Int) - 52) (-1074) = l := ⟨_, rfl⟩
  have h1 : -1052 ≤ l := by omega
  rw [hl]
  obtain ⟨x, hx⟩ : ∃ x : Nat, (l - -1074).toNat = x := ⟨_, rfl⟩
  have h2 : 1 ≤ x := by omega
  rw [hx]
  refine ⟨?_, Nat.min_le_right _ _⟩
  refine Nat.lt_min.2 ⟨?_, Nat.zero_lt_succ _⟩
  have : 0 < x * 4503599627370496 := Nat.mul_pos h2 (Nat.zero_lt_succ _)
  exact Nat.lt_of_lt_of_le this (Nat.le_add_right _ _)

theorem quo_any (p q : Nat) (hp : p < 201) (hq0 : 0 < q) (hq : q < 201) :
    ∃ r, floatBits .quo .f64 (floatOfInt .f64 p) (floatOfInt .f64 q) = some r ∧ (0 < p → 0 < r ∧ r ≤ 9218868437227405312) := by
  obtain ⟨n, j, hn, hn0, hn1, hj1, hj2⟩ := read_at q hq0 hq
  by_cases h : 0 < p
  · obtain ⟨m, i, hm, hm0, hm1, hi1, hi2⟩ := read_at p h hp
    change ∃ r, ((Ieee.double.read (floatOfInt .f64 p)).quotient 54 (Ieee.double.read (floatOfInt .f64 q))).map Ieee.double.write = some r ∧ _
    rw [hm, hn]
    have hg : n.log2 < 53 := (Nat.log2_lt (by omega)).2 hn1
    obtain ⟨more, hmore⟩ : ∃ more, 54 + n.log2 - m.log2 = more := ⟨_, rfl⟩
    have hd : 0 < m <<< more := by
      rw [Nat.shiftLeft_eq]
      exact Nat.mul_pos hm0 (Nat.two_pow_pos _)
    obtain ⟨d, hd'⟩ : ∃ d, m <<< more = d := ⟨_, rfl⟩
    simp only [Ieee.Datum.quotient, if_neg (show ¬ n = 0 by omega), hmore, hd']
    rw [hd'] at hd
    have hmag : 0 < 2 * (d / n) + (d % n != 0).toNat := by
      by_cases hz : d / n = 0
      · have hlt : d < n := by
          rcases Nat.div_eq_zero_iff.1 hz with h | h
          · omega
          · exact h
        have : d % n = d := Nat.mod_eq_of_lt hlt
        rw [this]
        have : (d != 0) = true := by simp; omega
        rw [this]
        simp
      · omega
    refine ⟨_, rfl, fun _ => ?_⟩
    exact nearest_pos _ _ hmag (by omega)
  · obtain rfl : p = 0 := by omega
    change ∃ r, ((Ieee.double.read (floatOfInt .f64 0)).quotient 54 (Ieee.double.read (floatOfInt .f64 q))).map Ieee.double.write = some r ∧ _
    rw [read_nought, hn]
    simp only [Ieee.Datum.quotient, if_neg (show ¬ n = 0 by omega)]
    exact ⟨_, rfl, fun h => absurd h (by omega)⟩
end Go.Proofs.Ytkkfbpbgidanoaa
