/-
  Floats by their bits: the order of all numbers, by the reference and by the program; the greater and the lesser one: the contracts. No condition but that a word has 64 bits.
-/
import Derived.Test.YtkihgbglodfkmaaGreatFlBits
namespace Go.Proofs.YtkihgbglodfkmaaGreat
open Go.RowKit
set_option linter.unusedVariables false

/-- Where a number stands among all. -/
def placeN (b : Nat) : Nat := if nanB b = true then 0 else if SG ≤ b then SG - (b - SG) else SG + 1 + b
/-- Which of two comes first. -/
def cmpI (a b : Nat) : Int := if placeN a < placeN b then -1 else if placeN b < placeN a then 1 else 0
theorem num_le {b : Nat} (h : nanB b = false) : magN b ≤ IN := by
  have := of_decide_eq_false h
  omega
theorem place_pos {b : Nat} (hb : b < W64) (h : nanB b = false) : 0 < placeN b := by
  have h1 := num_le h
  have h2 := sg_in
  unfold placeN
  rw [h]
  simp only [Bool.false_eq_true, if_false]
  by_cases hs : SG ≤ b
  · rw [if_pos hs]
    rw [mag_hi hs hb] at h1
    omega
  · rw [if_neg hs]
    omega
theorem place_nan {b : Nat} (h : nanB b = true) : placeN b = 0 := by unfold placeN; rw [h]; rfl
theorem place_key {a b : Nat} (ha : a < W64) (hb : b < W64) (h1 : nanB a = false) (h2 : nanB b = false) (hz : ¬ (magN a = 0 ∧ magN b = 0)) : placeN a < placeN b ↔ keyI a < keyI b := by
  have g1 := num_le h1
  have g2 := num_le h2
  have g3 := sg_in
  unfold placeN keyI
  rw [h1, h2]
  simp only [Bool.false_eq_true, if_false]
  by_cases c1 : SG ≤ a <;> by_cases c2 : SG ≤ b
  · rw [mag_hi c1 ha] at g1 hz ⊢
    rw [mag_hi c2 hb] at g2 hz ⊢
    rw [if_pos c1, if_pos c2, if_pos c1, if_pos c2]
    omega
  · rw [mag_hi c1 ha] at g1 hz ⊢
    rw [mag_lo (by omega : b < SG)] at g2 hz ⊢
    rw [if_pos c1, if_neg c2, if_pos c1, if_neg c2]
    omega
  · rw [mag_lo (by omega : a < SG)] at g1 hz ⊢
    rw [mag_hi c2 hb] at g2 hz ⊢
    rw [if_neg c1, if_pos c2, if_neg c1, if_pos c2]
    omega
  · rw [mag_lo (by omega : a < SG)] at g1 hz ⊢
    rw [mag_lo (by omega : b < SG)] at g2 hz ⊢
    rw [if_neg c1, if_neg c2, if_neg c1, if_neg c2]
    omega
theorem place_inj {a b : Nat} (ha : a < W64) (hb : b < W64) : placeN a = placeN b ↔ bitsN a = bitsN b := by
  have g3 := sg_in
  have gn := sg_nn
  have hnn : nanB NN = true := by decide +kernel
  cases h1 : nanB a <;> cases h2 : nanB b
  · have g1 := num_le h1
    have g2 := num_le h2
    unfold placeN bitsN
    rw [h1, h2]
    simp only [Bool.false_eq_true, if_false]
    by_cases c1 : SG ≤ a <;> by_cases c2 : SG ≤ b
    · rw [mag_hi c1 ha] at g1
      rw [mag_hi c2 hb] at g2
      rw [if_pos c1, if_pos c2]
      omega
    · rw [mag_hi c1 ha] at g1
      rw [mag_lo (by omega : b < SG)] at g2
      rw [if_pos c1, if_neg c2]
      omega
    · rw [mag_lo (by omega : a < SG)] at g1
      rw [mag_hi c2 hb] at g2
      rw [if_neg c1, if_pos c2]
      omega
    · rw [if_neg c1, if_neg c2]
      omega
  · have p := place_pos ha h1
    rw [place_nan h2]
    unfold bitsN
    rw [h1, h2]
    simp only [Bool.false_eq_true, if_false, if_true]
    constructor
    · intro h; omega
    · intro h
      rw [h, hnn] at h1
      cases h1
  · have p := place_pos hb h2
    rw [place_nan h1]
    unfold bitsN
    rw [h1, h2]
    simp only [Bool.false_eq_true, if_false, if_true]
    constructor
    · intro h; omega
    · intro h
      rw [← h, hnn] at h2
      cases h2
  · rw [place_nan h1, place_nan h2]
    unfold bitsN
    rw [h1, h2]
    simp
theorem cmpI_zero {a b : Nat} (ha : a < W64) (hb : b < W64) : (cmpI a b = 0) ↔ bitsN a = bitsN b := by
  rw [← place_inj ha hb]
  unfold cmpI
  by_cases c1 : placeN a < placeN b
  · rw [if_pos c1]; omega
  · rw [if_neg c1]
    by_cases c2 : placeN b < placeN a
    · rw [if_pos c2]; omega
    · rw [if_neg c2]; omega
theorem cmpI_is (a b : Nat) : cmpI a b = -1 ∨ cmpI a b = 0 ∨ cmpI a b = 1 := by
  unfold cmpI
  by_cases c1 : placeN a < placeN b
  · rw [if_pos c1]; omega
  · rw [if_neg c1]
    by_cases c2 : placeN b < placeN a
    · rw [if_pos c2]; omega
    · rw [if_neg c2]; omega

set_option maxRecDepth 100000 in
theorem place_any (b : Nat) (hb : b < W64) (w : World) : Calls Tryz.prog 52 #[.float .f64 b] w fun e w' => e = .returned (.int .u64 (placeN b)) ∧ w = w' := by
  have H1 := Lib.hid (rKind_any b w)
  have h28 := bits_run b
  have hs1 : SG = 9223372036854775808 := rfl
  have hs2 : IN = 9218868437227405312 := rfl
  have hs3 : W64 = 18446744073709551616 := rfl
  cases hn : nanB b
  · have hk : ((kindI b : Int) == 0) = false := by
      rw [beq_eq_false_iff_ne]
      unfold kindI
      rw [hn]
      simp only [Bool.false_eq_true, if_false]
      repeat' split
      all_goals omega
    have hle := num_le hn
    obtain ⟨k, hk'⟩ : ∃ k, kindI b = k := ⟨_, rfl⟩
    rw [hk'] at H1 hk
    by_cases hs : SG ≤ b
    · rw [mag_hi hs hb] at hle
      have HE : Hid ((placeN b : Int) = 9223372036854775808 - ((b : Int) - 9223372036854775808)) := by
        unfold Hid placeN
        rw [hn, if_pos hs]
        simp only [Bool.false_eq_true, if_false]
        omega
      obtain ⟨x, hx⟩ : ∃ x : Int, (b : Int) = x := ⟨_, rfl⟩
      have c1 : (9223372036854775808 : Int) ≤ x := by omega
      have c2 : x ≤ 18442240474082181120 := by omega
      rw [hx] at HE h28
      clear hx hs hn hle hb hk' hs1 hs2 hs3
      go_enter Tryz.func52, Tryz.ntmps52
      go_wp2_with (go_at_call 67; (refine H1.out.mono ?_); rintro e w1 ⟨rfl, rfl⟩)
      go_ret
      exact ⟨ret_int HE.out.symm, rfl⟩
    · rw [mag_lo (by omega : b < SG)] at hle
      have HE : Hid ((placeN b : Int) = 9223372036854775809 + (b : Int)) := by
        unfold Hid placeN
        rw [hn, if_neg hs]
        simp only [Bool.false_eq_true, if_false]
        omega
      obtain ⟨x, hx⟩ : ∃ x : Int, (b : Int) = x := ⟨_, rfl⟩
      have c1 : ¬ (9223372036854775808 : Int) ≤ x := by omega
      have c2 : x ≤ 9218868437227405312 := by omega
      have c3 : 0 ≤ x := by omega
      rw [hx] at HE h28
      clear hx hs hn hle hb hk' hs1 hs2 hs3
      go_enter Tryz.func52, Tryz.ntmps52
      go_wp2_with (go_at_call 67; (refine H1.out.mono ?_); rintro e w1 ⟨rfl, rfl⟩)
      go_ret
      exact ⟨ret_int HE.out.symm, rfl⟩
  · have hk : kindI b = 0 := by unfold kindI; rw [hn]; rfl
    rw [hk] at H1
    have HE := Lib.hid (place_nan hn)
    clear hn hb hk hs1 hs2 hs3
    go_enter Tryz.func52, Tryz.ntmps52
    go_wp2_with (go_at_call 67; (refine H1.out.mono ?_); rintro e w1 ⟨rfl, rfl⟩)
    go_ret
    exact ⟨by rw [HE.out]; rfl, rfl⟩

theorem rCmp_any (a b : Nat) (ha : a < W64) (hb : b < W64) (w : World) : Calls Tryz.prog 33 #[.float .f64 a, .float .f64 b] w fun e w' => e = .returned (.int .i64 (cmpI a b)) ∧ w = w' := by
  have H1 := Lib.hid (place_any a ha w)
  have H2 := Lib.hid (place_any b hb w)
  have HE : Hid (cmpI a b = if placeN a < placeN b then -1 else if placeN b < placeN a then 1 else 0) := rfl
  obtain ⟨p, hp⟩ : ∃ p, placeN a = p := ⟨_, rfl⟩
  obtain ⟨q, hq⟩ : ∃ q, placeN b = q := ⟨_, rfl⟩
  rw [hp] at H1 HE
  rw [hq] at H2 HE
  clear hp hq ha hb
  rcases Nat.lt_trichotomy p q with h | h | h
  · rw [HE.out, if_pos h]
    clear HE
    go_enter Tryz.func33, Tryz.ntmps33
    go_wp2_with fail
    refine H1.out.mono ?_
    rintro e w1 ⟨rfl, rfl⟩
    go_wp2_with fail
    refine H2.out.mono ?_
    rintro e w1 ⟨rfl, rfl⟩
    go_wp2_with fail
    go_ret
    exact ⟨rfl, rfl⟩
  · subst h
    rw [HE.out, if_neg (Nat.lt_irrefl _), if_neg (Nat.lt_irrefl _)]
    clear HE
    go_enter Tryz.func33, Tryz.ntmps33
    go_wp2_with fail
    refine H1.out.mono ?_
    rintro e w1 ⟨rfl, rfl⟩
    go_wp2_with fail
    refine H2.out.mono ?_
    rintro e w1 ⟨rfl, rfl⟩
    go_wp2_with fail
    go_ret
    exact ⟨rfl, rfl⟩
  · rw [HE.out, if_neg (by omega), if_pos h]
    clear HE
    have h' : ¬ p < q := by omega
    go_enter Tryz.func33, Tryz.ntmps33
    go_wp2_with fail
    refine H1.out.mono ?_
    rintro e w1 ⟨rfl, rfl⟩
    go_wp2_with fail
    refine H2.out.mono ?_
    rintro e w1 ⟨rfl, rfl⟩
    go_wp2_with fail
    go_ret
    exact ⟨rfl, rfl⟩
end Go.Proofs.YtkihgbglodfkmaaGreat
