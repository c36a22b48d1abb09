/-
  Floats by their bits: how two words of a format stand to each other is how their rungs do, with their signs; none where one is no number. Plain law; nothing of the program stands here.
-/
import Derived.Test.YtkihgbglodfkmaaGreatAid
import Derived.Laws.FloatArith
namespace Go.Proofs.YtkihgbglodfkmaaGreat
open Go.RowKit
set_option linter.unusedVariables false

/-- A word's rung, its sign, whether it is no number, where it stands. -/
def rungF (f : Ieee.Format) (w : Nat) : Nat := w % f.signWeight
def negF (f : Ieee.Format) (w : Nat) : Bool := w / f.signWeight % 2 == 1
def nanF (f : Ieee.Format) (w : Nat) : Bool := decide (f.infRung < rungF f w)
def keyF (f : Ieee.Format) (w : Nat) : Int := if negF f w = true then -(rungF f w : Int) else rungF f w

def vM (f : Ieee.Format) (r : Nat) : Nat := if r < f.binade then r else f.binade + r % f.binade
def vE (f : Ieee.Format) (r : Nat) : Nat := if r < f.binade then 0 else r / f.binade - 1
def vV (f : Ieee.Format) (r : Nat) : Nat := vM f r * 2 ^ vE f r

theorem binade_pos (f : Ieee.Format) : 0 < f.binade := Nat.two_pow_pos _

theorem vV_succ (f : Ieee.Format) (r : Nat) : vV f r < vV f (r + 1) := by
  have hb := binade_pos f
  obtain ⟨B, hB⟩ : ∃ B, f.binade = B := ⟨_, rfl⟩
  unfold vV vM vE
  rw [hB] at hb ⊢
  by_cases h1 : r + 1 < B
  · rw [if_pos h1, if_pos h1, if_pos (by omega), if_pos (by omega)]
    simp
  · rw [if_neg h1, if_neg h1]
    by_cases h2 : r < B
    · have e : r + 1 = B := by omega
      rw [if_pos h2, if_pos h2, e, Nat.mod_self, Nat.div_self hb]
      simp
      omega
    · rw [if_neg h2, if_neg h2]
      have hq : 1 ≤ r / B := (Nat.le_div_iff_mul_le hb).2 (by omega)
      have hm := Nat.div_add_mod r B
      by_cases h3 : r % B + 1 = B
      · have e1 : (r + 1) / B = r / B + 1 := by
          have : r + 1 = B * (r / B + 1) := by rw [Nat.mul_add, Nat.mul_one]; omega
          rw [this, Nat.mul_div_cancel_left _ hb]
        have e2 : (r + 1) % B = 0 := by
          have : r + 1 = B * (r / B + 1) := by rw [Nat.mul_add, Nat.mul_one]; omega
          rw [this, Nat.mul_mod_right]
        rw [e1, e2]
        obtain ⟨q, hq'⟩ : ∃ q, r / B = q + 1 := ⟨r / B - 1, by omega⟩
        rw [hq']
        simp only [Nat.add_sub_cancel, Nat.add_zero]
        rw [Nat.pow_succ, Nat.mul_comm (2 ^ q) 2, ← Nat.mul_assoc]
        exact Nat.mul_lt_mul_of_pos_right (by omega) (Nat.two_pow_pos _)
      · have hlt := Nat.mod_lt r hb
        have e1 : (r + 1) / B = r / B := by
          have : r + 1 = (r % B + 1) + B * (r / B) := by omega
          rw [this, Nat.add_mul_div_left _ _ hb, Nat.div_eq_of_lt (by omega), Nat.zero_add]
        have e2 : (r + 1) % B = r % B + 1 := by
          have : r + 1 = (r % B + 1) + B * (r / B) := by omega
          rw [this, Nat.add_mul_mod_self_left, Nat.mod_eq_of_lt (by omega)]
        rw [e1, e2]
        exact Nat.mul_lt_mul_of_pos_right (by omega) (Nat.two_pow_pos _)
theorem vV_lt (f : Ieee.Format) {r s : Nat} (h : r < s) : vV f r < vV f s := by
  induction s with
  | zero => omega
  | succ s ih =>
    rcases Nat.lt_or_ge r s with hl | hl
    · exact Nat.lt_trans (ih hl) (vV_succ f s)
    · obtain rfl : r = s := by omega
      exact vV_succ f r
theorem vV_zero (f : Ieee.Format) : vV f 0 = 0 := by
  unfold vV vM
  rw [if_pos (binade_pos f)]
  simp

theorem read_rung (f : Ieee.Format) (hbi : f.binade ≤ f.infRung) (w : Nat) : f.read w = if rungF f w < f.infRung then .number (negF f w) (vM f (rungF f w)) (f.leastPlace + (vE f (rungF f w) : Nat)) else if rungF f w = f.infRung then .infinity (negF f w) else .nan (negF f w) (rungF f w - f.infRung) := by
  unfold Ieee.Format.read vM vE rungF negF
  simp only
  by_cases h1 : w % f.signWeight < f.binade
  · rw [if_pos h1, if_pos h1, if_pos h1, if_pos (by omega)]
    simp
  · rw [if_neg h1, if_neg h1, if_neg h1]

theorem cmp_congr {a b c d : Int} (h1 : a < b ↔ c < d) (h2 : a = b ↔ c = d) : compare a b = compare c d := by
  simp only [compare, compareOfLessAndEq, h1, h2]
theorem cmp_lt {a b : Int} (h : a < b) : compare a b = .lt := by simp only [compare, compareOfLessAndEq, h, if_true]
theorem cmp_gt {a b : Int} (h : b < a) : compare a b = .gt := by
  have h1 : ¬ a < b := by omega
  have h2 : ¬ a = b := by omega
  simp only [compare, compareOfLessAndEq, h1, h2, if_false]
theorem cmp_eq (a : Int) : compare a a = .eq := by
  have h1 : ¬ a < a := by omega
  simp only [compare, compareOfLessAndEq, h1, if_false, if_true]
theorem shift_eq (m k : Nat) : m <<< k = m * 2 ^ k := Nat.shiftLeft_eq m k

theorem order_numbers (L : Int) (s t : Bool) (m n ex ey r q : Nat) (h1 : m * 2 ^ ex < n * 2 ^ ey ↔ r < q) (h2 : n * 2 ^ ey < m * 2 ^ ex ↔ q < r) (h3 : m * 2 ^ ex = 0 ↔ r = 0) (h4 : n * 2 ^ ey = 0 ↔ q = 0) :
    (Ieee.Datum.number s m (L + ex)).order (.number t n (L + ey)) = some (compare (if s = true then -(r : Int) else r) (if t = true then -(q : Int) else q)) := by
  have e1 : (L + (ex : Int) - min (L + (ex : Int)) (L + (ey : Int))).toNat = ex - min ex ey := by omega
  have e2 : (L + (ey : Int) - min (L + (ex : Int)) (L + (ey : Int))).toNat = ey - min ex ey := by omega
  have p1 : m * 2 ^ ex = (m * 2 ^ (ex - min ex ey)) * 2 ^ min ex ey := by
    rw [Nat.mul_assoc, ← Nat.pow_add]
    congr 2
    omega
  have p2 : n * 2 ^ ey = (n * 2 ^ (ey - min ex ey)) * 2 ^ min ex ey := by
    rw [Nat.mul_assoc, ← Nat.pow_add]
    congr 2
    omega
  have hp : 0 < 2 ^ min ex ey := Nat.two_pow_pos _
  obtain ⟨X, hX⟩ : ∃ X, m * 2 ^ (ex - min ex ey) = X := ⟨_, rfl⟩
  obtain ⟨Y, hY⟩ : ∃ Y, n * 2 ^ (ey - min ex ey) = Y := ⟨_, rfl⟩
  obtain ⟨p, hp'⟩ : ∃ p, 2 ^ min ex ey = p := ⟨_, rfl⟩
  rw [p1, p2, hX, hY, hp'] at h1 h2
  rw [p1, hX, hp'] at h3
  rw [p2, hY, hp'] at h4
  rw [hp'] at hp
  have g1 : X < Y ↔ r < q := (Nat.mul_lt_mul_right hp).symm.trans h1
  have g2 : Y < X ↔ q < r := (Nat.mul_lt_mul_right hp).symm.trans h2
  have g3 : X = 0 ↔ r = 0 := by rw [← h3, Nat.mul_eq_zero]; omega
  have g4 : Y = 0 ↔ q = 0 := by rw [← h4, Nat.mul_eq_zero]; omega
  simp only [Ieee.Datum.order, e1, e2, Ieee.signed, shift_eq, hX, hY]
  congr 1
  refine cmp_congr ?_ ?_
  · cases s <;> cases t <;> simp only [Bool.false_eq_true, if_false, if_true] <;> omega
  · cases s <;> cases t <;> simp only [Bool.false_eq_true, if_false, if_true] <;> omega

theorem order_keys (f : Ieee.Format) (hbi : f.binade ≤ f.infRung) (x y : Nat) : f.order x y = if nanF f x = true ∨ nanF f y = true then none else some (compare (keyF f x) (keyF f y)) := by
  have hb := binade_pos f
  unfold Ieee.Format.order
  rw [read_rung f hbi x, read_rung f hbi y]
  unfold nanF keyF
  obtain ⟨r, hr⟩ : ∃ r, rungF f x = r := ⟨_, rfl⟩
  obtain ⟨q, hq⟩ : ∃ q, rungF f y = q := ⟨_, rfl⟩
  obtain ⟨I, hI⟩ : ∃ I, f.infRung = I := ⟨_, rfl⟩
  obtain ⟨s, hs⟩ : ∃ s, negF f x = s := ⟨_, rfl⟩
  obtain ⟨t, ht⟩ : ∃ t, negF f y = t := ⟨_, rfl⟩
  rw [hr, hq, hI, hs, ht]
  rw [hI] at hbi
  simp only [decide_eq_true_eq]
  rcases Nat.lt_trichotomy r I with h1 | h1 | h1
  · rcases Nat.lt_trichotomy q I with h2 | h2 | h2
    · rw [if_pos h1, if_pos h2, if_neg (by omega)]
      have hV : ∀ a b, vV f a < vV f b ↔ a < b := fun a b => ⟨fun h => by
        rcases Nat.lt_trichotomy a b with h' | h' | h'
        · exact h'
        · subst h'; omega
        · have := vV_lt f h'; omega, vV_lt f⟩
      have hZ : ∀ a, vV f a = 0 ↔ a = 0 := fun a => ⟨fun h => by
        rcases Nat.eq_zero_or_pos a with h' | h'
        · exact h'
        · have := vV_lt f h'; rw [vV_zero] at this; omega, fun h => by rw [h, vV_zero]⟩
      exact order_numbers f.leastPlace s t _ _ _ _ r q (hV r q) (hV q r) (hZ r) (hZ q)
    · subst h2
      rw [if_pos h1, if_neg (by omega), if_pos rfl, if_neg (by omega)]
      simp only [Ieee.Datum.order]
      congr 1
      cases t
      · rw [cmp_lt (by cases s <;> simp only [Bool.false_eq_true, if_false, if_true] <;> omega)]
        rfl
      · rw [cmp_gt (by cases s <;> simp only [Bool.false_eq_true, if_false, if_true] <;> omega)]
        rfl
    · rw [if_pos h1, if_neg (by omega), if_neg (by omega), if_pos (by omega)]
      rfl
  · subst h1
    rcases Nat.lt_trichotomy q r with h2 | h2 | h2
    · rw [if_neg (by omega), if_pos rfl, if_pos h2, if_neg (by omega)]
      simp only [Ieee.Datum.order]
      congr 1
      cases s
      · rw [cmp_gt (by cases t <;> simp only [Bool.false_eq_true, if_false, if_true] <;> omega)]
        rfl
      · rw [cmp_lt (by cases t <;> simp only [Bool.false_eq_true, if_false, if_true] <;> omega)]
        rfl
    · subst h2
      rw [if_neg (by omega), if_pos rfl, if_neg (by omega), if_pos rfl, if_neg (by omega)]
      simp only [Ieee.Datum.order]
      congr 1
      cases s <;> cases t <;> simp only [Bool.false_eq_true, if_false, if_true]
      · rw [cmp_eq]; rfl
      · rw [cmp_gt (by omega)]; rfl
      · rw [cmp_lt (by omega)]; rfl
      · rw [cmp_eq]; rfl
    · rw [if_neg (by omega), if_pos rfl, if_neg (by omega), if_neg (by omega), if_pos (by omega)]
      rfl
  · rw [if_neg (show ¬ r < I by omega), if_neg (show ¬ r = I by omega), if_pos (show I < r ∨ I < q from Or.inl h1)]
    rcases Nat.lt_trichotomy q I with h2 | h2 | h2
    · rw [if_pos h2]; rfl
    · rw [if_neg (show ¬ q < I by omega), if_pos h2]; rfl
    · rw [if_neg (show ¬ q < I by omega), if_neg (show ¬ q = I by omega)]; rfl
end Go.Proofs.YtkihgbglodfkmaaGreat
