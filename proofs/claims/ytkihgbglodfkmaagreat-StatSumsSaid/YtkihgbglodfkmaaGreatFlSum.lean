/-
  Floats by their bits: sums of any numbers, one behind the other, where a sum that is no number has whatever bits; quotients of whole numbers: plain laws, and the operations' runs. No condition but that a word has 64 bits.
-/
import Derived.Test.YtkihgbglodfkmaaGreatFlKind
namespace Go.Proofs.YtkihgbglodfkmaaGreat
open Go.RowKit
set_option linter.unusedVariables false

theorem nan_answer (x y t : Nat) : Question.cut (.nanBits .f64 x y) t < W64 ∧ nanB (Question.cut (.nanBits .f64 x y) t) = true := by
  have e : Question.cut (.nanBits .f64 x y) t = (t % 2) * 2 ^ 63 + 0x7ff0000000000000 + 1 + (t / 2) % (2 ^ 52 - 1) := rfl
  obtain ⟨r, hr⟩ : ∃ r, Question.cut (.nanBits .f64 x y) t = r := ⟨_, rfl⟩
  rw [hr] at e ⊢
  have h1 : (t / 2) % (2 ^ 52 - 1) < 2 ^ 52 - 1 := Nat.mod_lt _ (by decide)
  have hs : SG = 9223372036854775808 := rfl
  have hi : IN = 9218868437227405312 := rfl
  have hw : W64 = 18446744073709551616 := rfl
  have h2 : t % 2 = 0 ∨ t % 2 = 1 := by omega
  refine ⟨by rcases h2 with h | h <;> rw [h] at e <;> omega, decide_eq_true ?_⟩
  rcases h2 with h | h
  · rw [mag_lo (by rw [h] at e; omega)]
    rw [h] at e
    omega
  · rw [mag_hi (by rw [h] at e; omega) (by rw [h] at e; omega)]
    rw [h] at e
    omega

/-- An operation on two numbers, valid or not. -/
theorem arith_run (op : BinOp) (hop : op = .add ∨ op = .sub ∨ op = .mul ∨ op = .quo) (x y : Nat) (w : World) : ∃ r w', (binOp op 40 (.float .f64 x) (.float .f64 y)).run Tryz.prog w = .ok (.float .f64 r) w' ∧ Below w.heap.size w w' ∧ w'.heap = w.heap ∧ r < W64 ∧
    (∀ v, floatBits op .f64 x y = some v → r = v) ∧ (floatBits op .f64 x y = none → nanB r = true) := by
  cases h : floatBits op .f64 x y with
  | some v =>
    have hl : v < W64 := by
      have := floatBits_wf h
      simpa [Lit.wf, W64] using this
    exact ⟨v, w, run_float_arith w op 40 .f64 x y v h, Below.refl _ _, rfl, hl, fun u hu => by cases hu; rfl, fun h' => by cases h'⟩
  | none =>
    obtain ⟨h1, h2⟩ := nan_answer x y (w.tape w.drawn (.nanBits .f64 x y))
    refine ⟨_, w.drew, ?_, (Below.refl _ _).drew, rfl, h1, (fun u hu => by cases hu), fun _ => h2⟩
    unfold floatBits at h
    rcases hop with rfl | rfl | rfl | rfl
    all_goals
      simp only at h
      simp [binOp, Op.floatArith, h, Question.forced]

theorem read_nan {y : Nat} (hy : nanB y = true) : ∃ s t, Ieee.double.read y = .nan s t := by
  have h := of_decide_eq_true hy
  rw [read_rung Ieee.double dbl_bin y]
  have e : rungF Ieee.double y = magN y := by unfold rungF magN; rw [dbl_sign]
  rw [e, dbl_inf, if_neg (by omega), if_neg (by omega)]
  exact ⟨_, _, rfl⟩
theorem add_nan {y : Nat} (x : Nat) (hy : nanB y = true) : floatBits .add .f64 y x = none := by
  obtain ⟨s, t, e⟩ := read_nan hy
  change ((Ieee.double.read y).sum (Ieee.double.read x)).map Ieee.double.write = none
  rw [e]
  rfl

/-- The sum of some numbers, where it is a number at every step. -/
def sumO (l : List Nat) : Option Nat := l.foldl (fun s x => s.bind fun v => floatBits .add .f64 v x) (some 0)
theorem sumO_snoc (l : List Nat) (x : Nat) : sumO (l ++ [x]) = (sumO l).bind fun v => floatBits .add .f64 v x := by simp [sumO]
/-- These bits are that sum's, or no number's. -/
def Sum_ (y : Nat) (o : Option Nat) : Prop := y < W64 ∧ match o with
  | some v => y = v
  | none => nanB y = true
theorem Sum_.start : Sum_ 0 (sumO []) := ⟨by decide +kernel, rfl⟩
theorem Sum_.next {y r x : Nat} {o : Option Nat} (h : Sum_ y o) (hr : r < W64) (h1 : ∀ v, floatBits .add .f64 y x = some v → r = v) (h2 : floatBits .add .f64 y x = none → nanB r = true) : Sum_ r (o.bind fun v => floatBits .add .f64 v x) := by
  obtain ⟨hy, ho⟩ := h
  cases o with
  | some v =>
    have ho' : y = v := ho
    subst ho'
    refine ⟨hr, ?_⟩
    show match floatBits .add .f64 y x with | some v => r = v | none => nanB r = true
    cases hf : floatBits .add .f64 y x with
    | some u => exact h1 u hf
    | none => exact h2 hf
  | none => exact ⟨hr, h2 (add_nan x ho)⟩
theorem Sum_.bits {y z : Nat} {o : Option Nat} (h : Sum_ y o) (k : Sum_ z o) : bitsN y = bitsN z := by
  obtain ⟨_, h⟩ := h
  obtain ⟨_, k⟩ := k
  cases o with
  | some v =>
    have h' : y = v := h
    have k' : z = v := k
    rw [h', k']
  | none =>
    have h' : nanB y = true := h
    have k' : nanB z = true := k
    unfold bitsN
    rw [h', k']
    rfl

/-! ### Whole numbers as floats -/
theorem cut_low (mag k : Nat) (neg : Bool) : Ieee.Toward.even.cut neg (mag <<< k) 0 = mag * 2 ^ k := by
  unfold Ieee.Toward.cut
  simp [Nat.shiftLeft_eq, Nat.mod_one]
theorem cut_le (mag drop : Nat) (neg : Bool) (h : drop ≤ mag.log2) : Ieee.Toward.even.cut neg mag drop ≤ mag / 2 ^ drop + 1 := by
  unfold Ieee.Toward.cut
  have e : 1 <<< min drop (mag.log2 + 2) = 2 ^ drop := by
    rw [Nat.min_eq_left (by omega), Nat.shiftLeft_eq, Nat.one_mul]
  simp only [e]
  have : ∀ b : Bool, b.toNat ≤ 1 := fun b => by cases b <;> decide
  exact Nat.add_le_add_left (this _) _
theorem dbl_lp : Ieee.double.leastPlace = -1074 := by decide +kernel
theorem dbl_fb : (Ieee.double.fractionBits : Int) = 52 := by decide +kernel
theorem dbl_b : Ieee.double.binade = 2 ^ 52 := by decide +kernel
theorem dbl_i : Ieee.double.infRung = 2047 * 2 ^ 52 := by decide +kernel
theorem two53 : (2 : Nat) ^ 53 = 2 * 2 ^ 52 := by decide +kernel
theorem log_le {mag : Nat} (h0 : 0 < mag) (h1 : mag ≤ 9223372036854775808) : mag.log2 ≤ 63 := by
  have h2 : mag < 2 ^ 64 := Nat.lt_of_le_of_lt h1 (by decide +kernel)
  have h3 := (Nat.log2_lt (by omega)).2 h2
  exact Nat.lt_succ_iff.1 h3
theorem kept_le (neg : Bool) (mag L : Nat) (hL : mag.log2 = L) (h0 : 0 < mag) : Ieee.Toward.even.cut neg (mag <<< (0 - ((L : Int) - 52)).toNat) ((L : Int) - 52 - 0).toNat ≤ 2 ^ 53 := by
  have hlt : mag < 2 ^ (L + 1) := by rw [← hL]; exact Nat.lt_log2_self
  by_cases hl : L ≤ 52
  · have e3 : (0 - ((L : Int) - 52)).toNat = 52 - L := by omega
    have e4 : ((L : Int) - 52 - 0).toNat = 0 := by omega
    rw [e3, e4, cut_low]
    have := Nat.mul_le_mul_right (2 ^ (52 - L)) (Nat.le_of_lt hlt)
    rw [← Nat.pow_add] at this
    have e5 : L + 1 + (52 - L) = 53 := by omega
    rw [e5] at this
    exact this
  · have e3 : (0 - ((L : Int) - 52)).toNat = 0 := by omega
    have e4 : ((L : Int) - 52 - 0).toNat = L - 52 := by omega
    rw [e3, e4, Nat.shiftLeft_eq, Nat.pow_zero, Nat.mul_one]
    have hc := cut_le mag (L - 52) neg (by rw [hL]; omega)
    have hd : mag / 2 ^ (L - 52) < 2 ^ 53 := by
      rw [Nat.div_lt_iff_lt_mul (Nat.two_pow_pos _), ← Nat.pow_add]
      have e5 : 53 + (L - 52) = L + 1 := by omega
      rw [e5]
      exact hlt
    exact Nat.le_trans hc hd
/-- The rung of a whole number that is not nought. -/
theorem nearest_int (neg : Bool) (mag : Nat) (h0 : 0 < mag) (h1 : mag ≤ 9223372036854775808) : ∃ r, Ieee.double.nearest neg mag 0 = Ieee.double.word neg r ∧ Ieee.double.binade ≤ r ∧ r < Ieee.double.infRung := by
  have hlog := log_le h0 h1
  obtain ⟨L, hL⟩ : ∃ L, mag.log2 = L := ⟨_, rfl⟩
  rw [hL] at hlog
  have hK := kept_le neg mag L hL h0
  rw [two53] at hK
  have hB := Nat.two_pow_pos 52
  unfold Ieee.Format.nearest
  rw [if_neg (by omega), dbl_lp, dbl_fb, hL, dbl_b, dbl_i]
  have e1 : max ((0 : Int) + (L : Int) - 52) (-1074) = (L : Int) - 52 := by omega
  simp only [e1]
  have e2 : ((L : Int) - 52 - (-1074)).toNat = L + 1022 := by omega
  rw [e2]
  obtain ⟨B, hB'⟩ : ∃ B : Nat, 2 ^ 52 = B := ⟨_, rfl⟩
  obtain ⟨K, hK'⟩ : ∃ K, Ieee.Toward.even.cut neg (mag <<< (0 - ((L : Int) - 52)).toNat) ((L : Int) - 52 - 0).toNat = K := ⟨_, rfl⟩
  rw [hK'] at hK ⊢
  rw [hB'] at hK hB ⊢
  have p1 : 1022 * B ≤ (L + 1022) * B := Nat.mul_le_mul_right _ (by omega)
  have p2 : (L + 1022) * B ≤ 1085 * B := Nat.mul_le_mul_right _ (by omega)
  obtain ⟨P, hP⟩ : ∃ P, (L + 1022) * B = P := ⟨_, rfl⟩
  rw [hP] at p1 p2 ⊢
  clear h1 hL hK' hB' hP
  exact ⟨_, rfl, by omega, by omega⟩
theorem read_word (neg : Bool) (r : Nat) (h : r < Ieee.double.infRung) : Ieee.double.read (Ieee.double.word neg r) = .number neg (vM Ieee.double r) (Ieee.double.leastPlace + (vE Ieee.double r : Nat)) := by
  have hlt : r < Ieee.double.signWeight := by rw [dbl_inf] at h; rw [dbl_sign]; have := sg_in; omega
  rw [read_rung Ieee.double dbl_bin]
  have e1 : rungF Ieee.double (Ieee.double.word neg r) = r := by
    unfold rungF Ieee.Format.word
    cases neg
    · exact Nat.mod_eq_of_lt hlt
    · simp only [if_true]
      rw [Nat.add_mod_left, Nat.mod_eq_of_lt hlt]
  have e2 : negF Ieee.double (Ieee.double.word neg r) = neg := by
    unfold negF Ieee.Format.word
    cases neg
    · simp only [Bool.false_eq_true, if_false]
      rw [Nat.div_eq_of_lt hlt]
      rfl
    · simp only [if_true]
      rw [Nat.add_div_left _ (by omega), Nat.div_eq_of_lt hlt]
      rfl
  rw [e1, e2, if_pos h]
theorem read_int (n : Int) (h1 : -9223372036854775808 ≤ n) (h2 : n ≤ 9223372036854775807) : ∃ s m i, Ieee.double.read (floatOfInt .f64 n) = .number s m i ∧ (n ≠ 0 → m ≠ 0) := by
  change ∃ s m i, Ieee.double.read (Ieee.double.nearest (n < 0) n.natAbs 0) = .number s m i ∧ (n ≠ 0 → m ≠ 0)
  by_cases h : n = 0
  · subst h
    exact ⟨false, 0, Ieee.double.leastPlace, by decide +kernel, fun h => absurd rfl h⟩
  · obtain ⟨r, e, hr1, hr2⟩ := nearest_int (n < 0) n.natAbs (by omega) (by omega)
    rw [e, read_word _ r hr2]
    refine ⟨_, _, _, rfl, fun _ => ?_⟩
    unfold vM
    rw [if_neg (by omega)]
    have := binade_pos Ieee.double
    omega
theorem quo_ok (a b : Int) (ha1 : -9223372036854775808 ≤ a) (ha2 : a ≤ 9223372036854775807) (hb1 : -9223372036854775808 ≤ b) (hb2 : b ≤ 9223372036854775807) : Quo a b := by
  intro hb
  obtain ⟨s, m, i, e1, _⟩ := read_int a ha1 ha2
  obtain ⟨t, n, j, e2, h2⟩ := read_int b hb1 hb2
  have key : ∃ r, floatBits .quo .f64 (floatOfInt .f64 a) (floatOfInt .f64 b) = some r := by
    change ∃ r, ((Ieee.double.read (floatOfInt .f64 a)).quotient (Ieee.double.fractionBits + 2) (Ieee.double.read (floatOfInt .f64 b))).map Ieee.double.write = some r
    rw [e1, e2]
    have hn := h2 hb
    simp only [Ieee.Datum.quotient, hn, if_false]
    exact ⟨_, rfl⟩
  obtain ⟨r, hr⟩ := key
  unfold quoN
  rw [hr]
  rfl
end Go.Proofs.YtkihgbglodfkmaaGreat
