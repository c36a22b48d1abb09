/-
  Layer 18 (mp3): the head of any bytes as a plain function, and that the program and the reference read just that. No condition but that a text is no longer than a text can be.
-/
import Derived.Test.YtfjfccomcmmfoaaHeadBad
import Derived.Test.YtfjfccomcmmfoaaRefHead
namespace Go.Proofs.Ytfjfccomcmmfoaa
open Go.RowKit
set_option linter.unusedVariables false

def byteN (l : List UInt8) (i : Nat) : Nat := (l.getD i 0).toNat
/-- Whether some bytes begin with a head. -/
def hOk (l : List UInt8) : Bool :=
  decide (4 ≤ l.length) && byteN l 0 == 255 && decide (224 ≤ byteN l 1) && byteN l 1 / 2 % 4 == 1 && decide (byteN l 2 / 16 < 15) && decide (byteN l 2 / 4 % 4 < 3)
def hV (l : List UInt8) : Int := if hOk l = true then ((byteN l 1 / 8 % 4 : Nat) : Int) else 0
def hL (l : List UInt8) : Int := if hOk l = true then 3 else 0
def hR (l : List UInt8) : Int := if hOk l = true then (refRatesL (oddB ((byteN l 1 / 8 % 4 : Nat) : Int))).getD (byteN l 2 / 16) 0 else 0
def hQ (l : List UInt8) : Int := if hOk l = true then freqsL.getD (byteN l 2 / 4 % 4) 0 else 0
def hP (l : List UInt8) : Bool := hOk l && byteN l 2 / 2 % 2 == 1
def hF (l : List UInt8) : Value := .agg #[.int .i64 (hV l), .int .i64 (hL l), .int .i64 (hR l), .int .i64 (hQ l), .bool (hP l)]

theorem byteN_at (s : ByteArray) (i : Nat) (h : i < s.size) : byteN s.data.toList i = s[i].toNat := by
  unfold byteN
  rw [List.getD_eq_getElem?_getD, List.getElem?_eq_getElem (by rw [← Lib.size_eq]; exact h), byte_at s i h]
  rfl
theorem byteN_lt (l : List UInt8) (i : Nat) : byteN l i < 256 := UInt8.toNat_lt _

theorem hF_not {l : List UInt8} (h : hOk l = false) : hF l = .agg #[.int .i64 0, .int .i64 0, .int .i64 0, .int .i64 0, .bool false] := by
  simp [hF, hV, hL, hR, hQ, hP, h]
theorem rates_thou (ob : Bool) (j : Nat) (hj : j < 15) : ∃ rj : Int, (ratesA ob)[j]? = some (.int .i64 rj) ∧ 0 ≤ rj ∧ rj ≤ 320 ∧ (refRatesL ob).getD j 0 = 1000 * rj := by
  cases ob <;> rcases lt15 j hj with rfl | rfl | rfl | rfl | rfl | rfl | rfl | rfl | rfl | rfl | rfl | rfl | rfl | rfl | rfl
  all_goals exact ⟨_, rfl, by decide, by decide, by decide⟩
theorem freqs_at (k : Nat) (hk : k < 3) : freqsA[k]? = some (.int .i64 (freqsL.getD k 0)) := by
  rcases (by omega : k = 0 ∨ k = 1 ∨ k = 2) with rfl | rfl | rfl <;> rfl

/-- Both read just that. -/
theorem heads_both (s : ByteArray) (hs : s.size ≤ maxLen) :
    (∀ w, Calls Try.prog 23 #[.string s] w fun e w' => e = .returned (.tuple #[hF s.data.toList, .bool (hOk s.data.toList)]) ∧ Below w.heap.size w w') ∧
    (∀ w, Calls Try.prog 9 #[.string s] w fun e w' => e = .returned (hF s.data.toList) ∧ Below w.heap.size w w') := by
  have hsz := Lib.size_eq s
  by_cases h4 : s.size < 4
  · have hn : hOk s.data.toList = false := by
      have : ¬ 4 ≤ s.data.toList.length := by omega
      simp only [hOk, this, decide_false, Bool.false_and]
    rw [hF_not hn, hn]
    exact ⟨head_short s h4, refHead_short s h4⟩
  have h4' : 4 ≤ s.size := by omega
  have b0 := byteN_at s 0 (by omega)
  have b1 := byteN_at s 1 (by omega)
  have b2 := byteN_at s 2 (by omega)
  by_cases h0 : s[0].toNat = 255
  · by_cases h1 : s[1].toNat < 224
    · have hn : hOk s.data.toList = false := by
        have : ¬ 224 ≤ byteN s.data.toList 1 := by omega
        simp only [hOk, this, decide_false, Bool.false_and, Bool.and_false]
      rw [hF_not hn, hn]
      exact ⟨head_second s _ hs h4' h0 rfl h1, refHead_second s _ hs h4' h0 rfl h1⟩
    · have hlt1 := byteN_lt s.data.toList 1
      have hlt2 := byteN_lt s.data.toList 2
      by_cases hg : s[1].toNat / 2 % 4 = 1 ∧ s[2].toNat / 16 < 15 ∧ s[2].toNat / 4 % 4 < 3
      · obtain ⟨g1, g2, g3⟩ := hg
        have hy : hOk s.data.toList = true := by
          simp only [hOk, Bool.and_eq_true, decide_eq_true_eq, beq_iff_eq]
          omega
        obtain ⟨rj, hra, hr0, hr1, hrr⟩ := rates_thou (oddB ((s[1].toNat / 8 % 4 : Nat) : Int)) (s[2].toNat / 16) g2
        have hsay : Says s[1].toNat s[2].toNat (s[1].toNat / 8 % 4) (s[2].toNat / 16) (s[2].toNat / 4 % 4) (s[2].toNat / 2 % 2 == 1) :=
          ⟨⟨by omega, by omega⟩, by omega, rfl, g1, rfl, rfl, rfl, g2, g3⟩
        have e : hF s.data.toList = .agg #[.int .i64 ((s[1].toNat / 8 % 4 : Nat) : Int), .int .i64 3, .int .i64 (1000 * rj), .int .i64 (freqsL.getD (s[2].toNat / 4 % 4) 0), .bool (s[2].toNat / 2 % 2 == 1)] := by
          simp only [hF, hV, hL, hR, hQ, hP, hy, b1, b2, if_true, Bool.true_and]
          rw [hrr]
        rw [hy, e]
        refine ⟨head_ok s _ _ _ _ _ _ _ rj _ hs h4' h0 rfl rfl hsay rfl hra (freqs_at _ g3) ⟨hr0, hr1⟩, ?_⟩
        exact refHead_ok s _ _ _ _ _ _ _ _ _ hs h4' h0 rfl rfl hsay rfl hrr rfl
      · have hn : hOk s.data.toList = false := by
          rw [← Bool.not_eq_true]
          simp only [hOk, Bool.and_eq_true, decide_eq_true_eq, beq_iff_eq]
          omega
        rw [hF_not hn, hn]
        exact ⟨head_bad s _ _ _ _ _ _ _ hs h4' h0 rfl rfl (by omega) (by omega) (by omega) rfl rfl rfl rfl rfl (by omega),
          refHead_bad s _ _ _ _ _ _ hs h4' h0 rfl rfl (by omega) (by omega) (by omega) rfl rfl rfl rfl (by omega)⟩
  · have hn : hOk s.data.toList = false := by
      have : (byteN s.data.toList 0 == 255) = false := by
        have : ¬ byteN s.data.toList 0 = 255 := by omega
        simpa using this
      simp only [hOk, this, Bool.and_false, Bool.false_and]
    have h0' : ((s[0].toNat : Int) != 255) = true := by
      have : ¬ (s[0].toNat : Int) = 255 := by omega
      simpa [bne] using this
    rw [hF_not hn, hn]
    exact ⟨head_first s 0 0 hs h4' h0', refHead_first s hs h4' h0'⟩

/-- What a head tells is that of some bytes, just if there is one. -/
theorem hGood (l : List UInt8) : goodB (hV l) (hL l) (hR l) (hQ l) = hOk l ∧ decide (0 < hQ l) = hOk l ∧ 0 ≤ hR l ∧ hR l ≤ 320000 := by
  cases h : hOk l
  · simp only [hV, hL, hR, hQ, h, Bool.false_eq_true, if_false]
    decide
  · have hh := h
    simp only [hOk, Bool.and_eq_true, decide_eq_true_eq, beq_iff_eq] at hh
    obtain ⟨⟨⟨⟨⟨_, _⟩, _⟩, _⟩, hj⟩, hk⟩ := hh
    simp only [hV, hL, hR, hQ, h, if_true]
    obtain ⟨v, hv⟩ : ∃ v, byteN l 1 / 8 % 4 = v := ⟨_, rfl⟩
    have hv4 : v < 4 := by omega
    rw [hv]
    obtain ⟨j, hj'⟩ : ∃ j, byteN l 2 / 16 = j := ⟨_, rfl⟩
    obtain ⟨k, hk'⟩ : ∃ k, byteN l 2 / 4 % 4 = k := ⟨_, rfl⟩
    rw [hj'] at hj
    rw [hk'] at hk
    rw [hj', hk', good_agree]
    have g1 := getD15 (oddB v) j ((refRatesL (oddB v)).getD j 0) hj (by simp)
    have g2 := getD3 k (freqsL.getD k 0) hk (by simp)
    have g3 := freqs_bounds _ g2
    have g4 := refRates_bounds _ _ g1
    refine ⟨?_, ?_, g4.1, g4.2⟩
    · unfold refGoodB
      rw [g1, g2]
      have h1 : decide ((0 : Int) ≤ (v : Int)) = true := by simp
      have h2 : decide ((v : Int) ≤ 3) = true := by simp; omega
      simp only [h1, h2]
      rfl
    · exact decide_eq_true (by omega)
end Go.Proofs.Ytfjfccomcmmfoaa
