/-
  Layer 18 (mp3): the reference's rates and frequencies, whether a frame is some bytes' by the reference, and that both agree. No condition.
-/
import Derived.Test.YtfjfccomcmmfoaaGood
namespace Go.Proofs.Ytfjfccomcmmfoaa
open Go.RowKit
set_option linter.unusedVariables false
def refRatesL (b : Bool) : List Int := if b = true then [0, 32000, 40000, 48000, 56000, 64000, 80000, 96000, 112000, 128000, 160000, 192000, 224000, 256000, 320000] else [0, 8000, 16000, 24000, 32000, 40000, 48000, 56000, 64000, 80000, 96000, 112000, 128000, 144000, 160000]
theorem lt15 (n : Nat) (h : n < 15) : n = 0 ∨ n = 1 ∨ n = 2 ∨ n = 3 ∨ n = 4 ∨ n = 5 ∨ n = 6 ∨ n = 7 ∨ n = 8 ∨ n = 9 ∨ n = 10 ∨ n = 11 ∨ n = 12 ∨ n = 13 ∨ n = 14 := by omega

def refRatesA (b : Bool) : Array Value := ((refRatesL b).map (Value.int .i64)).toArray

theorem refRate_any (v : Int) (n : Nat) (hv : 0 ≤ v ∧ v ≤ 3) (hn : n < 15) (w : World) :
    Calls Try.prog 24 #[.int .i64 v, .int .i64 n] w fun e w' => e = .returned (.int .i64 ((refRatesL (oddB v)).getD n 0)) ∧ (w.alloc (.cells (refRatesA true) 3)).alloc (.cells (refRatesA false) 3) = w' := by
  have HO : Hid (oddB v = (v % 2 == 1)) := rfl
  cases hb : (v % 2 == 1)
  all_goals
    rw [hb] at HO
    go_enter Try.func24, Try.ntmps24
    go_wp2
    go_ret
    refine ⟨?_, rfl⟩
    rw [HO.out]
    rcases lt15 n hn with rfl | rfl | rfl | rfl | rfl | rfl | rfl | rfl | rfl | rfl | rfl | rfl | rfl | rfl | rfl <;> rfl

theorem refFreq_any (k : Nat) (hk : k < 3) (w : World) : Calls Try.prog 25 #[.int .i64 k] w fun e w' => e = .returned (.int .i64 (freqsL.getD k 0)) ∧ w = w' := by
  rcases (by omega : k = 0 ∨ k = 1 ∨ k = 2) with rfl | rfl | rfl
  all_goals
    go_enter Try.func25, Try.ntmps25
    go_wp2
    go_ret
    exact ⟨rfl, rfl⟩

/-- That a frame is some bytes', by all of them. -/
def refGoodB (v l r q : Int) : Bool := decide (0 ≤ v) && decide (v ≤ 3) && l == 3 && (refRatesL (oddB v)).contains r && freqsL.contains q

theorem rates_agree (b : Bool) (r : Int) : (r.tmod 1000 == 0 && (ratesL b).contains (r.tdiv 1000)) = (refRatesL b).contains r := by
  have key : (r.tmod 1000 = 0 ∧ r.tdiv 1000 ∈ ratesL b) ↔ r ∈ refRatesL b := by
    have hd := Int.mul_tdiv_add_tmod r 1000
    constructor
    · rintro ⟨h0, h1⟩
      cases b
      all_goals
        simp only [ratesL, refRatesL] at h1 ⊢
        simp at h1 ⊢
        omega
    · intro h1
      cases b
      all_goals
        simp only [ratesL, refRatesL] at h1 ⊢
        simp at h1 ⊢
        rcases h1 with rfl | rfl | rfl | rfl | rfl | rfl | rfl | rfl | rfl | rfl | rfl | rfl | rfl | rfl | rfl <;> decide
  rw [Bool.eq_iff_iff]
  simpa [Bool.and_eq_true, List.contains_iff_mem] using key

theorem good_agree (v l r q : Int) : goodB v l r q = refGoodB v l r q := by
  unfold goodB refGoodB rateB
  rw [rates_agree]
end Go.Proofs.Ytfjfccomcmmfoaa
