/-
  Layer 18 (mp3): how long frames are: sums of quotients, each a number that is not below 0.
-/
import Derived.Test.YtfjfccomcmmfoaaFrames
import Derived.Laws.FloatArith
import Derived.Laws.Externs
namespace Go.Proofs.Ytfjfccomcmmfoaa
open Go.RowKit
set_option linter.unusedVariables false
attribute [local go_sem] plus_cell set_cell

def infR : Nat := 9218868437227405312
def lenI (b : Bool) : Int := if b = true then 1152 else 576
def qF (b : Bool) (q : Int) : Nat := (floatBits .quo .f64 (floatOfInt .f64 (lenI b)) (floatOfInt .f64 q)).getD 0
def addF (x y : Nat) : Nat := (floatBits .add .f64 x y).getD 0

theorem qF_is (b : Bool) (q : Int) (h : q = 44100 ∨ q = 48000 ∨ q = 32000) :
    floatBits .quo .f64 (floatOfInt .f64 (lenI b)) (floatOfInt .f64 q) = some (qF b q) ∧ qF b q ≤ infR := by
  rcases h with rfl | rfl | rfl <;> cases b <;> decide +kernel

theorem nearest_le (mag : Nat) (place : Int) : Ieee.double.nearest false mag place ≤ infR := by
  have e2 : Ieee.double.infRung = infR := by decide +kernel
  unfold Ieee.Format.nearest
  split
  · exact Nat.zero_le _
  · simp only [Ieee.Format.word, Bool.false_eq_true, if_false, e2]
    exact Nat.min_le_right _ _
/-- What a word up to the infinite one stands for. -/
theorem read_le (x : Nat) (h : x ≤ infR) : (∃ m i, Ieee.double.read x = .number false m i) ∨ Ieee.double.read x = .infinity false := by
  have e1 : Ieee.double.signWeight = 9223372036854775808 := by decide +kernel
  have e2 : Ieee.double.infRung = infR := by decide +kernel
  have hlt : x < 9223372036854775808 := by unfold infR at h; omega
  have hn : (x / 9223372036854775808 % 2 == 1) = false := by
    rw [Nat.div_eq_of_lt hlt]
    rfl
  unfold Ieee.Format.read
  simp only [e1, e2, Nat.mod_eq_of_lt hlt, hn]
  split
  · exact Or.inl ⟨_, _, rfl⟩
  · split
    · exact Or.inl ⟨_, _, rfl⟩
    · rw [if_pos (by omega)]
      exact Or.inr rfl
theorem addF_is (x y : Nat) (hx : x ≤ infR) (hy : y ≤ infR) : floatBits .add .f64 x y = some (addF x y) ∧ addF x y ≤ infR := by
  have key : ∃ r, floatBits .add .f64 x y = some r ∧ r ≤ infR := by
    change ∃ r, ((Ieee.double.read x).sum (Ieee.double.read y)).map Ieee.double.write = some r ∧ r ≤ infR
    have hi : Ieee.double.write (.infinity false) ≤ infR := by decide +kernel
    rcases read_le x hx with ⟨m, i, e⟩ | e <;> rcases read_le y hy with ⟨n, j, e'⟩ | e' <;> rw [e, e']
    · refine ⟨_, rfl, ?_⟩
      simp only [Ieee.signed, Bool.false_eq_true, if_false, Bool.and_self]
      have : ∀ t : Int, 0 ≤ t → (if t = 0 then false else decide (t < 0)) = false := fun t ht => by
        split
        · rfl
        · simpa using ht
      rw [this _ (Int.add_nonneg (Int.natCast_nonneg _) (Int.natCast_nonneg _))]
      exact nearest_le _ _
    · exact ⟨_, rfl, hi⟩
    · exact ⟨_, rfl, hi⟩
    · exact ⟨_, rfl, hi⟩
  obtain ⟨r, hr, hle⟩ := key
  have : addF x y = r := by unfold addF; rw [hr]; rfl
  rw [this]
  exact ⟨hr, hle⟩

/-- How long the frames of some bytes are: so far, and from there on. -/
def sm : Nat → List UInt8 → Nat → Nat
  | 0, _, x => x
  | f + 1, l, x => if nOk l = true then sm f (l.drop (nN l)) (addF x (qF (oddB (hV l)) (hQ l))) else x

theorem bits_run (b : Nat) (w : World) : (callFunc 29 #[.float .f64 b]).run Try.prog w = .ok (.value (.int .u64 b)) w := by
  rw [run_callFunc_extern Try.func29 (by kernel_rfl) (by kernel_rfl) (by kernel_rfl) (e := Extern.MathFloatBits.float64bits) (by kernel_rfl)]
  rfl
theorem Bits_any (b : Nat) : ∃ n : Int, ∀ w, Calls Try.prog 21 #[.float .f64 b] w fun e w' => e = .returned (.int .u64 n) ∧ w = w' := by
  have h28 := bits_run b
  by_cases h : (b : Int) % 9223372036854775808 > 9218868437227405312
  · refine ⟨9221120237041090561, fun w => ?_⟩
    go_enter Try.func21, Try.ntmps21
    go_wp2
    go_ret
    exact ⟨rfl, rfl⟩
  · refine ⟨b, fun w => ?_⟩
    go_enter Try.func21, Try.ntmps21
    go_wp2
    go_ret
    exact ⟨rfl, rfl⟩

theorem twice_len (v l r q : Int) (p : Bool) (w : World) :
    Calls Try.prog 30 #[.agg #[.int .i64 v, .int .i64 l, .int .i64 r, .int .i64 q, .bool p], .int .i64 576] w fun e w' => e = .returned (.int .i64 (lenI (oddB v))) ∧ Below w.heap.size w w' := by
  cases hb : oddB v
  all_goals
    have HO := Lib.hid (fun w => hb ▸ odd_any v l r q p w)
    clear hb
    go_enter Try.func30, Try.ntmps30
    go_wp2_with (go_at_call 32; (with_reducible refine (HO.out _).mono ?_); rintro e w1 ⟨rfl, rfl⟩)
    go_ret
    exact ⟨rfl, ((Below.refl _ _).alloc (Nat.le_refl _) _).alloc (by simp) _⟩
theorem Length_any (v l r q : Int) (p : Bool) (hv : 0 ≤ v ∧ v ≤ 3) (w : World) :
    Calls Try.prog 19 #[.agg #[.int .i64 v, .int .i64 l, .int .i64 r, .int .i64 q, .bool p]] w fun e w' => e = .returned (.int .i64 (lenI (oddB v))) ∧ Below w.heap.size w w' := by
  rcases (by omega : v = 0 ∨ v = 1 ∨ v = 2 ∨ v = 3) with rfl | rfl | rfl | rfl
  all_goals
    go_enter Try.func19, Try.ntmps19
    go_wp2
    go_ret
    exact ⟨rfl, (Below.refl _ _).alloc (Nat.le_refl _) _⟩
theorem head_tells (l : List UInt8) (h : nOk l = true) : (0 ≤ hV l ∧ hV l ≤ 3) ∧ (hQ l = 44100 ∨ hQ l = 48000 ∨ hQ l = 32000) := by
  have hok : hOk l = true := by
    cases ho : hOk l
    · have := (nOk_is h).1
      have h2 := (nOk_is h).2.1
      rw [nS_not ho] at this
      omega
    · rfl
  have hg := (hGood l).1
  rw [hok] at hg
  have hb := good_bounds _ _ _ _ hg
  refine ⟨hb.1, ?_⟩
  simp only [goodB, Bool.and_eq_true] at hg
  simpa [freqsL] using hg.2
end Go.Proofs.Ytfjfccomcmmfoaa
