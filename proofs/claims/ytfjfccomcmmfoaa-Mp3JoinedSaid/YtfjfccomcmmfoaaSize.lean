/-
  Layer 18 (mp3): how many bytes a frame has, by the program and by the reference. No condition but that the rate is a number of 64 bits.
-/
import Derived.Test.YtfjfccomcmmfoaaRefGood
namespace Go.Proofs.Ytfjfccomcmmfoaa
open Go.RowKit
set_option linter.unusedVariables false
attribute [local go_sem] plus_cell

theorem freqs_bounds (q : Int) (h : freqsL.contains q = true) : 32000 ≤ q ∧ q ≤ 48000 := by
  simp [freqsL] at h
  omega
theorem refRates_bounds (b : Bool) (r : Int) (h : (refRatesL b).contains r = true) : 0 ≤ r ∧ r ≤ 320000 := by
  cases b
  all_goals
    simp [refRatesL] at h
    omega
theorem good_bounds (v l r q : Int) (h : goodB v l r q = true) : (0 ≤ v ∧ v ≤ 3) ∧ (0 ≤ r ∧ r ≤ 320000) ∧ (32000 ≤ q ∧ q ≤ 48000) := by
  rw [good_agree] at h
  unfold refGoodB at h
  simp only [Bool.and_eq_true, decide_eq_true_eq] at h
  exact ⟨⟨h.1.1.1.1, h.1.1.1.2⟩, refRates_bounds _ _ h.1.2, freqs_bounds _ h.2⟩

/-- How many bytes a frame has. -/
def sizeI (v l r q : Int) (p : Bool) : Int := if goodB v l r q = true then r * (if oddB v = true then 144 else 72) / q + (if p = true then 1 else 0) else 0

theorem twice_any (v l r q : Int) (p : Bool) (w : World) :
    Calls Try.prog 30 #[.agg #[.int .i64 v, .int .i64 l, .int .i64 r, .int .i64 q, .bool p], .int .i64 72] w fun e w' => e = .returned (.int .i64 (if oddB v = true then 144 else 72)) ∧ Below w.heap.size w w' := by
  cases hb : oddB v
  all_goals
    have HO := Lib.hid (fun w => hb ▸ odd_any v l r q p w)
    clear hb
    go_enter Try.func30, Try.ntmps30
    go_wp2_with (go_at_call 32; (with_reducible refine (HO.out _).mono ?_); rintro e w1 ⟨rfl, rfl⟩)
    go_ret
    exact ⟨rfl, ((Below.refl _ _).alloc (Nat.le_refl _) _).alloc (by simp) _⟩

theorem Good_any (v l r q : Int) (p : Bool) (w : World) (hw : IntKind.i64.wrap (r.tdiv 1000) = r.tdiv 1000) :
    Calls Try.prog 10 #[.agg #[.int .i64 v, .int .i64 l, .int .i64 r, .int .i64 q, .bool p]] w fun e w' => e = .returned (.bool (goodB v l r q)) ∧ Below w.heap.size w w' := by
  have HO := Lib.hid (fun w => good_any v l r q p w hw)
  clear hw
  go_enter Try.func10, Try.ntmps10
  go_wp2_with (go_at_call 26; (with_reducible refine (HO.out _).mono ?_); rintro e w1 ⟨rfl, hb1⟩; have HB1 := Lib.hid hb1; clear hb1)
  go_ret
  exact ⟨rfl, below_then ((Below.refl _ _).alloc (Nat.le_refl _) _) (Nat.le_refl _) HB1.out⟩

set_option maxHeartbeats 1000000 in
theorem size_any (v l r q : Int) (p : Bool) (w : World) (hw : IntKind.i64.wrap (r.tdiv 1000) = r.tdiv 1000) :
    Calls Try.prog 27 #[.agg #[.int .i64 v, .int .i64 l, .int .i64 r, .int .i64 q, .bool p]] w fun e w' => e = .returned (.int .i64 (sizeI v l r q p)) ∧ Below w.heap.size w w' := by
  cases hg : goodB v l r q
  · have HO := Lib.hid (fun w => hg ▸ good_any v l r q p w hw)
    have HS : Hid (sizeI v l r q p = 0) := by unfold sizeI; rw [hg]; exact rfl
    clear hw hg
    go_enter Try.func27, Try.ntmps27
    go_wp2_with (go_at_call 26; (with_reducible refine (HO.out _).mono ?_); rintro e w1 ⟨rfl, hb1⟩; have HB1 := Lib.hid hb1; clear hb1)
    go_ret
    exact ⟨ret_int HS.out.symm, below_then ((Below.refl _ _).alloc (Nat.le_refl _) _) (Nat.le_refl _) HB1.out⟩
  · have HO := Lib.hid (fun w => hg ▸ good_any v l r q p w hw)
    obtain ⟨⟨hv0, hv1⟩, ⟨hr0, hr1⟩, ⟨hq0, hq1⟩⟩ := good_bounds v l r q hg
    obtain ⟨t, ht⟩ : ∃ t : Int, (if oddB v = true then 144 else 72) = t := ⟨_, rfl⟩
    have HT := Lib.hid (fun w => ht ▸ twice_any v l r q p w)
    have ht1 : 0 ≤ t ∧ t ≤ 144 := by subst ht; split <;> omega
    obtain ⟨ht0, ht2⟩ := ht1
    have hm0 : 0 ≤ r * t := Int.mul_nonneg hr0 ht0
    have hm1 : r * t ≤ 320000 * 144 := Int.mul_le_mul hr1 ht2 ht0 (by omega)
    have HS : Hid (sizeI v l r q p = r * t / q + (if p = true then 1 else 0)) := by unfold sizeI; rw [hg, ht]; exact rfl
    have hd := IntWalk.tdiv_le (r * t) q hm0 (by omega)
    have hwr : IntKind.i64.wrap (r * t) = r * t := IntWalk.i64_in _ (by omega)
    have hq' : IntKind.i64.wrap ((r * t).tdiv q) = r * t / q := IntWalk.i64_quo _ _ (by omega)
    clear hw hg ht
    cases p
    all_goals
      go_enter Try.func27, Try.ntmps27
      go_wp2_with (go_at_call 26; (with_reducible refine (HO.out _).mono ?_); rintro e w1 ⟨rfl, hb1⟩; have HB1 := Lib.hid hb1; clear hb1)
      obtain ⟨c0, c1, c2, c3, c4⟩ := ((Fr.new w v l r q _).below HB1.out (by simp)).cells
      refine wp_region_plus (by kernel_rfl) (by kernel_rfl) ?_
      repeat (first | go_big_quiet_skip | (go_big_quiet_want; go_big_quiet_op; first | go_big_quiet_on | (apply Exists.intro; refine ⟨fun _ => ?_, ?_⟩; (focus (go_at_call 30; with_reducible exact plus_call (HT.out _))); go_big_quiet_on)))
      refine wpQuiet_nil ?_
      rintro _ ⟨X, rfl⟩
      go_wp2
      go_ret
      exact ⟨ret_int (by rw [HS.out]; simp), (below_then ((Below.refl _ _).alloc (Nat.le_refl _) _) (Nat.le_refl _) HB1.out).trans ((plus_below w1 X).mono (Nat.le_trans (by simp) HB1.out.size))⟩
end Go.Proofs.Ytfjfccomcmmfoaa
