/-
  Layer 18 (mp3): the head of any bytes, read by the reference. No condition but that a text is no longer than a text can be.
-/
import Derived.Test.YtfjfccomcmmfoaaHeadOk
namespace Go.Proofs.Ytfjfccomcmmfoaa
open Go.RowKit
set_option linter.unusedVariables false

theorem refHead_short (s : ByteArray) (h4 : s.size < 4) (w : World) :
    Calls Try.prog 9 #[.string s] w fun e w' => e = .returned (.agg #[.int .i64 0, .int .i64 0, .int .i64 0, .int .i64 0, .bool false]) ∧ Below w.heap.size w w' := by
  have g4 : (s.size : Int) < 4 := by omega
  go_enter Try.func9, Try.ntmps9
  go_wp2_with fail
  refine bodyPost_ret (v := .agg #[.int .i64 0, .int .i64 0, .int .i64 0, .int .i64 0, .bool false]) (by simp [results, Try.results9, go_sem]) rfl ⟨rfl, ?_⟩
  go_grown

theorem refHead_first (s : ByteArray) (hs : s.size ≤ maxLen) (h4 : 4 ≤ s.size) (h0 : ((s[0].toNat : Int) != 255) = true) (w : World) :
    Calls Try.prog 9 #[.string s] w fun e w' => e = .returned (.agg #[.int .i64 0, .int .i64 0, .int .i64 0, .int .i64 0, .bool false]) ∧ Below w.heap.size w w' := by
  unfold maxLen at hs
  have g4 : ¬ (s.size : Int) < 4 := by omega
  go_enter Try.func9, Try.ntmps9
  go_wp2_with fail
  refine bodyPost_ret (v := .agg #[.int .i64 0, .int .i64 0, .int .i64 0, .int .i64 0, .bool false]) (by simp [results, Try.results9, go_sem]) rfl ⟨rfl, ?_⟩
  go_grown

theorem refHead_second (s : ByteArray) (b : Nat) (hs : s.size ≤ maxLen) (h4 : 4 ≤ s.size) (h0 : s[0].toNat = 255) (h1 : s[1].toNat = b) (hb : b < 224) (w : World) :
    Calls Try.prog 9 #[.string s] w fun e w' => e = .returned (.agg #[.int .i64 0, .int .i64 0, .int .i64 0, .int .i64 0, .bool false]) ∧ Below w.heap.size w w' := by
  unfold maxLen at hs
  have g4 : ¬ (s.size : Int) < 4 := by omega
  have i1 : (1 : Int) < s.size := by omega
  have g7 : (b : Int) < 224 := by omega
  go_enter Try.func9, Try.ntmps9
  go_wp2_with fail
  refine bodyPost_ret (v := .agg #[.int .i64 0, .int .i64 0, .int .i64 0, .int .i64 0, .bool false]) (by simp [results, Try.results9, go_sem]) rfl ⟨rfl, ?_⟩
  go_grown

set_option maxHeartbeats 1000000 in
theorem refHead_bad (s : ByteArray) (b c v l j k : Nat) (hs : s.size ≤ maxLen) (h4 : 4 ≤ s.size) (h0 : s[0].toNat = 255) (h1 : s[1].toNat = b) (h2 : s[2].toNat = c)
    (hb1 : 224 ≤ b) (hb2 : b < 256) (hc : c < 256) (hv : b / 8 % 4 = v) (hl : b / 2 % 4 = l) (hj : c / 16 = j) (hk : c / 4 % 4 = k) (hbad : l ≠ 1 ∨ 15 ≤ j ∨ 3 ≤ k) (w : World) :
    Calls Try.prog 9 #[.string s] w fun e w' => e = .returned (.agg #[.int .i64 0, .int .i64 0, .int .i64 0, .int .i64 0, .bool false]) ∧ Below w.heap.size w w' := by
  unfold maxLen at hs
  have g4 : ¬ (s.size : Int) < 4 := by omega
  have g7 : ¬ (b : Int) < 224 := by omega
  have i1 : (1 : Int) < s.size := by omega
  have i2 : (2 : Int) < s.size := by omega
  have e1 : (b : Int) / 8 % 4 = (v : Int) := by omega
  have e2 : (b : Int) / 2 % 4 = (l : Int) := by omega
  have e4 : (c : Int) / 4 % 4 = (k : Int) := by omega
  have e5 : (c : Int) / 16 = (j : Int) := by omega
  have hv4 : v < 4 := by omega
  have hl4 : l < 4 := by omega
  have hk4 : k < 4 := by omega
  have hj16 : j < 16 := by omega
  clear hv hl hj hk hb1
  have HBAD := Lib.hid hbad
  clear hbad
  by_cases hl1 : l = 1
  · have e6 : (4 - (l : Int) != 3) = false := by rw [hl1]; rfl
    by_cases hj15 : 15 ≤ j
    · have e7 : ((j : Int) == 15) = true := by
        have : (j : Int) = 15 := by omega
        simpa using this
      clear hl1
      go_enter Try.func9, Try.ntmps9
      go_wp2_with fail
      go_quiet (fail)
      go_wp2_with fail
      refine bodyPost_ret (v := .agg #[.int .i64 0, .int .i64 0, .int .i64 0, .int .i64 0, .bool false]) (by simp [results, Try.results9, go_sem]) rfl ⟨rfl, ?_⟩
      go_grown
      refine below_drewN ?_ _
      go_grown
    · have e7 : ((j : Int) == 15) = false := by
        have : ¬ (j : Int) = 15 := by omega
        simpa using this
      have e8 : ((k : Int) == 3) = true := by
        have : (k : Int) = 3 := by have := HBAD.out; omega
        simpa using this
      clear hl1
      go_enter Try.func9, Try.ntmps9
      go_wp2_with fail
      go_quiet (fail)
      go_wp2_with fail
      refine bodyPost_ret (v := .agg #[.int .i64 0, .int .i64 0, .int .i64 0, .int .i64 0, .bool false]) (by simp [results, Try.results9, go_sem]) rfl ⟨rfl, ?_⟩
      go_grown
      refine below_drewN ?_ _
      go_grown
  · have e6 : (4 - (l : Int) != 3) = true := by
      have : ¬ 4 - (l : Int) = 3 := by omega
      simpa [bne] using this
    go_enter Try.func9, Try.ntmps9
    go_wp2_with fail
    go_quiet (fail)
    go_wp2_with fail
    refine bodyPost_ret (v := .agg #[.int .i64 0, .int .i64 0, .int .i64 0, .int .i64 0, .bool false]) (by simp [results, Try.results9, go_sem]) rfl ⟨rfl, ?_⟩
    go_grown
    refine below_drewN ?_ _
    go_grown

set_option maxHeartbeats 1000000 in
theorem refHead_ok (s : ByteArray) (b c v j k : Nat) (p ob : Bool) (rr qk : Int) (hs : s.size ≤ maxLen) (h4 : 4 ≤ s.size) (h0 : s[0].toNat = 255) (h1 : s[1].toNat = b) (h2 : s[2].toNat = c)
    (hsay : Says b c v j k p) (hob : oddB v = ob) (hra : (refRatesL ob).getD j 0 = rr) (hqa : freqsL.getD k 0 = qk) (w : World) :
    Calls Try.prog 9 #[.string s] w fun e w' => e = .returned (.agg #[.int .i64 v, .int .i64 3, .int .i64 rr, .int .i64 qk, .bool p]) ∧ Below w.heap.size w w' := by
  unfold maxLen at hs
  obtain ⟨⟨hb1, hb2⟩, hc, hv, hl, hj, hk, hp, j15, k3⟩ := hsay
  have g4 : ¬ (s.size : Int) < 4 := by omega
  have g7 : ¬ (b : Int) < 224 := by omega
  have i1 : (1 : Int) < s.size := by omega
  have i2 : (2 : Int) < s.size := by omega
  have e1 : (b : Int) / 8 % 4 = (v : Int) := by omega
  have e2 : (b : Int) / 2 % 4 = 1 := by omega
  have e3 : ((c : Int) / 2 % 2 == 1) = p := by
    rw [← hp, Bool.eq_iff_iff, beq_iff_eq, beq_iff_eq]
    omega
  have e4 : (c : Int) / 4 % 4 = (k : Int) := by omega
  have e5 : (c : Int) / 16 = (j : Int) := by omega
  have e7 : ((j : Int) == 15) = false := by
    have : ¬ (j : Int) = 15 := by omega
    simpa using this
  have e8 : ((k : Int) == 3) = false := by
    have : ¬ (k : Int) = 3 := by omega
    simpa using this
  have hv4 : v < 4 := by omega
  have HR := Lib.hid (fun w => hra ▸ hob ▸ refRate_any v j (by omega) j15 w)
  have HQ := Lib.hid (fun w => hqa ▸ refFreq_any k k3 w)
  clear hv hl hj hk hp hb1 hob hra hqa
  go_enter Try.func9, Try.ntmps9
  go_wp2_with fail
  go_quiet (fail)
  go_wp2_with (first
    | (go_at_call 24; (with_reducible refine (HR.out _).mono ?_); rintro e w1 ⟨rfl, rfl⟩)
    | (go_at_call 25; (with_reducible refine (HQ.out _).mono ?_); rintro e w1 ⟨rfl, rfl⟩))
  refine bodyPost_ret (v := .agg #[.int .i64 v, .int .i64 3, .int .i64 rr, .int .i64 qk, .bool p]) (by simp [results, Try.results9, go_sem]) rfl ⟨rfl, ?_⟩
  go_grown
  refine below_drewN ?_ _
  go_grown
end Go.Proofs.Ytfjfccomcmmfoaa
