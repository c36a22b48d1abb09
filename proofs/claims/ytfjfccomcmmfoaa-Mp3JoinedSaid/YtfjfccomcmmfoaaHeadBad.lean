/-
  Layer 18 (mp3): the head of some bytes that have none, read by the program. No condition but that a text is no longer than a text can be.
-/
import Derived.Test.YtfjfccomcmmfoaaHeadOk
namespace Go.Proofs.Ytfjfccomcmmfoaa
open Go.RowKit
set_option linter.unusedVariables false

def zeroF : Value := .agg #[.int .i64 0, .int .i64 0, .int .i64 0, .int .i64 0, .bool false]

theorem head_short (s : ByteArray) (h4 : s.size < 4) (w : World) :
    Calls Try.prog 23 #[.string s] w fun e w' => e = .returned (.tuple #[.agg #[.int .i64 0, .int .i64 0, .int .i64 0, .int .i64 0, .bool false], .bool false]) ∧ Below w.heap.size w w' := by
  have g4 : (s.size : Int) < 4 := by omega
  go_enter Try.func23, Try.ntmps23
  go_wp2_with fail
  refine bodyPost_ret (v := .tuple #[.agg #[.int .i64 0, .int .i64 0, .int .i64 0, .int .i64 0, .bool false], .bool false]) (by simp [results, Try.results23, go_sem]) rfl ⟨rfl, ?_⟩
  go_grown

theorem head_first (s : ByteArray) (b c : Nat) (hs : s.size ≤ maxLen) (h4 : 4 ≤ s.size) (h0 : ((s[0].toNat : Int) != 255) = true) (w : World) :
    Calls Try.prog 23 #[.string s] w fun e w' => e = .returned (.tuple #[.agg #[.int .i64 0, .int .i64 0, .int .i64 0, .int .i64 0, .bool false], .bool false]) ∧ Below w.heap.size w w' := by
  unfold maxLen at hs
  have g4 : ¬ (s.size : Int) < 4 := by omega
  go_enter Try.func23, Try.ntmps23
  go_wp2_with fail
  refine bodyPost_ret (v := .tuple #[.agg #[.int .i64 0, .int .i64 0, .int .i64 0, .int .i64 0, .bool false], .bool false]) (by simp [results, Try.results23, go_sem]) rfl ⟨rfl, ?_⟩
  go_grown

theorem head_second (s : ByteArray) (b : Nat) (hs : s.size ≤ maxLen) (h4 : 4 ≤ s.size) (h0 : s[0].toNat = 255) (h1 : s[1].toNat = b) (hb : b < 224) (w : World) :
    Calls Try.prog 23 #[.string s] w fun e w' => e = .returned (.tuple #[.agg #[.int .i64 0, .int .i64 0, .int .i64 0, .int .i64 0, .bool false], .bool false]) ∧ Below w.heap.size w w' := by
  unfold maxLen at hs
  have g4 : ¬ (s.size : Int) < 4 := by omega
  have i1 : (1 : Int) < s.size := by omega
  have g7 : ((b : Int) / 32 != 7) = true := by
    have : ¬ (b : Int) / 32 = 7 := by omega
    simp [this]
  go_enter Try.func23, Try.ntmps23
  go_wp2_with fail
  refine bodyPost_ret (v := .tuple #[.agg #[.int .i64 0, .int .i64 0, .int .i64 0, .int .i64 0, .bool false], .bool false]) (by simp [results, Try.results23, go_sem]) rfl ⟨rfl, ?_⟩
  go_grown

set_option maxHeartbeats 1000000 in
theorem head_bad (s : ByteArray) (b c v l j k : Nat) (ob : Bool) (hs : s.size ≤ maxLen) (h4 : 4 ≤ s.size) (h0 : s[0].toNat = 255) (h1 : s[1].toNat = b) (h2 : s[2].toNat = c)
    (hb1 : 224 ≤ b) (hb2 : b < 256) (hc : c < 256) (hv : b / 8 % 4 = v) (hl : b / 2 % 4 = l) (hj : c / 16 = j) (hk : c / 4 % 4 = k) (hob : oddB v = ob) (hbad : l ≠ 1 ∨ 15 ≤ j ∨ 3 ≤ k) (w : World) :
    Calls Try.prog 23 #[.string s] w fun e w' => e = .returned (.tuple #[.agg #[.int .i64 0, .int .i64 0, .int .i64 0, .int .i64 0, .bool false], .bool false]) ∧ Below w.heap.size w w' := by
  unfold maxLen at hs
  have g4 : ¬ (s.size : Int) < 4 := by omega
  have g7 : ((b : Int) / 32 != 7) = false := by
    have : (b : Int) / 32 = 7 := by omega
    simp [this]
  have i1 : (1 : Int) < s.size := by omega
  have i2 : (2 : Int) < s.size := by omega
  have e1 : bits BinOp.and IntKind.u8 ((b : Int) / 8) 3 = (v : Int) := by rw [← hv]; exact and3_u8 (b / 8) (by omega)
  have e2 : bits BinOp.and IntKind.u8 ((b : Int) / 2) 3 = (l : Int) := by rw [← hl]; exact and3_u8 (b / 2) (by omega)
  have e3 : bits BinOp.and IntKind.u8 ((c : Int) / 2) 1 = ((c / 2 % 2 : Nat) : Int) := and1_u8 (c / 2) (by omega)
  obtain ⟨z, hz⟩ : ∃ z, c / 2 % 2 = z := ⟨_, rfl⟩
  rw [hz] at e3
  have e4 : bits BinOp.and IntKind.u8 ((c : Int) / 4) 3 = (k : Int) := by rw [← hk]; exact and3_u8 (c / 4) (by omega)
  have e5 : (c : Int) / 16 = (j : Int) := by omega
  have hv4 : v < 4 := by omega
  have hl4 : l < 4 := by omega
  have hk4 : k < 4 := by omega
  clear hv hl hj hk hz hb1
  have HOB := Lib.hid hob
  clear hob
  have HBAD := Lib.hid hbad
  clear hbad
  by_cases hl1 : l = 1
  · by_cases hj15 : 15 ≤ j
    · have e6 : (4 - (l : Int) != 3) = false := by rw [hl1]; rfl
      have e7 : (15 : Int) ≤ (j : Int) := by omega
      clear hl1
      go_enter Try.func23, Try.ntmps23
      go_wp2_with fail
      go_region
      go_wp2_with fail
      go_quiet (fail)
      go_wp2_with (first
        | (go_at_call 32; (with_reducible refine (odd_any _ _ _ _ _ _).mono ?_); rintro e w1 ⟨rfl, rfl⟩; rw [HOB.out])
        | (go_at_call 31; (with_reducible refine (rates_any _ _).mono ?_); rintro e w1 ⟨rfl, rfl⟩)
        | (go_at_call 33; (with_reducible refine (freqs_any _).mono ?_); rintro e w1 ⟨rfl, rfl⟩))
      refine bodyPost_ret (v := .tuple #[.agg #[.int .i64 0, .int .i64 0, .int .i64 0, .int .i64 0, .bool false], .bool false]) (by simp [results, Try.results23, go_sem]) rfl ⟨rfl, ?_⟩
      go_grown
      refine below_drewN ?_ _
      go_grown
    · have e6 : (4 - (l : Int) != 3) = false := by rw [hl1]; rfl
      have e7 : ¬ (15 : Int) ≤ (j : Int) := by omega
      have e8 : (3 : Int) ≤ (k : Int) := by have := HBAD.out; omega
      clear hl1
      go_enter Try.func23, Try.ntmps23
      go_wp2_with fail
      go_region
      go_wp2_with fail
      go_quiet (fail)
      go_wp2_with (first
        | (go_at_call 32; (with_reducible refine (odd_any _ _ _ _ _ _).mono ?_); rintro e w1 ⟨rfl, rfl⟩; rw [HOB.out])
        | (go_at_call 31; (with_reducible refine (rates_any _ _).mono ?_); rintro e w1 ⟨rfl, rfl⟩)
        | (go_at_call 33; (with_reducible refine (freqs_any _).mono ?_); rintro e w1 ⟨rfl, rfl⟩))
      refine bodyPost_ret (v := .tuple #[.agg #[.int .i64 0, .int .i64 0, .int .i64 0, .int .i64 0, .bool false], .bool false]) (by simp [results, Try.results23, go_sem]) rfl ⟨rfl, ?_⟩
      go_grown
      refine below_drewN ?_ _
      go_grown
  · have e6 : (4 - (l : Int) != 3) = true := by
      have : ¬ 4 - (l : Int) = 3 := by omega
      simpa [bne] using this
    go_enter Try.func23, Try.ntmps23
    go_wp2_with fail
    go_region
    go_wp2_with fail
    go_quiet (fail)
    go_wp2_with (first
      | (go_at_call 32; (with_reducible refine (odd_any _ _ _ _ _ _).mono ?_); rintro e w1 ⟨rfl, rfl⟩; rw [HOB.out])
      | (go_at_call 31; (with_reducible refine (rates_any _ _).mono ?_); rintro e w1 ⟨rfl, rfl⟩)
      | (go_at_call 33; (with_reducible refine (freqs_any _).mono ?_); rintro e w1 ⟨rfl, rfl⟩))
    refine bodyPost_ret (v := .tuple #[.agg #[.int .i64 0, .int .i64 0, .int .i64 0, .int .i64 0, .bool false], .bool false]) (by simp [results, Try.results23, go_sem]) rfl ⟨rfl, ?_⟩
    go_grown
    refine below_drewN ?_ _
    go_grown
end Go.Proofs.Ytfjfccomcmmfoaa
