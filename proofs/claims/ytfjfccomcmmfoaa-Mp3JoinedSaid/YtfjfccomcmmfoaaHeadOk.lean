/-
  Layer 18 (mp3): the head of some bytes that have one, read by the program. No condition but that a text is no longer than a text can be.
-/
import Derived.Test.YtfjfccomcmmfoaaSizes
namespace Go.Proofs.Ytfjfccomcmmfoaa
open Go.RowKit
set_option linter.unusedVariables false

theorem and3_u8 : ∀ n, n < 256 → bits BinOp.and IntKind.u8 ((n : Nat) : Int) 3 = ((n % 4 : Nat) : Int) := by decide +kernel
theorem and1_u8 : ∀ n, n < 256 → bits BinOp.and IntKind.u8 ((n : Nat) : Int) 1 = ((n % 2 : Nat) : Int) := by decide +kernel

/-- The bytes b, c of a head stand for version v, rate number j, frequency number k, padding p. -/
structure Says (b c v j k : Nat) (p : Bool) : Prop where
  hb : 224 ≤ b ∧ b < 256
  hc : c < 256
  hv : b / 8 % 4 = v
  hl : b / 2 % 4 = 1
  hj : c / 16 = j
  hk : c / 4 % 4 = k
  hp : (c / 2 % 2 == 1) = p
  j15 : j < 15
  k3 : k < 3

set_option maxHeartbeats 1000000 in
theorem head_ok (s : ByteArray) (b c v j k : Nat) (p ob : Bool) (rj qk : Int) (hs : s.size ≤ maxLen) (h4 : 4 ≤ s.size) (h0 : s[0].toNat = 255) (h1 : s[1].toNat = b) (h2 : s[2].toNat = c)
    (hsay : Says b c v j k p) (hob : oddB v = ob) (hra : (ratesA ob)[j]? = some (.int .i64 rj)) (hqa : freqsA[k]? = some (.int .i64 qk)) (hrj : 0 ≤ rj ∧ rj ≤ 320) (w : World) :
    Calls Try.prog 23 #[.string s] w fun e w' => e = .returned (.tuple #[.agg #[.int .i64 v, .int .i64 3, .int .i64 (1000 * rj), .int .i64 qk, .bool p], .bool true]) ∧ Below w.heap.size w w' := by
  unfold maxLen at hs
  obtain ⟨⟨hb1, hb2⟩, hc, hv, hl, hj, hk, hp, j15, k3⟩ := hsay
  have g4 : ¬ (s.size : Int) < 4 := by omega
  have g7 : ((b : Int) / 32 != 7) = false := by
    have : (b : Int) / 32 = 7 := by omega
    simp [this]
  have i1 : (1 : Int) < s.size := by omega
  have i2 : (2 : Int) < s.size := by omega
  have e1 : bits BinOp.and IntKind.u8 ((b : Int) / 8) 3 = (v : Int) := by rw [← hv]; exact and3_u8 (b / 8) (by omega)
  have e2 : bits BinOp.and IntKind.u8 ((b : Int) / 2) 3 = 1 := by have := and3_u8 (b / 2) (by omega); rw [hl] at this; exact this
  have e3 : bits BinOp.and IntKind.u8 ((c : Int) / 2) 1 = ((c / 2 % 2 : Nat) : Int) := and1_u8 (c / 2) (by omega)
  have e3' : (((c / 2 % 2 : Nat) : Int) == 1) = p := by
    rw [← hp, Bool.eq_iff_iff, beq_iff_eq, beq_iff_eq]
    omega
  obtain ⟨z, hz⟩ : ∃ z, c / 2 % 2 = z := ⟨_, rfl⟩
  rw [hz] at e3 e3'
  have e4 : bits BinOp.and IntKind.u8 ((c : Int) / 4) 3 = (k : Int) := by rw [← hk]; exact and3_u8 (c / 4) (by omega)
  have e5 : (c : Int) / 16 = (j : Int) := by omega
  have hv4 : v < 4 := by omega
  have ew : IntKind.i64.wrap (1000 * rj) = 1000 * rj := IntWalk.i64_in _ (by omega)
  clear hv hl hj hk hp hz hb1
  have HOB := Lib.hid hob
  clear hob
  go_enter Try.func23, Try.ntmps23
  go_wp2_with fail
  go_region
  go_wp2_with fail
  go_quiet (fail)
  go_wp2_with (first
    | (go_at_call 32; (with_reducible refine (odd_any _ _ _ _ _ _).mono ?_); rintro e w1 ⟨rfl, rfl⟩; rw [HOB.out])
    | (go_at_call 31; (with_reducible refine (rates_any _ _).mono ?_); rintro e w1 ⟨rfl, rfl⟩)
    | (go_at_call 33; (with_reducible refine (freqs_any _).mono ?_); rintro e w1 ⟨rfl, rfl⟩))
  go_region_with (go_at_call 33; (with_reducible refine (freqs_any _).mono ?_); rintro e w1 ⟨rfl, rfl⟩)
  all_goals
    go_wp2_with fail
    refine bodyPost_ret (v := .tuple #[.agg #[.int .i64 v, .int .i64 3, .int .i64 (1000 * rj), .int .i64 qk, .bool p], .bool true]) (by simp [results, Try.results23, go_sem]) rfl ⟨rfl, ?_⟩
    refine below_drewN ?_ _
    go_grown
    refine below_drewN ?_ _
    go_grown
end Go.Proofs.Ytfjfccomcmmfoaa
