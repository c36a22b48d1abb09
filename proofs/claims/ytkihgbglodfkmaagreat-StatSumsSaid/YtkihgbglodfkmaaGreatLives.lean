/-
  Layer 41: numbers of bits, a series of numbers, and that the middle one is found. No condition but that what comes in lies in memory.
-/
import Derived.Test.YtkihgbglodfkmaaGreatRAt
namespace Go.Proofs.YtkihgbglodfkmaaGreat
open Go.RowKit
set_option linter.unusedVariables false

set_option maxHeartbeats 1000000 in
theorem of_any {w : World} {B : Nat} {A : Option Addr} {cap : Nat} {xs : List Nat} (h : Nums w B A cap xs) (hf : xs.length ≤ 10000) :
    Calls Tryz.prog 39 #[.slice A xs.length cap] w fun e w' => e = .returned (.pointer (some ⟨w.heap.size, 0, none⟩)) ∧ Ser w' w.heap.size w.heap.size xs ∧ Below w.heap.size w w' := by
  have HR := Lib.hid h
  have H1 := Lib.hid (New_any w)
  obtain ⟨n, hN⟩ : ∃ n, xs.length = n := ⟨_, rfl⟩
  have HN := Lib.hid hN
  rw [hN] at hf ⊢
  clear h hN
  go_enter Tryz.func39, Tryz.ntmps39
  go_wp2_with (go_at_call 21; refine H1.out.mono ?_; rintro e w1 ⟨rfl, hs, hb⟩; have HS0 := Lib.hid hs; have HB0 := Lib.hid hb; clear hs hb)
  go_loopw [4] (fun iv wr => ∃ i : Nat, iv = .int .i64 i ∧ i ≤ n ∧ Hid (Ser wr w.heap.size w.heap.size (xs.take i)) ∧ Hid (Below w.heap.size w wr)) (fun iv _ => n - (intOf iv).toNat)
  case atStart => exact ⟨0, rfl, Nat.zero_le _, HS0, HB0⟩
  case round =>
    obtain ⟨i, rfl, hi, HS, HB⟩ := hrel
    by_cases hin : i < n
    · have hix : i < xs.length := by rw [HN.out]; exact hin
      obtain ⟨g, off, rfl, _, hcell, hc1, hc2⟩ := (HR.out.below HB.out).get (j := i) hix
      have HT := Lib.hid (take_more hix)
      generalize xs[i]'hix = x at hcell HT
      rw [HN.out] at hc1
      have HA := Lib.hid (Add_room HS.out x (by rw [List.length_take]; omega) HB.out.size)
      clear hix
      go_wp2_with (go_at_call 24; refine HA.out.mono ?_; rintro e w2 ⟨rfl, hs2, hb2⟩; have HS2 := Lib.hid hs2; have HB2 := Lib.hid hb2; clear hs2 hb2)
      go_roundw
      case rel =>
        refine ⟨i + 1, by go_num, by omega, ?_, Lib.hid (HB.out.trans HB2.out)⟩
        unfold Hid
        rw [HT.out]
        exact HS2.out
      case measure => simp [intOf]; omega
    · obtain rfl : i = n := by omega
      go_wp2
      go_ret
      refine ⟨rfl, ?_, HB.out⟩
      have := HS.out
      rwa [List.take_of_length_le (by rw [HN.out]; exact Nat.le_refl _)] at this

def one : Nat := 4607182418800017408
def two : Nat := 4611686018427387904
def four : Nat := 4616189618054758400
theorem live_share : shareB [one, two, four] 1 2 = two := by decide +kernel
theorem live_lt : ∀ x ∈ [one, two, four], x < W64 := by decide +kernel
theorem two_num : two < W64 ∧ nanB two = false := by decide +kernel
theorem two_bits {y : Nat} (h : bitsN y = two) : y = two := by
  unfold bitsN at h
  split at h
  · exact absurd h (by decide +kernel)
  · exact h

theorem lives_any (w : World) : Calls Tryz.prog 19 #[] w fun e w' => e = .returned (.bool true) ∧ Below w.heap.size w w' := by
  obtain ⟨W, hW⟩ : ∃ W, w.alloc (.cells #[.float .f64 4607182418800017408, .float .f64 4611686018427387904, .float .f64 4616189618054758400] 40) = W := ⟨_, rfl⟩
  have hrow : Nums (w.alloc (.cells #[.float .f64 4607182418800017408, .float .f64 4611686018427387904, .float .f64 4616189618054758400] 40)) w.heap.size (some ⟨w.heap.size, 0, none⟩) 3 [one, two, four] :=
    ⟨rfl, .inr ⟨w.heap.size, 0, 3, _, rfl, Nat.le_refl _, heap_alloc_new w _, by decide, by decide, by decide, fun j u hu => by
      rw [Nat.zero_add]
      match j with
      | 0 => exact hu
      | 1 => exact hu
      | 2 => exact hu
      | j + 3 => simp at hu⟩⟩
  have h1 := of_any hrow (by decide)
  rw [World.size_alloc] at h1
  have H1 := Lib.hid h1
  have HB0 : Hid (Below w.heap.size w (w.alloc (.cells #[.float .f64 4607182418800017408, .float .f64 4611686018427387904, .float .f64 4616189618054758400] 40))) := (Below.refl _ _).alloc (Nat.le_refl _) _
  have hord : (FloatKind.f64.format.order 4611686018427387904 4611686018427387904 == some .eq) = true := by rw [show (4611686018427387904 : Nat) = two from rfl, self_num two_num.1 two_num.2]; rfl
  clear hrow hW W h1
  go_enter Tryz.func19, Tryz.ntmps19
  go_wp2_with (first
    | (go_at_call 39; refine H1.out.mono ?_; rintro e w1 ⟨rfl, hs, hb⟩; obtain ⟨A, cap, hh⟩ := Has.ser hs; have HH := Lib.hid hh; have HS := Lib.hid hs; have HB := Lib.hid hb; clear hs hb hh)
    | (go_at_call 10; refine (Len_any HS.out).mono ?_; rintro e w2 ⟨rfl, rfl⟩)
    | (go_at_call 40; refine (At_any HH.out live_lt 1 2).mono ?_; rintro e w3 ⟨y, rfl, ⟨hy, _⟩, hb⟩; rw [live_share] at hy; have hy2 := two_bits hy; have HB2 := Lib.hid hb; unfold two at hy2; subst hy2; clear hy hb))
  go_ret
  refine ⟨rfl, ?_⟩
  exact below_then (HB0.out.trans (HB.out.mono (by simp))) (Nat.le_refl _) HB2.out
end Go.Proofs.YtkihgbglodfkmaaGreat
