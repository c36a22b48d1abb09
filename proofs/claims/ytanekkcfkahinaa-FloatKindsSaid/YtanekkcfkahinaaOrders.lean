/-
  Layer 08 (float): the small living call; the laws on the order of numbers, walked. No condition but that a word has 64 bits.
-/
import Derived.Test.YtanekkcfkahinaaFlKind
namespace Go.Proofs.Ytanekkcfkahinaa
open Go.RowKit
set_option linter.unusedVariables false

theorem lives_any (w : World) : Calls Try.prog 14 #[] w fun e w' => e = .returned (.bool true) ∧ w = w' := by
  have H7 : Hid (Calls Try.prog 7 #[.int .u64 9223372036854775808] w fun e w' => e = .returned (.float .f64 SG) ∧ w = w') := Of_any SG w
  have h15 := Cmp_any SG 0 (by decide +kernel) (by decide +kernel) w
  have e15 : cmpI SG 0 = -1 := by decide +kernel
  rw [e15] at h15
  have H15 := Lib.hid h15
  have h9 := pRatio_any 1 0 (fun h => absurd rfl h) w
  have e9 : ratioN 1 0 = IN := by decide +kernel
  rw [e9] at h9
  have H9 := Lib.hid h9
  have h25 := pKind_any IN (by decide +kernel) w
  have e25 : kindI IN = 1 := by decide +kernel
  rw [e25] at h25
  have H25 := Lib.hid h25
  have h12 := Tens_any 2 w
  have e12 : tensN (limI 2) = 4636737291354636288 := by decide +kernel
  rw [e12] at h12
  have H12 := Lib.hid h12
  have ho : FloatKind.f64.format.order 4636737291354636288 4636737291354636288 = some .eq := self_num (by decide +kernel) (by decide +kernel)
  clear h15 e15 h9 e9 h25 e25 h12 e12
  go_enter Try.func14, Try.ntmps14
  go_wp2_with (first
    | (go_at_call 7; (with_reducible refine H7.out.mono ?_); rintro e w1 ⟨rfl, rfl⟩)
    | (go_at_call 15; (with_reducible refine H15.out.mono ?_); rintro e w1 ⟨rfl, rfl⟩)
    | (go_at_call 9; (with_reducible refine H9.out.mono ?_); rintro e w1 ⟨rfl, rfl⟩)
    | (go_at_call 25; (with_reducible refine H25.out.mono ?_); rintro e w1 ⟨rfl, rfl⟩)
    | (go_at_call 12; (with_reducible refine H12.out.mono ?_); rintro e w1 ⟨rfl, rfl⟩))
  go_ret
  exact ⟨rfl, rfl⟩

theorem same_bits {a b : Nat} (ha : a < W64) (hb : b < W64) : (cmpI a b == 0) = ((bitsN a : Int) == (bitsN b : Int)) := by
  rw [Bool.eq_iff_iff, beq_iff_eq, beq_iff_eq, cmpI_zero ha hb]
  omega

set_option maxRecDepth 100000 in
theorem orders_core (a b : Nat) (ha : a < W64) (hb : b < W64) (w : World) :
    Calls Try.prog 5 #[.int .u64 a, .int .u64 b] w fun e w' => e = .returned (.bool true) ∧ w = w' := by
  have H7 := Lib.hid (fun b => Of_any b w)
  have H20 := Lib.hid (rCmp_any a b ha hb w)
  have H15 := Lib.hid (Cmp_any a b ha hb w)
  have h16 := Same_any a b ha hb w
  rw [same_bits ha hb] at h16
  have H16 := Lib.hid h16
  have H10 := Lib.hid (fun b => rBits_any b w)
  have H21 := Lib.hid (Max_any a b ha hb w)
  have H19 := Lib.hid (rMax_any a b ha hb w)
  have H22 := Lib.hid (Min_any a b ha hb w)
  have H18 := Lib.hid (rMin_any a b ha hb w)
  have H8a := Lib.hid (pBits_any (pickN a b 1) (pickN_lt ha hb 1) w)
  have H8b := Lib.hid (pBits_any (pickN a b (-1)) (pickN_lt ha hb (-1)) w)
  have H14 := Lib.hid (lives_any w)
  have HA := Lib.hid (H10.out a)
  have HB := Lib.hid (H10.out b)
  obtain ⟨C, hC⟩ : ∃ C, cmpI a b = C := ⟨_, rfl⟩
  obtain ⟨X, hX⟩ : ∃ X, pickN a b 1 = X := ⟨_, rfl⟩
  obtain ⟨Y, hY⟩ : ∃ Y, pickN a b (-1) = Y := ⟨_, rfl⟩
  obtain ⟨bx, hbx⟩ : ∃ z, bitsN X = z := ⟨_, rfl⟩
  obtain ⟨b_y, hby⟩ : ∃ z, bitsN Y = z := ⟨_, rfl⟩
  obtain ⟨ba, hba⟩ : ∃ z, bitsN a = z := ⟨_, rfl⟩
  obtain ⟨bb, hbb⟩ : ∃ z, bitsN b = z := ⟨_, rfl⟩
  have HX := Lib.hid (H10.out X)
  have HY := Lib.hid (H10.out Y)
  rw [hC] at H20 H15
  rw [hX] at H21 H19 H8a
  rw [hY] at H22 H18 H8b
  rw [hbx] at H8a HX
  rw [hby] at H8b HY
  rw [hba] at HA H16
  rw [hbb] at HB H16
  clear hC hX hY hbx hby hba hbb h16 ha hb H10
  go_enter Try.func5, Try.ntmps5
  go_wp2_with (go_at_call 7; (with_reducible refine (H7.out _).mono ?_); rintro e w1 ⟨rfl, rfl⟩)
  go_wp2_with (first
    | (go_at_call 20; (with_reducible refine H20.out.mono ?_); rintro e w1 ⟨rfl, rfl⟩)
    | (go_at_call 15; (with_reducible refine H15.out.mono ?_); rintro e w1 ⟨rfl, rfl⟩)
    | (go_at_call 16; (with_reducible refine H16.out.mono ?_); rintro e w1 ⟨rfl, rfl⟩)
    | (go_at_call 21; (with_reducible refine H21.out.mono ?_); rintro e w1 ⟨rfl, rfl⟩)
    | (go_at_call 19; (with_reducible refine H19.out.mono ?_); rintro e w1 ⟨rfl, rfl⟩)
    | (go_at_call 22; (with_reducible refine H22.out.mono ?_); rintro e w1 ⟨rfl, rfl⟩)
    | (go_at_call 18; (with_reducible refine H18.out.mono ?_); rintro e w1 ⟨rfl, rfl⟩)
    | (go_at_call_of 8 (Value.float FloatKind.f64 X); (with_reducible refine H8a.out.mono ?_); rintro e w1 ⟨rfl, rfl⟩)
    | (go_at_call_of 8 (Value.float FloatKind.f64 Y); (with_reducible refine H8b.out.mono ?_); rintro e w1 ⟨rfl, rfl⟩)
    | (go_at_call_of 10 (Value.float FloatKind.f64 X); (with_reducible refine HX.out.mono ?_); rintro e w1 ⟨rfl, rfl⟩)
    | (go_at_call_of 10 (Value.float FloatKind.f64 Y); (with_reducible refine HY.out.mono ?_); rintro e w1 ⟨rfl, rfl⟩)
    | (go_at_call_of 10 (Value.float FloatKind.f64 a); (with_reducible refine HA.out.mono ?_); rintro e w1 ⟨rfl, rfl⟩)
    | (go_at_call_of 10 (Value.float FloatKind.f64 b); (with_reducible refine HB.out.mono ?_); rintro e w1 ⟨rfl, rfl⟩)
    | (go_at_call 14; (with_reducible refine H14.out.mono ?_); rintro e w1 ⟨rfl, rfl⟩))
  go_ret
  exact ⟨rfl, rfl⟩

theorem orders_walk (a b : Int) (w : World) (wa : (Lit.int .u64 a).wf = true) (wb : (Lit.int .u64 b).wf = true) :
    Calls Try.prog 5 #[.int .u64 a, .int .u64 b] w fun e w' => e = .returned (.bool true) ∧ Below w.heap.size w w' := by
  obtain ⟨m, rfl, hm⟩ := u64_of a wa
  obtain ⟨n, rfl, hn⟩ := u64_of b wb
  exact (orders_core m n hm hn w).mono fun e w' hw => by
    obtain ⟨he, rfl⟩ := hw
    exact ⟨he, Below.refl _ _⟩
end Go.Proofs.Ytanekkcfkahinaa
