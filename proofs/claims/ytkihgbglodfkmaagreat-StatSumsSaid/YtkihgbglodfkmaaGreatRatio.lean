/-
  Layer 41: the quotient of two whole numbers, by the program and by the document. No condition but that a word has 64 bits.
-/
import Derived.Test.YtkihgbglodfkmaaGreatFlSum
namespace Go.Proofs.YtkihgbglodfkmaaGreat
open Go.RowKit
set_option linter.unusedVariables false

theorem rRatio_any (a b : Int) (hq : Quo a b) (w : World) : Calls Tryz.prog 18 #[.int .i64 a, .int .i64 b] w fun e w' => e = .returned (.float .f64 (ratioN a b)) ∧ w = w' := by
  have H1 : Hid (Calls Tryz.prog 38 #[.int .u64 9221120237041090561] w fun e w' => e = .returned (.float .f64 NN) ∧ w = w') := Of_any NN w
  have H2 : Hid (Calls Tryz.prog 38 #[.int .u64 9218868437227405312] w fun e w' => e = .returned (.float .f64 IN) ∧ w = w') := Of_any IN w
  have H3 : Hid (Calls Tryz.prog 38 #[.int .u64 18442240474082181120] w fun e w' => e = .returned (.float .f64 NINF) ∧ w = w') := Of_any NINF w
  have HE : Hid (ratioN a b = if b = 0 then (if 0 < a then IN else if a < 0 then NINF else NN) else quoN a b) := rfl
  by_cases hb : b = 0
  · rw [if_pos hb] at HE
    subst hb
    clear hq
    rcases Int.lt_trichotomy a 0 with h | h | h
    · rw [if_neg (by omega), if_pos h] at HE
      have h1 : (a == 0) = false := by rw [beq_eq_false_iff_ne]; omega
      have h2 : ¬ 0 < a := by omega
      clear h
      go_enter Tryz.func18, Tryz.ntmps18
      go_wp2_with (go_at_call 38; (refine H3.out.mono ?_); rintro e w1 ⟨rfl, rfl⟩)
      go_ret
      exact ⟨by rw [HE.out]; rfl, rfl⟩
    · rw [if_neg (by omega), if_neg (by omega)] at HE
      subst h
      go_enter Tryz.func18, Tryz.ntmps18
      go_wp2_with (go_at_call 38; (refine H1.out.mono ?_); rintro e w1 ⟨rfl, rfl⟩)
      go_ret
      exact ⟨by rw [HE.out]; rfl, rfl⟩
    · rw [if_pos h] at HE
      have h1 : (a == 0) = false := by rw [beq_eq_false_iff_ne]; omega
      go_enter Tryz.func18, Tryz.ntmps18
      go_wp2_with (go_at_call 38; (refine H2.out.mono ?_); rintro e w1 ⟨rfl, rfl⟩)
      go_ret
      exact ⟨by rw [HE.out]; rfl, rfl⟩
  · rw [if_neg hb] at HE
    have hb' : (b == 0) = false := beq_eq_false_iff_ne.2 hb
    have hr := fun w => run_float_arith (P := Tryz.prog) w .quo 40 .f64 _ _ _ (hq hb)
    clear hb hq
    go_enter Tryz.func18, Tryz.ntmps18
    go_wp2
    go_ret
    exact ⟨by rw [HE.out]; rfl, rfl⟩

theorem Share_any (a b : Int) (hq : Quo a b) (w : World) : Calls Tryz.prog 17 #[.int .i64 a, .int .i64 b] w fun e w' => e = .returned (.float .f64 (ratioN a b)) ∧ w = w' := by
  have H := Lib.hid (pRatio_any a b hq w)
  go_enter Tryz.func17, Tryz.ntmps17
  go_wp2_with (go_at_call 37; refine H.out.mono ?_; rintro e w1 ⟨rfl, rfl⟩)
  go_ret
  exact ⟨rfl, rfl⟩
end Go.Proofs.YtkihgbglodfkmaaGreat
