/-
  Floats by their bits: the greater and the lesser one; kinds; tens; the quotient by nought: the contracts. No condition but that a word has 64 bits.
-/
import Derived.Test.YtanekkcfkahinaaFlCmp
import Derived.Laws.BitsAllLaws
namespace Go.Proofs.Ytanekkcfkahinaa
open Go.RowKit
set_option linter.unusedVariables false

theorem Same_any (a b : Nat) (ha : a < W64) (hb : b < W64) (w : World) : Calls Try.prog 16 #[.float .f64 a, .float .f64 b] w fun e w' => e = .returned (.bool (cmpI a b == 0)) ∧ w = w' := by
  have H1 := Lib.hid (compare_any a b ha hb w)
  clear ha hb
  go_enter Try.func16, Try.ntmps16
  go_wp2_with (go_at_call 33; (refine H1.out.mono ?_); rintro e w1 ⟨rfl, rfl⟩)
  go_ret
  exact ⟨rfl, rfl⟩

/-- The one of two that an order asks for. -/
def pickN (a b : Nat) (want : Int) : Nat := if nanB a = true ∨ nanB b = true then NN else if cmpI a b = want then a else b
theorem pickN_lt {a b : Nat} (ha : a < W64) (hb : b < W64) (want : Int) : pickN a b want < W64 := by
  unfold pickN
  split
  · decide +kernel
  · split <;> assumption
theorem pick_any (a b : Nat) (ha : a < W64) (hb : b < W64) (want : Int) (w : World) : Calls Try.prog 34 #[.float .f64 a, .float .f64 b, .int .i64 want] w fun e w' => e = .returned (.float .f64 (pickN a b want)) ∧ w = w' := by
  have H1 := Lib.hid (compare_any a b ha hb w)
  have H2 := Lib.hid (NaN_any w)
  have HE : Hid (pickN a b want = if nanB a = true ∨ nanB b = true then NN else if cmpI a b = want then a else b) := rfl
  cases h1 : nanB a
  · have e1 := self_num ha h1
    cases h2 : nanB b
    · have e2 := self_num hb h2
      rw [h1, h2, if_neg (by simp)] at HE
      obtain ⟨c, hc⟩ : ∃ c, cmpI a b = c := ⟨_, rfl⟩
      rw [hc] at H1 HE
      by_cases hcw : c = want
      · rw [if_pos hcw] at HE
        have hb' : (c == want) = true := beq_iff_eq.2 hcw
        clear hcw hc h1 h2 ha hb
        go_enter Try.func34, Try.ntmps34
        go_wp2_with (go_at_call 33; (refine H1.out.mono ?_); rintro e w1 ⟨rfl, rfl⟩)
        go_ret
        exact ⟨by rw [HE.out]; rfl, rfl⟩
      · rw [if_neg hcw] at HE
        have hb' : (c == want) = false := beq_eq_false_iff_ne.2 hcw
        clear hcw hc h1 h2 ha hb
        go_enter Try.func34, Try.ntmps34
        go_wp2_with (go_at_call 33; (refine H1.out.mono ?_); rintro e w1 ⟨rfl, rfl⟩)
        go_ret
        exact ⟨by rw [HE.out]; rfl, rfl⟩
    · have e2 := self_nan hb h2
      rw [h1, h2, if_pos (by simp)] at HE
      clear h1 h2 ha hb H1
      go_enter Try.func34, Try.ntmps34
      go_wp2_with (go_at_call 32; (refine H2.out.mono ?_); rintro e w1 ⟨rfl, rfl⟩)
      go_ret
      exact ⟨by rw [HE.out]; rfl, rfl⟩
  · have e1 := self_nan ha h1
    rw [h1, if_pos (by simp)] at HE
    clear h1 ha hb H1
    go_enter Try.func34, Try.ntmps34
    go_wp2_with (go_at_call 32; (refine H2.out.mono ?_); rintro e w1 ⟨rfl, rfl⟩)
    go_ret
    exact ⟨by rw [HE.out]; rfl, rfl⟩

theorem Max_any (a b : Nat) (ha : a < W64) (hb : b < W64) (w : World) : Calls Try.prog 21 #[.float .f64 a, .float .f64 b] w fun e w' => e = .returned (.float .f64 (pickN a b 1)) ∧ w = w' := by
  have H1 := Lib.hid (pick_any a b ha hb 1 w)
  clear ha hb
  go_enter Try.func21, Try.ntmps21
  go_wp2_with (go_at_call 34; (refine H1.out.mono ?_); rintro e w1 ⟨rfl, rfl⟩)
  go_ret
  exact ⟨rfl, rfl⟩
theorem Min_any (a b : Nat) (ha : a < W64) (hb : b < W64) (w : World) : Calls Try.prog 22 #[.float .f64 a, .float .f64 b] w fun e w' => e = .returned (.float .f64 (pickN a b (-1))) ∧ w = w' := by
  have H1 := Lib.hid (pick_any a b ha hb (-1) w)
  clear ha hb
  go_enter Try.func22, Try.ntmps22
  go_wp2_with (go_at_call 34; (refine H1.out.mono ?_); rintro e w1 ⟨rfl, rfl⟩)
  go_ret
  exact ⟨rfl, rfl⟩
theorem Clamp_any (a b c : Nat) (ha : a < W64) (hb : b < W64) (hc : c < W64) (w : World) : Calls Try.prog 17 #[.float .f64 a, .float .f64 b, .float .f64 c] w fun e w' => e = .returned (.float .f64 (pickN (pickN a b 1) c (-1))) ∧ w = w' := by
  have H1 := Lib.hid (pick_any a b ha hb 1 w)
  have H2 := Lib.hid (pick_any (pickN a b 1) c (pickN_lt ha hb 1) hc (-1) w)
  clear ha hb hc
  go_enter Try.func17, Try.ntmps17
  go_wp2_with fail
  refine H1.out.mono ?_
  rintro e w1 ⟨rfl, rfl⟩
  go_wp2_with fail
  refine H2.out.mono ?_
  rintro e w1 ⟨rfl, rfl⟩
  go_wp2_with fail
  go_ret
  exact ⟨rfl, rfl⟩

theorem kind_nan (b : Nat) : ((kindI b == 0) = nanB b) := by
  unfold kindI
  cases h : nanB b
  · simp only [Bool.false_eq_true, if_false]
    rw [beq_eq_false_iff_ne]
    repeat' split
    all_goals omega
  · rfl
theorem rMax_any (a b : Nat) (ha : a < W64) (hb : b < W64) (w : World) : Calls Try.prog 19 #[.float .f64 a, .float .f64 b] w fun e w' => e = .returned (.float .f64 (pickN a b 1)) ∧ w = w' := by
  have H1 := Lib.hid (rCmp_any a b ha hb w)
  have H2 := Lib.hid (Of_any NN w)
  have HK1 := Lib.hid (rKind_any a w)
  have HK2 := Lib.hid (rKind_any b w)
  have k1 := kind_nan a
  have k2 := kind_nan b
  have hci := cmpI_is a b
  have HE : Hid (pickN a b 1 = if nanB a = true ∨ nanB b = true then NN else if cmpI a b = 1 then a else b) := rfl
  obtain ⟨x, hx⟩ : ∃ x, kindI a = x := ⟨_, rfl⟩
  obtain ⟨y, hy⟩ : ∃ y, kindI b = y := ⟨_, rfl⟩
  obtain ⟨c, hc⟩ : ∃ c, cmpI a b = c := ⟨_, rfl⟩
  rw [hx] at HK1 k1
  rw [hy] at HK2 k2
  rw [hc] at H1 HE hci
  unfold NN at H2 HE
  clear hx hy hc ha hb
  cases h1 : nanB a
  · rw [h1] at k1
    cases h2 : nanB b
    · rw [h2] at k2
      rw [h1, h2, if_neg (by simp)] at HE
      clear h1 h2
      by_cases hc1 : c = 1
      · rw [if_pos hc1] at HE
        have g : 0 < c := by omega
        clear hc1 hci
        go_enter Try.func19, Try.ntmps19
        go_wp2_with fail
        refine HK1.out.mono ?_
        rintro e w1 ⟨rfl, rfl⟩
        go_wp2_with fail
        refine HK2.out.mono ?_
        rintro e w1 ⟨rfl, rfl⟩
        go_wp2_with (go_at_call 20; (refine H1.out.mono ?_); rintro e w1 ⟨rfl, rfl⟩)
        go_ret
        exact ⟨by rw [HE.out]; rfl, rfl⟩
      · rw [if_neg hc1] at HE
        have g : ¬ 0 < c := by omega
        clear hc1 hci
        go_enter Try.func19, Try.ntmps19
        go_wp2_with fail
        refine HK1.out.mono ?_
        rintro e w1 ⟨rfl, rfl⟩
        go_wp2_with fail
        refine HK2.out.mono ?_
        rintro e w1 ⟨rfl, rfl⟩
        go_wp2_with (go_at_call 20; (refine H1.out.mono ?_); rintro e w1 ⟨rfl, rfl⟩)
        go_ret
        exact ⟨by rw [HE.out]; rfl, rfl⟩
    · rw [h2] at k2
      rw [h1, h2, if_pos (by simp)] at HE
      clear h1 h2 hci
      go_enter Try.func19, Try.ntmps19
      go_wp2_with fail
      refine HK1.out.mono ?_
      rintro e w1 ⟨rfl, rfl⟩
      go_wp2_with fail
      refine HK2.out.mono ?_
      rintro e w1 ⟨rfl, rfl⟩
      go_wp2_with (go_at_call 7; (refine H2.out.mono ?_); rintro e w1 ⟨rfl, rfl⟩)
      go_ret
      exact ⟨by rw [HE.out]; rfl, rfl⟩
  · rw [h1] at k1
    rw [h1, if_pos (by simp)] at HE
    clear h1 hci
    go_enter Try.func19, Try.ntmps19
    go_wp2_with fail
    refine HK1.out.mono ?_
    rintro e w1 ⟨rfl, rfl⟩
    go_wp2_with (go_at_call 7; (refine H2.out.mono ?_); rintro e w1 ⟨rfl, rfl⟩)
    go_ret
    exact ⟨by rw [HE.out]; rfl, rfl⟩
theorem rMin_any (a b : Nat) (ha : a < W64) (hb : b < W64) (w : World) : Calls Try.prog 18 #[.float .f64 a, .float .f64 b] w fun e w' => e = .returned (.float .f64 (pickN a b (-1))) ∧ w = w' := by
  have H1 := Lib.hid (rCmp_any a b ha hb w)
  have H2 := Lib.hid (Of_any NN w)
  have HK1 := Lib.hid (rKind_any a w)
  have HK2 := Lib.hid (rKind_any b w)
  have k1 := kind_nan a
  have k2 := kind_nan b
  have hci := cmpI_is a b
  have HE : Hid (pickN a b (-1) = if nanB a = true ∨ nanB b = true then NN else if cmpI a b = -1 then a else b) := rfl
  obtain ⟨x, hx⟩ : ∃ x, kindI a = x := ⟨_, rfl⟩
  obtain ⟨y, hy⟩ : ∃ y, kindI b = y := ⟨_, rfl⟩
  obtain ⟨c, hc⟩ : ∃ c, cmpI a b = c := ⟨_, rfl⟩
  rw [hx] at HK1 k1
  rw [hy] at HK2 k2
  rw [hc] at H1 HE hci
  unfold NN at H2 HE
  clear hx hy hc ha hb
  cases h1 : nanB a
  · rw [h1] at k1
    cases h2 : nanB b
    · rw [h2] at k2
      rw [h1, h2, if_neg (by simp)] at HE
      clear h1 h2
      by_cases hc1 : c = -1
      · rw [if_pos hc1] at HE
        have g : c < 0 := by omega
        clear hc1 hci
        go_enter Try.func18, Try.ntmps18
        go_wp2_with fail
        refine HK1.out.mono ?_
        rintro e w1 ⟨rfl, rfl⟩
        go_wp2_with fail
        refine HK2.out.mono ?_
        rintro e w1 ⟨rfl, rfl⟩
        go_wp2_with (go_at_call 20; (refine H1.out.mono ?_); rintro e w1 ⟨rfl, rfl⟩)
        go_ret
        exact ⟨by rw [HE.out]; rfl, rfl⟩
      · rw [if_neg hc1] at HE
        have g : ¬ c < 0 := by omega
        clear hc1 hci
        go_enter Try.func18, Try.ntmps18
        go_wp2_with fail
        refine HK1.out.mono ?_
        rintro e w1 ⟨rfl, rfl⟩
        go_wp2_with fail
        refine HK2.out.mono ?_
        rintro e w1 ⟨rfl, rfl⟩
        go_wp2_with (go_at_call 20; (refine H1.out.mono ?_); rintro e w1 ⟨rfl, rfl⟩)
        go_ret
        exact ⟨by rw [HE.out]; rfl, rfl⟩
    · rw [h2] at k2
      rw [h1, h2, if_pos (by simp)] at HE
      clear h1 h2 hci
      go_enter Try.func18, Try.ntmps18
      go_wp2_with fail
      refine HK1.out.mono ?_
      rintro e w1 ⟨rfl, rfl⟩
      go_wp2_with fail
      refine HK2.out.mono ?_
      rintro e w1 ⟨rfl, rfl⟩
      go_wp2_with (go_at_call 7; (refine H2.out.mono ?_); rintro e w1 ⟨rfl, rfl⟩)
      go_ret
      exact ⟨by rw [HE.out]; rfl, rfl⟩
  · rw [h1] at k1
    rw [h1, if_pos (by simp)] at HE
    clear h1 hci
    go_enter Try.func18, Try.ntmps18
    go_wp2_with fail
    refine HK1.out.mono ?_
    rintro e w1 ⟨rfl, rfl⟩
    go_wp2_with (go_at_call 7; (refine H2.out.mono ?_); rintro e w1 ⟨rfl, rfl⟩)
    go_ret
    exact ⟨by rw [HE.out]; rfl, rfl⟩
end Go.Proofs.Ytanekkcfkahinaa
