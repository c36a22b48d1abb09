/-
  Layer 41: the number at a place and at a share, the least and the greatest, by the program. No condition but that a series is one, or none.
-/
import Derived.Test.YtkihgbglodfkmaaGreatSorted
namespace Go.Proofs.YtkihgbglodfkmaaGreat
open Go.RowKit
set_option linter.unusedVariables false

/-- This number has these bits, and the world below is as it was. -/
def Flt (o : Nat) (w : World) (e : Ending) (w' : World) : Prop := ∃ y, e = .returned (.float .f64 y) ∧ (bitsN y = o ∧ y < W64) ∧ Below w.heap.size w w'

set_option maxHeartbeats 1000000 in
theorem at_any {w : World} {B : Nat} {p : Value} {A : Option Addr} {cap : Nat} {xs : List Nat} (h : Has w B p A cap xs) (hw : ∀ x ∈ xs, x < W64) (i : Int) :
    Calls Tryz.prog 57 #[p, .int .i64 i] w (Flt (atB xs i) w) := by
  have H2 := Lib.hid NaN_any
  have hfew := h.few
  have h1 := sorted_any h hw
  have H1 : Hid (Calls Tryz.prog 32 #[p] w fun e w' => ∃ A c ys, e = .returned (.slice A xs.length c) ∧ Hid (Sorts xs ys ∧ Nums w' w.heap.size A c ys ∧ Below w.heap.size w w')) :=
    h1.mono fun e w' ⟨A, c, ys, he, hs, hr, hb⟩ => ⟨A, c, ys, by rw [he, hs.len], ⟨hs, hr, hb⟩⟩
  have HW := Lib.hid hw
  obtain ⟨n, hN⟩ : ∃ n, xs.length = n := ⟨_, rfl⟩
  have HN := Lib.hid hN
  rw [hN] at H1 hfew
  clear h h1 hw hN
  by_cases hneg : i < 0
  · have hbad : atB xs i = NN := atB_out (by omega)
    rw [hbad]
    clear hbad
    go_enter Tryz.func57, Tryz.ntmps57
    go_wp2_with (first
      | (go_at_call 32; refine H1.out.mono ?_; rintro e w1 ⟨A', c, ys, rfl, HP⟩)
      | (go_at_call 53; refine (H2.out _).mono ?_; rintro e w1 ⟨rfl, rfl⟩))
    go_ret
    exact ⟨_, rfl, ⟨bits_nn, nn_lt⟩, HP.out.2.2⟩
  · by_cases hge : (n : Int) ≤ i
    · have hbad : atB xs i = NN := atB_out (by rw [HN.out]; omega)
      rw [hbad]
      clear hbad
      go_enter Tryz.func57, Tryz.ntmps57
      go_wp2_with (first
        | (go_at_call 32; refine H1.out.mono ?_; rintro e w1 ⟨A', c, ys, rfl, HP⟩)
        | (go_at_call 53; refine (H2.out _).mono ?_; rintro e w1 ⟨rfl, rfl⟩))
      go_ret
      exact ⟨_, rfl, ⟨bits_nn, nn_lt⟩, HP.out.2.2⟩
    · obtain ⟨k, rfl⟩ : ∃ k : Nat, i = k := ⟨i.toNat, by omega⟩
      have hk : k < n := by omega
      clear hneg hge
      go_enter Tryz.func57, Tryz.ntmps57
      go_wp2_with (go_at_call 32; refine H1.out.mono ?_; rintro e w1 ⟨A', c, ys, rfl, HP⟩; have hky : k < ys.length := (by rw [HP.out.1.len, HN.out]; exact hk); obtain ⟨g, off, rfl, _, hcell, hc1, hc2⟩ := HP.out.2.1.get hky; rw [HP.out.1.len, HN.out] at hc1; have HY := Lib.hid (atB_in HP.out.1 HW.out hky); have HL := Lib.hid (HP.out.1.lt HW.out _ (List.getElem_mem hky)); generalize ys[k]'hky = y at hcell HY HL; clear hky)
      go_ret
      exact ⟨_, rfl, ⟨HY.out, HL.out⟩, HP.out.2.2⟩

/-- A share that there is. -/
def Share_ (xs : List Nat) (num den : Int) : Prop := xs.length ≠ 0 ∧ 1 ≤ den ∧ den ≤ 1000 ∧ 0 ≤ num ∧ num ≤ den
instance (xs : List Nat) (num den : Int) : Decidable (Share_ xs num den) := by unfold Share_; exact inferInstance
/-- The bits of the number at a share. -/
def shareB (xs : List Nat) (num den : Int) : Nat := if Share_ xs num den then atB xs (num * ((xs.length : Int) - 1) / den) else NN

theorem prod_le {a b : Int} (h1 : 0 ≤ a) (h2 : a ≤ 1000) (h3 : 0 ≤ b) (h4 : b ≤ 10000) : 0 ≤ a * b ∧ a * b ≤ 10000000 := by
  refine ⟨Int.mul_nonneg h1 h3, ?_⟩
  have := Int.mul_le_mul h2 h4 h3 (by decide)
  omega

set_option maxHeartbeats 2000000 in
theorem At_any {w : World} {B : Nat} {p : Value} {A : Option Addr} {cap : Nat} {xs : List Nat} (h : Has w B p A cap xs) (hw : ∀ x ∈ xs, x < W64) (num den : Int) :
    Calls Tryz.prog 40 #[p, .int .i64 num, .int .i64 den] w (Flt (shareB xs num den) w) := by
  have H3 := Lib.hid NaN_any
  have H2 := Lib.hid (h.all w (Below.refl _ _))
  have HA := Lib.hid (fun i => at_any h hw i)
  have hfew := h.few
  obtain ⟨o, ho⟩ : ∃ o, shareB xs num den = o := ⟨_, rfl⟩
  have HO := Lib.hid ho
  rw [ho]
  have HSH : Hid (Share_ xs num den ↔ (xs.length ≠ 0 ∧ 1 ≤ den ∧ den ≤ 1000 ∧ 0 ≤ num ∧ num ≤ den)) := Iff.rfl
  obtain ⟨n, hN⟩ : ∃ n, xs.length = n := ⟨_, rfl⟩
  have HN := Lib.hid hN
  rw [hN] at H2 hfew HSH
  clear h hw hN ho
  by_cases hs : n ≠ 0 ∧ 1 ≤ den ∧ den ≤ 1000 ∧ 0 ≤ num ∧ num ≤ den
  · have HE : Hid (o = atB xs (num * ((n : Int) - 1) / den)) := by
      unfold Hid
      rw [← HO.out, ← HN.out]
      unfold shareB
      rw [if_pos (HSH.out.2 hs)]
    obtain ⟨h0, h1, h2, h3, h4⟩ := hs
    have hz : ((n : Int) == 0) = false := by rw [beq_eq_false_iff_ne]; omega
    have hp := prod_le h3 (by omega : num ≤ 1000) (by omega : (0 : Int) ≤ (n : Int) - 1) (by omega)
    obtain ⟨hp1, hp2⟩ := hp
    have hden : ¬ den = 0 := by omega
    clear h0
    go_enter Tryz.func40, Tryz.ntmps40
    go_wp2_with (first
      | (go_at_call 30; refine H2.out.mono ?_; rintro e w1 ⟨rfl, rfl⟩)
      | (go_at_call 57; refine (HA.out _).mono ?_; rintro e w1 ⟨y, rfl, hy, hb⟩))
    go_ret
    exact ⟨_, rfl, by rw [HE.out]; exact hy, hb⟩
  · have HE : Hid (o = NN) := by
      unfold Hid
      rw [← HO.out]
      unfold shareB
      rw [if_neg (fun h => hs (HSH.out.1 h))]
    by_cases h0 : n = 0
    · subst h0
      clear hs
      go_enter Tryz.func40, Tryz.ntmps40
      go_wp2_with (first
        | (go_at_call 30; refine H2.out.mono ?_; rintro e w1 ⟨rfl, rfl⟩)
        | (go_at_call 53; refine (H3.out _).mono ?_; rintro e w1 ⟨rfl, rfl⟩))
      go_ret
      exact ⟨_, rfl, by rw [HE.out]; exact ⟨bits_nn, nn_lt⟩, Below.refl _ _⟩
    · have hz : ((n : Int) == 0) = false := by rw [beq_eq_false_iff_ne]; omega
      by_cases h1 : den < 1
      · clear hs h0
        go_enter Tryz.func40, Tryz.ntmps40
        go_wp2_with (first
          | (go_at_call 30; refine H2.out.mono ?_; rintro e w1 ⟨rfl, rfl⟩)
          | (go_at_call 53; refine (H3.out _).mono ?_; rintro e w1 ⟨rfl, rfl⟩))
        go_ret
        exact ⟨_, rfl, by rw [HE.out]; exact ⟨bits_nn, nn_lt⟩, Below.refl _ _⟩
      · by_cases h2 : 1000 < den
        · clear hs h0
          go_enter Tryz.func40, Tryz.ntmps40
          go_wp2_with (first
            | (go_at_call 30; refine H2.out.mono ?_; rintro e w1 ⟨rfl, rfl⟩)
            | (go_at_call 53; refine (H3.out _).mono ?_; rintro e w1 ⟨rfl, rfl⟩))
          go_ret
          exact ⟨_, rfl, by rw [HE.out]; exact ⟨bits_nn, nn_lt⟩, Below.refl _ _⟩
        · by_cases h3 : num < 0
          · clear hs h0
            go_enter Tryz.func40, Tryz.ntmps40
            go_wp2_with (first
              | (go_at_call 30; refine H2.out.mono ?_; rintro e w1 ⟨rfl, rfl⟩)
              | (go_at_call 53; refine (H3.out _).mono ?_; rintro e w1 ⟨rfl, rfl⟩))
            go_ret
            exact ⟨_, rfl, by rw [HE.out]; exact ⟨bits_nn, nn_lt⟩, Below.refl _ _⟩
          · have h4 : den < num := by omega
            clear hs h0
            go_enter Tryz.func40, Tryz.ntmps40
            go_wp2_with (first
              | (go_at_call 30; refine H2.out.mono ?_; rintro e w1 ⟨rfl, rfl⟩)
              | (go_at_call 53; refine (H3.out _).mono ?_; rintro e w1 ⟨rfl, rfl⟩))
            go_ret
            exact ⟨_, rfl, by rw [HE.out]; exact ⟨bits_nn, nn_lt⟩, Below.refl _ _⟩
end Go.Proofs.YtkihgbglodfkmaaGreat
