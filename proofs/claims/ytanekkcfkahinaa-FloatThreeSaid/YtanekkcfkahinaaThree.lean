/-
  Layer 08 (float): the law on any three numbers, walked. No condition but that a word has 64 bits.
-/
import Derived.Test.YtanekkcfkahinaaOrders
namespace Go.Proofs.Ytanekkcfkahinaa
open Go.RowKit
set_option linter.unusedVariables false

theorem cmpI_swap (a b : Nat) : cmpI b a = -cmpI a b := by
  unfold cmpI
  rcases Nat.lt_trichotomy (placeN a) (placeN b) with h | h | h
  · rw [if_pos h, if_neg (by omega), if_pos h]; rfl
  · rw [h, if_neg (Nat.lt_irrefl _), if_neg (Nat.lt_irrefl _)]; rfl
  · rw [if_pos h, if_neg (by omega), if_pos h]
theorem cmpI_le (a b : Nat) : cmpI a b ≤ 0 ↔ placeN a ≤ placeN b := by
  unfold cmpI
  rcases Nat.lt_trichotomy (placeN a) (placeN b) with h | h | h
  · rw [if_pos h]; omega
  · rw [h, if_neg (Nat.lt_irrefl _), if_neg (Nat.lt_irrefl _)]; omega
  · rw [if_neg (by omega), if_pos h]; omega

set_option maxRecDepth 100000 in
theorem three_core (a b c : Nat) (ha : a < W64) (hb : b < W64) (hc : c < W64) (w : World) :
    Calls Try.prog 4 #[.int .u64 a, .int .u64 b, .int .u64 c] w fun e w' => e = .returned (.bool true) ∧ w = w' := by
  have H7 := Lib.hid (fun b => Of_any b w)
  have h1 := Cmp_any a b ha hb w
  have h2 := Cmp_any b a hb ha w
  rw [cmpI_swap a b] at h2
  have h3 := Same_any a b ha hb w
  have h4 := Cmp_any b c hb hc w
  have h5 := Cmp_any a c ha hc w
  have H17 := Lib.hid (Clamp_any a b c ha hb hc w)
  have H19 := Lib.hid (rMax_any a b ha hb w)
  have H18 := Lib.hid (rMin_any (pickN a b 1) c (pickN_lt ha hb 1) hc w)
  have hP := pickN_lt (pickN_lt ha hb 1) hc (-1)
  have H8 := Lib.hid (pBits_any _ hP w)
  have H10 := Lib.hid (rBits_any (pickN (pickN a b 1) c (-1)) w)
  have H14 := Lib.hid (lives_any w)
  have t1 := cmpI_le a b
  have t2 := cmpI_le b c
  have t3 := cmpI_le a c
  have i1 := cmpI_is a b
  obtain ⟨P, hP'⟩ : ∃ P, pickN a b 1 = P := ⟨_, rfl⟩
  rw [hP'] at H17 H19 H18 H8 H10
  obtain ⟨Q, hQ⟩ : ∃ Q, pickN P c (-1) = Q := ⟨_, rfl⟩
  rw [hQ] at H17 H18 H8 H10
  obtain ⟨R, hR⟩ : ∃ R, bitsN Q = R := ⟨_, rfl⟩
  rw [hR] at H8 H10
  obtain ⟨x, hx⟩ : ∃ x, cmpI a b = x := ⟨_, rfl⟩
  obtain ⟨y, hy⟩ : ∃ y, cmpI b c = y := ⟨_, rfl⟩
  obtain ⟨z, hz⟩ : ∃ z, cmpI a c = z := ⟨_, rfl⟩
  rw [hx] at h1 h2 h3 t1 i1
  rw [hy] at h4 t2
  rw [hz] at h5 t3
  have hT : x ≤ 0 → y ≤ 0 → z ≤ 0 := fun g1 g2 => t3.2 (Nat.le_trans (t1.1 g1) (t2.1 g2))
  have hng : -(-x) = x := by omega
  have hx1 : -1 ≤ x := by omega
  have hx2 : x ≤ 1 := by omega
  have H1 := Lib.hid h1
  have H2 := Lib.hid h2
  have H3 := Lib.hid h3
  have H4 := Lib.hid h4
  have H5 := Lib.hid h5
  have HN := Lib.hid hng
  clear h1 h2 h3 h4 h5 t1 t2 t3 hx hy hz hP hP' hQ hR ha hb hc i1 hng
  have hw : IntKind.i64.wrap x = x := IntWalk.i64_in _ (by omega)
  by_cases g1 : x ≤ 0
  · by_cases g2 : y ≤ 0
    · have g3 := hT g1 g2
      clear hT
      go_enter Try.func4, Try.ntmps4
      go_wp2_with (go_at_call 7; (with_reducible refine (H7.out _).mono ?_); rintro e w1 ⟨rfl, rfl⟩)
      refine H1.out.mono ?_
      rintro e w1 ⟨rfl, rfl⟩
      go_wp2_with fail
      refine H2.out.mono ?_
      rintro e w1 ⟨rfl, rfl⟩
      go_wp2_with fail
      refine H1.out.mono ?_
      rintro e w1 ⟨rfl, rfl⟩
      go_wp2_with fail
      refine H3.out.mono ?_
      rintro e w1 ⟨rfl, rfl⟩
      go_wp2_with fail
      refine H1.out.mono ?_
      rintro e w1 ⟨rfl, rfl⟩
      go_wp2_with fail
      refine H4.out.mono ?_
      rintro e w1 ⟨rfl, rfl⟩
      go_wp2_with fail
      refine H5.out.mono ?_
      rintro e w1 ⟨rfl, rfl⟩
      go_wp2_with (first
        | (go_at_call 17; (with_reducible refine H17.out.mono ?_); rintro e w1 ⟨rfl, rfl⟩)
        | (go_at_call 8; (with_reducible refine H8.out.mono ?_); rintro e w1 ⟨rfl, rfl⟩)
        | (go_at_call 19; (with_reducible refine H19.out.mono ?_); rintro e w1 ⟨rfl, rfl⟩)
        | (go_at_call 18; (with_reducible refine H18.out.mono ?_); rintro e w1 ⟨rfl, rfl⟩)
        | (go_at_call 10; (with_reducible refine H10.out.mono ?_); rintro e w1 ⟨rfl, rfl⟩)
        | (go_at_call 14; (with_reducible refine H14.out.mono ?_); rintro e w1 ⟨rfl, rfl⟩))
      go_ret
      exact ⟨rfl, rfl⟩
    · clear hT
      go_enter Try.func4, Try.ntmps4
      go_wp2_with (go_at_call 7; (with_reducible refine (H7.out _).mono ?_); rintro e w1 ⟨rfl, rfl⟩)
      refine H1.out.mono ?_
      rintro e w1 ⟨rfl, rfl⟩
      go_wp2_with fail
      refine H2.out.mono ?_
      rintro e w1 ⟨rfl, rfl⟩
      go_wp2_with fail
      refine H1.out.mono ?_
      rintro e w1 ⟨rfl, rfl⟩
      go_wp2_with fail
      refine H3.out.mono ?_
      rintro e w1 ⟨rfl, rfl⟩
      go_wp2_with fail
      refine H1.out.mono ?_
      rintro e w1 ⟨rfl, rfl⟩
      go_wp2_with fail
      refine H4.out.mono ?_
      rintro e w1 ⟨rfl, rfl⟩
      go_wp2_with (first
        | (go_at_call 17; (with_reducible refine H17.out.mono ?_); rintro e w1 ⟨rfl, rfl⟩)
        | (go_at_call 8; (with_reducible refine H8.out.mono ?_); rintro e w1 ⟨rfl, rfl⟩)
        | (go_at_call 19; (with_reducible refine H19.out.mono ?_); rintro e w1 ⟨rfl, rfl⟩)
        | (go_at_call 18; (with_reducible refine H18.out.mono ?_); rintro e w1 ⟨rfl, rfl⟩)
        | (go_at_call 10; (with_reducible refine H10.out.mono ?_); rintro e w1 ⟨rfl, rfl⟩)
        | (go_at_call 14; (with_reducible refine H14.out.mono ?_); rintro e w1 ⟨rfl, rfl⟩))
      go_ret
      exact ⟨rfl, rfl⟩
  · clear hT
    go_enter Try.func4, Try.ntmps4
    go_wp2_with (go_at_call 7; (with_reducible refine (H7.out _).mono ?_); rintro e w1 ⟨rfl, rfl⟩)
    refine H1.out.mono ?_
    rintro e w1 ⟨rfl, rfl⟩
    go_wp2_with fail
    refine H2.out.mono ?_
    rintro e w1 ⟨rfl, rfl⟩
    go_wp2_with fail
    refine H1.out.mono ?_
    rintro e w1 ⟨rfl, rfl⟩
    go_wp2_with fail
    refine H3.out.mono ?_
    rintro e w1 ⟨rfl, rfl⟩
    go_wp2_with fail
    refine H1.out.mono ?_
    rintro e w1 ⟨rfl, rfl⟩
    go_wp2_with (first
      | (go_at_call 17; (with_reducible refine H17.out.mono ?_); rintro e w1 ⟨rfl, rfl⟩)
      | (go_at_call 8; (with_reducible refine H8.out.mono ?_); rintro e w1 ⟨rfl, rfl⟩)
      | (go_at_call 19; (with_reducible refine H19.out.mono ?_); rintro e w1 ⟨rfl, rfl⟩)
      | (go_at_call 18; (with_reducible refine H18.out.mono ?_); rintro e w1 ⟨rfl, rfl⟩)
      | (go_at_call 10; (with_reducible refine H10.out.mono ?_); rintro e w1 ⟨rfl, rfl⟩)
      | (go_at_call 14; (with_reducible refine H14.out.mono ?_); rintro e w1 ⟨rfl, rfl⟩))
    go_ret
    exact ⟨rfl, rfl⟩

theorem three_walk (a b c : Int) (w : World) (wa : (Lit.int .u64 a).wf = true) (wb : (Lit.int .u64 b).wf = true) (wc : (Lit.int .u64 c).wf = true) :
    Calls Try.prog 4 #[.int .u64 a, .int .u64 b, .int .u64 c] w fun e w' => e = .returned (.bool true) ∧ Below w.heap.size w w' := by
  obtain ⟨m, rfl, hm⟩ := u64_of a wa
  obtain ⟨n, rfl, hn⟩ := u64_of b wb
  obtain ⟨k, rfl, hk⟩ := u64_of c wc
  exact (three_core m n k hm hn hk w).mono fun e w' hw => by
    obtain ⟨he, rfl⟩ := hw
    exact ⟨he, Below.refl _ _⟩
end Go.Proofs.Ytanekkcfkahinaa
