/-
  Layer 18 (mp3): the law on frames laid one behind the other, walked. No condition.
-/
import Derived.Test.YtfjfccomcmmfoaaFrame
namespace Go.Proofs.Ytfjfccomcmmfoaa
open Go.RowKit
set_option linter.unusedVariables false
attribute [local go_sem] plus_cell

/-- The pairs, as they lie in memory. -/
structure Pairs (w : World) (a : Option Addr) (len : Nat) : Prop where
  le : len ≤ maxLen
  at_ : ∀ j, j < len → ∃ b off, ∃ x y : UInt8, a = some ⟨b, off, none⟩ ∧ b < w.heap.size ∧ w.cell? ⟨b, off + j * 2, none⟩ = some (.int .u8 x.toNat) ∧ w.cell? ⟨b, off + j * 2 + 1, none⟩ = some (.int .u8 y.toNat)

theorem frB_le (b c : UInt8) : (frB b c).length ≤ 2000 := by
  by_cases h : nS (hd4 b c) < 4
  · unfold frB
    rw [if_pos h]
    exact Nat.zero_le _
  · have h1 := frB_length b c h
    have h2 := nS_far (hd4 b c) (by omega)
    omega
theorem ret_val {a b : Int} (h : a = b) : Value.int .i64 a = .int .i64 b := by rw [h]

set_option maxHeartbeats 2000000 in
theorem joined_core (a : Option Addr) (len cap : Nat) (w : World) (hA : Pairs w a len) :
    Calls Try.prog 5 #[.slice a len cap] w fun e w' => e = .returned (.bool true) ∧ Below w.heap.size w w' := by
  have H13 := Lib.hid lives_any
  have HA := Lib.hid hA
  have hlen := hA.le
  unfold maxLen at hlen
  clear hA
  go_enter Try.func5, Try.ntmps5
  go_wp2
  go_loopw [3, 4, 5] (fun x y z wr => ∃ (s : ByteArray) (n k : Nat), x = .string s ∧ y = .int .i64 n ∧ z = .int .i64 k ∧ k ≤ len ∧ k ≤ 6 ∧ n ≤ k ∧ s.size ≤ 2000 * k ∧ Hid (Laid n s.data.toList) ∧ Below w.heap.size w wr) (fun _ _ z _ => len - (intOf z).toNat)
  case atStart => exact ⟨⟨#[]⟩, 0, 0, rfl, rfl, rfl, Nat.zero_le _, by omega, Nat.le_refl _, Nat.le_refl _, rfl, Below.refl _ _⟩
  case round =>
    obtain ⟨s, n, k, rfl, rfl, rfl, hk, hk6, hnk, hss, HL, hb⟩ := hrel
    have HB := Lib.hid hb
    by_cases hlt : k < len ∧ k < 6
    · obtain ⟨hl, h6⟩ := hlt
      obtain ⟨b, off, x, y, rfl, hblt, k0, k1⟩ := HA.out.at_ k hl
      have d0 := (hb.cell (p := ⟨b, off + k * 2, none⟩) hblt).trans k0
      have d1 := (hb.cell (p := ⟨b, off + k * 2 + 1, none⟩) hblt).trans k1
      obtain ⟨t, ht⟩ : ∃ t : ByteArray, ⟨(frB x y).toArray⟩ = t := ⟨_, rfl⟩
      have htd : t.data.toList = frB x y := by rw [← ht]
      have hts : t.size ≤ 2000 := by rw [Lib.size_eq, htd]; exact frB_le x y
      have H15 := Lib.hid (fun w => ht ▸ refFrame_any x y w)
      have hi0 : (0 : Int) ≤ (k : Int) := by omega
      have hi1 : (k : Int) < (len : Int) := by omega
      clear hb k0 k1 ht
      cases he : t.toList.isEmpty
      · have hne : frB x y ≠ [] := by
          rw [Lib.toList_data, htd] at he
          intro e
          rw [e] at he
          cases he
        have HN : Hid (Laid (n + 1) (s ++ t).data.toList) := by
          unfold Hid
          have := Laid.snoc x y hne n _ HL.out
          rw [← htd] at this
          simpa using this
        have hsz : (s ++ t).size = s.size + t.size := ByteArray.size_append
        have HS : Hid ((s ++ t).size ≤ 2000 * (k + 1)) := by unfold Hid; omega
        clear hsz htd hne
        go_wp2_with fail
        refine wp_region_plus (by kernel_rfl) (by kernel_rfl) ?_
        repeat (first | go_big_quiet_skip | (go_big_quiet_want; go_big_quiet_op; first | go_big_quiet_on | (apply Exists.intro; refine ⟨fun _ => ?_, ?_⟩; (focus (go_at_call 15; with_reducible exact plus_call (H15.out _))); go_big_quiet_on)))
        refine wpQuiet_nil ?_
        rintro _ ⟨X, rfl⟩
        go_wp2
        go_roundw
        case rel => exact ⟨s ++ t, n + 1, k + 1, rfl, by go_num, by go_num, by omega, by omega, by omega, HS.out, HN, HB.out.trans ((plus_below wr X).mono HB.out.size)⟩
        case measure => simp [intOf]; omega
      · clear htd
        go_wp2_with fail
        refine wp_region_plus (by kernel_rfl) (by kernel_rfl) ?_
        repeat (first | go_big_quiet_skip | (go_big_quiet_want; go_big_quiet_op; first | go_big_quiet_on | (apply Exists.intro; refine ⟨fun _ => ?_, ?_⟩; (focus (go_at_call 15; with_reducible exact plus_call (H15.out _))); go_big_quiet_on)))
        refine wpQuiet_nil ?_
        rintro _ ⟨X, rfl⟩
        go_wp2
        go_roundw
        case rel => exact ⟨s, n, k + 1, rfl, rfl, by go_num, by omega, by omega, by omega, by omega, HL, HB.out.trans ((plus_below wr X).mono HB.out.size)⟩
        case measure => simp [intOf]; omega
    · have hf := fun w => frames_any s (by omega) w
      have hfr := Laid.fr n s.data.toList HL.out (s.size + 1) 0 0 (by rw [Lib.size_eq]; omega)
      rw [hfr, ← Lib.size_eq] at hf
      simp only [Nat.zero_add] at hf
      have hi := fun w => is_any s (by omega) w
      rw [Laid.is n s.data.toList HL.out] at hi
      have H16 := Lib.hid hf
      have H17 : Hid (∀ w, Calls Try.prog 17 #[.string s] w fun e w' => e = .returned (.bool (decide ((1 : Int) < (n : Int)))) ∧ Below w.heap.size w w') := by
        have e : decide ((1 : Int) < (n : Int)) = decide (1 < n) := by
          rw [Bool.eq_iff_iff, decide_eq_true_eq, decide_eq_true_eq]
          omega
        unfold Hid
        rw [e]
        exact hi
      clear hf hi hb hfr HA
      by_cases hl : k < len
      · have h6' : ¬ k < 6 := fun h => hlt ⟨hl, h⟩
        clear hlt
        go_wp2_with (first
          | (go_at_call 16; (with_reducible refine (H16.out _).mono ?_); rintro e w1 ⟨rfl, hb1⟩; have HB1 := Lib.hid hb1; clear hb1)
          | (go_at_call 17; (with_reducible refine (H17.out _).mono ?_); rintro e w2 ⟨rfl, hb2⟩; have HB2 := Lib.hid hb2; clear hb2)
          | (go_at_call 13; (with_reducible refine (H13.out _).mono ?_); rintro e w3 ⟨rfl, hb3⟩; have HB3 := Lib.hid hb3; clear hb3))
        go_ret
        have h1 := HB.out.trans (HB1.out.mono HB.out.size)
        have h2 := h1.trans (HB2.out.mono h1.size)
        exact ⟨rfl, h2.trans (HB3.out.mono h2.size)⟩
      · clear hlt
        go_wp2_with (first
          | (go_at_call 16; (with_reducible refine (H16.out _).mono ?_); rintro e w1 ⟨rfl, hb1⟩; have HB1 := Lib.hid hb1; clear hb1)
          | (go_at_call 17; (with_reducible refine (H17.out _).mono ?_); rintro e w2 ⟨rfl, hb2⟩; have HB2 := Lib.hid hb2; clear hb2)
          | (go_at_call 13; (with_reducible refine (H13.out _).mono ?_); rintro e w3 ⟨rfl, hb3⟩; have HB3 := Lib.hid hb3; clear hb3))
        go_ret
        have h1 := HB.out.trans (HB1.out.mono HB.out.size)
        have h2 := h1.trans (HB2.out.mono h1.size)
        exact ⟨rfl, h2.trans (HB3.out.mono h2.size)⟩
end Go.Proofs.Ytfjfccomcmmfoaa
