/-
  Layer 19 (binary): the law on texts: where the first binary byte stands, how many there are, which share these are, which rule goes.
-/
import Derived.Test.YtkkfbpbgidanoaaRefs
namespace Go.Proofs.Ytkkfbpbgidanoaa
open Go.RowKit
set_option linter.unusedVariables false

theorem none_there (l : List UInt8) (h : countN l = 0) : seekI l = -1 := by
  unfold countN at h
  rw [List.countP_eq_zero] at h
  unfold seekI
  have : l.findIdx? (fun c => oddN c.toNat) = none := by
    rw [List.findIdx?_eq_none_iff]
    intro x hx
    simpa using h x hx
  rw [this]

set_option maxHeartbeats 2000000 in
theorem texts_walk (s : ByteArray) (w : World) (hs : s.size ≤ maxLen) :
    Calls Try.prog 5 #[.string s] w fun e w' => e = .returned (.bool true) ∧ Below w.heap.size w w' := by
  obtain ⟨t, ht⟩ : ∃ t, s.extract 0 200 = t := ⟨_, rfl⟩
  have ht2 : t.size ≤ 200 := by rw [← ht]; exact (extract_cut_le s 200).1
  have hts : t.size ≤ maxLen := Nat.le_trans ht2 (by decide)
  have H9 := Lib.hid (fun w => ht ▸ cut_any s 200 hs w)
  have c12 := fun w => First_any t hts w
  have c13 := fun w => refFirst_any t hts w
  have c14 := fun w => refCount_any t hts w
  have c16 := fun w => Count_any t hts w
  have c19 := fun w => rule_any t hts w
  have c20 := fun w => Mark_any t _ rfl w
  have c21 := fun w => refMark_any t hts w
  have c22 := fun w => refRule_any t hts w
  obtain ⟨r, c15, c18, hr⟩ := share_all t ht2
  obtain ⟨n, c17⟩ := Bits_any r
  have hz := none_there t.data.toList
  have hR : seekI t.data.toList < 0 → ruleS t.data.toList = plain := fun h => if_pos (Or.inr h)
  obtain ⟨x, hx⟩ : ∃ x, seekI t.data.toList = x := ⟨_, rfl⟩
  obtain ⟨p, hp⟩ : ∃ p, countN t.data.toList = p := ⟨_, rfl⟩
  obtain ⟨m, hm⟩ : ∃ m, markN t.data.toList = m := ⟨_, rfl⟩
  obtain ⟨R, hR'⟩ : ∃ R, ruleS t.data.toList = R := ⟨_, rfl⟩
  rw [hx] at c12 c13 hz hR
  rw [hp] at c14 c16 c18 hz hr
  rw [hm] at c20 c21
  rw [hR'] at c19 c22 hR
  have H13 := Lib.hid c13
  have H14 := Lib.hid c14
  have H15 := Lib.hid c15
  have H16 := Lib.hid c16
  have H17 := Lib.hid c17
  have H18 := Lib.hid c18
  have H20 := Lib.hid c20
  have H21 := Lib.hid c21
  have H8 := Lib.hid lives_any
  have hpl : plain.toList = [116, 101, 120, 116, 47, 112, 108, 97, 105, 110] := by
    unfold plain
    rw [Lib.toList_data]
  clear c13 c14 c15 c16 c17 c18 c20 c21 ht hx hp hm hR' ht2 hts hs
  by_cases h0 : p = 0
  · have hx0 := hz h0
    obtain rfl := hR (by omega)
    subst hx0
    have H12 := Lib.hid c12
    have H19 := Lib.hid c19
    have H22 := Lib.hid c22
    obtain ⟨k, c23⟩ := Kind_any r
    have H23 := Lib.hid c23
    clear c12 c19 c22 c23 hz hR hr h0
    by_cases k0 : k = 0
    · subst k0
      go_enter Try.func5, Try.ntmps5
      go_wp2_with (first
        | (go_at_call 9; (refine (H9.out _).mono ?_); rintro e w1 ⟨rfl, rfl⟩)
        | (go_at_call 12; (with_reducible refine (H12.out _).mono ?_); rintro e w1 ⟨rfl, rfl⟩)
        | (go_at_call 13; (with_reducible refine (H13.out _).mono ?_); rintro e w1 ⟨rfl, rfl⟩)
        | (go_at_call 14; (with_reducible refine (H14.out _).mono ?_); rintro e w1 ⟨rfl, rfl⟩)
        | (go_at_call 15; (with_reducible refine (H15.out _).mono ?_); rintro e w1 ⟨rfl, rfl⟩)
        | (go_at_call 16; (with_reducible refine (H16.out _).mono ?_); rintro e w1 ⟨rfl, rfl⟩)
        | (go_at_call 17; (with_reducible refine (H17.out _).mono ?_); rintro e w1 ⟨rfl, rfl⟩)
        | (go_at_call 18; (with_reducible refine (H18.out _).mono ?_); rintro e w1 ⟨rfl, rfl⟩)
        | (go_at_call 19; (with_reducible refine (H19.out _).mono ?_); rintro e w1 ⟨rfl, hb1⟩; have HB1 := Lib.hid hb1; clear hb1)
        | (go_at_call 20; (with_reducible refine (H20.out _).mono ?_); rintro e w2 ⟨rfl, hb2⟩; have HB2 := Lib.hid hb2; clear hb2)
        | (go_at_call 21; (with_reducible refine (H21.out _).mono ?_); rintro e w' ⟨rfl, rfl⟩)
        | (go_at_call 22; (with_reducible refine (H22.out _).mono ?_); rintro e w' ⟨rfl, rfl⟩)
        | (go_at_call 23; (with_reducible refine (H23.out _).mono ?_); rintro e w' ⟨rfl, rfl⟩)
        | (go_at_call 8; (with_reducible refine (H8.out _).mono ?_); rintro e w3 ⟨rfl, hb3⟩; have HB3 := Lib.hid hb3; clear hb3))
      go_ret
      exact ⟨rfl, (HB1.out.trans (HB2.out.mono HB1.out.size)).trans (HB3.out.mono (Nat.le_trans HB1.out.size HB2.out.size))⟩
    · by_cases k2 : k = 2
      · subst k2
        go_enter Try.func5, Try.ntmps5
        go_wp2_with (first
          | (go_at_call 9; (refine (H9.out _).mono ?_); rintro e w1 ⟨rfl, rfl⟩)
          | (go_at_call 12; (with_reducible refine (H12.out _).mono ?_); rintro e w1 ⟨rfl, rfl⟩)
          | (go_at_call 13; (with_reducible refine (H13.out _).mono ?_); rintro e w1 ⟨rfl, rfl⟩)
          | (go_at_call 14; (with_reducible refine (H14.out _).mono ?_); rintro e w1 ⟨rfl, rfl⟩)
          | (go_at_call 15; (with_reducible refine (H15.out _).mono ?_); rintro e w1 ⟨rfl, rfl⟩)
          | (go_at_call 16; (with_reducible refine (H16.out _).mono ?_); rintro e w1 ⟨rfl, rfl⟩)
          | (go_at_call 17; (with_reducible refine (H17.out _).mono ?_); rintro e w1 ⟨rfl, rfl⟩)
          | (go_at_call 18; (with_reducible refine (H18.out _).mono ?_); rintro e w1 ⟨rfl, rfl⟩)
          | (go_at_call 19; (with_reducible refine (H19.out _).mono ?_); rintro e w1 ⟨rfl, hb1⟩; have HB1 := Lib.hid hb1; clear hb1)
          | (go_at_call 20; (with_reducible refine (H20.out _).mono ?_); rintro e w2 ⟨rfl, hb2⟩; have HB2 := Lib.hid hb2; clear hb2)
          | (go_at_call 21; (with_reducible refine (H21.out _).mono ?_); rintro e w' ⟨rfl, rfl⟩)
          | (go_at_call 22; (with_reducible refine (H22.out _).mono ?_); rintro e w' ⟨rfl, rfl⟩)
          | (go_at_call 23; (with_reducible refine (H23.out _).mono ?_); rintro e w' ⟨rfl, rfl⟩)
          | (go_at_call 8; (with_reducible refine (H8.out _).mono ?_); rintro e w3 ⟨rfl, hb3⟩; have HB3 := Lib.hid hb3; clear hb3))
        go_ret
        exact ⟨rfl, (HB1.out.trans (HB2.out.mono HB1.out.size)).trans (HB3.out.mono (Nat.le_trans HB1.out.size HB2.out.size))⟩
      · have b0 : (k == 0) = false := by simpa using k0
        have b2 : (k == 2) = false := by simpa using k2
        go_enter Try.func5, Try.ntmps5
        go_wp2_with (first
          | (go_at_call 9; (refine (H9.out _).mono ?_); rintro e w1 ⟨rfl, rfl⟩)
          | (go_at_call 12; (with_reducible refine (H12.out _).mono ?_); rintro e w1 ⟨rfl, rfl⟩)
          | (go_at_call 13; (with_reducible refine (H13.out _).mono ?_); rintro e w1 ⟨rfl, rfl⟩)
          | (go_at_call 14; (with_reducible refine (H14.out _).mono ?_); rintro e w1 ⟨rfl, rfl⟩)
          | (go_at_call 15; (with_reducible refine (H15.out _).mono ?_); rintro e w1 ⟨rfl, rfl⟩)
          | (go_at_call 16; (with_reducible refine (H16.out _).mono ?_); rintro e w1 ⟨rfl, rfl⟩)
          | (go_at_call 17; (with_reducible refine (H17.out _).mono ?_); rintro e w1 ⟨rfl, rfl⟩)
          | (go_at_call 18; (with_reducible refine (H18.out _).mono ?_); rintro e w1 ⟨rfl, rfl⟩)
          | (go_at_call 19; (with_reducible refine (H19.out _).mono ?_); rintro e w1 ⟨rfl, hb1⟩; have HB1 := Lib.hid hb1; clear hb1)
          | (go_at_call 20; (with_reducible refine (H20.out _).mono ?_); rintro e w2 ⟨rfl, hb2⟩; have HB2 := Lib.hid hb2; clear hb2)
          | (go_at_call 21; (with_reducible refine (H21.out _).mono ?_); rintro e w' ⟨rfl, rfl⟩)
          | (go_at_call 22; (with_reducible refine (H22.out _).mono ?_); rintro e w' ⟨rfl, rfl⟩)
          | (go_at_call 23; (with_reducible refine (H23.out _).mono ?_); rintro e w' ⟨rfl, rfl⟩)
          | (go_at_call 8; (with_reducible refine (H8.out _).mono ?_); rintro e w3 ⟨rfl, hb3⟩; have HB3 := Lib.hid hb3; clear hb3))
        go_ret
        exact ⟨rfl, (HB1.out.trans (HB2.out.mono HB1.out.size)).trans (HB3.out.mono (Nat.le_trans HB1.out.size HB2.out.size))⟩
  · obtain ⟨r0, r1⟩ := hr (by omega)
    have H19 := Lib.hid c19
    have H22 := Lib.hid c22
    obtain ⟨k, ⟨k0, k2⟩, c23⟩ := Kind_pos r r0 r1
    have H23 := Lib.hid c23
    clear c19 c22 c23 hz hR hr h0 r0 r1
    by_cases hx0 : x < 0
    · have hm0 : max x 0 = 0 := by omega
      have hd0 : decide (0 ≤ x) = false := by simpa using hx0
      rw [hm0, hd0] at c12
      have H12 := Lib.hid c12
      clear c12 hm0 hd0
      go_enter Try.func5, Try.ntmps5
      go_wp2_with (first
        | (go_at_call 9; (refine (H9.out _).mono ?_); rintro e w1 ⟨rfl, rfl⟩)
        | (go_at_call 12; (with_reducible refine (H12.out _).mono ?_); rintro e w1 ⟨rfl, rfl⟩)
        | (go_at_call 13; (with_reducible refine (H13.out _).mono ?_); rintro e w1 ⟨rfl, rfl⟩)
        | (go_at_call 14; (with_reducible refine (H14.out _).mono ?_); rintro e w1 ⟨rfl, rfl⟩)
        | (go_at_call 15; (with_reducible refine (H15.out _).mono ?_); rintro e w1 ⟨rfl, rfl⟩)
        | (go_at_call 16; (with_reducible refine (H16.out _).mono ?_); rintro e w1 ⟨rfl, rfl⟩)
        | (go_at_call 17; (with_reducible refine (H17.out _).mono ?_); rintro e w1 ⟨rfl, rfl⟩)
        | (go_at_call 18; (with_reducible refine (H18.out _).mono ?_); rintro e w1 ⟨rfl, rfl⟩)
        | (go_at_call 19; (with_reducible refine (H19.out _).mono ?_); rintro e w1 ⟨rfl, hb1⟩; have HB1 := Lib.hid hb1; clear hb1)
        | (go_at_call 20; (with_reducible refine (H20.out _).mono ?_); rintro e w2 ⟨rfl, hb2⟩; have HB2 := Lib.hid hb2; clear hb2)
        | (go_at_call 21; (with_reducible refine (H21.out _).mono ?_); rintro e w' ⟨rfl, rfl⟩)
        | (go_at_call 22; (with_reducible refine (H22.out _).mono ?_); rintro e w' ⟨rfl, rfl⟩)
        | (go_at_call 23; (with_reducible refine (H23.out _).mono ?_); rintro e w' ⟨rfl, rfl⟩)
        | (go_at_call 8; (with_reducible refine (H8.out _).mono ?_); rintro e w3 ⟨rfl, hb3⟩; have HB3 := Lib.hid hb3; clear hb3))
      go_ret
      exact ⟨rfl, (HB1.out.trans (HB2.out.mono HB1.out.size)).trans (HB3.out.mono (Nat.le_trans HB1.out.size HB2.out.size))⟩
    · have hm0 : max x 0 = x := by omega
      have hd0 : decide (0 ≤ x) = true := by simpa using hx0
      rw [hm0, hd0] at c12
      have H12 := Lib.hid c12
      clear c12 hm0 hd0
      go_enter Try.func5, Try.ntmps5
      go_wp2_with (first
        | (go_at_call 9; (refine (H9.out _).mono ?_); rintro e w1 ⟨rfl, rfl⟩)
        | (go_at_call 12; (with_reducible refine (H12.out _).mono ?_); rintro e w1 ⟨rfl, rfl⟩)
        | (go_at_call 13; (with_reducible refine (H13.out _).mono ?_); rintro e w1 ⟨rfl, rfl⟩)
        | (go_at_call 14; (with_reducible refine (H14.out _).mono ?_); rintro e w1 ⟨rfl, rfl⟩)
        | (go_at_call 15; (with_reducible refine (H15.out _).mono ?_); rintro e w1 ⟨rfl, rfl⟩)
        | (go_at_call 16; (with_reducible refine (H16.out _).mono ?_); rintro e w1 ⟨rfl, rfl⟩)
        | (go_at_call 17; (with_reducible refine (H17.out _).mono ?_); rintro e w1 ⟨rfl, rfl⟩)
        | (go_at_call 18; (with_reducible refine (H18.out _).mono ?_); rintro e w1 ⟨rfl, rfl⟩)
        | (go_at_call 19; (with_reducible refine (H19.out _).mono ?_); rintro e w1 ⟨rfl, hb1⟩; have HB1 := Lib.hid hb1; clear hb1)
        | (go_at_call 20; (with_reducible refine (H20.out _).mono ?_); rintro e w2 ⟨rfl, hb2⟩; have HB2 := Lib.hid hb2; clear hb2)
        | (go_at_call 21; (with_reducible refine (H21.out _).mono ?_); rintro e w' ⟨rfl, rfl⟩)
        | (go_at_call 22; (with_reducible refine (H22.out _).mono ?_); rintro e w' ⟨rfl, rfl⟩)
        | (go_at_call 23; (with_reducible refine (H23.out _).mono ?_); rintro e w' ⟨rfl, rfl⟩)
        | (go_at_call 8; (with_reducible refine (H8.out _).mono ?_); rintro e w3 ⟨rfl, hb3⟩; have HB3 := Lib.hid hb3; clear hb3))
      go_ret
      exact ⟨rfl, (HB1.out.trans (HB2.out.mono HB1.out.size)).trans (HB3.out.mono (Nat.le_trans HB1.out.size HB2.out.size))⟩
end Go.Proofs.Ytkkfbpbgidanoaa
