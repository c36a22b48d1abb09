/-
  The queue: Fill, Take, Room, Full, Passed. No condition but that the queue is one.
-/
import Derived.Test.YtbjjolmnfklihaaQDrop
namespace Go.Proofs.Ytbjjolmnfklihaa
open Go.RowKit
set_option linter.unusedVariables false

theorem Fill_nil (s : ByteArray) (w : World) : Calls Try.prog 9 #[.pointer none, .string s] w fun e w' => e = .returned (.string s) ∧ w = w' := by
  go_enter Try.func9, Try.ntmps9
  go_wp2
  go_ret
  exact ⟨rfl, rfl⟩
theorem Fill_any {w : World} {B g : Nat} {bs : List UInt8} {most out : Nat} (h : Que w B g bs most out) (s : ByteArray) (hs : s.size ≤ maxLen) (hB : B ≤ w.heap.size) :
    Calls Try.prog 9 #[.pointer (some ⟨g, 0, none⟩), .string s] w fun e w' => e = .returned (.string (s.extract (min s.size (most - bs.length)) s.size)) ∧
      Que w' B g (bs ++ (s.extract 0 (min s.size (most - bs.length))).data.toList) most out ∧ Below B w w' := by
  have H1 := Lib.hid (room_any h)
  have h1 := h.fits
  have h2 := h.small
  obtain ⟨k, hk⟩ : ∃ k, min s.size (most - bs.length) = k := ⟨_, rfl⟩
  have H2 : Hid (∀ W, Below w.heap.size w W → Calls Try.prog 19 #[.pointer (some ⟨g, 0, none⟩), .string (s.extract 0 k)] W fun e w' => e = .returned (.tuple #[]) ∧ Que w' B g (bs ++ (s.extract 0 k).data.toList) most out ∧ Below B W w') :=
    fun W hb => hold_any (h.below hb) (s.extract 0 k) (by rw [ByteArray.size_extract]; omega) (Nat.le_trans hB hb.size)
  rw [hk]
  obtain ⟨r, hr⟩ : ∃ r : Nat, most - bs.length = r := ⟨_, rfl⟩
  rw [hr] at H1 hk
  have HB := Lib.hid hB
  unfold maxLen at hs
  have hr9 : r ≤ 1048576 := by omega
  clear h hr h1 h2 hB
  by_cases hsr : s.size ≤ r
  · obtain rfl : k = s.size := by omega
    have e := extract_all s s.size (Nat.le_refl _)
    have e' : s.extract s.size s.size = ByteArray.empty := ext_data (by rw [Lib.extract_data, Nat.sub_self, List.take_zero]; rfl)
    rw [e] at H2 ⊢
    rw [e']
    clear hk e e'
    go_enter Try.func9, Try.ntmps9
    go_wp2_with (first
      | (go_at_call 18; refine H1.out.mono ?_; rintro e w1 ⟨rfl, hb1⟩; have HB1 := Lib.hid hb1; clear hb1)
      | (go_at_call 19; refine (H2.out _ HB1.out).mono ?_; rintro e w2 ⟨rfl, hq2, hb2⟩; have HQ2 := Lib.hid hq2; have HB2 := Lib.hid hb2; clear hq2 hb2))
    go_ret
    exact ⟨rfl, HQ2.out, (HB1.out.mono HB.out).trans HB2.out⟩
  · obtain rfl : k = r := by omega
    clear hk
    have hlt : k < s.size := by omega
    go_enter Try.func9, Try.ntmps9
    go_wp2_with (first
      | (go_at_call 18; refine H1.out.mono ?_; rintro e w1 ⟨rfl, hb1⟩; have HB1 := Lib.hid hb1; clear hb1)
      | (go_at_call 19; refine (H2.out _ HB1.out).mono ?_; rintro e w2 ⟨rfl, hq2, hb2⟩; have HQ2 := Lib.hid hq2; have HB2 := Lib.hid hb2; clear hq2 hb2))
    go_ret
    exact ⟨rfl, HQ2.out, (HB1.out.mono HB.out).trans HB2.out⟩

theorem Take_nil (n : Int) (w : World) : Calls Try.prog 10 #[.pointer none, .int .i64 n] w fun e w' => e = .returned (.string ⟨#[]⟩) ∧ Below w.heap.size w w' := by
  have H1 := Lib.hid (count_nil n w)
  have H2 := Lib.hid (take_nil w)
  go_enter Try.func10, Try.ntmps10
  go_wp2_with (first | (go_at_call 21; refine H1.out.mono ?_; rintro e w1 ⟨rfl, rfl⟩) | (go_at_call 20; refine H2.out.mono ?_; rintro e w1 ⟨rfl, hb1⟩; have HB1 := Lib.hid hb1; clear hb1))
  go_ret
  exact ⟨rfl, HB1.out⟩
theorem Take_any {w : World} {B g : Nat} {bs : List UInt8} {most out : Nat} (h : Que w B g bs most out) (n : Int) (hB : B ≤ w.heap.size) (ho : out + bs.length ≤ 1000000000) :
    Calls Try.prog 10 #[.pointer (some ⟨g, 0, none⟩), .int .i64 n] w fun e w' => e = .returned (.string ⟨(bs.take (cntN n bs.length)).toArray⟩) ∧ Que w' B g (bs.drop (cntN n bs.length)) most (out + cntN n bs.length) ∧ Below B w w' := by
  have hle := cntN_le n bs.length
  have H1 := Lib.hid (count_any h n)
  have H2 := Lib.hid (take_any h (cntN n bs.length) hle hB (by omega))
  clear h hle hB
  go_enter Try.func10, Try.ntmps10
  go_wp2_with (first
    | (go_at_call 21; refine H1.out.mono ?_; rintro e w1 ⟨rfl, rfl⟩)
    | (go_at_call 20; refine H2.out.mono ?_; rintro e w2 ⟨rfl, hq2, hb2⟩; have HQ2 := Lib.hid hq2; have HB2 := Lib.hid hb2; clear hq2 hb2))
  go_ret
  exact ⟨rfl, HQ2.out, HB2.out⟩

theorem Room_nil (w : World) : Calls Try.prog 16 #[.pointer none] w fun e w' => e = .returned (.int .i64 0) ∧ w = w' := by
  have H1 := Lib.hid (room_nil w)
  go_enter Try.func16, Try.ntmps16
  go_wp2_with (go_at_call 18; refine H1.out.mono ?_; rintro e w1 ⟨rfl, rfl⟩)
  go_ret
  exact ⟨rfl, rfl⟩
theorem Room_any {w : World} {B g : Nat} {bs : List UInt8} {most out : Nat} (h : Que w B g bs most out) :
    Calls Try.prog 16 #[.pointer (some ⟨g, 0, none⟩)] w fun e w' => e = .returned (.int .i64 ((most - bs.length : Nat) : Int)) ∧ Below w.heap.size w w' := by
  have H1 := Lib.hid (room_any h)
  clear h
  go_enter Try.func16, Try.ntmps16
  go_wp2_with (go_at_call 18; refine H1.out.mono ?_; rintro e w1 ⟨rfl, hb1⟩; have HB1 := Lib.hid hb1; clear hb1)
  go_ret
  exact ⟨rfl, HB1.out⟩
theorem Full_nil (w : World) : Calls Try.prog 17 #[.pointer none] w fun e w' => e = .returned (.bool true) ∧ w = w' := by
  have H1 := Lib.hid (room_nil w)
  go_enter Try.func17, Try.ntmps17
  go_wp2_with (go_at_call 18; refine H1.out.mono ?_; rintro e w1 ⟨rfl, rfl⟩)
  go_ret
  exact ⟨rfl, rfl⟩
theorem Full_any {w : World} {B g : Nat} {bs : List UInt8} {most out : Nat} (h : Que w B g bs most out) :
    Calls Try.prog 17 #[.pointer (some ⟨g, 0, none⟩)] w fun e w' => e = .returned (.bool ((most : Int) == (bs.length : Int))) ∧ Below w.heap.size w w' := by
  have H1 := Lib.hid (room_any h)
  have h1 := h.fits
  have HE : Hid ((((most - bs.length : Nat) : Int) == 0) = ((most : Int) == (bs.length : Int))) := by
    unfold Hid
    rw [Bool.eq_iff_iff, beq_iff_eq, beq_iff_eq]
    omega
  obtain ⟨r, hr⟩ : ∃ r : Nat, most - bs.length = r := ⟨_, rfl⟩
  rw [hr] at H1 HE
  clear h hr h1
  go_enter Try.func17, Try.ntmps17
  go_wp2_with (go_at_call 18; refine H1.out.mono ?_; rintro e w1 ⟨rfl, hb1⟩; have HB1 := Lib.hid hb1; clear hb1)
  go_ret
  exact ⟨ret_bool HE.out, HB1.out⟩

theorem Passed_nil (w : World) : Calls Try.prog 14 #[.pointer none] w fun e w' => e = .returned (.tuple #[.int .i64 0, .int .i64 0]) ∧ w = w' := by
  go_enter Try.func14, Try.ntmps14
  go_wp2
  go_ret2
  exact ⟨rfl, rfl⟩
theorem Passed_any {w : World} {B g : Nat} {bs : List UInt8} {most out : Nat} (h : Que w B g bs most out) :
    Calls Try.prog 14 #[.pointer (some ⟨g, 0, none⟩)] w fun e w' => e = .returned (.tuple #[.int .i64 ((out + bs.length : Nat) : Int), .int .i64 out]) ∧ Below w.heap.size w w' := by
  obtain ⟨c2, c3, c4⟩ := h.nums
  have h1 := h.fits
  have h2 := h.small
  have h3 := h.outs
  obtain ⟨n, hn⟩ : ∃ n, bs.length = n := ⟨_, rfl⟩
  rw [hn] at c2 h1 ⊢
  have HE : Hid ((out : Int) + n = ((out + n : Nat) : Int)) := by unfold Hid; omega
  clear h hn
  go_enter Try.func14, Try.ntmps14
  go_wp2
  go_quiet (fail)
  go_wp2
  go_ret2
  exact ⟨by rw [HE.out]; rfl, below_drewN (Below.refl _ _) _⟩
end Go.Proofs.Ytbjjolmnfklihaa
