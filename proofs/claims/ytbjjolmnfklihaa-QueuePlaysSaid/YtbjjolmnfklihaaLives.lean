/-
  Layer 07 (queue): the small living call; a text that is cut; the law on no queue. No condition.
-/
import Derived.Test.YtbjjolmnfklihaaQRest
namespace Go.Proofs.Ytbjjolmnfklihaa
open Go.RowKit
set_option linter.unusedVariables false

def abcd : ByteArray := ⟨#[97, 98, 99, 100]⟩
theorem Fill_abcd {w : World} {B g : Nat} (h : Que w B g [] 3 0) (hB : B ≤ w.heap.size) :
    Calls Try.prog 9 #[.pointer (some ⟨g, 0, none⟩), .string abcd] w fun e w' => e = .returned (.string ⟨#[100]⟩) ∧ Que w' B g [97, 98, 99] 3 0 ∧ Below B w w' := by
  have h1 := Fill_any h abcd (by decide) hB
  have e1 : abcd.extract (min abcd.size (3 - ([] : List UInt8).length)) abcd.size = ⟨#[100]⟩ := by decide +kernel
  have e2 : [] ++ (abcd.extract 0 (min abcd.size (3 - ([] : List UInt8).length))).data.toList = [97, 98, 99] := by decide +kernel
  rw [e1, e2] at h1
  exact h1
theorem Take_ab {w : World} {B g : Nat} (h : Que w B g [97, 98, 99] 3 0) (hB : B ≤ w.heap.size) :
    Calls Try.prog 10 #[.pointer (some ⟨g, 0, none⟩), .int .i64 2] w fun e w' => e = .returned (.string ⟨#[97, 98]⟩) ∧ Below B w w' := by
  have h1 := Take_any h 2 hB (by decide)
  have e1 : cntN 2 ([97, 98, 99] : List UInt8).length = 2 := by decide
  rw [e1] at h1
  exact h1.mono fun e w' hw => ⟨hw.1, hw.2.2⟩

theorem lives_any (w : World) : Calls Try.prog 6 #[] w fun e w' => e = .returned (.bool true) ∧ Below w.heap.size w w' := by
  have H5 : Hid (∀ W : World, Calls Try.prog 5 #[.int .i64 3] W fun e w' => e = .returned (.tuple #[.pointer (some ⟨W.heap.size, 0, none⟩), .int .i64 0]) ∧ Que w' W.heap.size W.heap.size [] 3 0 ∧ Below W.heap.size W w') := fun W => New_yes 3 (by decide) W.heap.size W (Nat.le_refl _)
  go_enter Try.func6, Try.ntmps6
  go_wp2_with fail
  refine (H5.out _).mono ?_
  rintro e w1 ⟨rfl, hq1, hb1⟩
  have H9 := Lib.hid (Fill_abcd hq1 hb1.size)
  have HB1 := Lib.hid hb1
  clear hq1 hb1
  unfold abcd at H9
  go_wp2_with fail
  refine H9.out.mono ?_
  rintro e w2 ⟨rfl, hq2, hb2⟩
  have hb2' := HB1.out.trans hb2
  have H15 := Lib.hid (Len_any hq2)
  have H17 := Lib.hid (Full_any hq2)
  have H10 : Hid (∀ W, Below w2.heap.size w2 W → Calls Try.prog 10 #[.pointer (some ⟨w.heap.size, 0, none⟩), .int .i64 2] W fun e w' => e = .returned (.string ⟨#[97, 98]⟩) ∧ Below w.heap.size W w') :=
    fun W hb => Take_ab (hq2.below hb) (Nat.le_trans hb2'.size hb.size)
  have HB2 := Lib.hid hb2'
  clear hq2 hb2 hb2'
  go_wp2_with (first
    | (go_at_call 15; (refine H15.out.mono ?_); rintro e w3 ⟨rfl, rfl⟩)
    | (go_at_call 17; (refine H17.out.mono ?_); rintro e w3 ⟨rfl, hb3⟩; have HB3 := Lib.hid hb3; clear hb3)
    | (go_at_call 10; (refine (H10.out _ HB3.out).mono ?_); rintro e w4 ⟨rfl, hb4⟩; have HB4 := Lib.hid hb4; clear hb4))
  go_ret
  exact ⟨rfl, (HB2.out.trans (HB3.out.mono HB2.out.size)).trans HB4.out⟩

theorem cut_any (s : ByteArray) (n : Nat) (hs : s.size ≤ maxLen) (w : World) :
    Calls Try.prog 7 #[.string s, .int .i64 n] w fun e w' => e = .returned (.string (s.extract 0 n)) ∧ w = w' := by
  unfold maxLen at hs
  by_cases h : n < s.size
  · go_enter Try.func7, Try.ntmps7
    go_wp2
    go_ret
    exact ⟨rfl, rfl⟩
  · have HE := Lib.hid (extract_all s n (by omega))
    go_enter Try.func7, Try.ntmps7
    go_wp2
    go_ret
    exact ⟨ret_string HE.out.symm, rfl⟩
theorem many_any (n : Int) (m : Nat) (w : World) : Calls Try.prog 8 #[.int .i64 n, .int .i64 m] w fun e w' => e = .returned (.int .i64 (cntN n m)) ∧ w = w' := by
  go_enter Try.func8, Try.ntmps8
  go_wp2
  all_goals
    go_ret
    exact ⟨ret_int (by unfold cntN; omega), rfl⟩

theorem none_walk (s : ByteArray) (n : Int) (w : World) (_ : s.size ≤ maxLen) (_ : (Lit.int .i64 n).wf = true) :
    Calls Try.prog 4 #[.string s, .int .i64 n] w fun e w' => e = .returned (.bool true) ∧ Below w.heap.size w w' := by
  have H13 := Lib.hid (Push_nil s)
  have H9 := Lib.hid (Fill_nil s)
  have H10 := Lib.hid (Take_nil n)
  have H11 := Lib.hid (Peek_nil n)
  have H12 := Lib.hid Drain_nil
  have H14 := Lib.hid Passed_nil
  have H15 := Lib.hid Len_nil
  have H16 := Lib.hid Room_nil
  have H17 := Lib.hid Full_nil
  have H6 := Lib.hid lives_any
  go_enter Try.func4, Try.ntmps4
  go_wp2_with (first
    | (go_at_call 14; (with_reducible refine (H14.out _).mono ?_); rintro e w1 ⟨rfl, rfl⟩)
    | (go_at_call 13; (with_reducible refine (H13.out _).mono ?_); rintro e w1 ⟨rfl, rfl⟩)
    | (go_at_call 9; (with_reducible refine (H9.out _).mono ?_); rintro e w1 ⟨rfl, rfl⟩)
    | (go_at_call 10; (with_reducible refine (H10.out _).mono ?_); rintro e w10 ⟨rfl, hb⟩; have HB10 := Lib.hid hb; clear hb)
    | (go_at_call 11; (with_reducible refine (H11.out _).mono ?_); rintro e w11 ⟨rfl, hb⟩; have HB11 := Lib.hid hb; clear hb)
    | (go_at_call 12; (with_reducible refine (H12.out _).mono ?_); rintro e w12 ⟨rfl, hb⟩; have HB12 := Lib.hid hb; clear hb)
    | (go_at_call 15; (with_reducible refine (H15.out _).mono ?_); rintro e w1 ⟨rfl, rfl⟩)
    | (go_at_call 16; (with_reducible refine (H16.out _).mono ?_); rintro e w1 ⟨rfl, rfl⟩)
    | (go_at_call 17; (with_reducible refine (H17.out _).mono ?_); rintro e w1 ⟨rfl, rfl⟩)
    | (go_at_call 6; (with_reducible refine (H6.out _).mono ?_); rintro e w6 ⟨rfl, hb⟩; have HB6 := Lib.hid hb; clear hb))
  go_ret
  refine ⟨rfl, ?_⟩
  have h1 := HB10.out
  have h2 := h1.trans (HB11.out.mono h1.size)
  have h3 := h2.trans (HB12.out.mono h2.size)
  exact h3.trans (HB6.out.mono h3.size)
end Go.Proofs.Ytbjjolmnfklihaa
