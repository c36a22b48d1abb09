/-
  Layer 37 (hold): the small living call; the law on no hold; the law on what a hold tells of any calls, walked. No condition.
-/
import Derived.Test.YtamfkiimppfoaaaDeeds
import Derived.Test.YtamfkiimppfoaaaRowed
import Derived.Deep.CutBlock
import Derived.Deep.RegionWith
namespace Go.Proofs.Ytamfkiimppfoaaa
open Go.RowKit
set_option linter.unusedVariables false

theorem cut_any (s : ByteArray) (n : Nat) (hs : s.size ≤ maxLen) (w : World) :
    Calls Try.prog 7 #[.string s, .int .i64 n] w fun e w' => e = .returned (.string (s.extract 0 n)) ∧ w = w' := by
  unfold maxLen at hs
  by_cases h : n < s.size
  · go_enter Try.func7, Try.ntmps7
    go_wp2
    go_ret
    exact ⟨rfl, rfl⟩
  · have HE := Lib.hid (extract_all s n (by omega))
    go_enter Try.func7, Try.ntmps7
    go_wp2
    go_ret
    exact ⟨ret_string HE.out.symm, rfl⟩

def ab : ByteArray := ⟨#[97, 98]⟩
def cc : ByteArray := ⟨#[99]⟩
theorem lives_any (w : World) : Calls Try.prog 6 #[] w fun e w' => e = .returned (.bool true) ∧ Below w.heap.size w w' := by
  have H5 := Lib.hid (fun W : World => hNew_yes 9 (by decide) W.heap.size W (Nat.le_refl _))
  go_enter Try.func6, Try.ntmps6
  go_wp2_with fail
  refine (H5.out _).mono ?_
  rintro e w1 ⟨rfl, hh1, hb1⟩
  have HB1 := Lib.hid hb1
  have h10 := Add_hold hh1 ab (by decide) (by decide) hb1.size
  have H10 := Lib.hid h10
  unfold ab at H10
  clear hh1 hb1 h10
  go_wp2_with fail
  refine H10.out.mono ?_
  rintro e w2 ⟨rfl, hh2, hb2⟩
  have hb2' := HB1.out.trans hb2
  have HB2 := Lib.hid hb2'
  have h8 := Open_yes hh2 (by decide) hb2'.size
  have e1 : (⟨([] ++ (⟨#[97, 98]⟩ : ByteArray).data.toList).toArray⟩ : ByteArray) = ⟨#[97, 98]⟩ := by rfl
  rw [e1] at h8
  have H8 := Lib.hid h8
  clear hh2 hb2 hb2' h8 e1
  go_wp2_with fail
  refine H8.out.mono ?_
  rintro e w3 ⟨rfl, hh3, hb3⟩
  have hb3' := HB2.out.trans hb3
  have HB3 := Lib.hid hb3'
  have h10 := Add_open hh3 cc (by decide)
  have H10' := Lib.hid h10
  unfold cc at H10'
  clear hh3 hb3 hb3' h10
  go_wp2_with fail
  refine H10'.out.mono ?_
  rintro e w4 ⟨rfl, hh4, hb4⟩
  have HB4 := Lib.hid (HB3.out.trans hb4)
  clear hh4 hb4
  go_wp2_with fail
  go_ret
  exact ⟨rfl, HB4.out⟩

set_option maxRecDepth 100000 in
theorem none_walk (s : ByteArray) (w : World) (_ : s.size ≤ maxLen) :
    Calls Try.prog 4 #[.string s] w fun e w' => e = .returned (.bool true) ∧ Below w.heap.size w w' := by
  have H10 := Lib.hid (Add_nil s)
  have H8 := Lib.hid Open_nil
  have H9 := Lib.hid Shut_nil
  have H11 := Lib.hid All_nil
  have H12 := Lib.hid hLen_nil
  have H13 := Lib.hid State_nil
  have H14 := Lib.hid Came_nil
  have H15 := Lib.hid Went_nil
  have H6 := Lib.hid lives_any
  go_enter Try.func4, Try.ntmps4
  go_wp2_with (first
    | (go_at_call 10; (with_reducible refine (H10.out _).mono ?_); rintro e w1 ⟨rfl, rfl⟩)
    | (go_at_call 8; (with_reducible refine (H8.out _).mono ?_); rintro e w1 ⟨rfl, rfl⟩)
    | (go_at_call 9; (with_reducible refine (H9.out _).mono ?_); rintro e w1 ⟨rfl, rfl⟩)
    | (go_at_call 11; (with_reducible refine (H11.out _).mono ?_); rintro e w1 ⟨rfl, rfl⟩)
    | (go_at_call 12; (with_reducible refine (H12.out _).mono ?_); rintro e w1 ⟨rfl, rfl⟩)
    | (go_at_call 13; (with_reducible refine (H13.out _).mono ?_); rintro e w1 ⟨rfl, rfl⟩)
    | (go_at_call 14; (with_reducible refine (H14.out _).mono ?_); rintro e w1 ⟨rfl, rfl⟩)
    | (go_at_call 15; (with_reducible refine (H15.out _).mono ?_); rintro e w1 ⟨rfl, rfl⟩)
    | (go_at_call 6; (with_reducible refine (H6.out _).mono ?_); rintro e w6 ⟨rfl, hb⟩; have HB6 := Lib.hid hb; clear hb))
  go_ret
  exact ⟨rfl, HB6.out⟩
end Go.Proofs.Ytamfkiimppfoaaa
