/-
  Layer 17 (webm): the small living call; the laws on numbers and on films, walked. No condition but that a text is no longer than a text can be.
-/
import Derived.Test.YtinigkmjegpddaaRefIs
import Derived.Test.YtinigkmjegpddaaNumbers
namespace Go.Proofs.Ytinigkmjegpddaa
open Go.RowKit
set_option linter.unusedVariables false

theorem cut_any (s : ByteArray) (n : Nat) (hs : s.size ≤ maxLen) (w : World) :
    Calls Try.prog 6 #[.string s, .int .i64 n] w fun e w' => e = .returned (.string (s.extract 0 n)) ∧ w = w' := by
  unfold maxLen at hs
  by_cases h : n < s.size
  · go_enter Try.func6, Try.ntmps6
    go_wp2
    go_ret
    exact ⟨rfl, rfl⟩
  · have HE := Lib.hid (extract_all s n (by omega))
    go_enter Try.func6, Try.ntmps6
    go_wp2
    go_ret
    exact ⟨ret_string HE.out.symm, rfl⟩

theorem is_any (s : ByteArray) (hs : s.size ≤ 1000) (w : World) : Calls Try.prog 12 #[.string s] w fun e w' => e = .returned (.bool (filmB s.data.toList)) ∧ w = w' := by
  cases h : Lib.hasPrefix s.data.toList markL
  · have e : filmB s.data.toList = false := by simp [filmB, h]
    rw [e]
    exact is_no s h w
  · have e : filmB s.data.toList = scan 38 s.data.toList 4 := by simp [filmB, h]
    rw [e]
    exact is_yes s hs h w
theorem refIs_any (s : ByteArray) (hs : s.size ≤ 1000) (w : World) : Calls Try.prog 13 #[.string s] w fun e w' => e = .returned (.bool (filmB s.data.toList)) ∧ w = w' := by
  cases h : Lib.hasPrefix s.data.toList markL
  · have e : filmB s.data.toList = false := by simp [filmB, h]
    rw [e]
    exact refIs_no s h w
  · have e : filmB s.data.toList = scan 38 s.data.toList 4 := by simp [filmB, h]
    rw [e]
    exact refIs_yes s hs h w

def sampleN : ByteArray := ⟨#[129]⟩
def sampleF : ByteArray := ⟨#[26, 69, 223, 163, 66, 130, 132, 119, 101, 98, 109, 46]⟩
theorem number_sample (w : World) : Calls Try.prog 7 #[.string sampleN] w fun e w' => e = .returned (.tuple #[.int .u64 1, .int .i64 1, .bool true]) ∧ w = w' := by
  have h := (numbers_both sampleN (by decide)).1 w
  have e1 : numV sampleN.data.toList = 1 := by decide +kernel
  have e2 : numK sampleN.data.toList = 1 := by decide +kernel
  have e3 : numOk sampleN.data.toList = true := by decide +kernel
  rwa [e1, e2, e3] at h
theorem film_sample (w : World) : Calls Try.prog 12 #[.string sampleF] w fun e w' => e = .returned (.bool true) ∧ w = w' := by
  have h := is_any sampleF (by decide) w
  have e : filmB sampleF.data.toList = true := by decide +kernel
  rwa [e] at h

theorem lives_any (w : World) : Calls Try.prog 11 #[] w fun e w' => e = .returned (.bool true) ∧ w = w' := by
  have H1 := Lib.hid number_sample
  have H2 := Lib.hid film_sample
  go_enter Try.func11, Try.ntmps11
  go_wp2_with fail
  (refine (H1.out _).mono ?_)
  rintro e w1 ⟨rfl, rfl⟩
  go_wp2_with fail
  (refine (H2.out _).mono ?_)
  rintro e w1 ⟨rfl, rfl⟩
  go_wp2_with fail
  go_ret
  exact ⟨rfl, rfl⟩

theorem numbers_walk (s : ByteArray) (a : Int) (w : World) (hs : s.size ≤ maxLen) (wa : (Lit.int .u8 a).wf = true) :
    Calls Try.prog 3 #[.string s, .int .u8 a] w fun e w' => e = .returned (.bool true) ∧ Below w.heap.size w w' := by
  obtain ⟨n, rfl, hn⟩ := u8_of a wa
  obtain ⟨t, ht⟩ : ∃ t, s.extract 0 20 = t := ⟨_, rfl⟩
  have hts : t.size ≤ maxLen := by rw [← ht]; exact Nat.le_trans (extract_cut_le s 20).2 hs
  have H6 := Lib.hid (fun w => ht ▸ cut_any s 20 hs w)
  have hK := numOk_K t.data.toList
  obtain ⟨x, hx⟩ : ∃ x, numV t.data.toList = x := ⟨_, rfl⟩
  obtain ⟨k, hk⟩ : ∃ k, numK t.data.toList = k := ⟨_, rfl⟩
  obtain ⟨ok, ho⟩ : ∃ ok, numOk t.data.toList = ok := ⟨_, rfl⟩
  obtain ⟨c7, c8⟩ := numbers_both t hts
  rw [hx, hk, ho] at c7
  rw [hx, hk] at c8
  rw [hk, ho] at hK
  have hK' : decide (0 < k) = ok := by rw [← hK]; simp
  have H7 := Lib.hid c7
  have H8 := Lib.hid c8
  have H9 := Lib.hid (fun w => Width_any n hn w)
  have H10 := Lib.hid (fun w => refWidth_any n hn w)
  have H11 := Lib.hid lives_any
  clear ht hts hx hk ho c7 c8 wa
  go_enter Try.func3, Try.ntmps3
  go_wp2_with (first
    | (go_at_call 6; (refine (H6.out _).mono ?_); rintro e w1 ⟨rfl, rfl⟩)
    | (go_at_call 7; (with_reducible refine (H7.out _).mono ?_); rintro e w1 ⟨rfl, rfl⟩)
    | (go_at_call 8; (with_reducible refine (H8.out _).mono ?_); rintro e w1 ⟨rfl, rfl⟩)
    | (go_at_call 9; (with_reducible refine (H9.out _).mono ?_); rintro e w1 ⟨rfl, rfl⟩)
    | (go_at_call 10; (with_reducible refine (H10.out _).mono ?_); rintro e w1 ⟨rfl, rfl⟩)
    | (go_at_call 11; (with_reducible refine (H11.out _).mono ?_); rintro e w1 ⟨rfl, rfl⟩))
  go_ret
  exact ⟨rfl, Below.refl _ _⟩

theorem Padded_any (s t : ByteArray) (hs : s.size ≤ 1000) (w : World) : Calls Try.prog 15 #[.string s, .string t] w fun e w' => e = .returned (.bool (padB s.data.toList t.data.toList)) ∧ w = w' := by
  have H := Lib.hid (fun w => padded_any s t hs w)
  go_enter Try.func15, Try.ntmps15
  go_wp2_with (go_at_call 23; (with_reducible refine (H.out _).mono ?_); rintro e w1 ⟨rfl, rfl⟩)
  go_ret
  exact ⟨rfl, rfl⟩
theorem Mark_any (s : ByteArray) (w : World) : Calls Try.prog 14 #[.string s] w fun e w' => e = .returned (.bool (Lib.hasPrefix s.data.toList markL)) ∧ w = w' := by
  have H := Lib.hid (fun w => begins21_any s w)
  go_enter Try.func14, Try.ntmps14
  go_wp2_with (go_at_call 21; (with_reducible refine (H.out _).mono ?_); rintro e w1 ⟨rfl, rfl⟩)
  go_ret
  exact ⟨rfl, rfl⟩

theorem tells_walk (s t : ByteArray) (w : World) (hs : s.size ≤ maxLen) (ht : t.size ≤ maxLen) :
    Calls Try.prog 4 #[.string s, .string t] w fun e w' => e = .returned (.bool true) ∧ Below w.heap.size w w' := by
  obtain ⟨x, hx⟩ : ∃ x, s.extract 0 120 = x := ⟨_, rfl⟩
  obtain ⟨y, hy⟩ : ∃ y, t.extract 0 8 = y := ⟨_, rfl⟩
  have hxs : x.size ≤ 1000 := by rw [← hx]; exact Nat.le_trans (extract_cut_le s 120).1 (by omega)
  have C1 := Lib.hid (fun w => hx ▸ cut_any s 120 hs w)
  have C2 := Lib.hid (fun w => hy ▸ cut_any t 8 ht w)
  have hraw := Lib.hasPrefix_raw x ⟨#[26, 69, 223, 163]⟩
  obtain ⟨m, hm⟩ : ∃ m, Lib.hasPrefix x.data.toList markL = m := ⟨_, rfl⟩
  have hraw' : (decide (4 ≤ x.size) && ((x.extract 0 4).toList == (⟨#[26, 69, 223, 163]⟩ : ByteArray).toList)) = m := by rw [← hm]; exact hraw
  have H14 := Lib.hid (fun w => hm ▸ Mark_any x w)
  have H12 := Lib.hid (fun w => is_any x hxs w)
  have H13 := Lib.hid (fun w => refIs_any x hxs w)
  have H15 := Lib.hid (fun w => Padded_any x y hxs w)
  have H16 := Lib.hid (fun w => refPadded_any x y hxs w)
  have H11 := Lib.hid lives_any
  clear hx hy hm hraw
  by_cases h4 : 4 ≤ x.size
  · have hb : ((x.extract 0 4).toList == [26, 69, 223, 163]) = m := by
      have : (⟨#[26, 69, 223, 163]⟩ : ByteArray).toList = [26, 69, 223, 163] := by rw [Lib.toList_data]
      rw [this] at hraw'
      simpa [h4] using hraw'
    clear hraw'
    go_enter Try.func4, Try.ntmps4
    go_wp2_with (first
      | (go_at_call 6; (refine (C1.out _).mono ?_); rintro e w1 ⟨rfl, rfl⟩; clear C1)
      | (go_at_call 6; (refine (C2.out _).mono ?_); rintro e w1 ⟨rfl, rfl⟩)
      | (go_at_call 12; (with_reducible refine (H12.out _).mono ?_); rintro e w1 ⟨rfl, rfl⟩)
      | (go_at_call 13; (with_reducible refine (H13.out _).mono ?_); rintro e w1 ⟨rfl, rfl⟩)
      | (go_at_call 14; (with_reducible refine (H14.out _).mono ?_); rintro e w1 ⟨rfl, rfl⟩)
      | (go_at_call 15; (with_reducible refine (H15.out _).mono ?_); rintro e w1 ⟨rfl, rfl⟩)
      | (go_at_call 16; (with_reducible refine (H16.out _).mono ?_); rintro e w1 ⟨rfl, rfl⟩)
      | (go_at_call 11; (with_reducible refine (H11.out _).mono ?_); rintro e w1 ⟨rfl, rfl⟩))
    go_ret
    exact ⟨rfl, Below.refl _ _⟩
  · have hb : m = false := by
      have : decide (4 ≤ x.size) = false := by simpa using h4
      rw [this] at hraw'
      simpa using hraw'.symm
    subst hb
    clear hraw'
    go_enter Try.func4, Try.ntmps4
    go_wp2_with (first
      | (go_at_call 6; (refine (C1.out _).mono ?_); rintro e w1 ⟨rfl, rfl⟩; clear C1)
      | (go_at_call 6; (refine (C2.out _).mono ?_); rintro e w1 ⟨rfl, rfl⟩)
      | (go_at_call 12; (with_reducible refine (H12.out _).mono ?_); rintro e w1 ⟨rfl, rfl⟩)
      | (go_at_call 13; (with_reducible refine (H13.out _).mono ?_); rintro e w1 ⟨rfl, rfl⟩)
      | (go_at_call 14; (with_reducible refine (H14.out _).mono ?_); rintro e w1 ⟨rfl, rfl⟩)
      | (go_at_call 15; (with_reducible refine (H15.out _).mono ?_); rintro e w1 ⟨rfl, rfl⟩)
      | (go_at_call 16; (with_reducible refine (H16.out _).mono ?_); rintro e w1 ⟨rfl, rfl⟩)
      | (go_at_call 11; (with_reducible refine (H11.out _).mono ?_); rintro e w1 ⟨rfl, rfl⟩))
    go_ret
    exact ⟨rfl, Below.refl _ _⟩
end Go.Proofs.Ytinigkmjegpddaa
