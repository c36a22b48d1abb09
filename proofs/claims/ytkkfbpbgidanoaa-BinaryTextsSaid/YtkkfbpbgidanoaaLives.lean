/-
  Layer 19 (binary): the small living call; the first bytes of a text, by the program and by the reference.
-/
import Derived.Test.YtkkfbpbgidanoaaFns
namespace Go.Proofs.Ytkkfbpbgidanoaa
open Go.RowKit
set_option linter.unusedVariables false

theorem rule_is (s r : ByteArray) (h : ruleS s.data.toList = r) (hs : s.size ≤ maxLen) (w : World) :
    Calls Try.prog 19 #[.string s] w fun e w' => e = .returned (.string r) ∧ Below w.heap.size w w' := h ▸ rule_any s hs w

theorem Mark_any (s : ByteArray) (m : Int) (h : markN s.data.toList = m) (w : World) :
    Calls Try.prog 20 #[.string s] w fun e w' => e = .returned (.int .i64 m) ∧ Below w.heap.size w w' := by
  have hc := Lib.hid (h ▸ mark_any s w)
  clear h
  go_enter Try.func20, Try.ntmps20
  go_wp2_with (go_at_call 30; refine hc.out.mono ?_; rintro e w1 ⟨rfl, hb1⟩; have HB1 := Lib.hid hb1; clear hb1)
  go_ret
  exact ⟨rfl, HB1.out⟩

theorem lives_any (w : World) : Calls Try.prog 8 #[] w fun e w' => e = .returned (.bool true) ∧ Below w.heap.size w w' := by
  have r1 := fun w => rule_is ⟨#[97, 0]⟩ stream (by decide +kernel) (by decide) w
  have r2 := fun w => rule_is ⟨#[97]⟩ plain (by decide +kernel) (by decide) w
  have r3 := fun w => Mark_any ⟨#[254, 255]⟩ 2 (by decide +kernel) w
  have R1 := Lib.hid r1
  have R2 := Lib.hid r2
  have R3 := Lib.hid r3
  clear r1 r2 r3
  go_enter Try.func8, Try.ntmps8
  go_wp2_with (first
    | (go_at_call 19; (with_reducible refine (R1.out _).mono ?_); rintro e w1 ⟨rfl, hb1⟩; have HB1 := Lib.hid hb1; clear hb1; unfold stream)
    | (go_at_call 19; (with_reducible refine (R2.out _).mono ?_); rintro e w2 ⟨rfl, hb2⟩; have HB2 := Lib.hid hb2; clear hb2; unfold plain)
    | (go_at_call 20; (with_reducible refine (R3.out _).mono ?_); rintro e w3 ⟨rfl, hb3⟩; have HB3 := Lib.hid hb3; clear hb3))
  go_ret
  exact ⟨rfl, (HB1.out.trans (HB2.out.mono HB1.out.size)).trans (HB3.out.mono (Nat.le_trans HB1.out.size HB2.out.size))⟩

/-- The given cut of a text. -/
theorem cut_any (s : ByteArray) (n : Nat) (hs : s.size ≤ maxLen) (w : World) :
    Calls Try.prog 9 #[.string s, .int .i64 n] w fun e w' => e = .returned (.string (s.extract 0 n)) ∧ w = w' := by
  unfold maxLen at hs
  by_cases h : n < s.size
  · go_enter Try.func9, Try.ntmps9
    go_wp2
    go_ret
    exact ⟨rfl, rfl⟩
  · have HE := Lib.hid (extract_all s n (by omega))
    go_enter Try.func9, Try.ntmps9
    go_wp2
    go_ret
    exact ⟨ret_string HE.out.symm, rfl⟩

theorem bcut_any (s : ByteArray) (hs : s.size ≤ maxLen) (w : World) :
    Calls Try.prog 10 #[.string s] w fun e w' => e = .returned (.string (s.extract 0 1445)) ∧ w = w' := by
  unfold maxLen at hs
  by_cases h : (1445 : Int) < s.size
  · go_enter Try.func10, Try.ntmps10
    go_wp2
    go_ret
    exact ⟨rfl, rfl⟩
  · have HE := Lib.hid (extract_all s 1445 (by omega))
    go_enter Try.func10, Try.ntmps10
    go_wp2
    go_ret
    exact ⟨ret_string HE.out.symm, rfl⟩

theorem refcut_any (s : ByteArray) (hs : s.size ≤ maxLen) (w : World) :
    Calls Try.prog 11 #[.string s] w fun e w' => e = .returned (.string (s.extract 0 1445)) ∧ w = w' := by
  unfold maxLen at hs
  by_cases h : 1445 < s.size
  · go_enter Try.func11, Try.ntmps11
    go_wp2
    go_ret
    exact ⟨rfl, rfl⟩
  · have HE := Lib.hid (extract_all s 1445 (by omega))
    go_enter Try.func11, Try.ntmps11
    go_wp2
    go_ret
    exact ⟨ret_string HE.out.symm, rfl⟩

theorem bytes_walk (a : Int) (w : World) (wf : (Lit.int .u8 a).wf = true) :
    Calls Try.prog 3 #[.int .u8 a] w fun e w' => e = .returned (.bool true) ∧ Below w.heap.size w w' := by
  obtain ⟨n, rfl, hn⟩ := u8_of a wf
  clear wf
  obtain ⟨b, hb⟩ : ∃ b, oddN n = b := ⟨_, rfl⟩
  have h1 := fun w => hb ▸ byte_any n hn w
  have h2 := fun w => hb ▸ refByte_any n hn w
  have H1 := Lib.hid h1
  have H2 := Lib.hid h2
  clear h1 h2 hb
  have HL := Lib.hid lives_any
  go_enter Try.func3, Try.ntmps3
  go_wp2_with (first
    | (go_at_call 6; refine (H1.out _).mono ?_; rintro e w' ⟨rfl, rfl⟩)
    | (go_at_call 7; refine (H2.out _).mono ?_; rintro e w' ⟨rfl, rfl⟩)
    | (go_at_call 8; refine (HL.out _).mono ?_; rintro e w1 ⟨rfl, hb1⟩; have HB1 := Lib.hid hb1; clear hb1))
  go_ret
  exact ⟨rfl, HB1.out⟩
end Go.Proofs.Ytkkfbpbgidanoaa
