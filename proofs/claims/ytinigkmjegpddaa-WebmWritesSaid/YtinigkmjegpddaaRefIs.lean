/-
  Layer 17 (webm): whether any bytes are a film, by the reference. No condition but that a text is of at most 1000 bytes (the law cuts it to 120).
-/
import Derived.Test.YtinigkmjegpddaaIs
namespace Go.Proofs.Ytinigkmjegpddaa
open Go.RowKit
set_option linter.unusedVariables false

theorem refIs_no (s : ByteArray) (h : Lib.hasPrefix s.data.toList markL = false) (w : World) : Calls Try.prog 13 #[.string s] w fun e w' => e = .returned (.bool false) ∧ w = w' := by
  have H := Lib.hid (fun w => h ▸ begins_any s ⟨#[26, 69, 223, 163]⟩ w)
  go_enter Try.func13, Try.ntmps13
  go_wp2_with (go_at_call 24; (refine (H.out _).mono ?_); rintro e w1 ⟨rfl, rfl⟩)
  go_ret
  exact ⟨rfl, rfl⟩

set_option maxHeartbeats 1000000 in
theorem refIs_yes (s : ByteArray) (hs : s.size ≤ 1000) (h : Lib.hasPrefix s.data.toList markL = true) (w : World) : Calls Try.prog 13 #[.string s] w fun e w' => e = .returned (.bool (scan 38 s.data.toList 4)) ∧ w = w' := by
  have H := Lib.hid (fun w => (show Lib.hasPrefix s.data.toList (⟨#[26, 69, 223, 163]⟩ : ByteArray).data.toList = true from h) ▸ begins_any s ⟨#[26, 69, 223, 163]⟩ w)
  clear h
  go_enter Try.func13, Try.ntmps13
  go_wp2_with (go_at_call 24; (refine (H.out _).mono ?_); rintro e w1 ⟨rfl, rfl⟩)
  go_loop [3] (fun i => ∃ at_ f : Nat, i = .int .i64 at_ ∧ 4 ≤ at_ ∧ at_ ≤ 60 ∧ 38 ≤ at_ + f ∧ scan 38 s.data.toList 4 = scan f s.data.toList at_) (fun i => 100 - (intOf i).toNat)
  case atStart => exact ⟨4, 38, rfl, by omega, by omega, by omega, rfl⟩
  case round =>
    obtain ⟨at_, f, rfl, h4, h60, hf, hscan⟩ := hrel
    have HS := Lib.hid hscan
    clear hscan
    have hsz := Lib.size_eq s
    have HSZ := Lib.hid hsz
    clear hsz
    by_cases hend : s.size ≤ at_ ∨ 38 ≤ at_
    · have HE := Lib.hid hend
      by_cases h1 : s.size ≤ at_
      · clear hend
        go_wp2_with fail
        go_ret
        exact ⟨ret_bool (by rw [HS.out, scan_end _ _ _ (by have := HSZ.out; omega)]), rfl⟩
      · have h2 : 38 ≤ at_ := by omega
        clear hend
        go_wp2_with fail
        go_ret
        exact ⟨ret_bool (by rw [HS.out, scan_end _ _ _ (by have := HSZ.out; omega)]), rfl⟩
    · have HE : Hid (¬ (s.data.toList.length ≤ at_ ∨ 38 ≤ at_)) := by have := HSZ.out; exact (by omega : ¬ (s.data.toList.length ≤ at_ ∨ 38 ≤ at_))
      have h1 : at_ < s.size := by omega
      have h2 : at_ < 38 := by omega
      obtain ⟨f, rfl⟩ : ∃ g, f = g + 1 := ⟨f - 1, by omega⟩
      clear hend
      cases hp : Lib.hasPrefix (s.data.toList.drop at_) kindL
      · have HC := Lib.hid (fun w => begins_drop s ⟨#[66, 130]⟩ at_ _ hp w)
        have HP := Lib.hid hp
        clear hp
        go_wp2_with (go_at_call 24; (with_reducible refine (HC.out _).mono ?_); rintro e w1 ⟨rfl, rfl⟩)
        go_round
        case rel => exact ⟨at_ + 1, f, by go_num, by omega, by omega, by omega, by rw [HS.out, scan_skip _ _ _ HE.out HP.out]⟩
        case measure => simp [intOf]; omega
      · have HC := Lib.hid (fun w => begins_drop s ⟨#[66, 130]⟩ at_ _ hp w)
        have HP := Lib.hid hp
        clear hp
        by_cases h3 : s.size ≤ at_ + 2
        · go_wp2_with (go_at_call 24; (with_reducible refine (HC.out _).mono ?_); rintro e w1 ⟨rfl, rfl⟩)
          go_ret
          exact ⟨ret_bool (by rw [HS.out, scan_a _ _ _ HE.out HP.out (by have := HSZ.out; omega)]), rfl⟩
        · have h3' : at_ + 2 < s.size := by omega
          obtain ⟨k, hk⟩ : ∃ k, widthN s[at_ + 2].toNat = k := ⟨_, rfl⟩
          have hkb := hk ▸ widthN_bounds s[at_ + 2].toNat
          obtain ⟨hk1, hk8⟩ := hkb
          have HW := Lib.hid (fun w => hk ▸ refWidth_any s[at_ + 2].toNat (UInt8.toNat_lt _) w)
          have HK : Hid (widthN (byteAt s.data.toList (at_ + 2)) = k) := by rw [byteAt_at s _ h3']; exact hk
          clear hk
          by_cases h4' : s.size ≤ at_ + 2 + k + 4
          · go_wp2_with (first
                | (go_at_call 24; (with_reducible refine (HC.out _).mono ?_); rintro e w1 ⟨rfl, rfl⟩)
                | (go_at_call 10; (with_reducible refine (HW.out _).mono ?_); rintro e w1 ⟨rfl, rfl⟩))
            go_ret
            exact ⟨ret_bool (by rw [HS.out, scan_b _ _ _ HE.out HP.out (by have := HSZ.out; omega) (by have := HSZ.out; have := HK.out; omega)]), rfl⟩
          · cases hd : padB (s.data.toList.drop (at_ + 2 + k)) signL
            all_goals
              have HD := Lib.hid (fun w => refPad_drop s (at_ + 2 + k) _ hs hd w)
              have HPD := Lib.hid hd
              clear hd
              go_wp2_with (first
                  | (go_at_call 24; (with_reducible refine (HC.out _).mono ?_); rintro e w1 ⟨rfl, rfl⟩)
                  | (go_at_call 10; (with_reducible refine (HW.out _).mono ?_); rintro e w1 ⟨rfl, rfl⟩)
                  | (go_at_call 16; (with_reducible refine (HD.out _).mono ?_); rintro e w1 ⟨rfl, rfl⟩))
            · skip
              go_round
              case rel => exact ⟨at_ + 2 + k + 1, f, by go_num, by omega, by omega, by omega, by rw [HS.out, scan_d _ _ _ HE.out HP.out (by have := HSZ.out; omega) (by have := HSZ.out; have := HK.out; omega) (by rw [HK.out]; exact HPD.out), HK.out]⟩
              case measure => simp [intOf]; omega
            · skip
              go_ret
              exact ⟨ret_bool (by rw [HS.out, scan_c _ _ _ HE.out HP.out (by have := HSZ.out; omega) (by have := HSZ.out; have := HK.out; omega) (by rw [HK.out]; exact HPD.out)]), rfl⟩
end Go.Proofs.Ytinigkmjegpddaa

