/-
  Layer 19 (binary): where the first binary byte stands, how many there are, which text is plain; the first bytes of any text.
-/
import Derived.Test.YtkkfbpbgidanoaaBase
namespace Go.Proofs.Ytkkfbpbgidanoaa
open Go.RowKit
set_option linter.unusedVariables false

/-- Where the first binary byte stands; -1: there is none. -/
def seekI (l : List UInt8) : Int := match l.findIdx? (fun c => oddN c.toNat) with
  | some i => i
  | none => -1
theorem seekI_hit (s : ByteArray) (k : Nat) (hk : k < s.size) (h1 : ∀ j (h : j < s.size), j < k → oddN s[j].toNat = false) (h2 : oddN s[k].toNat = true) : seekI s.data.toList = k := by
  have e : s.data.toList.findIdx? (fun c => oddN c.toNat) = some k := by
    rw [List.findIdx?_eq_some_iff_getElem]
    refine ⟨by rw [← Lib.size_eq]; exact hk, by rw [byte_at s k hk]; exact h2, fun j hj => ?_⟩
    rw [byte_at s j (by omega), h1 j (by omega) hj]
    simp
  simp [seekI, e]
theorem seekI_miss (s : ByteArray) (h1 : ∀ j (h : j < s.size), oddN s[j].toNat = false) : seekI s.data.toList = -1 := by
  have e : s.data.toList.findIdx? (fun c => oddN c.toNat) = none := by
    rw [List.findIdx?_eq_none_iff]
    intro x hx
    obtain ⟨i, hi, rfl⟩ := List.getElem_of_mem hx
    rw [← Lib.size_eq] at hi
    rw [byte_at s i hi]
    exact h1 i hi
  simp [seekI, e]
theorem seekI_ge (l : List UInt8) : -1 ≤ seekI l := by unfold seekI; split <;> omega

theorem seek_any (s : ByteArray) (hs : s.size ≤ maxLen) (w : World) :
    Calls Try.prog 25 #[.string s] w fun e w' => e = .returned (.int .i64 (seekI s.data.toList)) ∧ w = w' := by
  unfold maxLen at hs
  go_enter Try.func25, Try.ntmps25
  go_wp2
  go_loop [6] (fun i => ∃ k : Nat, k ≤ s.size ∧ i = .int .i64 k ∧ ∀ j (h : j < s.size), j < k → oddN s[j].toNat = false) (fun i => s.size - (intOf i).toNat)
  case atStart => exact ⟨0, Nat.zero_le _, rfl, fun j _ h => absurd h (by omega)⟩
  case round =>
    obtain ⟨k, hk, rfl, ha⟩ := hrel
    have HA := Lib.hid ha
    clear ha
    by_cases hlt : k < s.size
    · cases hb : oddN s[k].toNat
      all_goals
        have HB := Lib.hid hb
        have hc := Lib.hid (fun w => hb ▸ odd_any s[k].toNat (UInt8.toNat_lt _) w)
        clear hb
        go_wp2_with (go_at_call 24; refine (hc.out _).mono ?_; rintro e w' ⟨rfl, rfl⟩)
      · go_round
        case rel =>
          refine ⟨k + 1, by omega, by go_num, fun j h hj => ?_⟩
          by_cases e : j = k
          · subst e; exact HB.out
          · exact HA.out j h (by omega)
        case measure => simp [intOf]; omega
      · go_ret
        exact ⟨ret_int (seekI_hit s k hlt HA.out HB.out).symm, rfl⟩
    · go_wp2
      go_ret
      exact ⟨ret_int (seekI_miss s (fun j h => HA.out j h (by omega))).symm, rfl⟩

theorem refFirst_any (s : ByteArray) (hs : s.size ≤ maxLen) (w : World) :
    Calls Try.prog 13 #[.string s] w fun e w' => e = .returned (.int .i64 (seekI s.data.toList)) ∧ w = w' := by
  unfold maxLen at hs
  go_enter Try.func13, Try.ntmps13
  go_wp2
  go_loop [3] (fun i => ∃ k : Nat, k ≤ s.size ∧ i = .int .i64 k ∧ ∀ j (h : j < s.size), j < k → oddN s[j].toNat = false) (fun i => s.size - (intOf i).toNat)
  case atStart => exact ⟨0, Nat.zero_le _, rfl, fun j _ h => absurd h (by omega)⟩
  case round =>
    obtain ⟨k, hk, rfl, ha⟩ := hrel
    have HA := Lib.hid ha
    clear ha
    by_cases hlt : k < s.size
    · cases hb : oddN s[k].toNat
      all_goals
        have HB := Lib.hid hb
        have hc := Lib.hid (fun w => hb ▸ refByte_any s[k].toNat (UInt8.toNat_lt _) w)
        clear hb
        go_wp2_with (go_at_call 7; refine (hc.out _).mono ?_; rintro e w' ⟨rfl, rfl⟩)
      · go_round
        case rel =>
          refine ⟨k + 1, by omega, by go_num, fun j h hj => ?_⟩
          by_cases e : j = k
          · subst e; exact HB.out
          · exact HA.out j h (by omega)
        case measure => simp [intOf]; omega
      · go_ret
        exact ⟨ret_int (seekI_hit s k hlt HA.out HB.out).symm, rfl⟩
    · go_wp2
      go_ret
      exact ⟨ret_int (seekI_miss s (fun j h => HA.out j h (by omega))).symm, rfl⟩

/-- How many bytes are binary. -/
def countN (l : List UInt8) : Nat := l.countP fun c => oddN c.toNat
theorem countN_le (l : List UInt8) : countN l ≤ l.length := List.countP_le_length
theorem countN_snoc (l : List UInt8) (c : UInt8) : countN (l ++ [c]) = countN l + if oddN c.toNat = true then 1 else 0 := by
  simp [countN, List.countP_append, List.countP_cons]

set_option maxHeartbeats 400000 in
theorem count_any (s : ByteArray) (hs : s.size ≤ maxLen) (w : World) :
    Calls Try.prog 27 #[.string s] w fun e w' => e = .returned (.int .i64 (countN s.data.toList)) ∧ w = w' := by
  unfold maxLen at hs
  go_enter Try.func27, Try.ntmps27
  go_wp2
  go_loop [3, 7] (fun n i => ∃ k : Nat, k ≤ s.size ∧ i = .int .i64 k ∧ n = .int .i64 (countN (s.data.toList.take k))) (fun _ i => s.size - (intOf i).toNat)
  case atStart => exact ⟨0, Nat.zero_le _, rfl, rfl⟩
  case round =>
    obtain ⟨k, hk, rfl, rfl⟩ := hrel
    have hd : countN (s.data.toList.take k) ≤ k := Nat.le_trans (countN_le _) (List.length_take_le _ _)
    obtain ⟨m, hm⟩ : ∃ m, m = countN (s.data.toList.take k) := ⟨_, rfl⟩
    rw [← hm] at hd ⊢
    have HM := Lib.hid hm
    clear hm
    by_cases hlt : k < s.size
    · cases hb : oddN s[k].toNat
      all_goals
        have HB := Lib.hid hb
        have hc := Lib.hid (fun w => hb ▸ odd_any s[k].toNat (UInt8.toNat_lt _) w)
        clear hb
        go_wp2_with (go_at_call 24; refine (hc.out _).mono ?_; rintro e w' ⟨rfl, rfl⟩)
        go_round
        case rel => exact ⟨k + 1, by omega, by go_num, by rw [take_snoc s k hlt, countN_snoc, HB.out, ← HM.out]; first | rfl | simp⟩
        case measure => simp [intOf]; omega
    · go_wp2
      go_ret
      exact ⟨ret_int (by rw [HM.out, List.take_of_length_le (by rw [← Lib.size_eq]; omega)]), rfl⟩

set_option maxHeartbeats 400000 in
theorem refCount_any (s : ByteArray) (hs : s.size ≤ maxLen) (w : World) :
    Calls Try.prog 14 #[.string s] w fun e w' => e = .returned (.int .i64 (countN s.data.toList)) ∧ w = w' := by
  unfold maxLen at hs
  go_enter Try.func14, Try.ntmps14
  go_wp2
  go_loop [3, 4] (fun n i => ∃ k : Nat, k ≤ s.size ∧ i = .int .i64 k ∧ n = .int .i64 (countN (s.data.toList.take k))) (fun _ i => s.size - (intOf i).toNat)
  case atStart => exact ⟨0, Nat.zero_le _, rfl, rfl⟩
  case round =>
    obtain ⟨k, hk, rfl, rfl⟩ := hrel
    have hd : countN (s.data.toList.take k) ≤ k := Nat.le_trans (countN_le _) (List.length_take_le _ _)
    obtain ⟨m, hm⟩ : ∃ m, m = countN (s.data.toList.take k) := ⟨_, rfl⟩
    rw [← hm] at hd ⊢
    have HM := Lib.hid hm
    clear hm
    by_cases hlt : k < s.size
    · cases hb : oddN s[k].toNat
      all_goals
        have HB := Lib.hid hb
        have hc := Lib.hid (fun w => hb ▸ refByte_any s[k].toNat (UInt8.toNat_lt _) w)
        clear hb
        go_wp2_with (go_at_call 7; refine (hc.out _).mono ?_; rintro e w' ⟨rfl, rfl⟩)
        go_round
        case rel => exact ⟨k + 1, by omega, by go_num, by rw [take_snoc s k hlt, countN_snoc, HB.out, ← HM.out]; first | rfl | simp⟩
        case measure => simp [intOf]; omega
    · go_wp2
      go_ret
      exact ⟨ret_int (by rw [HM.out, List.take_of_length_le (by rw [← Lib.size_eq]; omega)]), rfl⟩

/-- Which rule goes for a text. -/
def plain : ByteArray := ⟨#[116, 101, 120, 116, 47, 112, 108, 97, 105, 110]⟩
def stream : ByteArray := ⟨#[97, 112, 112, 108, 105, 99, 97, 116, 105, 111, 110, 47, 111, 99, 116, 101, 116, 45, 115, 116, 114, 101, 97, 109]⟩
def ruleS (l : List UInt8) : ByteArray := if 0 < markN l ∨ seekI l < 0 then plain else stream

theorem rule_any (s : ByteArray) (hs : s.size ≤ maxLen) (w : World) :
    Calls Try.prog 19 #[.string s] w fun e w' => e = .returned (.string (ruleS s.data.toList)) ∧ Below w.heap.size w w' := by
  have hm := Lib.hid (mark_any s w)
  have hk := Lib.hid (fun w => seek_any s hs w)
  clear hs
  obtain ⟨r, hr⟩ : ∃ r, r = ruleS s.data.toList := ⟨_, rfl⟩
  rw [← hr]
  have HR : Hid (r = if 0 < markN s.data.toList ∨ seekI s.data.toList < 0 then plain else stream) := hr
  clear hr
  obtain ⟨m, hm'⟩ : ∃ m, m = markN s.data.toList := ⟨_, rfl⟩
  obtain ⟨q, hq⟩ : ∃ q, q = seekI s.data.toList := ⟨_, rfl⟩
  rw [← hm'] at HR hm
  rw [← hq] at HR hk
  clear hm' hq
  by_cases c : 0 < m <;> by_cases d : q < 0
  all_goals
    go_enter Try.func19, Try.ntmps19
    go_wp2_with (first
      | (go_at_call 30; refine hm.out.mono ?_; rintro e w1 ⟨rfl, hb1⟩; have HB1 := Lib.hid hb1; clear hb1)
      | (go_at_call 25; refine (hk.out _).mono ?_; rintro e w' ⟨rfl, rfl⟩))
    go_ret
    exact ⟨ret_string (by rw [HR.out]; split <;> first | rfl | (exfalso; omega)), HB1.out⟩

end Go.Proofs.Ytkkfbpbgidanoaa
