/-
  Layer 17 (webm): whether a text begins with another, and whether a sign stands behind any noughts, by the program and by the reference. No condition but that a text is no longer than a text can be.
-/
import Derived.Test.YtinigkmjegpddaaWidth
namespace Go.Proofs.Ytinigkmjegpddaa
open Go.RowKit
set_option linter.unusedVariables false

theorem pre_any (s t : ByteArray) (w : World) : Calls Try.prog 22 #[.string s, .string t] w fun e w' => e = .returned (.bool (Lib.hasPrefix s.data.toList t.data.toList)) ∧ w = w' := by
  have hr := Lib.hid (Lib.hasPrefix_raw s t)
  by_cases h : t.size ≤ s.size
  all_goals
    go_enter Try.func22, Try.ntmps22
    go_wp2
    go_ret
    exact ⟨ret_bool (by have := hr.out; simp only [h] at this; simpa using this), rfl⟩
theorem begins_any (s t : ByteArray) (w : World) : Calls Try.prog 24 #[.string s, .string t] w fun e w' => e = .returned (.bool (Lib.hasPrefix s.data.toList t.data.toList)) ∧ w = w' := by
  have hr := Lib.hid (Lib.hasPrefix_raw s t)
  by_cases h : t.size ≤ s.size
  all_goals
    go_enter Try.func24, Try.ntmps24
    go_wp2
    go_ret
    exact ⟨ret_bool (by have := hr.out; simp only [h] at this; simpa using this), rfl⟩

/-- Whether a sign stands behind any noughts. -/
def padB : List UInt8 → List UInt8 → Bool
  | [], sign => Lib.hasPrefix [] sign
  | b :: t, sign => Lib.hasPrefix (b :: t) sign || (b == 0 && padB t sign)
theorem padB_hit (l sign : List UInt8) (h : Lib.hasPrefix l sign = true) : padB l sign = true := by
  cases l with
  | nil => exact h
  | cons b t => simp [padB, h]
theorem padB_stop (l sign : List UInt8) (h : Lib.hasPrefix l sign = false) (hz : ∀ b t, l = b :: t → b ≠ 0) : padB l sign = false := by
  cases l with
  | nil => exact h
  | cons b t =>
    have : (b == 0) = false := by simpa using hz b t rfl
    simp [padB, h, this]
theorem padB_step (b : UInt8) (t sign : List UInt8) (h : Lib.hasPrefix (b :: t) sign = false) (hb : b = 0) : padB (b :: t) sign = padB t sign := by
  subst hb
  simp [padB, h]

theorem drop_cons (s : ByteArray) (k : Nat) (h : k < s.size) : s.data.toList.drop k = s[k] :: s.data.toList.drop (k + 1) := by
  rw [List.drop_eq_getElem_cons (by rw [← Lib.size_eq]; exact h), byte_at s k h]
theorem drop_data (s : ByteArray) (k : Nat) : (s.extract k s.size).data.toList = s.data.toList.drop k := by
  rw [Lib.extract_data]
  apply List.take_of_length_le
  rw [List.length_drop, ← Lib.size_eq]
  omega
theorem begins_drop (s t : ByteArray) (k : Nat) (b : Bool) (h : Lib.hasPrefix (s.data.toList.drop k) t.data.toList = b) (w : World) :
    Calls Try.prog 24 #[.string (s.extract k s.size), .string t] w fun e w' => e = .returned (.bool b) ∧ w = w' := by
  have := begins_any (s.extract k s.size) t w
  rwa [drop_data, h] at this
theorem pre_drop (s t : ByteArray) (k : Nat) (b : Bool) (h : Lib.hasPrefix (s.data.toList.drop k) t.data.toList = b) (w : World) :
    Calls Try.prog 22 #[.string (s.extract k s.size), .string t] w fun e w' => e = .returned (.bool b) ∧ w = w' := by
  have := pre_any (s.extract k s.size) t w
  rwa [drop_data, h] at this

set_option maxHeartbeats 400000 in
theorem refPadded_any (s t : ByteArray) (hs : s.size ≤ 1000) (w : World) : Calls Try.prog 16 #[.string s, .string t] w fun e w' => e = .returned (.bool (padB s.data.toList t.data.toList)) ∧ w = w' := by
  go_enter Try.func16, Try.ntmps16
  go_wp2
  go_loop [5] (fun i => ∃ k : Nat, k ≤ s.size + 1 ∧ i = .int .i64 k ∧ (k ≤ s.size → padB s.data.toList t.data.toList = padB (s.data.toList.drop k) t.data.toList) ∧ (s.size < k → padB s.data.toList t.data.toList = false)) (fun i => s.size + 1 - (intOf i).toNat)
  case atStart => exact ⟨0, Nat.zero_le _, rfl, fun _ => rfl, fun h => absurd h (by omega)⟩
  case round =>
    obtain ⟨k, hk, rfl, ha, hb⟩ := hrel
    have HA := Lib.hid ha
    have HB := Lib.hid hb
    clear ha hb
    by_cases hle : k ≤ s.size
    · cases hp : Lib.hasPrefix (s.data.toList.drop k) t.data.toList
      · have HC := Lib.hid (fun w => begins_drop s t k _ hp w)
        have HP := Lib.hid hp
        clear hp
        by_cases hlt : k < s.size
        · cases hz : ((s[k].toNat : Int) != 0)
          · go_wp2_with (go_at_call 24; (with_reducible refine (HC.out _).mono ?_); rintro e w1 ⟨rfl, rfl⟩)
            go_round
            case rel =>
              have hz' : s[k] = 0 := by
                have h1 : ¬ (s[k].toNat : Int) ≠ 0 := by
                  intro h
                  have : ((s[k].toNat : Int) != 0) = true := by simpa [bne] using h
                  rw [hz] at this
                  cases this
                apply UInt8.toNat_inj.1
                simp at h1
                simpa using h1
              refine ⟨k + 1, by omega, by go_num, fun _ => ?_, fun h => absurd h (by omega)⟩
              rw [HA.out (by omega), drop_cons s k hlt, padB_step _ _ _ (drop_cons s k hlt ▸ HP.out) hz']
            case measure => simp [intOf]; omega
          · go_wp2_with (go_at_call 24; (with_reducible refine (HC.out _).mono ?_); rintro e w1 ⟨rfl, rfl⟩)
            go_ret
            refine ⟨ret_bool ?_, rfl⟩
            rw [HA.out (by omega), padB_stop _ _ HP.out (fun b t' e => ?_)]
            rw [drop_cons s k hlt] at e
            injection e with e1 e2
            rintro rfl
            rw [e1] at hz
            simp at hz
        · go_wp2_with (go_at_call 24; (with_reducible refine (HC.out _).mono ?_); rintro e w1 ⟨rfl, rfl⟩)
          go_round
          case rel =>
            refine ⟨k + 1, by omega, by go_num, fun h => absurd h (by omega), fun _ => ?_⟩
            rw [HA.out (by omega), padB_stop _ _ HP.out (fun b t' e => ?_)]
            have : s.data.toList.length ≤ k := by rw [← Lib.size_eq]; omega
            rw [List.drop_eq_nil_of_le this] at e
            cases e
          case measure => simp [intOf]; omega
      · have HC := Lib.hid (fun w => begins_drop s t k _ hp w)
        have HP := Lib.hid hp
        clear hp
        go_wp2_with (go_at_call 24; (with_reducible refine (HC.out _).mono ?_); rintro e w1 ⟨rfl, rfl⟩)
        go_ret
        exact ⟨ret_bool (by rw [HA.out (by omega), padB_hit _ _ HP.out]), rfl⟩
    · go_wp2_with fail
      go_ret
      exact ⟨ret_bool (by rw [HB.out (by omega)]), rfl⟩

theorem nonempty_drop (s : ByteArray) (k : Nat) (h : k < s.size) : (s.extract k s.size).toList.isEmpty = false := by
  rw [Lib.toList_data, drop_data, drop_cons s k h]
  rfl
set_option maxHeartbeats 400000 in
theorem padded_any (s t : ByteArray) (hs : s.size ≤ 1000) (w : World) : Calls Try.prog 23 #[.string s, .string t] w fun e w' => e = .returned (.bool (padB s.data.toList t.data.toList)) ∧ w = w' := by
  go_enter Try.func23, Try.ntmps23
  go_wp2
  go_loop [0] (fun x => ∃ k : Nat, k ≤ s.size ∧ x = .string (s.extract k s.size) ∧ padB s.data.toList t.data.toList = padB (s.data.toList.drop k) t.data.toList)
    (fun x => (match x with | .string y => y.size | _ => 0))
  case atStart => exact ⟨0, Nat.zero_le _, by rw [extract_all s s.size (Nat.le_refl _)], rfl⟩
  case round =>
    obtain ⟨k, hk, rfl, ha⟩ := hrel
    have HA := Lib.hid ha
    clear ha
    obtain ⟨x, hx⟩ : ∃ x, s.extract k s.size = x := ⟨_, rfl⟩
    have hxs : x.size = s.size - k := by rw [← hx, extract_size s k s.size (Nat.le_refl _)]
    have hxd : x.data.toList = s.data.toList.drop k := by rw [← hx, drop_data]
    have HD := Lib.hid hxd
    clear hxd
    obtain ⟨b, hp⟩ : ∃ b, Lib.hasPrefix (s.data.toList.drop k) t.data.toList = b := ⟨_, rfl⟩
    have HC := Lib.hid (fun w => hx ▸ pre_drop s t k _ hp w)
    have HP := Lib.hid hp
    rw [hx]
    have HXS := Lib.hid hxs
    clear hp hx
    by_cases hlt : k < s.size
    · have hx0 : 0 < x.size := by omega
      have hne : x.toList.isEmpty = false := by
        rw [Lib.toList_data, HD.out, drop_cons s k hlt]
        rfl
      have hxk : x[0] = s[k] := by
        rw [← byte_at x 0 hx0]
        have e := HD.out
        rw [drop_cons s k hlt] at e
        simp [e]
      have HXK := Lib.hid hxk
      have hle : x.size ≤ 1000 := by omega
      clear hxk hxs
      cases b
      · cases hz : ((x[0].toNat : Int) == 0)
        · go_wp2_with (go_at_call 22; (with_reducible refine (HC.out _).mono ?_); rintro e w1 ⟨rfl, rfl⟩)
          go_ret
          refine ⟨ret_bool ?_, rfl⟩
          rw [HA.out, padB_stop _ _ HP.out (fun b t' e => ?_)]
          rw [drop_cons s k hlt] at e
          injection e with e1 e2
          rintro rfl
          rw [HXK.out, e1] at hz
          simp at hz
        · go_wp2_with (go_at_call 22; (with_reducible refine (HC.out _).mono ?_); rintro e w1 ⟨rfl, rfl⟩)
          go_round
          case rel =>
            refine ⟨k + 1, by omega, ?_, ?_⟩
            · congr 1
              apply ext_data
              rw [drop_data, drop_data, HD.out, List.drop_drop]
            · have hz' : s[k] = 0 := by
                rw [HXK.out] at hz
                apply UInt8.toNat_inj.1
                have := eq_of_beq hz
                simpa using this
              rw [HA.out, drop_cons s k hlt, padB_step _ _ _ (drop_cons s k hlt ▸ HP.out) hz']
          case measure => simp [ByteArray.size_extract]; omega
      · cases hz : ((x[0].toNat : Int) == 0)
        all_goals
          go_wp2_with (go_at_call 22; (with_reducible refine (HC.out _).mono ?_); rintro e w1 ⟨rfl, rfl⟩)
          go_ret
          exact ⟨ret_bool (by rw [HA.out, padB_hit _ _ HP.out]), rfl⟩
    · have hne : x.toList.isEmpty = true := by
        have : x.data.toList = [] := by
          apply List.eq_nil_of_length_eq_zero
          rw [← Lib.size_eq]
          omega
        rw [Lib.toList_data, this]
        rfl
      clear hxs
      cases b
      all_goals
        go_wp2_with (go_at_call 22; (with_reducible refine (HC.out _).mono ?_); rintro e w1 ⟨rfl, rfl⟩)
        go_ret
      · refine ⟨ret_bool ?_, rfl⟩
        rw [HA.out, padB_stop _ _ HP.out (fun b t' e => ?_)]
        have : s.data.toList.length ≤ k := by rw [← Lib.size_eq]; omega
        rw [List.drop_eq_nil_of_le this] at e
        cases e
      · exact ⟨ret_bool (by rw [HA.out, padB_hit _ _ HP.out]), rfl⟩
end Go.Proofs.Ytinigkmjegpddaa
