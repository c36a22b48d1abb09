/-
  Layer 19 (binary): the mark of the order of bytes and the rule, by the reference.
-/
import Derived.Test.YtkkfbpbgidanoaaRatio
namespace Go.Proofs.Ytkkfbpbgidanoaa
open Go.RowKit
set_option linter.unusedVariables false

theorem u8_beq (x a : UInt8) : (x == a) = decide ((a.toNat : Int) = (x.toNat : Int)) := by
  rw [Bool.eq_iff_iff]
  simp only [beq_iff_eq, decide_eq_true_eq]
  constructor
  · rintro rfl
    rfl
  · intro h
    exact UInt8.toNat.inj (by omega)
theorem list_two (l : List UInt8) (h : 1 < l.length) : ∃ a b t, l = a :: b :: t := by
  match l, h with
  | a :: b :: t, _ => exact ⟨a, b, t, rfl⟩
theorem list_three (l : List UInt8) (h : 2 < l.length) : ∃ a b c t, l = a :: b :: c :: t := by
  match l, h with
  | a :: b :: c :: t, _ => exact ⟨a, b, c, t, rfl⟩

theorem mark_three (s : ByteArray) (h : 2 < s.size) (a b c : Int) (ha : ((s[0]'(by omega)).toNat : Int) = a) (hb : ((s[1]'(by omega)).toNat : Int) = b) (hc : ((s[2]'h).toNat : Int) = c) :
    markN s.data.toList = if a = 239 ∧ b = 187 ∧ c = 191 then 3 else if a = 254 ∧ b = 255 then 2 else if a = 255 ∧ b = 254 then 2 else 0 := by
  rw [← byte_at s 0 (by omega)] at ha
  rw [← byte_at s 1 (by omega)] at hb
  rw [← byte_at s 2 (by omega)] at hc
  obtain ⟨x, y, z, t, e⟩ := list_three s.data.toList (by rw [← Lib.size_eq]; exact h)
  simp only [e, List.getElem_cons_zero, List.getElem_cons_succ] at ha hb hc ⊢
  subst ha hb hc
  simp [markN, Lib.hasPrefix, List.isPrefixOf, u8_beq]
theorem mark_two (s : ByteArray) (h : 1 < s.size) (h2 : ¬ 2 < s.size) (a b : Int) (ha : ((s[0]'(by omega)).toNat : Int) = a) (hb : ((s[1]'h).toNat : Int) = b) :
    markN s.data.toList = if a = 254 ∧ b = 255 then 2 else if a = 255 ∧ b = 254 then 2 else 0 := by
  rw [← byte_at s 0 (by omega)] at ha
  rw [← byte_at s 1 (by omega)] at hb
  obtain ⟨x, y, t, e⟩ := list_two s.data.toList (by rw [← Lib.size_eq]; exact h)
  have ht : t = [] := by
    have : s.data.toList.length = 2 := by rw [← Lib.size_eq]; omega
    rw [e] at this
    simpa using this
  subst ht
  simp only [e, List.getElem_cons_zero, List.getElem_cons_succ] at ha hb ⊢
  subst ha hb
  simp [markN, Lib.hasPrefix, List.isPrefixOf, u8_beq]
theorem mark_less (s : ByteArray) (h : ¬ 1 < s.size) : markN s.data.toList = 0 := by
  have : s.data.toList.length < 2 := by rw [← Lib.size_eq]; omega
  match e : s.data.toList, this with
  | [], _ => rfl
  | [x], _ => simp [markN, Lib.hasPrefix, List.isPrefixOf]

theorem refMark_any (s : ByteArray) (hs : s.size ≤ maxLen) (w : World) :
    Calls Try.prog 21 #[.string s] w fun e w' => e = .returned (.int .i64 (markN s.data.toList)) ∧ w = w' := by
  unfold maxLen at hs
  by_cases h1 : 1 < s.size
  · obtain ⟨a, ha⟩ : ∃ a : Int, ((s[0]'(by omega)).toNat : Int) = a := ⟨_, rfl⟩
    obtain ⟨b, hb⟩ : ∃ b : Int, ((s[1]'h1).toNat : Int) = b := ⟨_, rfl⟩
    by_cases h2 : 2 < s.size
    · obtain ⟨c, hc⟩ : ∃ c : Int, ((s[2]'h2).toNat : Int) = c := ⟨_, rfl⟩
      have HM := Lib.hid (mark_three s h2 a b c ha hb hc)
      obtain ⟨m, hm⟩ : ∃ m, markN s.data.toList = m := ⟨_, rfl⟩
      rw [hm] at HM ⊢
      clear hm
      by_cases a1 : a = 239
      · subst a1
        by_cases b1 : b = 187
        · subst b1
          by_cases c1 : c = 191
          all_goals
            go_enter Try.func21, Try.ntmps21
            go_wp2
            go_ret
            exact ⟨ret_int (by rw [HM.out]; simp [c1]), rfl⟩
        · go_enter Try.func21, Try.ntmps21
          go_wp2
          go_ret
          exact ⟨ret_int (by rw [HM.out]; simp [b1]), rfl⟩
      · by_cases a2 : a = 254
        · subst a2
          by_cases b1 : b = 255
          all_goals
            go_enter Try.func21, Try.ntmps21
            go_wp2
            go_ret
            exact ⟨ret_int (by rw [HM.out]; simp [b1]), rfl⟩
        · by_cases a3 : a = 255
          · subst a3
            by_cases b1 : b = 254
            all_goals
              go_enter Try.func21, Try.ntmps21
              go_wp2
              go_ret
              exact ⟨ret_int (by rw [HM.out]; simp [b1]), rfl⟩
          · go_enter Try.func21, Try.ntmps21
            go_wp2
            go_ret
            exact ⟨ret_int (by rw [HM.out]; simp [a1, a2, a3]), rfl⟩
    · have HM := Lib.hid (mark_two s h1 h2 a b ha hb)
      obtain ⟨m, hm⟩ : ∃ m, markN s.data.toList = m := ⟨_, rfl⟩
      rw [hm] at HM ⊢
      clear hm
      by_cases a2 : a = 254
      · subst a2
        by_cases b1 : b = 255
        all_goals
          go_enter Try.func21, Try.ntmps21
          go_wp2
          go_ret
          exact ⟨ret_int (by rw [HM.out]; simp [b1]), rfl⟩
      · by_cases a3 : a = 255
        · subst a3
          by_cases b1 : b = 254
          all_goals
            go_enter Try.func21, Try.ntmps21
            go_wp2
            go_ret
            exact ⟨ret_int (by rw [HM.out]; simp [b1]), rfl⟩
        · go_enter Try.func21, Try.ntmps21
          go_wp2
          go_ret
          exact ⟨ret_int (by rw [HM.out]; simp [a2, a3]), rfl⟩
  · rw [mark_less s h1]
    go_enter Try.func21, Try.ntmps21
    go_wp2
    go_ret
    exact ⟨rfl, rfl⟩

theorem refRule_any (s : ByteArray) (hs : s.size ≤ maxLen) (w : World) :
    Calls Try.prog 22 #[.string s] w fun e w' => e = .returned (.string (ruleS s.data.toList)) ∧ w = w' := by
  have hm := Lib.hid (fun w => refMark_any s hs w)
  have hk := Lib.hid (fun w => refFirst_any s hs w)
  clear hs
  obtain ⟨r, hr⟩ : ∃ r, r = ruleS s.data.toList := ⟨_, rfl⟩
  rw [← hr]
  have HR : Hid (r = if 0 < markN s.data.toList ∨ seekI s.data.toList < 0 then plain else stream) := hr
  clear hr
  obtain ⟨m, hm'⟩ : ∃ m, m = markN s.data.toList := ⟨_, rfl⟩
  obtain ⟨q, hq⟩ : ∃ q, q = seekI s.data.toList := ⟨_, rfl⟩
  rw [← hm'] at HR hm
  rw [← hq] at HR hk
  clear hm' hq
  by_cases c : 0 < m <;> by_cases d : q < 0
  all_goals
    go_enter Try.func22, Try.ntmps22
    go_wp2_with (first
      | (go_at_call 21; (refine (hm.out _).mono ?_); rintro e w1 ⟨rfl, rfl⟩)
      | (go_at_call 13; (refine (hk.out _).mono ?_); rintro e w1 ⟨rfl, rfl⟩))
    go_ret
    exact ⟨ret_string (by rw [HR.out]; split <;> first | rfl | (exfalso; omega)), rfl⟩
end Go.Proofs.Ytkkfbpbgidanoaa
