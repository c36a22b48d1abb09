/-
  Layer 17 (webm): whether any bytes are a film, by the program and by the reference. No condition but that a text is of at most 1000 bytes (the law cuts it to 120).
-/
import Derived.Test.YtinigkmjegpddaaFilm
namespace Go.Proofs.Ytinigkmjegpddaa
open Go.RowKit
set_option linter.unusedVariables false

def byteAt (l : List UInt8) (i : Nat) : Nat := (l.getD i 0).toNat
theorem byteAt_at (s : ByteArray) (i : Nat) (h : i < s.size) : byteAt s.data.toList i = s[i].toNat := by
  unfold byteAt
  rw [List.getD_eq_getElem?_getD, List.getElem?_eq_getElem (by rw [← Lib.size_eq]; exact h), byte_at s i h]
  rfl
def kindL : List UInt8 := [66, 130]
def signL : List UInt8 := [119, 101, 98, 109]
def markL : List UInt8 := [26, 69, 223, 163]
/-- The search from a place on. -/
def scan : Nat → List UInt8 → Nat → Bool
  | 0, _, _ => false
  | f + 1, l, at_ =>
    if l.length ≤ at_ ∨ 38 ≤ at_ then false
    else if Lib.hasPrefix (l.drop at_) kindL = true then
      if l.length ≤ at_ + 2 then false
      else if l.length ≤ at_ + 2 + widthN (byteAt l (at_ + 2)) + 4 then false
      else if padB (l.drop (at_ + 2 + widthN (byteAt l (at_ + 2)))) signL = true then true
      else scan f l (at_ + 2 + widthN (byteAt l (at_ + 2)) + 1)
    else scan f l (at_ + 1)
def filmB (l : List UInt8) : Bool := Lib.hasPrefix l markL && scan 38 l 4

theorem scan_end (f : Nat) (l : List UInt8) (a : Nat) (h : l.length ≤ a ∨ 38 ≤ a) : scan f l a = false := by
  cases f with
  | zero => rfl
  | succ f => simp only [scan, if_pos h]
section
variable (f : Nat) (l : List UInt8) (a : Nat) (h : ¬ (l.length ≤ a ∨ 38 ≤ a))
include h
theorem scan_skip (hp : Lib.hasPrefix (l.drop a) kindL = false) : scan (f + 1) l a = scan f l (a + 1) := by
  simp only [scan, if_neg h, hp]
  simp
theorem scan_a (hp : Lib.hasPrefix (l.drop a) kindL = true) (h2 : l.length ≤ a + 2) : scan (f + 1) l a = false := by
  simp only [scan, if_neg h, hp, if_true, if_pos h2]
theorem scan_b (hp : Lib.hasPrefix (l.drop a) kindL = true) (h2 : ¬ l.length ≤ a + 2) (h3 : l.length ≤ a + 2 + widthN (byteAt l (a + 2)) + 4) : scan (f + 1) l a = false := by
  simp only [scan, if_neg h, hp, if_true, if_neg h2, if_pos h3]
theorem scan_c (hp : Lib.hasPrefix (l.drop a) kindL = true) (h2 : ¬ l.length ≤ a + 2) (h3 : ¬ l.length ≤ a + 2 + widthN (byteAt l (a + 2)) + 4) (h4 : padB (l.drop (a + 2 + widthN (byteAt l (a + 2)))) signL = true) : scan (f + 1) l a = true := by
  simp only [scan, if_neg h, hp, if_true, if_neg h2, if_neg h3, h4]
theorem scan_d (hp : Lib.hasPrefix (l.drop a) kindL = true) (h2 : ¬ l.length ≤ a + 2) (h3 : ¬ l.length ≤ a + 2 + widthN (byteAt l (a + 2)) + 4) (h4 : padB (l.drop (a + 2 + widthN (byteAt l (a + 2)))) signL = false) : scan (f + 1) l a = scan f l (a + 2 + widthN (byteAt l (a + 2)) + 1) := by
  simp only [scan, if_neg h, hp, if_true, if_neg h2, if_neg h3, h4]
  simp
end

theorem pad_drop (s : ByteArray) (k : Nat) (b : Bool) (hs : s.size ≤ 1000) (h : padB (s.data.toList.drop k) signL = b) (w : World) :
    Calls Try.prog 23 #[.string (s.extract k s.size), .string ⟨#[119, 101, 98, 109]⟩] w fun e w' => e = .returned (.bool b) ∧ w = w' := by
  have := padded_any (s.extract k s.size) ⟨#[119, 101, 98, 109]⟩ (by rw [ByteArray.size_extract]; omega) w
  rw [drop_data] at this
  rw [← h]
  exact this
theorem refPad_drop (s : ByteArray) (k : Nat) (b : Bool) (hs : s.size ≤ 1000) (h : padB (s.data.toList.drop k) signL = b) (w : World) :
    Calls Try.prog 16 #[.string (s.extract k s.size), .string ⟨#[119, 101, 98, 109]⟩] w fun e w' => e = .returned (.bool b) ∧ w = w' := by
  have := refPadded_any (s.extract k s.size) ⟨#[119, 101, 98, 109]⟩ (by rw [ByteArray.size_extract]; omega) w
  rw [drop_data] at this
  rw [← h]
  exact this

theorem begins21_any (s : ByteArray) (w : World) : Calls Try.prog 21 #[.string s] w fun e w' => e = .returned (.bool (Lib.hasPrefix s.data.toList markL)) ∧ w = w' := by
  have H := Lib.hid (fun w => pre_any s ⟨#[26, 69, 223, 163]⟩ w)
  go_enter Try.func21, Try.ntmps21
  go_wp2_with (go_at_call 22; (with_reducible refine (H.out _).mono ?_); rintro e w1 ⟨rfl, rfl⟩)
  go_ret
  exact ⟨rfl, rfl⟩

theorem is_no (s : ByteArray) (h : Lib.hasPrefix s.data.toList markL = false) (w : World) : Calls Try.prog 12 #[.string s] w fun e w' => e = .returned (.bool false) ∧ w = w' := by
  have H := Lib.hid (fun w => h ▸ begins21_any s w)
  go_enter Try.func12, Try.ntmps12
  go_wp2_with fail
  go_step3
  go_wp2_with (go_at_call 21; (with_reducible refine (H.out _).mono ?_); rintro e w1 ⟨rfl, rfl⟩)
  rw [Exit.noGoto_ret]
  go_ret
  exact ⟨rfl, rfl⟩

def J (s : ByteArray) (w : World) (a' : Act) (w' : World) : Prop :=
  w' = w ∧ ∃ (at_ f : Nat) (u1 u4 u5 u6 u7 u8 u9 u10 u11 u12 u13 u14 u15 u16 u17 u18 u19 u20 u21 u22 u23 u24 u25 u26 u27 u28 u29 u30 u31 u32 u33 u34 u35 u36 u37 u38 u39 u40 u41 : Value), a' = { tmps := #[.string s, u1, .bool false, .int .i64 at_, u4, u5, u6, u7, u8, u9, u10, u11, u12, u13, u14, u15, u16, u17, u18, u19, u20, u21, u22, u23, u24, u25, u26, u27, u28, u29, u30, u31, u32, u33, u34, u35, u36, u37, u38, u39, u40, u41], defers := [] } ∧ 4 ≤ at_ ∧ at_ ≤ 60 ∧ 38 ≤ at_ + f ∧ scan 38 s.data.toList 4 = scan f s.data.toList at_

set_option maxRecDepth 1000000 in
set_option maxHeartbeats 1000000 in
theorem is_yes (s : ByteArray) (hs : s.size ≤ 1000) (h : Lib.hasPrefix s.data.toList markL = true) (w : World) : Calls Try.prog 12 #[.string s] w fun e w' => e = .returned (.bool (scan 38 s.data.toList 4)) ∧ w = w' := by
  have H := Lib.hid (fun w => h ▸ begins21_any s w)
  clear h
  go_enter Try.func12, Try.ntmps12
  go_wp2_with fail
  refine wp_scope_jumps 0 (J s w) (fun a' _ => 100 - (intOf (a'.tmps.getD 3 undef)).toNat) rfl ?_ ?_
  · go_wp2_with (go_at_call 21; (with_reducible refine (H.out _).mono ?_); rintro e w1 ⟨rfl, rfl⟩)
    go_step3
    obtain ⟨at_, e1, e2⟩ : ∃ at_ : Nat, (4 : Int) = (at_ : Int) ∧ at_ = 4 := ⟨4, rfl, rfl⟩
    show Exit.then _ _ _ { tmps := #[.string s, undef, .bool false, .int .i64 ((4 : Nat) : Int), .string s, .bool true, .bool false, undef, undef, undef, undef, undef, undef, undef, undef, undef, undef, undef, undef, undef, undef, undef, undef, undef, undef, undef, undef, undef, undef, undef, undef, undef, undef, undef, undef, undef, undef, undef, undef, undef, undef, undef], defers := [] } w
    have e3 : ((4 : Nat) : Int) = (at_ : Int) := e1
    rw [e3]
    obtain ⟨f, hf0⟩ : ∃ f : Nat, f = 38 := ⟨38, rfl⟩
    have hscan : scan 38 s.data.toList 4 = scan f s.data.toList at_ := by rw [e2, hf0]
    have h4 : 4 ≤ at_ := by omega
    have h60 : at_ ≤ 60 := by omega
    have hf : 38 ≤ at_ + f := by omega
    clear e1 e2 e3 hf0
    have HS := Lib.hid hscan
    clear hscan
    have hsz := Lib.size_eq s
    have HSZ := Lib.hid hsz
    clear hsz
    by_cases hend : s.size ≤ at_ ∨ 38 ≤ at_
    · have HE := Lib.hid hend
      by_cases h1 : s.size ≤ at_
      · clear hend
        go_wp2_with fail
        simp only [Exit.jump]
        go_ret
        exact ⟨ret_bool (by rw [HS.out, scan_end _ _ _ (by have := HSZ.out; omega)]), rfl⟩
      · have h2 : 38 ≤ at_ := by omega
        clear hend
        go_wp2_with fail
        simp only [Exit.jump]
        go_ret
        exact ⟨ret_bool (by rw [HS.out, scan_end _ _ _ (by have := HSZ.out; omega)]), rfl⟩
    · have HE : Hid (¬ (s.data.toList.length ≤ at_ ∨ 38 ≤ at_)) := by have := HSZ.out; exact (by omega : ¬ (s.data.toList.length ≤ at_ ∨ 38 ≤ at_))
      have h1 : at_ < s.size := by omega
      have h2 : at_ < 38 := by omega
      obtain ⟨f, rfl⟩ : ∃ g, f = g + 1 := ⟨f - 1, by omega⟩
      clear hend
      cases hp : Lib.hasPrefix (s.data.toList.drop at_) kindL
      · have HC := Lib.hid (fun w => pre_drop s ⟨#[66, 130]⟩ at_ _ hp w)
        have HP := Lib.hid hp
        clear hp
        go_wp2_with (go_at_call 22; (with_reducible refine (HC.out _).mono ?_); rintro e w1 ⟨rfl, rfl⟩)
        go_step3
        exact ⟨rfl, ⟨rfl, at_ + 1, f, _, _, _, _, _, _, _, _, _, _, _, _, _, _, _, _, _, _, _, _, _, _, _, _, _, _, _, _, _, _, _, _, _, _, _, _, _, _, _, by first | rfl | (simp; done) | (simp; omega) | (congr 2; done), by omega, by omega, by omega, by rw [HS.out, scan_skip _ _ _ HE.out HP.out]⟩⟩
      · have HC := Lib.hid (fun w => pre_drop s ⟨#[66, 130]⟩ at_ _ hp w)
        have HP := Lib.hid hp
        clear hp
        by_cases h3 : s.size ≤ at_ + 2
        · go_wp2_with (go_at_call 22; (with_reducible refine (HC.out _).mono ?_); rintro e w1 ⟨rfl, rfl⟩)
          simp only [Exit.jump]
          go_ret
          exact ⟨ret_bool (by rw [HS.out, scan_a _ _ _ HE.out HP.out (by have := HSZ.out; omega)]), rfl⟩
        · have h3' : at_ + 2 < s.size := by omega
          obtain ⟨k, hk⟩ : ∃ k, widthN s[at_ + 2].toNat = k := ⟨_, rfl⟩
          have hkb := hk ▸ widthN_bounds s[at_ + 2].toNat
          obtain ⟨hk1, hk8⟩ := hkb
          have HW := Lib.hid (fun w => hk ▸ width_any s[at_ + 2].toNat (UInt8.toNat_lt _) w)
          have HK : Hid (widthN (byteAt s.data.toList (at_ + 2)) = k) := by rw [byteAt_at s _ h3']; exact hk
          clear hk
          by_cases h4' : s.size ≤ at_ + 2 + k + 4
          · go_wp2_with (first
                | (go_at_call 22; (with_reducible refine (HC.out _).mono ?_); rintro e w1 ⟨rfl, rfl⟩)
                | (go_at_call 19; (with_reducible refine (HW.out _).mono ?_); rintro e w1 ⟨rfl, rfl⟩))
            simp only [Exit.jump]
            go_ret
            exact ⟨ret_bool (by rw [HS.out, scan_b _ _ _ HE.out HP.out (by have := HSZ.out; omega) (by have := HSZ.out; have := HK.out; omega)]), rfl⟩
          · cases hd : padB (s.data.toList.drop (at_ + 2 + k)) signL
            all_goals
              have HD := Lib.hid (fun w => pad_drop s (at_ + 2 + k) _ hs hd w)
              have HPD := Lib.hid hd
              clear hd
              go_wp2_with (first
                  | (go_at_call 22; (with_reducible refine (HC.out _).mono ?_); rintro e w1 ⟨rfl, rfl⟩)
                  | (go_at_call 19; (with_reducible refine (HW.out _).mono ?_); rintro e w1 ⟨rfl, rfl⟩)
                  | (go_at_call 23; (with_reducible refine (HD.out _).mono ?_); rintro e w1 ⟨rfl, rfl⟩))
            · skip
              go_step3
              exact ⟨rfl, ⟨rfl, at_ + 2 + k + 1, f, _, _, _, _, _, _, _, _, _, _, _, _, _, _, _, _, _, _, _, _, _, _, _, _, _, _, _, _, _, _, _, _, _, _, _, _, _, _, _, by first | rfl | (simp; done) | (simp; omega) | (congr 2; done), by omega, by omega, by omega, by rw [HS.out, scan_d _ _ _ HE.out HP.out (by have := HSZ.out; omega) (by have := HSZ.out; have := HK.out; omega) (by rw [HK.out]; exact HPD.out), HK.out]⟩⟩
            · skip
              simp only [Exit.jump]
              go_ret
              exact ⟨ret_bool (by rw [HS.out, scan_c _ _ _ HE.out HP.out (by have := HSZ.out; omega) (by have := HSZ.out; have := HK.out; omega) (by rw [HK.out]; exact HPD.out)]), rfl⟩
  · rintro a' w' ⟨rfl, at_, f, u1, u4, u5, u6, u7, u8, u9, u10, u11, u12, u13, u14, u15, u16, u17, u18, u19, u20, u21, u22, u23, u24, u25, u26, u27, u28, u29, u30, u31, u32, u33, u34, u35, u36, u37, u38, u39, u40, u41, rfl, h4, h60, hf, hscan⟩
    have HS := Lib.hid hscan
    clear hscan
    have hsz := Lib.size_eq s
    have HSZ := Lib.hid hsz
    clear hsz
    by_cases hend : s.size ≤ at_ ∨ 38 ≤ at_
    · have HE := Lib.hid hend
      by_cases h1 : s.size ≤ at_
      · clear hend
        go_wp2_with fail
        simp only [Exit.jump]
        go_ret
        exact ⟨ret_bool (by rw [HS.out, scan_end _ _ _ (by have := HSZ.out; omega)]), rfl⟩
      · have h2 : 38 ≤ at_ := by omega
        clear hend
        go_wp2_with fail
        simp only [Exit.jump]
        go_ret
        exact ⟨ret_bool (by rw [HS.out, scan_end _ _ _ (by have := HSZ.out; omega)]), rfl⟩
    · have HE : Hid (¬ (s.data.toList.length ≤ at_ ∨ 38 ≤ at_)) := by have := HSZ.out; exact (by omega : ¬ (s.data.toList.length ≤ at_ ∨ 38 ≤ at_))
      have h1 : at_ < s.size := by omega
      have h2 : at_ < 38 := by omega
      obtain ⟨f, rfl⟩ : ∃ g, f = g + 1 := ⟨f - 1, by omega⟩
      clear hend
      cases hp : Lib.hasPrefix (s.data.toList.drop at_) kindL
      · have HC := Lib.hid (fun w => pre_drop s ⟨#[66, 130]⟩ at_ _ hp w)
        have HP := Lib.hid hp
        clear hp
        go_wp2_with (go_at_call 22; (with_reducible refine (HC.out _).mono ?_); rintro e w1 ⟨rfl, rfl⟩)
        go_step3
        refine ⟨rfl, ⟨rfl, at_ + 1, f, _, _, _, _, _, _, _, _, _, _, _, _, _, _, _, _, _, _, _, _, _, _, _, _, _, _, _, _, _, _, _, _, _, _, _, _, _, _, _, by first | rfl | (simp; done) | (simp; omega) | (congr 2; done), by omega, by omega, by omega, by rw [HS.out, scan_skip _ _ _ HE.out HP.out]⟩, ?_⟩
        simp [intOf]
        omega
      · have HC := Lib.hid (fun w => pre_drop s ⟨#[66, 130]⟩ at_ _ hp w)
        have HP := Lib.hid hp
        clear hp
        by_cases h3 : s.size ≤ at_ + 2
        · go_wp2_with (go_at_call 22; (with_reducible refine (HC.out _).mono ?_); rintro e w1 ⟨rfl, rfl⟩)
          simp only [Exit.jump]
          go_ret
          exact ⟨ret_bool (by rw [HS.out, scan_a _ _ _ HE.out HP.out (by have := HSZ.out; omega)]), rfl⟩
        · have h3' : at_ + 2 < s.size := by omega
          obtain ⟨k, hk⟩ : ∃ k, widthN s[at_ + 2].toNat = k := ⟨_, rfl⟩
          have hkb := hk ▸ widthN_bounds s[at_ + 2].toNat
          obtain ⟨hk1, hk8⟩ := hkb
          have HW := Lib.hid (fun w => hk ▸ width_any s[at_ + 2].toNat (UInt8.toNat_lt _) w)
          have HK : Hid (widthN (byteAt s.data.toList (at_ + 2)) = k) := by rw [byteAt_at s _ h3']; exact hk
          clear hk
          by_cases h4' : s.size ≤ at_ + 2 + k + 4
          · go_wp2_with (first
                | (go_at_call 22; (with_reducible refine (HC.out _).mono ?_); rintro e w1 ⟨rfl, rfl⟩)
                | (go_at_call 19; (with_reducible refine (HW.out _).mono ?_); rintro e w1 ⟨rfl, rfl⟩))
            simp only [Exit.jump]
            go_ret
            exact ⟨ret_bool (by rw [HS.out, scan_b _ _ _ HE.out HP.out (by have := HSZ.out; omega) (by have := HSZ.out; have := HK.out; omega)]), rfl⟩
          · cases hd : padB (s.data.toList.drop (at_ + 2 + k)) signL
            all_goals
              have HD := Lib.hid (fun w => pad_drop s (at_ + 2 + k) _ hs hd w)
              have HPD := Lib.hid hd
              clear hd
              go_wp2_with (first
                  | (go_at_call 22; (with_reducible refine (HC.out _).mono ?_); rintro e w1 ⟨rfl, rfl⟩)
                  | (go_at_call 19; (with_reducible refine (HW.out _).mono ?_); rintro e w1 ⟨rfl, rfl⟩)
                  | (go_at_call 23; (with_reducible refine (HD.out _).mono ?_); rintro e w1 ⟨rfl, rfl⟩))
            · skip
              go_step3
              refine ⟨rfl, ⟨rfl, at_ + 2 + k + 1, f, _, _, _, _, _, _, _, _, _, _, _, _, _, _, _, _, _, _, _, _, _, _, _, _, _, _, _, _, _, _, _, _, _, _, _, _, _, _, _, by first | rfl | (simp; done) | (simp; omega) | (congr 2; done), by omega, by omega, by omega, by rw [HS.out, scan_d _ _ _ HE.out HP.out (by have := HSZ.out; omega) (by have := HSZ.out; have := HK.out; omega) (by rw [HK.out]; exact HPD.out), HK.out]⟩, ?_⟩
              simp [intOf]
              omega
            · skip
              simp only [Exit.jump]
              go_ret
              exact ⟨ret_bool (by rw [HS.out, scan_c _ _ _ HE.out HP.out (by have := HSZ.out; omega) (by have := HSZ.out; have := HK.out; omega) (by rw [HK.out]; exact HPD.out)]), rfl⟩
end Go.Proofs.Ytinigkmjegpddaa

