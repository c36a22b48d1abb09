/-
  The set of keys: a key is cut, all are cleared; what is told of no set; the small living call. No condition.
-/
import Derived.Test.YtnamakimmlnleaaAdd
namespace Go.Proofs.Ytnamakimmlnleaa
open Go.RowKit Go.ChangeMaps
set_option linter.unusedVariables false

theorem Cut_nil (k : ByteArray) (w : World) : Calls Try.prog 13 #[.pointer none, .string k] w fun e w' => e = .returned (.bool false) ∧ w = w' := by
  have H1 := Lib.hid (has_nil k w)
  go_enter Try.func13, Try.ntmps13
  go_wp2_with (go_at_call 21; refine H1.out.mono ?_; rintro e w1 ⟨rfl, rfl⟩)
  go_ret
  exact ⟨rfl, rfl⟩
theorem Clear_nil (w : World) : Calls Try.prog 16 #[.pointer none] w fun e w' => e = .returned (.int .i64 0) ∧ w = w' := by
  have H1 := Lib.hid (Len_nil w)
  go_enter Try.func16, Try.ntmps16
  go_wp2_with (go_at_call 19; refine H1.out.mono ?_; rintro e w1 ⟨rfl, rfl⟩)
  go_ret
  exact ⟨rfl, rfl⟩
theorem List_nil (w : World) : Calls Try.prog 9 #[.pointer none] w fun e w' => e = .returned (.slice none 0 0) ∧ Below w.heap.size w w' := by
  go_enter Try.func9, Try.ntmps9
  go_wp2
  go_ret
  exact ⟨rfl, (Below.refl _ _).alloc (Nat.le_refl _) _⟩
theorem some_of (k : ByteArray) (h : 0 < k.size) : k.toList.isEmpty = false := by
  rw [Lib.toList_data]
  rw [Lib.size_eq] at h
  cases hd : k.data.toList with
  | nil =>
    rw [hd] at h
    simp at h
  | cons a t => rfl

def ka : ByteArray := ⟨#[97]⟩
def kb : ByteArray := ⟨#[98]⟩
def kc : ByteArray := ⟨#[99]⟩

theorem liveA {w W : World} {g : Nat} (h : Sett W w.heap.size g [] 0 2 0) :
    Calls Try.prog 7 #[.pointer (some ⟨g, 0, none⟩), .string ⟨#[97]⟩] W fun e w' => e = .returned (.tuple #[.string ⟨#[]⟩, .bool false]) ∧ Sett w' w.heap.size g [(ka, 0)] 1 2 0 ∧ Turn W w' w.heap.size g :=
  Add_room h ka (by decide) (some_of _ (by decide)) rfl (by omega) (by decide)
theorem liveB {w W : World} {g : Nat} (h : Sett W w.heap.size g [(ka, 0)] 1 2 0) :
    Calls Try.prog 7 #[.pointer (some ⟨g, 0, none⟩), .string ⟨#[98]⟩] W fun e w' => e = .returned (.tuple #[.string ⟨#[]⟩, .bool false]) ∧ Sett w' w.heap.size g [(ka, 0), (kb, 1)] 2 2 0 ∧ Turn W w' w.heap.size g :=
  Add_room h kb (by decide) (some_of _ (by decide)) (by decide) (by omega) (by decide)
theorem liveC {w W : World} {g : Nat} (h : Sett W w.heap.size g [(ka, 0), (kb, 1)] 2 2 0) :
    Calls Try.prog 7 #[.pointer (some ⟨g, 0, none⟩), .string ⟨#[99]⟩] W fun e w' => e = .returned (.tuple #[.string ⟨#[97]⟩, .bool true]) ∧ Sett w' w.heap.size g [(kb, 1), (kc, 2)] 3 2 1 ∧ Turn W w' w.heap.size g :=
  Add_full h kc (by decide) (some_of _ (by decide)) (by decide) (by omega) (by decide) (p := (ka, 0)) rfl
theorem liveL {w W : World} {g : Nat} (h : Sett W w.heap.size g [(kb, 1), (kc, 2)] 3 2 1) :
    Calls Try.prog 19 #[.pointer (some ⟨g, 0, none⟩)] W fun e w' => e = .returned (.int .i64 2) ∧ W = w' :=
  Len_any h
theorem liveH {w W : World} {g : Nat} (h : Sett W w.heap.size g [(kb, 1), (kc, 2)] 3 2 1) :
    Calls Try.prog 20 #[.pointer (some ⟨g, 0, none⟩), .string ⟨#[99]⟩] W fun e w' => e = .returned (.bool true) ∧ W = w' :=
  Has_any h kc (by decide)
theorem liveG {w W : World} {g : Nat} (h : Sett W w.heap.size g [(kb, 1), (kc, 2)] 3 2 1) :
    Calls Try.prog 10 #[.pointer (some ⟨g, 0, none⟩)] W fun e w' => e = .returned (.int .i64 1) ∧ W = w' :=
  Gone_any h

set_option maxHeartbeats 1000000 in
theorem lives_any (w : World) : Calls Try.prog 11 #[] w fun e w' => e = .returned (.bool true) ∧ Below w.heap.size w w' := by
  have H1 := Lib.hid (New_yes 2 (by omega) w.heap.size w (Nat.le_refl _))
  go_enter Try.func11, Try.ntmps11
  go_wp2_with (first
    | (go_at_call 6; refine H1.out.mono ?_; rintro e w1 ⟨g, rfl, hs1, hg1, hb1⟩; have HS1 := Lib.hid hs1; have HB1 := Lib.hid hb1; clear hs1 hb1 hg1)
    | (go_at_call 7; refine (liveC HS3.out).mono ?_; rintro e w4 ⟨rfl, hs4, ht4⟩; have HS4 := Lib.hid hs4; have HT4 := Lib.hid (HT3.out.trans ht4); clear hs4 ht4)
    | (go_at_call 7; refine (liveB HS2.out).mono ?_; rintro e w3 ⟨rfl, hs3, ht3⟩; have HS3 := Lib.hid hs3; have HT3 := Lib.hid (HT2.out.trans ht3); clear hs3 ht3)
    | (go_at_call 7; refine (liveA HS1.out).mono ?_; rintro e w2 ⟨rfl, hs2, ht2⟩; have HS2 := Lib.hid hs2; have HT2 := Lib.hid ht2; clear hs2 ht2)
    | (go_at_call 19; refine (liveL HS4.out).mono ?_; rintro e w5 ⟨rfl, rfl⟩)
    | (go_at_call 20; refine (liveH HS4.out).mono ?_; rintro e w6 ⟨rfl, rfl⟩)
    | (go_at_call 10; refine (liveG HS4.out).mono ?_; rintro e w7 ⟨rfl, rfl⟩))
  go_ret
  exact ⟨rfl, HB1.out.trans HT4.out.below⟩

theorem ValidNone_any (key : ByteArray) (w : World) (_ : key.size ≤ maxLen) : Calls Try.prog 5 #[.string key] w fun e w' => e = .returned (.bool true) ∧ Below w.heap.size w w' := by
  have H1 := Lib.hid (Add_nil key w)
  have H2 := Lib.hid (Has_nil key w)
  have H3 := Lib.hid (List_nil w)
  have H4 := fun W => Lib.hid (Len_nil W)
  have H5 := fun W => Lib.hid (Cut_nil key W)
  have H6 := fun W => Lib.hid (Clear_nil W)
  have H7 := fun W => Lib.hid (Gone_nil W)
  have H8 := fun W => Lib.hid (lives_any W)
  go_enter Try.func5, Try.ntmps5
  go_wp2_with (first
    | (go_at_call 7; refine H1.out.mono ?_; rintro e w1 ⟨rfl, rfl⟩)
    | (go_at_call 20; refine H2.out.mono ?_; rintro e w1 ⟨rfl, rfl⟩)
    | (go_at_call 9; refine H3.out.mono ?_; rintro e w3 ⟨rfl, hb3⟩; have HB3 := Lib.hid hb3; clear hb3)
    | (go_at_call 19; refine (H4 _).out.mono ?_; rintro e w1 ⟨rfl, rfl⟩)
    | (go_at_call 13; refine (H5 _).out.mono ?_; rintro e w1 ⟨rfl, rfl⟩)
    | (go_at_call 16; refine (H6 _).out.mono ?_; rintro e w1 ⟨rfl, rfl⟩)
    | (go_at_call 10; refine (H7 _).out.mono ?_; rintro e w1 ⟨rfl, rfl⟩)
    | (go_at_call 11; refine (H8 _).out.mono ?_; rintro e w1 ⟨rfl, hb⟩; have HB := Lib.hid hb; clear hb))
  go_ret
  exact ⟨rfl, below_then HB3.out (Nat.le_refl _) HB.out⟩

end Go.Proofs.Ytnamakimmlnleaa
