/-
  Layer 37 (hold): Add, Open, Shut, the contracts. No condition but that the hold is one, and that what came is less than a million bytes.
-/
import Derived.Test.YtamfkiimppfoaaaHold
namespace Go.Proofs.Ytamfkiimppfoaaa
open Go.RowKit
set_option linter.unusedVariables false

theorem Add_nil (s : ByteArray) (w : World) : Calls Try.prog 10 #[.pointer none, .string s] w fun e w' => e = .returned (.tuple #[.string ⟨#[]⟩, .int .i64 1]) ∧ w = w' := by
  go_enter Try.func10, Try.ntmps10
  go_wp2
  go_ret2
  exact ⟨rfl, rfl⟩
theorem Open_nil (w : World) : Calls Try.prog 8 #[.pointer none] w fun e w' => e = .returned (.string ⟨#[]⟩) ∧ w = w' := by
  go_enter Try.func8, Try.ntmps8
  go_wp2
  go_ret
  exact ⟨rfl, rfl⟩
theorem Shut_nil (w : World) : Calls Try.prog 9 #[.pointer none] w fun e w' => e = .returned (.int .i64 0) ∧ w = w' := by
  go_enter Try.func9, Try.ntmps9
  go_wp2
  go_ret
  exact ⟨rfl, rfl⟩

section
variable {w : World} {B g q : Nat} {bs : List UInt8} {most state came went : Nat}
/-- A number of the hold's turns. -/
theorem Hol.set_ (h : Hol w B g q bs most state came went) (i : Nat) (u : Value) {state' came' went' : Nat} (he : (#[.pointer (some ⟨q, 0, none⟩), .int .i64 state, .int .i64 came, .int .i64 went] : Array Value).setIfInBounds i u = #[.pointer (some ⟨q, 0, none⟩), .int .i64 state', .int .i64 came', .int .i64 went'])
    (h1 : came ≤ came') (h2 : came' ≤ 1000000) (h3 : went' ≤ came') (h4 : state' ≤ 2) : Hol (w.setCell ⟨g, i, none⟩ u) B g q bs most state' came' went' := by
  obtain ⟨out, hq, ho⟩ := h.que
  refine ⟨h.low, ?_, ⟨out, hq.set_ h.blk i u, by omega⟩, h2, h3, h4⟩
  rw [← he]
  exact blk_set h.blk i u
theorem bset {a b : World} {B g : Nat} (h : Below B a b) (hg : B ≤ g) (i : Nat) (u : Value) : Below B a (b.setCell ⟨g, i, none⟩ u) := h.setCell (p := ⟨g, i, none⟩) hg u

theorem Add_full (h : Hol w B g q bs most 0 came went) (s : ByteArray) (hs : most - bs.length < s.size) :
    Calls Try.prog 10 #[.pointer (some ⟨g, 0, none⟩), .string s] w fun e w' => e = .returned (.tuple #[.string ⟨#[]⟩, .int .i64 3]) ∧ Below w.heap.size w w' := by
  obtain ⟨c0, c1, c2, c3⟩ := h.cells
  obtain ⟨out, hq, ho⟩ := h.que
  have H19 := Lib.hid (Push_full hq s hs)
  clear h hq ho hs
  go_enter Try.func10, Try.ntmps10
  go_wp2_with (go_at_call 19; refine H19.out.mono ?_; rintro e w1 ⟨rfl, hb⟩; have HB := Lib.hid hb; clear hb)
  go_ret2
  exact ⟨rfl, HB.out⟩

theorem Add_hold (h : Hol w B g q bs most 0 came went) (s : ByteArray) (hs : s.size ≤ most - bs.length) (hc : came + s.size ≤ 1000000) (hB : B ≤ w.heap.size) :
    Calls Try.prog 10 #[.pointer (some ⟨g, 0, none⟩), .string s] w fun e w' => e = .returned (.tuple #[.string ⟨#[]⟩, .int .i64 0]) ∧ Hol w' B g q (bs ++ s.data.toList) most 0 (came + s.size) went ∧ Below B w w' := by
  obtain ⟨c0, c1, c2, c3⟩ := h.cells
  obtain ⟨out, hq, ho⟩ := h.que
  have H19 := Lib.hid (Push_ok hq s hs hB)
  have HH := Lib.hid h
  have HO := Lib.hid ho
  have HE : Hid ((came : Int) + s.size = ((came + s.size : Nat) : Int)) := by unfold Hid; omega
  clear h hq ho hs hB
  go_enter Try.func10, Try.ntmps10
  go_wp2_with (go_at_call 19; refine H19.out.mono ?_; rintro e w1 ⟨rfl, hq1, ht1⟩; have hb1 := (ht1.keep g _ _ _ HH.out.blk HH.out.ne (by decide)).trans HH.out.blk; have d1 := cell_of_row w1 g 1 _ _ _ hb1; have d2 := cell_of_row w1 g 2 _ _ _ hb1; have d3 := cell_of_row w1 g 3 _ _ _ hb1; have f2 := blk_frozen hb1 2; have HK := Lib.hid hb1; have HQ := Lib.hid hq1; have HT := Lib.hid ht1; clear hb1 hq1 ht1)
  go_ret2
  refine ⟨rfl, ⟨HH.out.low, ?_, ⟨out, HQ.out.set_ HK.out _ _, ?_⟩, hc, Nat.le_trans HH.out.went_ (Nat.le_add_right _ _), by omega⟩, bset HT.out.below HH.out.low _ _⟩
  · rw [HE.out]
    exact blk_set HK.out 2 _
  · rw [List.length_append, ← Lib.size_eq]
    have := HO.out
    omega

theorem Add_open (h : Hol w B g q bs most 1 came went) (s : ByteArray) (hc : came + s.size ≤ 1000000) :
    Calls Try.prog 10 #[.pointer (some ⟨g, 0, none⟩), .string s] w fun e w' => e = .returned (.tuple #[.string s, .int .i64 0]) ∧ Hol w' B g q bs most 1 (came + s.size) (went + s.size) ∧ Below B w w' := by
  obtain ⟨c0, c1, c2, c3⟩ := h.cells
  have f2 := blk_frozen h.blk 2
  have HE : Hid ((came : Int) + s.size = ((came + s.size : Nat) : Int)) := by unfold Hid; omega
  have hw := h.went_
  have h1 : Hol (w.setCell ⟨g, 2, none⟩ (.int .i64 ((came : Int) + s.size))) B g q bs most 1 (came + s.size) went := by
    rw [HE.out]
    exact h.set_ 2 _ (by rfl) (by omega) hc (by omega) (by omega)
  have H17 := Lib.hid (pass_any h1 s (by omega))
  have HH := Lib.hid h
  have HH1 := Lib.hid h1
  have HHC := Lib.hid hc
  have HW := Lib.hid hw
  have hc2 : (came : Int) + s.size ≤ 1000000 := by omega
  clear h h1 hw hc
  go_enter Try.func10, Try.ntmps10
  go_wp2_with (go_at_call 17; refine H17.out.mono ?_; rintro e w1 ⟨rfl, rfl⟩)
  go_ret2
  refine ⟨rfl, HH1.out.set_ 3 _ (by rfl) (Nat.le_refl _) HHC.out (by have := HW.out; omega) (by omega), bset (bset (Below.refl _ _) HH.out.low _ _) HH.out.low _ _⟩

theorem Add_shut (h : Hol w B g q bs most 2 came went) (s : ByteArray) (hc : came + s.size ≤ 1000000) :
    Calls Try.prog 10 #[.pointer (some ⟨g, 0, none⟩), .string s] w fun e w' => e = .returned (.tuple #[.string ⟨#[]⟩, .int .i64 0]) ∧ Hol w' B g q bs most 2 (came + s.size) went ∧ Below B w w' := by
  obtain ⟨c0, c1, c2, c3⟩ := h.cells
  have f2 := blk_frozen h.blk 2
  have HE : Hid ((came : Int) + s.size = ((came + s.size : Nat) : Int)) := by unfold Hid; omega
  have hw := h.went_
  have h1 : Hol (w.setCell ⟨g, 2, none⟩ (.int .i64 ((came : Int) + s.size))) B g q bs most 2 (came + s.size) went := by
    rw [HE.out]
    exact h.set_ 2 _ (by rfl) (by omega) hc (by omega) (by omega)
  have HH := Lib.hid h
  have HH1 := Lib.hid h1
  clear h h1 hw
  go_enter Try.func10, Try.ntmps10
  go_wp2
  go_ret2
  exact ⟨rfl, HH1.out, bset (Below.refl _ _) HH.out.low _ _⟩

theorem Open_no (h : Hol w B g q bs most state came went) (hs : ((state : Int) != 0) = true) : Calls Try.prog 8 #[.pointer (some ⟨g, 0, none⟩)] w fun e w' => e = .returned (.string ⟨#[]⟩) ∧ w = w' := by
  obtain ⟨c0, c1, c2, c3⟩ := h.cells
  clear h
  go_enter Try.func8, Try.ntmps8
  go_wp2
  go_ret
  exact ⟨rfl, rfl⟩
theorem Open_yes (h : Hol w B g q bs most 0 came went) (hw : went + bs.length ≤ came) (hB : B ≤ w.heap.size) :
    Calls Try.prog 8 #[.pointer (some ⟨g, 0, none⟩)] w fun e w' => e = .returned (.string ⟨bs.toArray⟩) ∧ Hol w' B g q [] most 1 came (went + bs.length) ∧ Below B w w' := by
  obtain ⟨c0, c1, c2, c3⟩ := h.cells
  have f1 := blk_frozen h.blk 1
  have hca := h.came_
  have h1 : Hol (w.setCell ⟨g, 1, none⟩ (.int .i64 1)) B g q bs most 1 came went := h.set_ 1 _ (by rfl) (by omega) h.came_ h.went_ (by omega)
  obtain ⟨out, hq, ho⟩ := h1.que
  have H18 := Lib.hid (Drain_any hq (by simpa [World.setCell] using hB) (by omega))
  have HX : Hid (∀ W, Que W B q [] most (out + bs.length) → Turn (w.setCell ⟨g, 1, none⟩ (.int .i64 1)) W B q → Hol W B g q [] most 1 came went ∧ Below B w W) := fun W hqW hT =>
    ⟨⟨h.low, (hT.keep g _ _ _ h1.blk h1.ne (by decide)).trans h1.blk, ⟨_, hqW, by simpa using ho⟩, h.came_, h.went_, by omega⟩, (bset (Below.refl _ _) h.low _ _).trans hT.below⟩
  have HSZ : Hid ((⟨bs.toArray⟩ : ByteArray).size = bs.length) := by unfold Hid; simp [ByteArray.size]
  obtain ⟨x, hx⟩ : ∃ x : ByteArray, ⟨bs.toArray⟩ = x := ⟨_, rfl⟩
  rw [hx] at H18 HSZ ⊢
  have H17 : Hid (∀ W, Hol W B g q [] most 1 came went → Calls Try.prog 17 #[.pointer (some ⟨g, 0, none⟩), .string x] W fun e w' => e = .returned (.string x) ∧ Hol w' B g q [] most 1 came (went + bs.length) ∧ Below B W w') := fun W hW =>
    (pass_any hW x (by rw [HSZ.out]; omega)).mono fun e w' hh => by
      obtain ⟨he, rfl⟩ := hh
      rw [HSZ.out]
      exact ⟨he, hW.set_ 3 _ (by rfl) (Nat.le_refl _) hca hw (by omega), bset (Below.refl _ _) h.low _ _⟩
  clear h h1 hq ho hx hw hB
  go_enter Try.func8, Try.ntmps8
  go_wp2_with (first
    | (go_at_call 18; refine H18.out.mono ?_; rintro e w1 ⟨rfl, hq1, ht1⟩; have HH1 := Lib.hid (HX.out _ hq1 ht1); clear hq1 ht1)
    | (go_at_call 17; refine (H17.out _ HH1.out.1).mono ?_; rintro e w2 ⟨rfl, hh2, hb2⟩; have HH2 := Lib.hid hh2; have HB2 := Lib.hid hb2; clear hh2 hb2))
  go_ret
  exact ⟨rfl, HH2.out, HH1.out.2.trans HB2.out⟩

theorem Shut_no (h : Hol w B g q bs most 2 came went) : Calls Try.prog 9 #[.pointer (some ⟨g, 0, none⟩)] w fun e w' => e = .returned (.int .i64 0) ∧ w = w' := by
  obtain ⟨c0, c1, c2, c3⟩ := h.cells
  clear h
  go_enter Try.func9, Try.ntmps9
  go_wp2
  go_ret
  exact ⟨rfl, rfl⟩
theorem Shut_yes (h : Hol w B g q bs most state came went) (hs : ((state : Int) == 2) = false) (hB : B ≤ w.heap.size) :
    Calls Try.prog 9 #[.pointer (some ⟨g, 0, none⟩)] w fun e w' => e = .returned (.int .i64 bs.length) ∧ Hol w' B g q [] most 2 came went ∧ Below B w w' := by
  obtain ⟨c0, c1, c2, c3⟩ := h.cells
  have f1 := blk_frozen h.blk 1
  have hca := h.came_
  have h1 : Hol (w.setCell ⟨g, 1, none⟩ (.int .i64 2)) B g q bs most 2 came went := h.set_ 1 _ (by rfl) (by omega) h.came_ h.went_ (by omega)
  obtain ⟨out, hq, ho⟩ := h1.que
  have H18 := Lib.hid (Drain_any hq (by simpa [World.setCell] using hB) (by omega))
  have HX : Hid (∀ W, Que W B q [] most (out + bs.length) → Turn (w.setCell ⟨g, 1, none⟩ (.int .i64 2)) W B q → Hol W B g q [] most 2 came went ∧ Below B w W) := fun W hqW hT =>
    ⟨⟨h.low, (hT.keep g _ _ _ h1.blk h1.ne (by decide)).trans h1.blk, ⟨_, hqW, by simpa using ho⟩, h.came_, h.went_, by omega⟩, (bset (Below.refl _ _) h.low _ _).trans hT.below⟩
  have HSZ : Hid ((⟨bs.toArray⟩ : ByteArray).size = bs.length) := by unfold Hid; simp [ByteArray.size]
  obtain ⟨x, hx⟩ : ∃ x : ByteArray, ⟨bs.toArray⟩ = x := ⟨_, rfl⟩
  rw [hx] at H18 HSZ
  clear h h1 hq ho hx hB
  go_enter Try.func9, Try.ntmps9
  go_wp2_with (go_at_call 18; refine H18.out.mono ?_; rintro e w1 ⟨rfl, hq1, ht1⟩; have HH1 := Lib.hid (HX.out _ hq1 ht1); clear hq1 ht1)
  go_ret
  exact ⟨ret_int (by rw [HSZ.out]), HH1.out.1, HH1.out.2⟩
end
end Go.Proofs.Ytamfkiimppfoaaa
