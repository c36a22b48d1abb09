/-
  Layer 18 (mp3): the small living call; the laws on heads and on sizes, walked. No condition but what a text and a number of 64 bits are.
-/
import Derived.Test.YtfjfccomcmmfoaaHeads
namespace Go.Proofs.Ytfjfccomcmmfoaa
open Go.RowKit
set_option linter.unusedVariables false
theorem set_cell (w : World) (a : Addr) (u v : Value) (h : w.cell? a = some u) : (w.setCell a v).cell? a = some v := World.cell?_setCell_same w a v h
attribute [local go_sem] plus_cell set_cell

theorem cut_any (s : ByteArray) (n : Nat) (hs : s.size ≤ maxLen) (w : World) :
    Calls Try.prog 7 #[.string s, .int .i64 n] w fun e w' => e = .returned (.string (s.extract 0 n)) ∧ w = w' := by
  unfold maxLen at hs
  by_cases h : n < s.size
  · go_enter Try.func7, Try.ntmps7
    go_wp2
    go_ret
    exact ⟨rfl, rfl⟩
  · have HE := Lib.hid (extract_all s n (by omega))
    go_enter Try.func7, Try.ntmps7
    go_wp2
    go_ret
    exact ⟨ret_string HE.out.symm, rfl⟩

theorem Head_of (s : ByteArray) (v l r q : Int) (p ok : Bool) (h : ∀ w, Calls Try.prog 23 #[.string s] w fun e w' => e = .returned (.tuple #[.agg #[.int .i64 v, .int .i64 l, .int .i64 r, .int .i64 q, .bool p], .bool ok]) ∧ Below w.heap.size w w') (w : World) :
    Calls Try.prog 8 #[.string s] w fun e w' => e = .returned (.tuple #[.agg #[.int .i64 v, .int .i64 l, .int .i64 r, .int .i64 q, .bool p], .bool ok]) ∧ Below w.heap.size w w' := by
  have H := Lib.hid h
  clear h
  go_enter Try.func8, Try.ntmps8
  go_wp2_with fail
  (with_reducible refine (H.out _).mono ?_)
  rintro e w1 ⟨rfl, hb1⟩
  have HF := Lib.hid ((Fr.new w 0 0 0 0 false).below hb1 (by simp))
  have HB1 := Lib.hid hb1
  have hz := HF.out.lt
  obtain ⟨c0, c1, c2, c3, c4⟩ := HF.out.cells
  have f0 : ∀ j, w1.frozen? ⟨w.heap.size, j, none⟩ = false := fun j => by
    have := HF.out
    unfold Fr at this
    simp [World.frozen?, this]
  clear hb1
  go_wp2_with fail
  refine bodyPost_ret (v := .tuple #[.agg #[.int .i64 v, .int .i64 l, .int .i64 r, .int .i64 q, .bool p], .bool ok]) (by simp [results, Try.results8, go_sem, c0, c1, c2, c3, c4]) rfl ⟨rfl, ?_⟩
  have hB := below_then ((Below.refl _ _).alloc (Nat.le_refl _) _) (Nat.le_refl _) HB1.out
  exact ((((hB.setCell (Nat.le_refl _) _).setCell (Nat.le_refl _) _).setCell (Nat.le_refl _) _).setCell (Nat.le_refl _) _).setCell (Nat.le_refl _) _

theorem below_set5 {B : Nat} {w w1 : World} (h : Below B w w1) {n : Nat} (hn : B ≤ n) (a b c d e : Value) :
    Below B w (((((w1.setCell ⟨n, 0, none⟩ a).setCell ⟨n, 1, none⟩ b).setCell ⟨n, 2, none⟩ c).setCell ⟨n, 3, none⟩ d).setCell ⟨n, 4, none⟩ e) :=
  ((((h.setCell hn _).setCell hn _).setCell hn _).setCell hn _).setCell hn _

def sample : ByteArray := ⟨#[255, 251, 144, 100]⟩
theorem Head_sample (w : World) : Calls Try.prog 8 #[.string sample] w fun e w' => e = .returned (.tuple #[.agg #[.int .i64 3, .int .i64 3, .int .i64 128000, .int .i64 44100, .bool false], .bool true]) ∧ Below w.heap.size w w' := by
  have h := (heads_both sample (by decide)).1
  have e1 : hF sample.data.toList = .agg #[.int .i64 3, .int .i64 3, .int .i64 128000, .int .i64 44100, .bool false] := by kernel_rfl
  have e2 : hOk sample.data.toList = true := by decide +kernel
  rw [e1, e2] at h
  exact Head_of _ _ _ _ _ _ _ h w
theorem Size_sample (w : World) : Calls Try.prog 11 #[.agg #[.int .i64 3, .int .i64 3, .int .i64 128000, .int .i64 44100, .bool false]] w fun e w' => e = .returned (.int .i64 417) ∧ Below w.heap.size w w' := by
  have h := Size_any 3 3 128000 44100 false w (by decide +kernel)
  have e : sizeI 3 3 128000 44100 false = 417 := by decide +kernel
  rwa [e] at h

theorem lives_any (w : World) : Calls Try.prog 13 #[] w fun e w' => e = .returned (.bool true) ∧ Below w.heap.size w w' := by
  have H1 := Lib.hid Head_sample
  have H2 := Lib.hid Size_sample
  go_enter Try.func13, Try.ntmps13
  go_wp2_with fail
  (refine (H1.out _).mono ?_)
  rintro e w1 ⟨rfl, hb1⟩
  have HB1 := Lib.hid hb1
  clear hb1
  go_wp2_with fail
  (with_reducible refine (H2.out _).mono ?_)
  rintro e w2 ⟨rfl, hb2⟩
  have HB2 := Lib.hid hb2
  clear hb2
  go_wp2_with fail
  go_ret
  refine ⟨rfl, ?_⟩
  have h1 : Below w.heap.size w w1 := HB1.out
  exact below_then (h1.alloc h1.size _) (Nat.le_refl _) HB2.out

set_option maxHeartbeats 1000000 in
theorem sizes_walk (v l r q : Int) (p : Bool) (w : World) (hr : (Lit.int .i64 r).wf = true) :
    Calls Try.prog 4 #[.agg #[.int .i64 v, .int .i64 l, .int .i64 r, .int .i64 q, .bool p]] w fun e w' => e = .returned (.bool true) ∧ Below w.heap.size w w' := by
  have hb := bounds_i64 hr
  have hw : IntKind.i64.wrap (r.tdiv 1000) = r.tdiv 1000 := IntWalk.i64_quo' _ _ ⟨hb.1, hb.2, by omega⟩
  obtain ⟨g, hg⟩ : ∃ g, goodB v l r q = g := ⟨_, rfl⟩
  obtain ⟨z, hz⟩ : ∃ z, sizeI v l r q p = z := ⟨_, rfl⟩
  have H10 := Lib.hid (fun w => hg ▸ Good_any v l r q p w hw)
  have H14 := Lib.hid (fun w => hg ▸ good_agree v l r q ▸ refGood_any v l r q p w)
  have H11 := Lib.hid (fun w => hz ▸ Size_any v l r q p w hw)
  have H12 := Lib.hid (fun w => hz ▸ refSize_any v l r q p w)
  have H13 := Lib.hid lives_any
  clear hr hb hw hg hz
  go_enter Try.func4, Try.ntmps4
  go_wp2_with fail
  obtain ⟨c0, c1, c2, c3, c4⟩ := (Fr.new w v l r q p).cells
  refine wp_region_plus (by kernel_rfl) (by kernel_rfl) ?_
  repeat (first | go_big_quiet_skip | (go_big_quiet_want; go_big_quiet_op; first | go_big_quiet_on | (apply Exists.intro; refine ⟨fun _ => ?_, ?_⟩; (focus (first | (go_at_call 10; with_reducible exact plus_call (H10.out _)) | (go_at_call 14; with_reducible exact plus_call (H14.out _)) | (go_at_call 11; with_reducible exact plus_call (H11.out _)) | (go_at_call 12; with_reducible exact plus_call (H12.out _)) | (go_at_call 13; with_reducible exact plus_call (H13.out _)))); go_big_quiet_on)))
  refine wpQuiet_nil ?_
  rintro _ ⟨X, rfl⟩
  go_wp2
  go_ret
  exact ⟨rfl, ((Below.refl _ _).alloc (Nat.le_refl _) _).trans ((plus_below _ X).mono (by simp))⟩

set_option maxHeartbeats 1000000 in
theorem heads_core (s t : ByteArray) (v l r q z : Int) (p ok : Bool) (w : World)
    (H7 : Hid (∀ w, Calls Try.prog 7 #[.string s, .int .i64 20] w fun e w' => e = .returned (.string t) ∧ w = w'))
    (H8 : Hid (∀ w, Calls Try.prog 8 #[.string t] w fun e w' => e = .returned (.tuple #[.agg #[.int .i64 v, .int .i64 l, .int .i64 r, .int .i64 q, .bool p], .bool ok]) ∧ Below w.heap.size w w'))
    (H9 : Hid (∀ w, Calls Try.prog 9 #[.string t] w fun e w' => e = .returned (.agg #[.int .i64 v, .int .i64 l, .int .i64 r, .int .i64 q, .bool p]) ∧ Below w.heap.size w w'))
    (H10 : Hid (∀ w, Calls Try.prog 10 #[.agg #[.int .i64 v, .int .i64 l, .int .i64 r, .int .i64 q, .bool p]] w fun e w' => e = .returned (.bool ok) ∧ Below w.heap.size w w'))
    (H11 : Hid (∀ w, Calls Try.prog 11 #[.agg #[.int .i64 v, .int .i64 l, .int .i64 r, .int .i64 q, .bool p]] w fun e w' => e = .returned (.int .i64 z) ∧ Below w.heap.size w w'))
    (H12 : Hid (∀ w, Calls Try.prog 12 #[.agg #[.int .i64 v, .int .i64 l, .int .i64 r, .int .i64 q, .bool p]] w fun e w' => e = .returned (.int .i64 z) ∧ Below w.heap.size w w'))
    (hq : decide (0 < q) = ok) :
    Calls Try.prog 3 #[.string s] w fun e w' => e = .returned (.bool true) ∧ Below w.heap.size w w' := by
  have H13 := Lib.hid lives_any
  go_enter Try.func3, Try.ntmps3
  go_wp2_with (go_at_call 7; (with_reducible refine (H7.out _).mono ?_); rintro e w1 ⟨rfl, rfl⟩)
  (with_reducible refine (H8.out _).mono ?_)
  rintro e w1 ⟨rfl, hb1⟩
  have HB1 := Lib.hid hb1
  clear hb1
  go_wp2_with fail
  (with_reducible refine (H9.out _).mono ?_)
  rintro e w2 ⟨rfl, hb2⟩
  have hf1 := (Fr.new w1 v l r q p).below hb2 (by simp)
  have hlt := hf1.lt
  obtain ⟨a0, a1, a2, a3, a4⟩ := hf1.cells
  obtain ⟨b0, b1, b2, b3, b4⟩ := (hf1.alloc (.cells #[.int .i64 v, .int .i64 l, .int .i64 r, .int .i64 q, .bool p] 24)).cells
  obtain ⟨c0, c1, c2, c3, c4⟩ := (Fr.new w2 v l r q p).cells
  have HB2 := Lib.hid hb2
  clear hb2 hf1
  go_wp2_with fail
  refine wp_region_plus (by kernel_rfl) (by kernel_rfl) ?_
  repeat (first | go_big_quiet_skip | (go_big_quiet_want; go_big_quiet_op; first | go_big_quiet_on | (apply Exists.intro; refine ⟨fun _ => ?_, ?_⟩; (focus (first | (go_at_call 10; with_reducible exact plus_call (H10.out _)) | (go_at_call 11; with_reducible exact plus_call (H11.out _)) | (go_at_call 12; with_reducible exact plus_call (H12.out _)) | (go_at_call 13; with_reducible exact plus_call (H13.out _)))); go_big_quiet_on)))
  refine wpQuiet_nil ?_
  rintro _ ⟨X, rfl⟩
  go_wp2
  go_ret
  refine ⟨rfl, ?_⟩
  have h1 : Below w.heap.size w w1 := HB1.out
  have h2 := below_then (h1.alloc h1.size _) (Nat.le_refl _) HB2.out
  exact below_then (h2.alloc h2.size _) (Nat.le_refl _) (plus_below _ X)

theorem heads_walk (s : ByteArray) (w : World) (hs : s.size ≤ maxLen) : Calls Try.prog 3 #[.string s] w fun e w' => e = .returned (.bool true) ∧ Below w.heap.size w w' := by
  obtain ⟨t, ht⟩ : ∃ t, s.extract 0 20 = t := ⟨_, rfl⟩
  have hts : t.size ≤ maxLen := by rw [← ht]; exact Nat.le_trans (extract_cut_le s 20).2 hs
  obtain ⟨h23, h9⟩ := heads_both t hts
  obtain ⟨hg, hq, hr0, hr1⟩ := hGood t.data.toList
  have hw : IntKind.i64.wrap ((hR t.data.toList).tdiv 1000) = (hR t.data.toList).tdiv 1000 := IntWalk.i64_quo' _ _ ⟨by omega, by omega, by omega⟩
  exact heads_core s t _ _ _ _ (sizeI (hV t.data.toList) (hL t.data.toList) (hR t.data.toList) (hQ t.data.toList) (hP t.data.toList)) _ _ w
    (Lib.hid fun w => ht ▸ cut_any s 20 hs w) (Lib.hid fun w => Head_of t _ _ _ _ _ _ h23 w) (Lib.hid h9) (Lib.hid fun w => hg ▸ Good_any _ _ _ _ _ w hw)
    (Lib.hid fun w => Size_any _ _ _ _ _ w hw) (Lib.hid fun w => refSize_any _ _ _ _ _ w) hq
end Go.Proofs.Ytfjfccomcmmfoaa
