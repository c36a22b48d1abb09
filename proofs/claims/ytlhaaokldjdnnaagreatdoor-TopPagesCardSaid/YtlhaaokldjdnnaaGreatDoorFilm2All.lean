/-
  Parts, one behind the other: Layers 17, 18: no webm, no mp3. | Layers 20, 21: no sound or film: sniff.Media. No condition but that the text is plain and the tables lie as they were laid. | The gates let a page live: proved, not assumed.
-/
import Derived.Test.YtlhaaokldjdnnaaGreatDoorTrapAll
import Derived.Laws.CopyOwn
import Derived.Test.YtlhaaokldjdnnaaGreatDoorEvL7All
namespace Go.Proofs.YtlhaaokldjdnnaaGreatDoor
open Go.RowKit
set_option linter.unusedVariables false
set_option linter.unusedSimpArgs false
set_option linter.all false
attribute [local go_sem] plus_cell

theorem wbegins_not {s : ByteArray} (h : Plain s) (w : World) : Calls Tryz.prog 442 #[.string s] w fun e w' => e = .returned (.bool false) ∧ w = w' := by
  have HP := Lib.hid (Tryz.strings_HasPrefix s ⟨#[26, 69, 223, 163]⟩ w)
  have HF : Hid (Lib.hasPrefix s.data.toList [26, 69, 223, 163] = false) := by
    obtain ⟨_, c, r, hc, hp⟩ := h
    rw [hc]
    refine Lib.hid ?_
    have h26 : ((26 : UInt8) == c) = false := by
      cases e : ((26 : UInt8) == c)
      · rfl
      · have : (26 : UInt8) = c := by simpa using e
        subst this
        cases hp
    show ((26 : UInt8) == c && _) = false
    rw [h26]
    rfl
  clear h
  go_enter Tryz.func442, Tryz.ntmps442
  go_wp2_with (go_at_call 218; refine HP.out.mono ?_; rintro e _ ⟨rfl, rfl⟩)
  go_ret
  exact ⟨ret_bool (by first | exact HF.out | simpa using HF.out), rfl⟩
theorem webm_not {s : ByteArray} (h : Plain s) (w : World) : Calls Tryz.prog 422 #[.string s] w fun e w' => e = .returned (.bool false) ∧ w = w' := by
  have HP := Lib.hid (wbegins_not h w)
  clear h
  go_enter Tryz.func422, Tryz.ntmps422
  go_wp2_with fail
  go_step3
  go_wp2_with (go_at_call 442; refine HP.out.mono ?_; rintro e _ ⟨rfl, rfl⟩)
  rw [Exit.noGoto_ret]
  go_ret
  exact ⟨rfl, rfl⟩
def zFr : Value := .agg #[.int .i64 0, .int .i64 0, .int .i64 0, .int .i64 0, .bool false]
theorem mhead_not {s : ByteArray} (h : Plain s) (w : World) : Calls Tryz.prog 446 #[.string s] w fun e w' => e = .returned (.tuple #[.agg #[.int .i64 0, .int .i64 0, .int .i64 0, .int .i64 0, .bool false], .bool false]) ∧ Below w.heap.size w w' := by
  obtain ⟨hs, c, r, hc, hp⟩ := h
  by_cases h4 : s.size < 4
  · have g4 : (s.size : Int) < 4 := by omega
    clear hc hp
    go_enter Tryz.func446, Tryz.ntmps446
    go_wp2_with fail
    refine bodyPost_ret (v := .tuple #[.agg #[.int .i64 0, .int .i64 0, .int .i64 0, .int .i64 0, .bool false], .bool false]) (by simp [results, Tryz.results446, go_sem]) rfl ⟨rfl, ?_⟩
    go_grown
  · have g4 : ¬ (s.size : Int) < 4 := by omega
    have h4' : 4 ≤ s.size := by omega
    have h0 : s.data.toList[0]? = some s[0] := by
      rw [Array.getElem?_toList]
      exact Array.getElem?_eq_getElem (by show 0 < s.size; omega)
    have h0' : s[0] = c := by rw [hc] at h0; simpa using h0.symm
    have hb : ((s[0].toNat : Int) != 255) = true := by
      rw [h0']
      have : c ≠ 255 := by rintro rfl; cases hp
      have h2 : c.toNat ≠ 255 := fun e => this (UInt8.toNat_inj.1 e)
      simp
      omega
    clear hc hp h0 h0'
    go_enter Tryz.func446, Tryz.ntmps446
    go_wp2_with fail
    refine bodyPost_ret (v := .tuple #[.agg #[.int .i64 0, .int .i64 0, .int .i64 0, .int .i64 0, .bool false], .bool false]) (by simp [results, Tryz.results446, go_sem]) rfl ⟨rfl, ?_⟩
    go_grown
/-- A frame of mp3 in memory. -/
def Fr (w : World) (n : Nat) (v l r q : Int) (p : Bool) : Prop := w.heap[n]? = some (.cells #[.int .i64 v, .int .i64 l, .int .i64 r, .int .i64 q, .bool p] 381 (0, 0))
theorem Fr.cells {w : World} {n : Nat} {v l r q : Int} {p : Bool} (h : Fr w n v l r q p) : w.cell? ⟨n, 0, none⟩ = some (.int .i64 v) ∧ w.cell? ⟨n, 1, none⟩ = some (.int .i64 l) ∧ w.cell? ⟨n, 2, none⟩ = some (.int .i64 r) ∧ w.cell? ⟨n, 3, none⟩ = some (.int .i64 q) ∧ w.cell? ⟨n, 4, none⟩ = some (.bool p) :=
  have k := fun i => cell_of_row w n i _ _ _ h
  ⟨k 0, k 1, k 2, k 3, k 4⟩
theorem Tryz.info381 : (Tryz.prog.info? 381).map (·.size) = some 5 := by kernel_rfl
theorem wpList_store_frame {ops : Array Oper} {rest : List Oper} {o : Oper} {a : Act} {w : World} {Q : Exit → Act → World → Prop} (hgd : o.guard = none) (x y : Operand) (ho : o.op = .store 381 x y)
    (g : Nat) (v0 l0 r0 q0 : Int) (p0 : Bool) (hF : Fr w g v0 l0 r0 q0 p0) (v l r q : Int) (p : Bool) (hx : a.eval x = .pointer (some ⟨g, 0, none⟩))
    (hy : a.eval y = .agg #[.int .i64 v, .int .i64 l, .int .i64 r, .int .i64 q, .bool p])
    (h : ∀ w2, Fr w2 g v l r q p → (∀ B a, Below B a w → B ≤ g → Below B a w2) → wpList Tryz.prog ops Q rest (a.put o.dst undef) w2) : wpList Tryz.prog ops Q (o :: rest) a w :=
  wpList_store_row hgd 381 x y ho g _ hx hy 381 _ hF Tryz.info381 rfl (by simp [Value.oneCell']) (h _ (setRow_heap w g _ _ 381 (0, 0) hF) fun B a hb hg => below_setRow hb hg _)
theorem mnext_not {s : ByteArray} (h : Plain s) (w : World) :
    Calls Tryz.prog 445 #[.string s] w fun e w' => e = .returned (.tuple #[.agg #[.int .i64 0, .int .i64 0, .int .i64 0, .int .i64 0, .bool false], .int .i64 0, .bool false]) ∧ Below w.heap.size w w' := by
  have H := Lib.hid (mhead_not h)
  clear h
  go_enter Tryz.func445, Tryz.ntmps445
  go_wp2_with fail
  (with_reducible refine (H.out _).mono ?_)
  rintro e w1 ⟨rfl, hb1⟩
  have HF1 : Hid (Fr w1 w.heap.size 0 0 0 0 false) := Lib.hid ((hb1.block w.heap.size (by simp)).trans (heap_alloc_new w _))
  have HB1 := Lib.hid hb1
  clear hb1
  go_wp2_with (first
    | (refine wpList_store_frame rfl (.tmp 2) (.tmp 8) rfl _ _ _ _ _ _ HF1.out 0 0 0 0 false rfl rfl ?_; intro w2 hF2 hB2; have HF2 := Lib.hid hF2; have HB2 := Lib.hid hB2; clear hB2; obtain ⟨c0, c1, c2, c3, c4⟩ := hF2.cells; have hz2 := blk_lt hF2; clear hF2)
    | (refine wpList_store_frame rfl (.tmp 2) (.tmp 12) rfl _ _ _ _ _ _ HF2.out 0 0 0 0 false rfl rfl ?_; intro w3 hF3 hB3; have HB3 := Lib.hid hB3; clear hB3; obtain ⟨d0, d1, d2, d3, d4⟩ := hF3.cells; clear hF3))
  refine bodyPost_ret (v := .tuple #[.agg #[.int .i64 0, .int .i64 0, .int .i64 0, .int .i64 0, .bool false], .int .i64 0, .bool false]) (by simp [results, Tryz.results445, go_sem, d0, d1, d2, d3, d4]) rfl ⟨rfl, ?_⟩
  exact HB3.out _ _ (HB2.out w.heap.size w (below_then ((Below.refl _ _).alloc (Nat.le_refl _) _) (Nat.le_refl _) HB1.out) (Nat.le_refl _)) (Nat.le_refl _)
theorem mp3_not {s : ByteArray} (h : Plain s) (w : World) : Calls Tryz.prog 423 #[.string s] w fun e w' => e = .returned (.bool false) ∧ Below w.heap.size w w' := by
  have H := Lib.hid (mnext_not h w)
  clear h
  go_enter Tryz.func423, Tryz.ntmps423
  go_wp2_with (go_at_call 445; refine H.out.mono ?_; rintro e w1 ⟨rfl, hb1⟩; have HB1 := Lib.hid hb1; clear hb1)
  go_ret
  exact ⟨rfl, by first | exact HB1.out.alloc HB1.out.size _ | go_grown⟩
end Go.Proofs.YtlhaaokldjdnnaaGreatDoor
namespace Go.Proofs.YtlhaaokldjdnnaaGreatDoor
open Go.RowKit
set_option linter.unusedVariables false
set_option linter.unusedSimpArgs false
set_option linter.all false

theorem mtype_not {s : ByteArray} (h : Plain s) (w : World) (hw : Ev.Told w) : Calls Tryz.prog 419 #[.string s] w fun e w' => e = .returned (.string .empty) ∧ Below w.heap.size w w' := by
  have H := Lib.hid (mkind_none h w hw)
  clear h hw
  go_enter Tryz.func419, Tryz.ntmps419
  go_wp2_with (go_at_call 439; refine H.out.mono ?_; rintro e w1 ⟨rfl, hb1⟩; have HB1 := Lib.hid hb1; clear hb1)
  go_ret
  exact ⟨rfl, HB1.out⟩
theorem named_not (t : ByteArray) (w : World) : Calls Tryz.prog 420 #[.string t, .bool false] w fun e w' => e = .returned (.string .empty) ∧ w = w' := by
  go_enter Tryz.func420, Tryz.ntmps420
  go_wp2
  go_ret
  exact ⟨rfl, rfl⟩
/-- cmp.Or of four texts that are empty. -/
theorem or_none (g : Nat) (w : World) (h : ∀ i, i < 4 → w.cell? ⟨g, i, none⟩ = some (.string .empty)) : Calls Tryz.prog 418 #[.slice (some ⟨g, 0, none⟩) 4 4] w fun e w' => e = .returned (.string .empty) ∧ w = w' := by
  have H := Lib.hid h
  clear h
  go_enter Tryz.func418, Tryz.ntmps418
  go_wp2
  go_loop [8] (fun i => ∃ k : Nat, i = .int .i64 k ∧ k ≤ 4) (fun i => 4 - (intOf i).toNat)
  case atStart => exact ⟨0, rfl, by omega⟩
  case round =>
    obtain ⟨k, rfl, hk⟩ := hrel
    by_cases hlt : k < 4
    · have hc := H.out k hlt
      have i1 : (k : Int) < 4 := by omega
      go_wp2
      go_round
      case rel => exact ⟨k + 1, by go_num, by omega⟩
      case measure => simp [intOf]; omega
    · obtain rfl : k = 4 := by omega
      go_wp2
      go_ret
      exact ⟨rfl, rfl⟩
theorem film_none {s : ByteArray} (h : Plain s) (w : World) (hw : Ev.Told w) : Calls Tryz.prog 396 #[.string s] w fun e w' => e = .returned (.string .empty) ∧ Below w.heap.size w w' := by
  have H1 := Lib.hid (mtype_not h w hw)
  have H2 := Lib.hid (fun w => mp4_not h w)
  have H3 := Lib.hid (fun w => webm_not h w)
  have H4 := Lib.hid (fun w => mp3_not h w)
  have HN := Lib.hid named_not
  clear h hw
  go_enter Tryz.func396, Tryz.ntmps396
  go_wp2_with (first
    | (go_at_call 419; refine H1.out.mono ?_; rintro e w1 ⟨rfl, hb1⟩; have HB1 := Lib.hid hb1; clear hb1)
    | (go_at_call 421; refine (H2.out _).mono ?_; rintro e w2 ⟨rfl, hb2⟩; have HB2 := Lib.hid (below_then HB1.out (Nat.le_refl _) hb2); clear hb2)
    | (go_at_call 420; refine (HN.out _ _).mono ?_; rintro e _ ⟨rfl, rfl⟩)
    | (go_at_call 422; refine (H3.out _).mono ?_; rintro e _ ⟨rfl, rfl⟩)
    | (go_at_call 423; refine (H4.out _).mono ?_; rintro e w3 ⟨rfl, hb3⟩; have HB3 := Lib.hid (below_then HB2.out (Nat.le_refl _) hb3); clear hb3)
    | (go_at_call 418; refine (or_none _ _ (by intro i hi; rcases (by omega : i = 0 ∨ i = 1 ∨ i = 2 ∨ i = 3) with rfl | rfl | rfl | rfl <;> simp [go_sem] <;> rfl)).mono ?_; rintro e _ ⟨rfl, rfl⟩))
  go_ret
  exact ⟨rfl, HB3.out.alloc HB3.out.size _⟩
theorem umedia_none {s : ByteArray} (h : Plain s) (w : World) (hw : Ev.Told w) : Calls Tryz.prog 359 #[.string s] w fun e w' => e = .returned (.string .empty) ∧ Below w.heap.size w w' := by
  have H := Lib.hid (film_none h w hw)
  clear h hw
  go_enter Tryz.func359, Tryz.ntmps359
  go_wp2_with (go_at_call 396; refine H.out.mono ?_; rintro e w1 ⟨rfl, hb1⟩; have HB1 := Lib.hid hb1; clear hb1)
  go_ret
  exact ⟨rfl, HB1.out⟩
theorem sfilm_none {s : ByteArray} (h : Plain s) (w : World) (hw : Ev.Told w) : Calls Tryz.prog 306 #[.string s] w fun e w' => e = .returned (.string .empty) ∧ Below w.heap.size w w' := by
  have H := Lib.hid (umedia_none h w hw)
  have HC := Lib.hid (bcut_is s h.1 w)
  clear h hw
  go_enter Tryz.func306, Tryz.ntmps306
  go_wp2_with (first | (go_at_call 122; refine HC.out.mono ?_; rintro e _ ⟨rfl, rfl⟩) | (go_at_call 359; refine H.out.mono ?_; rintro e w1 ⟨rfl, hb1⟩; have HB1 := Lib.hid hb1; clear hb1))
  go_ret
  exact ⟨rfl, HB1.out⟩
theorem Media_none {s : ByteArray} (h : Plain s) (w : World) (hw : Ev.Told w) : Calls Tryz.prog 226 #[.string s] w fun e w' => e = .returned (.string .empty) ∧ Below w.heap.size w w' := by
  have H := Lib.hid (sfilm_none h w hw)
  clear h hw
  go_enter Tryz.func226, Tryz.ntmps226
  go_wp2_with (go_at_call 306; refine H.out.mono ?_; rintro e w1 ⟨rfl, hb1⟩; have HB1 := Lib.hid hb1; clear hb1)
  go_ret
  exact ⟨rfl, HB1.out⟩
end Go.Proofs.YtlhaaokldjdnnaaGreatDoor
namespace Go.Proofs.YtlhaaokldjdnnaaGreatDoor.Ev
open Go.RowKit
set_option linter.unusedVariables false
set_option linter.unusedSimpArgs false
set_option linter.all false

theorem plain_a : Plain ⟨#[60, 112, 62]⟩ := ⟨by decide, 60, [112, 62], rfl, rfl⟩
theorem plain_b : Plain ⟨#[120, 61, 49, 59]⟩ := ⟨by decide, 120, [61, 49, 59], rfl, rfl⟩
theorem media1_said : Said media1 := ⟨_, _, rfl, rfl, fun w hw => Media_none plain_a w hw⟩
theorem image1_said : Said image1 := ⟨_, _, rfl, rfl, fun w hw => Image_none plain_a w hw⟩
theorem media2_said : Said media2 := ⟨_, _, rfl, rfl, fun w hw => Media_none plain_b w hw⟩
theorem image2_said : Said image2 := ⟨_, _, rfl, rfl, fun w hw => Image_none plain_b w hw⟩
theorem lives_is : Said lives := lives_said (final1_said media1_said image1_said) (final2_said media2_said image2_said)
end Go.Proofs.YtlhaaokldjdnnaaGreatDoor.Ev
