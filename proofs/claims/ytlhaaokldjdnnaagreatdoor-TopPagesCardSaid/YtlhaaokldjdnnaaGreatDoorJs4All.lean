/-
  Parts, one behind the other: Layer 28 (jscript): within a word, a text, a remark; a byte; what is told. No condition but that the machine is one, and the tables lie as they were laid. | Layer 28 (jscript): slashes, remarks, the first mark; one byte. No condition but that the machine is one, and the tables lie as they were laid. | Layer 28 (jscript): the first bytes just so; what is told; a piece of one byte. No condition but that the machine is one, and the tables lie as they were laid. | Layer 28 (jscript): a piece of one byte; a new machine. No condition but that the machine is one.
-/
import Derived.Test.YtlhaaokldjdnnaaGreatDoorJs2All
import Derived.Test.YtlhaaokldjdnnaaGreatDoorEvL9
namespace Go.Proofs.YtlhaaokldjdnnaaGreatDoor
open Go.RowKit
set_option linter.unusedVariables false
set_option linter.unusedSimpArgs false
section
variable {w w' : World} {B g : Nat} {j j' : Js}

theorem told_kept (h : Ev.Told w) (hb : Below B w w') (hB : 1 ≤ B) : Ev.Told w' := by
  refine ⟨Nat.le_trans h.1 hb.size, fun g i v e => ?_⟩
  have hg : g < 1 := Ev.hg_cfg g i v e
  exact (World.cell?_of_block (hb.block g (by omega))).trans (h.2 g i v e)
theorem Kept.drew {T : List TypeId} (h : Kept w w' B T) : Kept w w'.drew B T := ⟨⟨h.below.os, h.below.tape, h.below.output, h.below.size, h.below.block⟩, h.keep⟩
theorem keyword_any (s : ByteArray) (w : World) (hw : Ev.Told w) : Calls Tryz.prog 242 #[.string s] w fun e w' => (∃ b, e = .returned (.bool b)) ∧ Below w.heap.size w w' := by
  have H1 := Lib.hid (Ev.keywords_is w hw)
  clear hw
  go_enter Tryz.func242, Tryz.ntmps242
  go_wp2_with (first
    | (go_at_call 312; refine H1.out.mono ?_; rintro e w1 ⟨⟨gk, off, cap, rfl, hg, hc⟩, hb⟩; have HB := Lib.hid hb; have HC := Lib.hid hc; clear hb hc)
    | (go_at_call 200; refine (Tryz.slices_Contains_string gk off Ev.keyWords.length cap (Ev.keyWords.map fun s => ⟨s.toArray⟩) s w1 (by simp) (by decide) (fun i hi => by
        have hi' : i < Ev.keyWords.length := by simpa using hi
        rw [HC.out i _ (List.getElem?_eq_getElem hi')]
        simp [hi'])).mono ?_; rintro e _ ⟨rfl, rfl⟩))
  go_ret
  exact ⟨⟨_, rfl⟩, HB.out⟩

set_option maxRecDepth 100000 in
set_option maxHeartbeats 4000000 in
theorem js_inWord (h : JsIs w B g j) (c : UInt8) (hB : B ≤ w.heap.size) (hB1 : 1 ≤ B) (hT : Ev.Told w) : Calls Tryz.prog 186 #[.pointer (some ⟨g, 0, none⟩), .int .u8 (c.toNat : Int)] w (Js4 w B g) := by
  obtain ⟨c0, c1, c2, c3, c4, c5, c6, c7, c8, c9, c10, c11, c12⟩ := h.cells
  obtain ⟨f1, f2, f3, f4, f5, f6, f7, f8, f9, f10, f11, f12⟩ := h.frees
  have H := Lib.hid h
  have HB := Lib.hid hB
  have HI := Lib.hid (inner_is (c.toNat : Int))
  have HK := Lib.hid (Kept.refl w B jsT)
  have HY := Lib.hid (keyword_any j.said w hT)
  have hcv := conv_drew c w
  have hal := h.alloc (.cells #[.int .u8 (c.toNat : Int)] 5)
  have k5 : (w.alloc (.cells #[.int .u8 (c.toNat : Int)] 5)).drew.cell? ⟨g, 5, none⟩ = some (.string j.said) := hal.cells.2.2.2.2.2.1
  have k5f : (w.alloc (.cells #[.int .u8 (c.toNat : Int)] 5)).drew.frozen? ⟨g, 5, none⟩ = false := hal.free 5
  have hnl : ¬ (9223372036854775807 < j.said.size + 1) := by have := h.said_; omega
  have HAL : Hid (JsIs (w.alloc (.cells #[.int .u8 (c.toNat : Int)] 5)).drew B g j) := ⟨hal.low, hal.blk, hal.row.keep fun _ _ => rfl, hal.deep, hal.said_⟩
  clear hal
  clear h hB hT
  cases hi : innB (c.toNat : Int)
  case true =>
    rw [hi] at HI
    go_enter Tryz.func186, Tryz.ntmps186
    go_wp2_with (go_at_call 237; refine (HI.out _).mono ?_; rintro e _ ⟨rfl, rfl⟩)
    · have HS : Hid ((j.said ++ (⟨#[c]⟩ : ByteArray)).size ≤ 11) := by
        have : (j.said.size : Int) ≤ 10 := by assumption
        unfold Hid
        rw [ByteArray.size_append]
        show j.said.size + 1 ≤ 11
        omega
      go_region
      go_wp2
      go_end0
      exact ⟨rfl, HAL.out.ok.said__ _ HS.out, H.out.kept _ _ (Kept.drew (HK.out.alloc HB.out _))⟩
    · go_end0
      exact ⟨rfl, H.out.ok, HK.out⟩
  case false =>
    rw [hi] at HI
    cases h2 : (j.pos == 2)
    all_goals
      cases h1 : (j.pos == 1)
      all_goals
        go_enter Tryz.func186, Tryz.ntmps186
        go_wp2_with (first
          | (go_at_call 237; refine (HI.out _).mono ?_; rintro e _ ⟨rfl, rfl⟩)
          | (go_at_call 242; refine HY.out.mono ?_; rintro e w1 ⟨⟨b, rfl⟩, hb⟩; have H := Lib.hid (H.out.below hb); have HK := Lib.hid (Kept.of hb HB.out jsT); have HB := Lib.hid (Nat.le_trans HB.out hb.size); clear hb)
          | (go_at_call 243; refine (js_ended H.out _).mono ?_; rintro e w2 ⟨rfl, h2, hk2⟩; have H := Lib.hid h2; have HB := Lib.hid (Nat.le_trans HB.out hk2.below.size); have HK := Lib.hid (HK.out.trans hk2); clear h2 hk2)
          | (go_at_call 185; refine (js_begin H.out _ HB.out).mono ?_; rintro e w3 ⟨rfl, h3, hk3⟩; have H3 := Lib.hid h3; have HK := Lib.hid (HK.out.trans hk3); clear h3 hk3))
        all_goals
          first
            | (have HS : Hid ((j.said ++ (⟨#[c]⟩ : ByteArray)).size ≤ 11) := by
                 have : (j.said.size : Int) ≤ 10 := by assumption
                 unfold Hid
                 rw [ByteArray.size_append]
                 show j.said.size + 1 ≤ 11
                 omega
               go_region
               go_wp2
               go_end0
               exact ⟨rfl, HAL.out.ok.said__ _ HS.out, H.out.kept _ _ (Kept.drew (HK.out.alloc HB.out _))⟩)
            | (go_end0; exact ⟨rfl, H3.out, HK.out⟩)
            | (go_end0; exact ⟨rfl, H.out.ok, HK.out⟩)

set_option maxRecDepth 100000 in
set_option maxHeartbeats 4000000 in
theorem js_inText (h : JsIs w B g j) (z : Int) : Calls Tryz.prog 191 #[.pointer (some ⟨g, 0, none⟩), .int .u8 z] w (Js4 w B g) := by
  obtain ⟨c0, c1, c2, c3, c4, c5, c6, c7, c8, c9, c10, c11, c12⟩ := h.cells
  obtain ⟨f1, f2, f3, f4, f5, f6, f7, f8, f9, f10, f11, f12⟩ := h.frees
  have H := Lib.hid h
  have HF := Lib.hid (feed_is z)
  have HK := Lib.hid (Kept.refl w B jsT)
  clear h
  cases ht : j.taken
  case true =>
    rw [ht] at c4
    go_enter Tryz.func191, Tryz.ntmps191
    go_wp2
    go_end0
    exact ⟨rfl, H.out.ok.taken_ _, H.out.kept _ _ HK.out⟩
  case false =>
    rw [ht] at c4
    cases h4 : (j.pos == 4)
    all_goals
      cases h6 : (j.pos == 6)
      all_goals
        cases hb : (z == j.by_)
        all_goals
          have h4' : (j.pos != 4) = !(j.pos == 4) := rfl
          rw [h4] at h4'
          simp only [Bool.not_false, Bool.not_true] at h4'
          go_enter Tryz.func191, Tryz.ntmps191
          go_wp2_with (first
            | (go_at_call 235; refine (HF.out _).mono ?_; rintro e _ ⟨rfl, rfl⟩)
            | (go_at_call 239; refine (js_fail H.out).mono ?_; rintro e w1 ⟨rfl, h1, hk1⟩; have H := Lib.hid h1; have HK := Lib.hid (HK.out.trans hk1); clear h1 hk1)
            | (go_at_call 243; refine (js_ended H.out _).mono ?_; rintro e w1 ⟨rfl, h1, hk1⟩; have H := Lib.hid h1; have HK := Lib.hid (HK.out.trans hk1); clear h1 hk1))
          all_goals
            go_end0
            first
              | exact ⟨rfl, H.out.ok, HK.out⟩
              | exact ⟨rfl, H.out.ok.pos_ _, H.out.kept _ _ HK.out⟩
              | exact ⟨rfl, H.out.ok.taken_ _, H.out.kept _ _ HK.out⟩
theorem js_inDollar (h : JsIs w B g j) (c : UInt8) (hB : B ≤ w.heap.size) : Calls Tryz.prog 187 #[.pointer (some ⟨g, 0, none⟩), .int .u8 (c.toNat : Int)] w (Js4 w B g) := by
  obtain ⟨c0, c1, c2, c3, c4, c5, c6, c7, c8, c9, c10, c11, c12⟩ := h.cells
  obtain ⟨f1, f2, f3, f4, f5, f6, f7, f8, f9, f10, f11, f12⟩ := h.frees
  have H := Lib.hid (h.pos_ 4)
  have HK := Lib.hid (h.kept 2 (.int .i64 4) (Kept.refl w B jsT))
  have HB : Hid (B ≤ (w.setCell ⟨g, 2, none⟩ (.int .i64 4)).heap.size) := Nat.le_trans hB HK.out.below.size
  clear h hB
  go_enter Tryz.func187, Tryz.ntmps187
  go_wp2_with (first
    | (go_at_call 244; refine (js_push H.out 96 HB.out).mono ?_; rintro e w1 ⟨rfl, h1, hk1⟩; have H1 := Lib.hid h1; have HK := Lib.hid (HK.out.trans hk1); clear h1 hk1)
    | (go_at_call 191; refine (js_inText H.out _).mono ?_; rintro e w1 ⟨rfl, h1, hk1⟩; have H1 := Lib.hid h1; have HK := Lib.hid (HK.out.trans hk1); clear h1 hk1))
  all_goals
    go_end0
    exact ⟨rfl, H1.out, HK.out⟩
end
end Go.Proofs.YtlhaaokldjdnnaaGreatDoor
namespace Go.Proofs.YtlhaaokldjdnnaaGreatDoor
open Go.RowKit
set_option linter.unusedVariables false
set_option linter.unusedSimpArgs false
section
variable {w w' : World} {B g : Nat} {j j' : Js}

set_option maxRecDepth 100000 in
set_option maxHeartbeats 4000000 in
theorem js_inSlash (h : JsIs w B g j) (c : UInt8) (hB : B ≤ w.heap.size) : Calls Tryz.prog 188 #[.pointer (some ⟨g, 0, none⟩), .int .u8 (c.toNat : Int)] w (Js4 w B g) := by
  obtain ⟨c0, c1, c2, c3, c4, c5, c6, c7, c8, c9, c10, c11, c12⟩ := h.cells
  obtain ⟨f1, f2, f3, f4, f5, f6, f7, f8, f9, f10, f11, f12⟩ := h.frees
  have H := Lib.hid h
  have HB := Lib.hid hB
  have HK := Lib.hid (Kept.refl w B jsT)
  clear h hB
  cases hl : (j.last == 1)
  all_goals
    go_enter Tryz.func188, Tryz.ntmps188
    go_wp2_with (first
      | (go_at_call 241; refine (js_sign H.out 47 HB.out).mono ?_; rintro e w1 ⟨rfl, ⟨j1, h1⟩, hk1⟩; have H := Lib.hid h1; have HB := Lib.hid (Nat.le_trans HB.out hk1.below.size); have HK := Lib.hid (HK.out.trans hk1); clear h1 hk1)
      | (go_at_call 185; refine (js_begin H.out _ HB.out).mono ?_; rintro e w2 ⟨rfl, h2, hk2⟩; have H2 := Lib.hid h2; have HK := Lib.hid (HK.out.trans hk2); clear h2 hk2)
      | (go_at_call 240; refine (js_piece H.out).mono ?_; rintro e w1 ⟨rfl, h1, hk1⟩; obtain ⟨d0, d1, d2, d3, d4, d5, d6, d7, d8, d9, d10, d11, d12⟩ := h1.cells; obtain ⟨g1, g2, g3, g4, g5, g6, g7, g8, g9, g10, g11, g12⟩ := h1.frees; have HK := Lib.hid (H.out.kept 3 (.int .u8 47) (H.out.kept 2 (.int .i64 6) (HK.out.trans hk1))); have H := Lib.hid ((h1.pos_ 6).byy_ 47); clear h1 hk1)
      | (go_at_call 191; refine (js_inText H.out _).mono ?_; rintro e w2 ⟨rfl, h2, hk2⟩; have H2 := Lib.hid h2; have HK := Lib.hid (HK.out.trans hk2); clear h2 hk2))
    all_goals
      go_end0
      first
        | exact ⟨rfl, H2.out, HK.out⟩
        | exact ⟨rfl, H.out.ok.pos_ _, H.out.kept _ _ HK.out⟩

set_option maxRecDepth 100000 in
set_option maxHeartbeats 4000000 in
theorem js_inRemark (h : JsIs w B g j) (z : Int) : Calls Tryz.prog 189 #[.pointer (some ⟨g, 0, none⟩), .int .u8 z] w (Js4 w B g) := by
  obtain ⟨c0, c1, c2, c3, c4, c5, c6, c7, c8, c9, c10, c11, c12⟩ := h.cells
  obtain ⟨f1, f2, f3, f4, f5, f6, f7, f8, f9, f10, f11, f12⟩ := h.frees
  have H := Lib.hid h
  have HF := Lib.hid (feed_is z)
  have HK := Lib.hid (Kept.refl w B jsT)
  clear h
  cases hb : j.broken
  all_goals
    rw [hb] at c7
    cases h10 : (j.pos == 10)
    all_goals
      cases h12 : (j.pos == 12)
      all_goals
        have h10' : (j.pos != 10) = !(j.pos == 10) := rfl
        rw [h10] at h10'
        simp only [Bool.not_false, Bool.not_true] at h10'
        go_enter Tryz.func189, Tryz.ntmps189
        go_wp2_with (go_at_call 235; refine (HF.out _).mono ?_; rintro e _ ⟨rfl, rfl⟩)
        all_goals
          go_end0
          first
            | exact ⟨rfl, H.out.ok.broken_ _, H.out.kept _ _ HK.out⟩
            | exact ⟨rfl, (H.out.ok.broken_ _).pos_ _, H.out.kept _ _ (H.out.kept _ _ HK.out)⟩

/-- What the first mark's bytes make of the machine. -/
def lessJ (j : Js) (z : Int) : Js := if j.pos == 13 && z == 33 then { j with pos := 14 } else if j.pos == 14 && z == 45 then { j with pos := 15 } else if j.pos == 15 && z == 45 then { j with pos := 10 } else { j with bad := true, place := j.seen }
set_option maxRecDepth 100000 in
set_option maxHeartbeats 4000000 in
theorem js_inLess (h : JsIs w B g j) (z : Int) : Calls Tryz.prog 190 #[.pointer (some ⟨g, 0, none⟩), .int .u8 z] w fun e w' => e = .returned (.tuple #[]) ∧ JsIs w' B g (lessJ j z) ∧ Kept w w' B jsT := by
  obtain ⟨c0, c1, c2, c3, c4, c5, c6, c7, c8, c9, c10, c11, c12⟩ := h.cells
  obtain ⟨f1, f2, f3, f4, f5, f6, f7, f8, f9, f10, f11, f12⟩ := h.frees
  have H := Lib.hid h
  have HK := Lib.hid (Kept.refl w B jsT)
  clear h
  unfold lessJ
  cases h13 : (j.pos == 13)
  all_goals
    cases h14 : (j.pos == 14)
    all_goals
      cases h15 : (j.pos == 15)
      all_goals
        cases z33 : (z == 33)
        all_goals
          cases z45 : (z == 45)
          all_goals
            simp only [Bool.and_true, Bool.and_false, Bool.false_and, Bool.true_and, Bool.false_eq_true, if_true, if_false]
            go_enter Tryz.func190, Tryz.ntmps190
            go_wp2_with (go_at_call 239; refine (js_fail H.out).mono ?_; rintro e w1 ⟨rfl, h1, hk1⟩; have H := Lib.hid h1; have HK := Lib.hid (HK.out.trans hk1); clear h1 hk1)
            all_goals
              go_end0
              first
                | exact ⟨rfl, H.out, HK.out⟩
                | exact ⟨rfl, H.out.pos_ _, H.out.kept _ _ HK.out⟩

set_option maxRecDepth 100000 in
set_option maxHeartbeats 4000000 in
theorem js_byte (h : JsIs w B g j) (c : UInt8) (hB : B ≤ w.heap.size) (hB1 : 1 ≤ B) (hT : Ev.Told w) : Calls Tryz.prog 133 #[.pointer (some ⟨g, 0, none⟩), .int .u8 (c.toNat : Int)] w (Js4 w B g) := by
  obtain ⟨c0, c1, c2, c3, c4, c5, c6, c7, c8, c9, c10, c11, c12⟩ := h.cells
  have H := Lib.hid h
  have HB := Lib.hid hB
  have HT := Lib.hid hT
  clear h hB hT
  go_enter Tryz.func133, Tryz.ntmps133
  go_wp2_with (first
    | (go_at_call 185; refine (js_begin H.out _ HB.out).mono ?_; rintro e w1 ⟨rfl, h1, hk1⟩; have H1 := Lib.hid h1; have HK := Lib.hid hk1; clear h1 hk1)
    | (go_at_call 186; refine (js_inWord H.out _ HB.out hB1 HT.out).mono ?_; rintro e w1 ⟨rfl, h1, hk1⟩; have H1 := Lib.hid h1; have HK := Lib.hid hk1; clear h1 hk1)
    | (go_at_call 187; refine (js_inDollar H.out _ HB.out).mono ?_; rintro e w1 ⟨rfl, h1, hk1⟩; have H1 := Lib.hid h1; have HK := Lib.hid hk1; clear h1 hk1)
    | (go_at_call 188; refine (js_inSlash H.out _ HB.out).mono ?_; rintro e w1 ⟨rfl, h1, hk1⟩; have H1 := Lib.hid h1; have HK := Lib.hid hk1; clear h1 hk1)
    | (go_at_call 189; refine (js_inRemark H.out _).mono ?_; rintro e w1 ⟨rfl, h1, hk1⟩; have H1 := Lib.hid h1; have HK := Lib.hid hk1; clear h1 hk1)
    | (go_at_call 190; refine (js_inLess H.out _).mono ?_; rintro e w1 ⟨rfl, h1, hk1⟩; have H1 := Lib.hid h1.ok; have HK := Lib.hid hk1; clear h1 hk1)
    | (go_at_call 191; refine (js_inText H.out _).mono ?_; rintro e w1 ⟨rfl, h1, hk1⟩; have H1 := Lib.hid h1; have HK := Lib.hid hk1; clear h1 hk1))
  all_goals
    go_end0
    exact ⟨rfl, H1.out, HK.out⟩
end
end Go.Proofs.YtlhaaokldjdnnaaGreatDoor
namespace Go.Proofs.YtlhaaokldjdnnaaGreatDoor
open Go.RowKit
set_option linter.unusedVariables false
set_option linter.unusedSimpArgs false
section
variable {w w' : World} {B g : Nat} {j j' : Js}

/-- A blank ahead of all. -/
theorem js_blank (h : JsIs w B g j) (z : Int) (hz : whiB z = true) (hp : (j.pos == 0) = true) : Calls Tryz.prog 133 #[.pointer (some ⟨g, 0, none⟩), .int .u8 z] w fun e w' => e = .returned (.tuple #[]) ∧ JsIs w' B g { j with broken := feeB z || j.broken } ∧ Kept w w' B jsT := by
  have hbegin : Calls Tryz.prog 185 #[.pointer (some ⟨g, 0, none⟩), .int .u8 z] w fun e w' => e = .returned (.tuple #[]) ∧ JsIs w' B g { j with broken := feeB z || j.broken } ∧ Kept w w' B jsT := by
    obtain ⟨c0, c1, c2, c3, c4, c5, c6, c7, c8, c9, c10, c11, c12⟩ := h.cells
    obtain ⟨f1, f2, f3, f4, f5, f6, f7, f8, f9, f10, f11, f12⟩ := h.frees
    have H := Lib.hid h
    have HF := Lib.hid (feed_is z)
    have HW := Lib.hid (white_is z)
    rw [hz] at HW
    clear h
    cases hf : feeB z
    all_goals
      rw [hf] at HF
      go_enter Tryz.func185, Tryz.ntmps185
      go_wp2_with (first | (go_at_call 235; refine (HF.out _).mono ?_; rintro e _ ⟨rfl, rfl⟩) | (go_at_call 236; refine (HW.out _).mono ?_; rintro e _ ⟨rfl, rfl⟩))
      go_end0
      first
        | exact ⟨rfl, H.out, Kept.refl _ _ _⟩
        | exact ⟨rfl, H.out.broken_ _, H.out.kept _ _ (Kept.refl _ _ _)⟩
  obtain ⟨c0, c1, c2, c3, c4, c5, c6, c7, c8, c9, c10, c11, c12⟩ := h.cells
  have HB := Lib.hid hbegin
  clear h hbegin
  go_enter Tryz.func133, Tryz.ntmps133
  go_wp2_with (go_at_call 185; refine HB.out.mono ?_; rintro e w1 ⟨rfl, h1, hk1⟩; have H1 := Lib.hid h1; have HK := Lib.hid hk1; clear h1 hk1)
  go_end0
  exact ⟨rfl, H1.out, HK.out⟩
/-- The first mark. -/
theorem js_mark (h : JsIs w B g j) (hp : (j.pos == 0) = true) (hn : (j.pieces == 0) = true) : Calls Tryz.prog 133 #[.pointer (some ⟨g, 0, none⟩), .int .u8 60] w fun e w' => e = .returned (.tuple #[]) ∧ JsIs w' B g { j with pos := 13 } ∧ Kept w w' B jsT := by
  have hbegin : Calls Tryz.prog 185 #[.pointer (some ⟨g, 0, none⟩), .int .u8 60] w fun e w' => e = .returned (.tuple #[]) ∧ JsIs w' B g { j with pos := 13 } ∧ Kept w w' B jsT := by
    obtain ⟨c0, c1, c2, c3, c4, c5, c6, c7, c8, c9, c10, c11, c12⟩ := h.cells
    obtain ⟨f1, f2, f3, f4, f5, f6, f7, f8, f9, f10, f11, f12⟩ := h.frees
    have H := Lib.hid h
    have HF := Lib.hid (feed_is 60)
    have HW := Lib.hid (white_is 60)
    have HI := Lib.hid (inner_is 60)
    rw [show feeB 60 = false from rfl] at HF
    rw [show whiB 60 = false from rfl] at HW
    rw [show innB 60 = false from rfl] at HI
    clear h
    go_enter Tryz.func185, Tryz.ntmps185
    go_wp2_with (first | (go_at_call 235; refine (HF.out _).mono ?_; rintro e _ ⟨rfl, rfl⟩) | (go_at_call 236; refine (HW.out _).mono ?_; rintro e _ ⟨rfl, rfl⟩) | (go_at_call 237; refine (HI.out _).mono ?_; rintro e _ ⟨rfl, rfl⟩))
    go_end0
    exact ⟨rfl, H.out.pos_ _, H.out.kept _ _ (Kept.refl _ _ _)⟩
  obtain ⟨c0, c1, c2, c3, c4, c5, c6, c7, c8, c9, c10, c11, c12⟩ := h.cells
  have HB := Lib.hid hbegin
  clear h hbegin
  go_enter Tryz.func133, Tryz.ntmps133
  go_wp2_with (go_at_call 185; refine HB.out.mono ?_; rintro e w1 ⟨rfl, h1, hk1⟩; have H1 := Lib.hid h1; have HK := Lib.hid hk1; clear h1 hk1)
  go_end0
  exact ⟨rfl, H1.out, HK.out⟩
/-- Behind the first mark. -/
theorem js_behind (h : JsIs w B g j) (z : Int) (hp : (j.pos == 13 || j.pos == 14 || j.pos == 15) = true) : Calls Tryz.prog 133 #[.pointer (some ⟨g, 0, none⟩), .int .u8 z] w fun e w' => e = .returned (.tuple #[]) ∧ JsIs w' B g (lessJ j z) ∧ Kept w w' B jsT := by
  obtain ⟨c0, c1, c2, c3, c4, c5, c6, c7, c8, c9, c10, c11, c12⟩ := h.cells
  have HB := Lib.hid (js_inLess h z)
  clear h
  have hp : j.pos = 13 ∨ j.pos = 14 ∨ j.pos = 15 := by simpa [or_assoc] using hp
  obtain ⟨p, hpp⟩ : ∃ p, j.pos = p := ⟨_, rfl⟩
  rw [hpp] at c2 hp
  clear hpp
  rcases hp with rfl | rfl | rfl
  all_goals
    go_enter Tryz.func133, Tryz.ntmps133
    go_wp2_with (go_at_call 190; refine HB.out.mono ?_; rintro e w1 ⟨rfl, h1, hk1⟩; have H1 := Lib.hid h1; have HK := Lib.hid hk1; clear h1 hk1)
    go_end0
    exact ⟨rfl, H1.out, HK.out⟩

/-- What the machine tells. -/
def tellJ (j : Js) : Int := if j.bad then 0 else if j.n == 0 && ([0, 1, 2, 8, 10] : List Int).contains j.pos then 2 else 1
theorem js_tell (h : JsIs w B g j) : Calls Tryz.prog 134 #[.pointer (some ⟨g, 0, none⟩)] w fun e w' => e = .returned (.int .i64 (tellJ j)) ∧ Below w.heap.size w w' := by
  obtain ⟨c0, c1, c2, c3, c4, c5, c6, c7, c8, c9, c10, c11, c12⟩ := h.cells
  obtain ⟨e0, e1, e2, e3, e4, e5, e6, e7, e8, e9, e10, e11, e12⟩ := (h.alloc (.cells #[.int .i64 0, .int .i64 1, .int .i64 2, .int .i64 8, .int .i64 10] 3)).cells
  have HX : Hid (Calls Tryz.prog 192 #[.slice (some ⟨w.heap.size, 0, none⟩) 5 5, .int .i64 j.pos] (w.alloc (.cells #[.int .i64 0, .int .i64 1, .int .i64 2, .int .i64 8, .int .i64 10] 3)) fun e w' => e = .returned (.bool (([0, 1, 2, 8, 10] : List Int).contains j.pos)) ∧ w' = w.alloc (.cells #[.int .i64 0, .int .i64 1, .int .i64 2, .int .i64 8, .int .i64 10] 3)) := by
    refine Tryz.slices_Contains_int w.heap.size 0 5 5 [0, 1, 2, 8, 10] j.pos _ (by decide) (by decide) fun i hi => ?_
    rw [Nat.zero_add, World.cell?_alloc_new]
    match i, hi with
    | 0, _ => rfl
    | 1, _ => rfl
    | 2, _ => rfl
    | 3, _ => rfl
    | 4, _ => rfl
  clear h
  unfold tellJ
  cases hb : j.bad
  case true =>
    rw [hb] at c8
    go_enter Tryz.func134, Tryz.ntmps134
    go_wp2
    go_ret
    exact ⟨rfl, Below.refl _ _⟩
  case false =>
    rw [hb] at c8
    cases hn : (j.n == 0)
    case false =>
      have hn2 : ((j.n : Int) == 0) = false := by
        have : j.n ≠ 0 := by simpa using hn
        have : ¬ (j.n : Int) = 0 := by omega
        simpa using this
      go_enter Tryz.func134, Tryz.ntmps134
      go_wp2
      go_ret
      exact ⟨rfl, Below.refl _ _⟩
    case true =>
      have hn2 : j.n = 0 := by simpa using hn
      rw [hn2] at c1
      clear hn2
      generalize ([0, 1, 2, 8, 10] : List Int).contains j.pos = b at HX
      cases b
      all_goals
        go_enter Tryz.func134, Tryz.ntmps134
        go_wp2_with (go_at_call 192; refine HX.out.mono ?_; rintro e _ ⟨rfl, rfl⟩)
        go_ret
        exact ⟨rfl, (Below.refl _ _).alloc (Nat.le_refl _) _⟩
theorem js_State (h : JsIs w B g j) : Calls Tryz.prog 129 #[.pointer (some ⟨g, 0, none⟩)] w fun e w' => e = .returned (.int .i64 (tellJ j)) ∧ Below w.heap.size w w' := by
  have HB := Lib.hid (js_tell h)
  clear h
  go_enter Tryz.func129, Tryz.ntmps129
  go_wp2_with (go_at_call 134; refine HB.out.mono ?_; rintro e w1 ⟨rfl, hb⟩; have HB1 := Lib.hid hb; clear hb)
  go_ret
  exact ⟨rfl, HB1.out⟩
theorem js_Ends (h : JsIs w B g j) : Calls Tryz.prog 135 #[.pointer (some ⟨g, 0, none⟩)] w fun e w' => e = .returned (.int .i64 j.ends) ∧ w = w' := by
  obtain ⟨c0, c1, c2, c3, c4, c5, c6, c7, c8, c9, c10, c11, c12⟩ := h.cells
  clear h
  go_enter Tryz.func135, Tryz.ntmps135
  go_wp2
  go_ret
  exact ⟨rfl, rfl⟩
end
end Go.Proofs.YtlhaaokldjdnnaaGreatDoor
namespace Go.Proofs.YtlhaaokldjdnnaaGreatDoor
open Go.RowKit
set_option linter.unusedVariables false
set_option linter.unusedSimpArgs false
section
variable {w w' : World} {B g : Nat} {j j' : Js}

set_option maxRecDepth 100000 in
set_option maxHeartbeats 1000000 in
theorem js_Feed1 (h : JsIs w B g j) (c : UInt8) (P : Js → Prop) (hP : ∀ j x, P j → P { j with seen := x }) (hbad : j.bad = true → P j)
    (hb : j.bad = false → Calls Tryz.prog 133 #[.pointer (some ⟨g, 0, none⟩), .int .u8 (c.toNat : Int)] w fun e w' => e = .returned (.tuple #[]) ∧ (∃ j1, JsIs w' B g j1 ∧ P j1) ∧ Kept w w' B jsT) :
    Calls Tryz.prog 97 #[.pointer (some ⟨g, 0, none⟩), .string ⟨#[c]⟩] w fun e w' => (∃ x, e = .returned (.int .i64 x)) ∧ (∃ j2, JsIs w' B g j2 ∧ P j2) ∧ Kept w w' B jsT := by
  obtain ⟨c0, c1, c2, c3, c4, c5, c6, c7, c8, c9, c10, c11, c12⟩ := h.cells
  obtain ⟨f1, f2, f3, f4, f5, f6, f7, f8, f9, f10, f11, f12⟩ := h.frees
  have H := Lib.hid h
  have HBY := Lib.hid hb
  have HBA := Lib.hid hbad
  have HP := Lib.hid hP
  clear h hb hbad hP
  go_enter Tryz.func97, Tryz.ntmps97
  go_wp2
  go_loopw [10] (fun i wr => (i = .int .i64 0 ∧ Hid (wr = w)) ∨ (i = .int .i64 1 ∧ Hid ((∃ j2, JsIs wr B g j2 ∧ P j2) ∧ Kept w wr B jsT))) (fun i _ => 1 - (intOf i).toNat)
  case atStart => exact .inl ⟨rfl, Lib.hid rfl⟩
  case round =>
    rcases hrel with ⟨rfl, hw⟩ | ⟨rfl, hq⟩
    · have hw := hw.out
      subst hw
      cases hbd : j.bad
      case true =>
        rw [hbd] at c8
        go_wp2
        go_roundw
        case rel => exact .inr ⟨rfl, ⟨_, H.out.seen_ _, HP.out _ _ (HBA.out hbd)⟩, H.out.kept _ _ (Kept.refl _ _ _)⟩
        case measure => simp [intOf]
      case false =>
        rw [hbd] at c8
        go_wp2_with (go_at_call 133; refine (HBY.out hbd).mono ?_; rintro e w1 ⟨rfl, ⟨j1, h1, hp1⟩, hk1⟩; obtain ⟨d0, d1, d2, d3, d4, d5, d6, d7, d8, d9, d10, d11, d12⟩ := h1.cells; have g12 := h1.free 12; have H1 := Lib.hid h1; have HP1 := Lib.hid hp1; have HK := Lib.hid hk1; clear h1 hp1 hk1)
        go_roundw
        case rel => exact .inr ⟨rfl, ⟨_, H1.out.seen_ _, HP.out _ _ HP1.out⟩, H.out.kept _ _ HK.out⟩
        case measure => simp [intOf]
    · obtain ⟨⟨j2, h2, hp2⟩, hk2⟩ := hq.out
      have HT := Lib.hid (js_tell h2)
      have H2 := Lib.hid h2
      have HP2 := Lib.hid hp2
      have HK2 := Lib.hid hk2
      clear hq h2 hp2 hk2
      go_wp2_with (go_at_call 134; refine HT.out.mono ?_; rintro e w1 ⟨rfl, hb⟩; have HB1 := Lib.hid hb; clear hb)
      go_ret
      exact ⟨⟨_, rfl⟩, ⟨_, H2.out.below HB1.out, HP2.out⟩, HK2.out.trans (Kept.of HB1.out (by have := HK2.out.below.size; have := blk_lt H.out.blk; have := H.out.low; omega) jsT)⟩
end
end Go.Proofs.YtlhaaokldjdnnaaGreatDoor
