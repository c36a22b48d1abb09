/-
  Parts, one behind the other: Layer 38 (stream): by the new rules, a tag's text is blocked at the end. No condition but that the tables lie as they were laid. | Layers 33 and 36 (corb, classify): by the old rules, a text that is HTML is blocked. No condition but that a text is not too long, and that the tables lie as they were laid.
-/
import Derived.Test.YtlhaaokldjdnnaaGreatDoorSt10All
import Derived.Test.YtlhaaokldjdnnaaGreatDoorSt9
import Derived.Test.YtlhaaokldjdnnaaGreatDoorTagd2
import Derived.Test.YtlhaaokldjdnnaaGreatDoorSt7All
namespace Go.Proofs.YtlhaaokldjdnnaaGreatDoor
open Go.RowKit
set_option linter.unusedVariables false
set_option linter.unusedSimpArgs false
set_option linter.all false

theorem end_new {w : World} {B : Nat} {a : Ads} {came : Nat} {bs : List UInt8} (h : Sm w B a false (wtCells false a 1 came) bs 5) (hn : bs.length < 1445) (hp : Plain ⟨bs.toArray⟩) :
    Calls Tryz.prog 10 #[.pointer (some ⟨a.g, 0, none⟩)] w fun e w' => (∃ n r, e = .returned (.tuple #[.slice (some ⟨n, 0, none⟩) 1 1, .int .i64 0]) ∧ BlockRow w' n r) ∧ Kept w w' B stT := by
  have hj := judge_new h hn (fun W hW hH => cSniffed_wait hp h.B1 h.hlow hW hH) (by decide) (by decide)
  refine sEnd_block h (settle_block (sn := true) (came := came) (bs := bs) (lg := false) (hj.mono ?_))
  rintro e w' ⟨⟨v, r, p, rfl, _, h5⟩, hs, hk⟩
  rw [h5 rfl]
  exact ⟨⟨r, p, rfl⟩, hs, hk⟩
end Go.Proofs.YtlhaaokldjdnnaaGreatDoor
namespace Go.Proofs.YtlhaaokldjdnnaaGreatDoor
open Go.RowKit
set_option linter.unusedVariables false
set_option linter.unusedSimpArgs false
set_option linter.all false

def saidC : Array Value := #[.string ⟨#[116, 101, 120, 116]⟩, .string ⟨#[104, 116, 109, 108]⟩, .slice none 0 0, .bool true, .bool false, .bool false]
set_option maxRecDepth 100000 in
theorem found_html {s : ByteArray} (hp : Plain s) (h : HtmlL (skipL s.data.toList)) {w : World} {B g d : Nat} (hB1 : 1 ≤ B) (hlow : B ≤ g) (hw : Ev.Told w) (hh : Ev.HeadAt w g d) :
    Calls Tryz.prog 123 #[.agg #[.string ⟨#[116, 101, 120, 116]⟩, .string ⟨#[104, 116, 109, 108]⟩, .slice none 0 0, .bool true, .bool false, .bool false], .string s] w fun e w' => e = .returned (.string ⟨#[104, 116, 109, 108]⟩) ∧ Ev.HeadAt w' g d ∧ Kept w w' B [31] := by
  have hroom : B ≤ w.heap.size := by have := hh.lt; omega
  have hb0 : Below w.heap.size w (w.alloc (.cells #[.string ⟨#[116, 101, 120, 116]⟩, .string ⟨#[104, 116, 109, 108]⟩, .slice none 0 0, .bool true, .bool false, .bool false] 166)) := (Below.refl _ _).alloc (Nat.le_refl _) _
  have hr0 : (w.alloc (.cells #[.string ⟨#[116, 101, 120, 116]⟩, .string ⟨#[104, 116, 109, 108]⟩, .slice none 0 0, .bool true, .bool false, .bool false] 166)).heap[w.heap.size]? = some (.cells #[.string ⟨#[116, 101, 120, 116]⟩, .string ⟨#[104, 116, 109, 108]⟩, .slice none 0 0, .bool true, .bool false, .bool false] 166 (0, 0)) := heap_alloc_new w _
  have HH0 := Lib.hid (hh.same (hb0.block g hh.lt))
  have HW0 := Lib.hid (told_below hw hb0)
  have HBr := Lib.hid (breaks_not hp)
  have HY := Lib.hid (Html_yes hp.1 h)
  have HK0 := Lib.hid (Kept.of hb0 hroom [31])
  have HR0 := Lib.hid hr0
  clear hp h hw hh hb0 hr0
  go_enter Tryz.func123, Tryz.ntmps123
  go_wp2_with fail
  refine (HBr.out _).mono ?_
  rintro e w1 ⟨rfl, hb1⟩
  have hr1 := (hb1.block _ (blk_lt HR0.out)).trans HR0.out
  have c0 : w1.cell? ⟨w.heap.size, 0, none⟩ = some (.string ⟨#[116, 101, 120, 116]⟩) := cell_of_row _ _ 0 _ _ _ hr1
  have c1 : w1.cell? ⟨w.heap.size, 1, none⟩ = some (.string ⟨#[104, 116, 109, 108]⟩) := cell_of_row _ _ 1 _ _ _ hr1
  have c2 : w1.cell? ⟨w.heap.size, 2, none⟩ = some (.slice none 0 0) := cell_of_row _ _ 2 _ _ _ hr1
  have c3 : w1.cell? ⟨w.heap.size, 3, none⟩ = some (.bool true) := cell_of_row _ _ 3 _ _ _ hr1
  have c4 : w1.cell? ⟨w.heap.size, 4, none⟩ = some (.bool false) := cell_of_row _ _ 4 _ _ _ hr1
  have c5 : w1.cell? ⟨w.heap.size, 5, none⟩ = some (.bool false) := cell_of_row _ _ 5 _ _ _ hr1
  have HH1 := Lib.hid (HH0.out.same (hb1.block g HH0.out.lt))
  have HW1 := Lib.hid (told_below HW0.out hb1)
  have HK1 := Lib.hid (HK0.out.trans (Kept.of hb1 (Nat.le_trans hroom (by simp)) [31]))
  have HCO := Lib.hid (Ev.cof HW1.out HH1.out hlow)
  clear hb1 hr1
  go_wp2_with fail
  refine HCO.out.mono ?_
  rintro e w2 ⟨rfl, hh2, hk2⟩
  have HH2 := Lib.hid hh2
  have HK2 := Lib.hid (HK1.out.trans hk2)
  have HW2 := Lib.hid (told_below' HW1.out hk2.below hB1)
  have hroom2 : B ≤ w2.heap.size := by have := hh2.lt; omega
  clear hh2 hk2 c0 c1 c2 c3 c4 c5
  go_wp2_with fail
  refine (HY.out _ HW2.out).mono ?_
  rintro e w3 ⟨rfl, hb3⟩
  have HH3 := Lib.hid (HH2.out.same (hb3.block g HH2.out.lt))
  have HK3 := Lib.hid (HK2.out.trans (Kept.of hb3 hroom2 [31]))
  clear hb3
  go_wp2
  go_ret
  exact ⟨rfl, HH3.out, HK3.out⟩
set_option maxRecDepth 100000 in
theorem cBody_html {s : ByteArray} (hp : Plain s) (h : HtmlL (skipL s.data.toList)) {w : World} {B g d : Nat} (hB1 : 1 ≤ B) (hlow : B ≤ g) (hw : Ev.Told w) (hh : Ev.HeadAt w g d) :
    Calls Tryz.prog 87 #[.agg #[.int .i64 200, .slice (some ⟨g, 0, none⟩) 1 (1 + d)], .string s] w fun e w' => e = .returned (.agg #[.int .i64 2, .string ⟨#[104, 116, 109, 108]⟩, .int .i64 s.size, .bool false]) ∧ Ev.HeadAt w' g d ∧ Kept w w' B [31] := by
  have hroom : B ≤ w.heap.size := by have := hh.lt; omega
  have hb0 : Below w.heap.size w ((w.alloc (.cells #[.int .i64 200, .slice (some ⟨g, 0, none⟩) 1 (1 + d)] 34)).alloc (.cells #[.int .i64 0, .string ⟨#[]⟩, .int .i64 0, .bool false] 62)) := ((Below.refl _ _).alloc (Nat.le_refl _) _).alloc (by simp) _
  have hr0 : ((w.alloc (.cells #[.int .i64 200, .slice (some ⟨g, 0, none⟩) 1 (1 + d)] 34)).alloc (.cells #[.int .i64 0, .string ⟨#[]⟩, .int .i64 0, .bool false] 62)).heap[w.heap.size]? = some (.cells #[.int .i64 200, .slice (some ⟨g, 0, none⟩) 1 (1 + d)] 34 (0, 0)) := (Below.heap_alloc _ _ _ (by simp)).trans (heap_alloc_new w _)
  have hr1 : ((w.alloc (.cells #[.int .i64 200, .slice (some ⟨g, 0, none⟩) 1 (1 + d)] 34)).alloc (.cells #[.int .i64 0, .string ⟨#[]⟩, .int .i64 0, .bool false] 62)).heap[w.heap.size + 1]? = some (.cells #[.int .i64 0, .string ⟨#[]⟩, .int .i64 0, .bool false] 62 (0, 0)) := by
    have := heap_alloc_new (w.alloc (.cells #[.int .i64 200, .slice (some ⟨g, 0, none⟩) 1 (1 + d)] 34)) (.cells #[.int .i64 0, .string ⟨#[]⟩, .int .i64 0, .bool false] 62)
    rwa [World.size_alloc] at this
  have HH0 := Lib.hid (hh.same (hb0.block g hh.lt))
  have HW0 := Lib.hid (told_below hw hb0)
  have HCut := Lib.hid (bcut_is s hp.1)
  have HF := Lib.hid (fun (W : World) (hW : Ev.Told W) (hH : Ev.HeadAt W g d) => found_html hp h hB1 hlow hW hH)
  have HK0 := Lib.hid (Kept.of hb0 hroom [31])
  have HR1 := Lib.hid hr1
  have k1 : ((w.alloc (.cells #[.int .i64 200, .slice (some ⟨g, 0, none⟩) 1 (1 + d)] 34)).alloc (.cells #[.int .i64 0, .string ⟨#[]⟩, .int .i64 0, .bool false] 62)).cell? ⟨w.heap.size, 1, none⟩ = some (.slice (some ⟨g, 0, none⟩) 1 (1 + d)) := cell_of_row _ _ 1 _ _ _ hr0
  have HSD := Lib.hid (Ev.csaid HW0.out HH0.out hlow)
  unfold Ev.saidV at HSD
  clear hp h hw hh hb0 hr0 hr1
  go_enter Tryz.func87, Tryz.ntmps87
  go_wp2_with (go_at_call 122; refine (HCut.out _).mono ?_; rintro e _ ⟨rfl, rfl⟩)
  refine HSD.out.mono ?_
  rintro e w1 ⟨rfl, hh1, hk1⟩
  have HH1 := Lib.hid hh1
  have HK1 := Lib.hid (HK0.out.trans hk1)
  have HW1 := Lib.hid (told_below' HW0.out hk1.below hB1)
  have HR2 := Lib.hid ((hk1.keep _ _ _ _ HR1.out (by decide)).trans HR1.out)
  clear hh1 hk1
  go_wp2_with fail
  refine (HF.out _ HW1.out HH1.out).mono ?_
  rintro e w2 ⟨rfl, hh2, hk2⟩
  have hr := (hk2.keep _ _ _ _ HR2.out (by decide)).trans HR2.out
  have c0 : w2.cell? ⟨w.heap.size + 1, 0, none⟩ = some (.int .i64 0) := cell_of_row _ _ 0 _ _ _ hr
  have c1 : w2.cell? ⟨w.heap.size + 1, 1, none⟩ = some (.string ⟨#[]⟩) := cell_of_row _ _ 1 _ _ _ hr
  have c2 : w2.cell? ⟨w.heap.size + 1, 2, none⟩ = some (.int .i64 0) := cell_of_row _ _ 2 _ _ _ hr
  have c3 : w2.cell? ⟨w.heap.size + 1, 3, none⟩ = some (.bool false) := cell_of_row _ _ 3 _ _ _ hr
  have f0 := blk_frozen hr 0
  have f1 := blk_frozen hr 1
  have f2 := blk_frozen hr 2
  have f3 := blk_frozen hr 3
  have HH2 := Lib.hid hh2
  have HK2 := Lib.hid (HK1.out.trans hk2)
  have H4 := Lib.hid (set4 (B := B) hr (by omega) (.int .i64 2) (.string ⟨#[104, 116, 109, 108]⟩) (.int .i64 s.size) (.bool false))
  clear hr hh2 hk2
  go_wp2
  refine bodyPost_ret (results_cell_row Tryz.results87 _ _ (w.heap.size + 1) 62 #[.int .i64 2, .string ⟨#[104, 116, 109, 108]⟩, .int .i64 s.size, .bool false] (0, 0) _ rfl H4.out.2 Tryz.underlying62 rfl (by kernel_rfl)) rfl ?_
  exact ⟨rfl, HH2.out.kept H4.out.1 (by decide), HK2.out.fresh4 (by omega) (by omega) _ _ _ _⟩
set_option maxRecDepth 100000 in
theorem csniff_old {s : ByteArray} (hp : Plain s) (h : HtmlL (skipL s.data.toList)) {w : World} {B g d : Nat} (hB1 : 1 ≤ B) (hlow : B ≤ g) (hw : Ev.Told w) (hh : Ev.HeadAt w g d) :
    Calls Tryz.prog 65 #[.agg #[.bool true, .int .i64 1445, .int .i64 9, .string ⟨#[]⟩, .bool true, .bool true, .int .i64 0, .int .i64 200, .slice (some ⟨g, 0, none⟩) 1 (1 + d), .bool false], .string s, .bool true] w fun e w' => e = .returned (.agg #[.int .i64 2, .string ⟨#[104, 116, 109, 108]⟩, .int .i64 s.size, .bool false]) ∧ Ev.HeadAt w' g d ∧ Kept w w' B [31] := by
  obtain ⟨hb0, hr0, hr1⟩ := sniff_start (w := w) true g d
  have hroom : B ≤ w.heap.size := by have := hh.lt; omega
  have HO := Lib.hid (cBody_html hp h hB1 hlow (told_below hw hb0) (hh.same (hb0.block g hh.lt)))
  have HRd := Lib.hid (ready_end s.size)
  obtain ⟨a0, a3, a4, a5, a6, a7, a8, a9, a1, a2⟩ := hr0.cells
  have HK0 := Lib.hid (Kept.of hb0 hroom [31])
  have HR := Lib.hid hr1
  clear hp h hw hh hb0 hr0 hr1
  unfold caseCells at a0 a3 a4 a5 a6 a7 a8 a9 a1 a2 HR HK0 HO
  go_enter Tryz.func65, Tryz.ntmps65
  go_wp2_with (go_at_call 50; refine (HRd.out _).mono ?_; rintro e _ ⟨rfl, rfl⟩)
  refine HO.out.mono ?_
  rintro e w1 ⟨rfl, hh1, hk1⟩
  have hr := (hk1.keep _ _ _ _ HR.out (by decide)).trans HR.out
  have c0 : w1.cell? ⟨w.heap.size + 1, 0, none⟩ = some (.int .i64 0) := cell_of_row _ _ 0 _ _ _ hr
  have c1 : w1.cell? ⟨w.heap.size + 1, 1, none⟩ = some (.string ⟨#[]⟩) := cell_of_row _ _ 1 _ _ _ hr
  have c2 : w1.cell? ⟨w.heap.size + 1, 2, none⟩ = some (.int .i64 0) := cell_of_row _ _ 2 _ _ _ hr
  have c3 : w1.cell? ⟨w.heap.size + 1, 3, none⟩ = some (.bool false) := cell_of_row _ _ 3 _ _ _ hr
  have f0 := blk_frozen hr 0
  have f1 := blk_frozen hr 1
  have f2 := blk_frozen hr 2
  have f3 := blk_frozen hr 3
  have hlt := blk_lt hr
  have HH1 := Lib.hid hh1
  have HK1 := Lib.hid (HK0.out.trans hk1)
  have H4 := Lib.hid (set4 (B := B) hr (by omega) (.int .i64 2) (.string ⟨#[104, 116, 109, 108]⟩) (.int .i64 s.size) (.bool false))
  clear hr hh1 hk1 HO HK0 a0 a3 a4 a5 a6 a7 a8 a9 a1 a2
  go_wp2
  refine bodyPost_ret (results_cell_row Tryz.results65 _ _ (w.heap.size + 1) 62 #[.int .i64 2, .string ⟨#[104, 116, 109, 108]⟩, .int .i64 s.size, .bool false] (0, 0) _ rfl H4.out.2 Tryz.underlying62 rfl (by kernel_rfl)) rfl ?_
  exact ⟨rfl, HH1.out.kept H4.out.1 (by decide), HK1.out.fresh4 (by omega) (by omega) _ _ _ _⟩
end Go.Proofs.YtlhaaokldjdnnaaGreatDoor
