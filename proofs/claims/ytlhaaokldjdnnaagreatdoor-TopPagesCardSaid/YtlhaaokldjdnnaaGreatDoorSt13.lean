/-
  Layer 38 (stream): by the old rules, a text that is HTML is blocked at the end. No condition but that the tables lie as they were laid.
-/
import Derived.Test.YtlhaaokldjdnnaaGreatDoorSt9
import Derived.Test.YtlhaaokldjdnnaaGreatDoorSt10All
import Derived.Test.YtlhaaokldjdnnaaGreatDoorSt12All
namespace Go.Proofs.YtlhaaokldjdnnaaGreatDoor
open Go.RowKit
set_option linter.unusedVariables false
set_option linter.unusedSimpArgs false
set_option linter.all false

set_option maxRecDepth 100000 in
set_option maxHeartbeats 16000000 in
theorem judge_old {w : World} {B : Nat} {a : Ads} {came : Nat} {bs : List UInt8} {ph n : Nat} (h : Sm w B a true (wtCells true a 1 came) bs ph)
    (hc : ∀ W, Ev.Told W → Ev.HeadAt W a.g1 a.d1 → Calls Tryz.prog 51 #[.agg #[.bool true, .int .i64 1445, .int .i64 9, .string ⟨#[]⟩, .bool true, .bool true, .int .i64 0, .int .i64 200, .slice (some ⟨a.g1, 0, none⟩) 1 (1 + a.d1), .bool false], .string ⟨bs.toArray⟩, .bool true] W fun e w' => e = .returned (.agg #[.int .i64 2, .string ⟨#[104, 116, 109, 108]⟩, .int .i64 n, .bool false]) ∧ Ev.HeadAt w' a.g1 a.d1 ∧ Kept W w' B [31]) :
    Calls Tryz.prog 36 #[.pointer (some ⟨a.g, 0, none⟩), .bool true] w fun e w' => (∃ r p, e = .returned (.agg #[.int .i64 2, .string r, .int .i64 p, .bool false])) ∧ Sw w' B a (wtCells true a 1 came) bs ∧ Kept w w' B stT := by
  have hb1 : Below w.heap.size w (w.alloc (.cells #[.int .i64 0, .string ⟨#[]⟩, .int .i64 0, .bool false] 62)) := (Below.refl _ _).alloc (Nat.le_refl _) _
  have hs1 := h.below hb1
  have hroom := h.room
  have hJ : JE w (w.alloc (.cells #[.int .i64 0, .string ⟨#[]⟩, .int .i64 0, .bool false] 62)) B a true (wtCells true a 1 came) bs ph := ⟨hs1, Kept.of hb1 hroom _, heap_alloc_new w _⟩
  have HL := Lib.hid (hLen_any hs1.hold)
  have HRd := Lib.hid (ready_end bs.length)
  have HC := Lib.hid hc
  obtain ⟨k0, k1, k2, k3, k4, k5, k6, k7, k8, k9, k10, k11, k12, k13, k14, k15, k16, k17, k18, k19, k20⟩ := st_cells hs1.blk
  have HJ := Lib.hid hJ.drew
  obtain ⟨p0, p1, p2, p3, p4, p5, p6, p7, p8, p9, p10, p11, p12, p13, p14, p15, p16, p17, p18, p19, p20⟩ := st_cells (hJ.alloc (.cells #[.int .i64 0, .string ⟨#[]⟩, .int .i64 0, .bool false] 62)).sm.blk
  unfold hdV at p8
  clear p10 p12 p13 p14 p15 p16 p17 p18 p19 p20
  have HJA := Lib.hid (hJ.alloc (.cells #[.int .i64 0, .string ⟨#[]⟩, .int .i64 0, .bool false] 62)).drew
  have HA : Hid (row62 ((w.alloc (.cells #[.int .i64 0, .string ⟨#[]⟩, .int .i64 0, .bool false] 62)).alloc (.cells #[.int .i64 0, .string ⟨#[]⟩, .int .i64 0, .bool false] 62)).drew (w.heap.size + 1)) := by
    have h1 := heap_alloc_new (w.alloc (.cells #[.int .i64 0, .string ⟨#[]⟩, .int .i64 0, .bool false] 62)) (.cells #[.int .i64 0, .string ⟨#[]⟩, .int .i64 0, .bool false] 62)
    rw [World.size_alloc] at h1
    exact Lib.hid h1
  clear h hb1 hs1 hc hJ k12 k13 k14 k15 k16 k17 k18 k19
  unfold hdV at k8
  go_enter Tryz.func36, Tryz.ntmps36
  go_wp2_with (first | (go_at_call 37; refine HL.out.mono ?_; rintro e _ ⟨rfl, rfl⟩) | (go_at_call 50; refine (HRd.out _).mono ?_; rintro e _ ⟨rfl, rfl⟩))
  go_region_with (first
    | (go_at_call 52; first
        | (refine (All_any HJ.out.sm.hold).mono ?_; rintro e w2 ⟨rfl, hb2⟩; have HJ2 := Lib.hid (HJ.out.below hb2))
        | (refine (All_any HJA.out.sm.hold).mono ?_; rintro e w2 ⟨rfl, hb2⟩; have HJ2 := Lib.hid (HJA.out.below hb2); have HQ2 : Hid (row62 w2 (w.heap.size + 1)) := Lib.hid ((hb2.block _ (blk_lt HA.out)).trans HA.out))
       obtain ⟨q0, q1, q2, q3, q4, q5, q6, q7, q8, q9, q10, q11, q12, q13, q14, q15, q16, q17, q18, q19, q20⟩ := st_cells HJ2.out.sm.blk; unfold hdV at q8; clear q10 q11 q12 q13 q14 q15 q16 q17 q18 q19 q20 hb2
       obtain ⟨s0, s1, s2, s3, s4, s5, s6, s7, s8, s9, s10, s11, s12, s13, s14, s15, s16, s17, s18, s19, s20⟩ := st_cells (HJ2.out.alloc (.cells #[.int .i64 0, .string ⟨#[]⟩, .int .i64 0, .bool false] 62)).sm.blk; unfold hdV at s8; clear s10 s11 s12 s13 s14 s15 s16 s17 s18 s19 s20)
    | (go_at_call 51; first
        | (refine (HC.out _ HJ2.out.sm.told HJ2.out.sm.head).mono ?_; rintro e w3 ⟨rfl, hh3, hk3⟩; have HJ3 := Lib.hid (HJ2.out.head hk3 hh3); have hq3 : row62 w3 (w.heap.size + 1) := (hk3.keep _ _ _ _ HQ2.out (by decide)).trans HQ2.out; obtain ⟨⟨r0, r1, r2, r3⟩, n0, n1, n2, n3⟩ := hq3.cells; have HQ3 := Lib.hid hq3; clear hh3 hk3 hq3)
        | (refine (HC.out _ HJ2.out.sm.told HJ2.out.sm.head).mono ?_; rintro e w3 ⟨rfl, hh3, hk3⟩; have HJ3 := Lib.hid (HJ2.out.head hk3 hh3); clear hh3 hk3)
        | (refine (HC.out _ (HJ2.out.alloc _).sm.told (HJ2.out.alloc _).sm.head).mono ?_; rintro e w3 ⟨rfl, hh3, hk3⟩; have HJ3 := Lib.hid ((HJ2.out.alloc _).head hk3 hh3); have hq3 : row62 w3 w2.heap.size := (hk3.keep _ _ _ _ (heap_alloc_new w2 _) (by decide)).trans (heap_alloc_new w2 _); obtain ⟨⟨r0, r1, r2, r3⟩, n0, n1, n2, n3⟩ := hq3.cells; have HQ3 := Lib.hid hq3; clear hh3 hk3 hq3)))
  all_goals clear k0 k1 k2 k3 k4 k5 k6 k7 k8 k9 k10 k11 k20 p0 p1 p2 p3 p4 p5 p6 p7 p8 p9 p11 HL HRd HC HJ HJA HA
  all_goals clear q0 q1 q2 q3 q4 q5 q6 q7 q8 q9 s0 s1 s2 s3 s4 s5 s6 s7 s8 s9
  all_goals
    have hlt2 := blk_lt HJ2.out.row
    first
      | (have hJc := HJ3.out.sets HQ3.out (by omega) (by omega) (.int .i64 2) (.string ⟨#[104, 116, 109, 108]⟩) (.int .i64 n) (.bool false); have hQc := (set4 (B := B) HQ3.out (by omega) (.int .i64 2) (.string ⟨#[104, 116, 109, 108]⟩) (.int .i64 n) (.bool false)).2; clear r0 r1 r2 r3 n0 n1 n2 n3; generalize World.setCell (World.setCell (World.setCell (World.setCell w3 _ _) _ _) _ _) _ _ = W5 at hJc hQc ⊢)
      | (have hJc := HJ3.out.alloc (.cells #[.int .i64 2, .string ⟨#[104, 116, 109, 108]⟩, .int .i64 n, .bool false] 62); have hQc := heap_alloc_new w3 (.cells #[.int .i64 2, .string ⟨#[104, 116, 109, 108]⟩, .int .i64 n, .bool false] 62); generalize World.alloc w3 _ = W5 at hJc hQc ⊢)
    have u0 : W5.cell? _ = some (Value.int .i64 2) := cell_of_row _ _ 0 _ _ _ hQc
    have u1 : W5.cell? _ = some (Value.string ⟨#[104, 116, 109, 108]⟩) := cell_of_row _ _ 1 _ _ _ hQc
    have u2 : W5.cell? _ = some (Value.int .i64 n) := cell_of_row _ _ 2 _ _ _ hQc
    have u3 : W5.cell? _ = some (Value.bool false) := cell_of_row _ _ 3 _ _ _ hQc
    obtain ⟨⟨z0, z1, z2, z3⟩, g0, g1, g2, g3⟩ := row62.cells hJc.row
    have H4 := Lib.hid (set4 (B := B) hJc.row hroom (.int .i64 2) (.string ⟨#[104, 116, 109, 108]⟩) (.int .i64 n) (.bool false))
    have HK4 := Lib.hid ((hJc.kept.wide (by decide)).fresh4 (T := stT) (Nat.le_refl _) hroom (.int .i64 2) (.string ⟨#[104, 116, 109, 108]⟩) (.int .i64 n) (.bool false))
    have HS4 := Lib.hid (hJc.sm.sw.kept H4.out.1 (by decide))
    clear hJc hQc HJ3 HJ2
    go_wp2_with fail
    refine bodyPost_ret (results_cell_row Tryz.results36 _ _ w.heap.size 62 #[.int .i64 2, .string ⟨#[104, 116, 109, 108]⟩, .int .i64 n, .bool false] (0, 0) _ rfl H4.out.2 Tryz.underlying62 rfl (by kernel_rfl)) rfl ?_
    exact ⟨⟨_, _, rfl⟩, HS4.out, HK4.out⟩
theorem end_old {w : World} {B : Nat} {a : Ads} {came : Nat} {bs : List UInt8} {ph : Nat} (h : Sm w B a true (wtCells true a 1 came) bs ph) (hp : Plain ⟨bs.toArray⟩) (hh : HtmlL (skipL bs)) :
    Calls Tryz.prog 10 #[.pointer (some ⟨a.g, 0, none⟩)] w fun e w' => (∃ n r, e = .returned (.tuple #[.slice (some ⟨n, 0, none⟩) 1 1, .int .i64 0]) ∧ BlockRow w' n r) ∧ Kept w w' B stT := by
  have hj := judge_old (n := (⟨bs.toArray⟩ : ByteArray).size) h (fun W hW hH => cSniffed_of (jv := 2) h.B1 h.hlow hW hH fun W' hW' hH' => csniff_old hp (by simpa using hh) h.B1 h.hlow hW' hH')
  exact sEnd_block h (settle_block (sn := false) (came := came) (bs := bs) (lg := true) hj)
end Go.Proofs.YtlhaaokldjdnnaaGreatDoor
