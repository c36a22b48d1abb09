/-
  Layer 38 (stream): the end is judged. No condition but that the tables lie as they were laid.
-/
import Derived.Test.YtlhaaokldjdnnaaGreatDoorSt7All
namespace Go.Proofs.YtlhaaokldjdnnaaGreatDoor
open Go.RowKit
set_option linter.unusedVariables false
set_option linter.unusedSimpArgs false
set_option linter.all false

/-- While the end is judged. -/
structure JE (w W : World) (B : Nat) (a : Ads) (lg : Bool) (cells : Array Value) (bs : List UInt8) (ph : Nat) : Prop where
  sm : Sm W B a lg cells bs ph
  kept : Kept w W B [31]
  row : W.heap[w.heap.size]? = some (.cells #[.int .i64 0, .string ⟨#[]⟩, .int .i64 0, .bool false] 62 (0, 0))
section
variable {w W W' : World} {B : Nat} {a : Ads} {lg : Bool} {cells : Array Value} {bs : List UInt8} {ph : Nat}
theorem JE.head (h : JE w W B a lg cells bs ph) (hk : Kept W W' B [31]) (hh : Ev.HeadAt W' a.g1 a.d1) : JE w W' B a lg cells bs ph := ⟨h.sm.headKept hk hh, h.kept.trans hk, (hk.keep _ _ _ _ h.row (by decide)).trans h.row⟩
theorem JE.below (h : JE w W B a lg cells bs ph) (hb : Below W.heap.size W W') : JE w W' B a lg cells bs ph := ⟨h.sm.below hb, h.kept.trans (Kept.of hb h.sm.room _), (hb.block _ (blk_lt h.row)).trans h.row⟩
theorem JE.alloc (h : JE w W B a lg cells bs ph) (o : Obj) : JE w (W.alloc o) B a lg cells bs ph := h.below ((Below.refl _ _).alloc (Nat.le_refl _) o)
theorem JE.sets {n : Nat} {c0 c1 c2 c3 : Value} (h : JE w W B a lg cells bs ph) (hq : W.heap[n]? = some (.cells #[c0, c1, c2, c3] 62 (0, 0))) (hn : w.heap.size < n) (hB : B ≤ n) (v0 v1 v2 v3 : Value) : JE w ((((W.setCell ⟨n, 0, none⟩ v0).setCell ⟨n, 1, none⟩ v1).setCell ⟨n, 2, none⟩ v2).setCell ⟨n, 3, none⟩ v3) B a lg cells bs ph :=
  ⟨h.sm.kept (set4 (B := B) hq hB v0 v1 v2 v3).1 (by decide), h.kept.fresh4 (by omega) hB _ _ _ _, by
    have hne : w.heap.size ≠ n := by omega
    rw [Below.heap_setCell _ ⟨n, 3, none⟩ _ _ hne, Below.heap_setCell _ ⟨n, 2, none⟩ _ _ hne, Below.heap_setCell _ ⟨n, 1, none⟩ _ _ hne, Below.heap_setCell _ ⟨n, 0, none⟩ _ _ hne]
    exact h.row⟩
theorem JE.drew (h : JE w W B a lg cells bs ph) : JE w W.drew B a lg cells bs ph := h.below (Below.drew (Below.refl _ _))
end
def row62 (W : World) (n : Nat) : Prop := W.heap[n]? = some (.cells #[.int .i64 0, .string ⟨#[]⟩, .int .i64 0, .bool false] 62 (0, 0))
theorem row62.cells {W : World} {n : Nat} (h : row62 W n) : (W.cell? ⟨n, 0, none⟩ = some (.int .i64 0) ∧ W.cell? ⟨n, 1, none⟩ = some (.string ⟨#[]⟩) ∧ W.cell? ⟨n, 2, none⟩ = some (.int .i64 0) ∧ W.cell? ⟨n, 3, none⟩ = some (.bool false)) ∧ (W.frozen? ⟨n, 0, none⟩ = false ∧ W.frozen? ⟨n, 1, none⟩ = false ∧ W.frozen? ⟨n, 2, none⟩ = false ∧ W.frozen? ⟨n, 3, none⟩ = false) :=
  have k := fun i => cell_of_row W n i _ _ _ h
  have m := fun i => blk_frozen h i
  ⟨⟨k 0, k 1, k 2, k 3⟩, m 0, m 1, m 2, m 3⟩
theorem JE.ne {w W : World} {B : Nat} {a : Ads} {lg : Bool} {cells : Array Value} {bs : List UInt8} {ph : Nat} (h : JE w W B a lg cells bs ph) : w.heap.size ≠ a.g := by
  intro e
  have := h.row
  rw [e, h.sm.blk] at this
  injection this with this
  injection this with _ ht
  exact absurd ht (by decide)
/-- It is marked that the first bytes were looked at. -/
theorem JE.mark {w W : World} {B : Nat} {a : Ads} {came : Nat} {bs : List UInt8} {ph : Nat} (h : JE w W B a false (wtCells false a 1 came) bs ph) :
    Sm (W.setCell ⟨a.g, 20, none⟩ (.bool true)) B a false (snCells false a came) bs ph ∧ Kept w (W.setCell ⟨a.g, 20, none⟩ (.bool true)) B stT ∧ row62 (W.setCell ⟨a.g, 20, none⟩ (.bool true)) w.heap.size :=
  ⟨h.sm.set 20 (.bool true), (h.kept.wide (by decide)).trans ((Kept.refl _ B stT).set_ h.sm.low h.sm.blk (by decide) 20 (.bool true)), (Below.heap_setCell _ ⟨a.g, 20, none⟩ _ _ h.ne).trans h.row⟩
set_option maxRecDepth 100000 in
set_option maxHeartbeats 16000000 in
theorem judge_new {w : World} {B : Nat} {a : Ads} {came : Nat} {bs : List UInt8} {ph : Nat} (h : Sm w B a false (wtCells false a 1 came) bs ph) (hn : bs.length < 1445)
    (hc : ∀ W, Ev.Told W → Ev.HeadAt W a.g1 a.d1 → Calls Tryz.prog 51 #[.agg #[.bool false, .int .i64 1445, .int .i64 9, .string ⟨#[]⟩, .bool true, .bool true, .int .i64 0, .int .i64 200, .slice (some ⟨a.g1, 0, none⟩) 1 (1 + a.d1), .bool false], .string ⟨bs.toArray⟩, .bool true] W fun e w' => e = .returned (.agg #[.int .i64 0, .string ⟨#[]⟩, .int .i64 0, .bool false]) ∧ Ev.HeadAt w' a.g1 a.d1 ∧ Kept W w' B [31])
    (h4 : 4 ≤ ph) (h5 : ph ≤ 5) : Calls Tryz.prog 36 #[.pointer (some ⟨a.g, 0, none⟩), .bool true] w fun e w' => (∃ v r p, e = .returned (.agg #[.int .i64 v, .string r, .int .i64 p, .bool false]) ∧ v ≠ 0 ∧ (ph = 5 → v = 2)) ∧ Sw w' B a (snCells false a came) bs ∧ Kept w w' B stT := by
  have hb1 : Below w.heap.size w (w.alloc (.cells #[.int .i64 0, .string ⟨#[]⟩, .int .i64 0, .bool false] 62)) := (Below.refl _ _).alloc (Nat.le_refl _) _
  have hs1 := h.below hb1
  have hroom := h.room
  have hJ : JE w (w.alloc (.cells #[.int .i64 0, .string ⟨#[]⟩, .int .i64 0, .bool false] 62)) B a false (wtCells false a 1 came) bs ph := ⟨hs1, Kept.of hb1 hroom _, heap_alloc_new w _⟩
  have HL := Lib.hid (hLen_any hs1.hold)
  have HRd := Lib.hid (ready_end bs.length)
  have HC := Lib.hid hc
  have HP : Hid (∀ W, Sm W B a false (snCells false a came) bs ph → Calls Tryz.prog 53 #[.pointer (some ⟨a.g, 0, none⟩), .int .i64 bs.length, .bool true] W fun e w' => (∃ v r p, e = .returned (.agg #[.int .i64 v, .string r, .int .i64 p, .bool false]) ∧ v ≠ 0 ∧ (ph = 5 → v = 2)) ∧ Sw w' B a (snCells false a came) bs ∧ Kept W w' B lxT) := Lib.hid fun W h => sParsed h hn h4 h5
  obtain ⟨k0, k1, k2, k3, k4, k5, k6, k7, k8, k9, k10, k11, k12, k13, k14, k15, k16, k17, k18, k19, k20⟩ := st_cells hs1.blk
  have HJ := Lib.hid hJ.drew
  obtain ⟨p0, p1, p2, p3, p4, p5, p6, p7, p8, p9, p10, p11, p12, p13, p14, p15, p16, p17, p18, p19, p20⟩ := st_cells (hJ.alloc (.cells #[.int .i64 0, .string ⟨#[]⟩, .int .i64 0, .bool false] 62)).sm.blk
  unfold hdV at p8
  clear p10 p12 p13 p14 p15 p16 p17 p18 p19 p20
  have HJA := Lib.hid (hJ.alloc (.cells #[.int .i64 0, .string ⟨#[]⟩, .int .i64 0, .bool false] 62)).drew
  have HA : Hid (row62 ((w.alloc (.cells #[.int .i64 0, .string ⟨#[]⟩, .int .i64 0, .bool false] 62)).alloc (.cells #[.int .i64 0, .string ⟨#[]⟩, .int .i64 0, .bool false] 62)).drew (w.heap.size + 1)) := by
    have h1 := heap_alloc_new (w.alloc (.cells #[.int .i64 0, .string ⟨#[]⟩, .int .i64 0, .bool false] 62)) (.cells #[.int .i64 0, .string ⟨#[]⟩, .int .i64 0, .bool false] 62)
    rw [World.size_alloc] at h1
    exact Lib.hid h1
  clear h hb1 hs1 hc hJ k12 k13 k14 k15 k16 k17 k18 k19
  unfold hdV at k8
  go_enter Tryz.func36, Tryz.ntmps36
  go_wp2_with (first | (go_at_call 37; refine HL.out.mono ?_; rintro e _ ⟨rfl, rfl⟩) | (go_at_call 50; refine (HRd.out _).mono ?_; rintro e _ ⟨rfl, rfl⟩))
  go_region_with (first
    | (go_at_call 52; first
        | (refine (All_any HJ.out.sm.hold).mono ?_; rintro e w2 ⟨rfl, hb2⟩; have HJ2 := Lib.hid (HJ.out.below hb2))
        | (refine (All_any HJA.out.sm.hold).mono ?_; rintro e w2 ⟨rfl, hb2⟩; have HJ2 := Lib.hid (HJA.out.below hb2); have HQ2 : Hid (row62 w2 (w.heap.size + 1)) := Lib.hid ((hb2.block _ (blk_lt HA.out)).trans HA.out))
       obtain ⟨q0, q1, q2, q3, q4, q5, q6, q7, q8, q9, q10, q11, q12, q13, q14, q15, q16, q17, q18, q19, q20⟩ := st_cells HJ2.out.sm.blk; unfold hdV at q8; clear q10 q11 q12 q13 q14 q15 q16 q17 q18 q19 q20 hb2
       obtain ⟨s0, s1, s2, s3, s4, s5, s6, s7, s8, s9, s10, s11, s12, s13, s14, s15, s16, s17, s18, s19, s20⟩ := st_cells (HJ2.out.alloc (.cells #[.int .i64 0, .string ⟨#[]⟩, .int .i64 0, .bool false] 62)).sm.blk; unfold hdV at s8; clear s10 s11 s12 s13 s14 s15 s16 s17 s18 s19 s20)
    | (go_at_call 51; first
        | (refine (HC.out _ HJ2.out.sm.told HJ2.out.sm.head).mono ?_; rintro e w3 ⟨rfl, hh3, hk3⟩; have HJ3 := Lib.hid (HJ2.out.head hk3 hh3); have hq3 : row62 w3 (w.heap.size + 1) := (hk3.keep _ _ _ _ HQ2.out (by decide)).trans HQ2.out; obtain ⟨⟨r0, r1, r2, r3⟩, n0, n1, n2, n3⟩ := hq3.cells; have HQ3 := Lib.hid hq3; clear hh3 hk3 hq3)
        | (refine (HC.out _ HJ2.out.sm.told HJ2.out.sm.head).mono ?_; rintro e w3 ⟨rfl, hh3, hk3⟩; have HJ3 := Lib.hid (HJ2.out.head hk3 hh3); clear hh3 hk3)
        | (refine (HC.out _ (HJ2.out.alloc _).sm.told (HJ2.out.alloc _).sm.head).mono ?_; rintro e w3 ⟨rfl, hh3, hk3⟩; have HJ3 := Lib.hid ((HJ2.out.alloc _).head hk3 hh3); have hq3 : row62 w3 w2.heap.size := (hk3.keep _ _ _ _ (heap_alloc_new w2 _) (by decide)).trans (heap_alloc_new w2 _); obtain ⟨⟨r0, r1, r2, r3⟩, n0, n1, n2, n3⟩ := hq3.cells; have HQ3 := Lib.hid hq3; clear hh3 hk3 hq3)))
  all_goals clear k0 k1 k2 k3 k4 k5 k6 k7 k8 k9 k10 k11 k20 p0 p1 p2 p3 p4 p5 p6 p7 p8 p9 p11 HL HRd HC HJ HJA HA
  all_goals clear q0 q1 q2 q3 q4 q5 q6 q7 q8 q9 s0 s1 s2 s3 s4 s5 s6 s7 s8 s9
  all_goals
    have hlt2 := blk_lt HJ2.out.row
    first
      | (have hJc := HJ3.out.sets HQ3.out (by omega) (by omega) (.int .i64 0) (.string ⟨#[]⟩) (.int .i64 0) (.bool false); have hQc := (set4 (B := B) HQ3.out (by omega) (.int .i64 0) (.string ⟨#[]⟩) (.int .i64 0) (.bool false)).2; have HZ := Lib.hid hJc.mark; have w20 := (st_cells HZ.out.1.blk).2.2.2.2.2.2.2.2.2.2.2.2.2.2.2.2.2.2.2.2)
      | (have hJc := HJ3.out.alloc (.cells #[.int .i64 0, .string ⟨#[]⟩, .int .i64 0, .bool false] 62); have hQc := heap_alloc_new w3 (.cells #[.int .i64 0, .string ⟨#[]⟩, .int .i64 0, .bool false] 62); have HZ := Lib.hid hJc.mark; have w20 := (st_cells HZ.out.1.blk).2.2.2.2.2.2.2.2.2.2.2.2.2.2.2.2.2.2.2.2)
    have u0 := (row62.cells hQc).1.1
    have v20 := (st_cells hJc.sm.blk).2.2.2.2.2.2.2.2.2.2.2.2.2.2.2.2.2.2.2.2
    have f20 := blk_frozen hJc.sm.blk 20
    clear hJc hQc HJ3 HJ2
    go_wp2_with fail
    refine (HP.out _ HZ.out.1).mono ?_
    rintro e w4 ⟨⟨v, r, p, rfl, hv, hv5⟩, hs4, hk4⟩
    have hz : row62 w4 w.heap.size := (hk4.keep _ _ _ _ HZ.out.2.2 (by decide)).trans HZ.out.2.2
    obtain ⟨⟨z0, z1, z2, z3⟩, g0, g1, g2, g3⟩ := hz.cells
    have H4 := Lib.hid (set4 (B := B) hz hroom (.int .i64 v) (.string r) (.int .i64 p) (.bool false))
    have HK4 := Lib.hid ((HZ.out.2.1.trans (hk4.wide (by decide))).fresh4 (Nat.le_refl _) hroom (.int .i64 v) (.string r) (.int .i64 p) (.bool false))
    have HS4 := Lib.hid (hs4.kept H4.out.1 (by decide))
    have HV := Lib.hid hv
    have HV5 := Lib.hid hv5
    clear hz hs4 hk4 hv hv5
    go_wp2
    refine bodyPost_ret (results_cell_row Tryz.results36 _ _ w.heap.size 62 #[.int .i64 v, .string r, .int .i64 p, .bool false] (0, 0) _ rfl H4.out.2 Tryz.underlying62 rfl (by kernel_rfl)) rfl ?_
    exact ⟨⟨v, r, p, rfl, HV.out, HV5.out⟩, HS4.out, HK4.out⟩
end Go.Proofs.YtlhaaokldjdnnaaGreatDoor
