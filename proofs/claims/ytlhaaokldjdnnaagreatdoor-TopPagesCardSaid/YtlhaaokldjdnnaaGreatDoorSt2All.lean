/-
  Parts, one behind the other: Layer 38 (stream): a new one. No condition but that the tables lie as they were laid. | Layer 38 (stream): the machine in memory; the head does not decide. No condition but that the tables lie as they were laid. | Layer 38 (stream): what waits is settled: nothing is told. No condition but that the tables lie as they were laid. | Layer 38 (stream): a head, and what waits behind it. No condition but that the tables lie as they were laid. | Layer 6 (mask): the pattern of a tag. No condition but that the tag is short and has no small letters. | Layer 20 (unknown): a text that is HTML by the document is so by the program. No condition but that a text is not too long, and that the tables lie as they were laid.
-/
import Derived.Test.YtlhaaokldjdnnaaGreatDoorLxAll
import Derived.Test.YtlhaaokldjdnnaaGreatDoorFilm2All
import Derived.Test.YtlhaaokldjdnnaaGreatDoorEvHead3All
import Derived.Test.YtlhaaokldjdnnaaGreatDoorLaw2All
import Derived.Test.YtlhaaokldjdnnaaGreatDoorJs2All
import Derived.Test.YtlhaaokldjdnnaaGreatDoorImgAll
namespace Go.Proofs.YtlhaaokldjdnnaaGreatDoor
open Go.RowKit
set_option linter.unusedVariables false
set_option linter.unusedSimpArgs false
set_option linter.all false

theorem told_below' {w w' : World} {B : Nat} (h : Ev.Told w) (hb : Below B w w') (hB : 1 ≤ B) : Ev.Told w' := told_same h hB fun b hb' => hb.block b hb'
theorem own_one {w : World} {g d : Nat} (h : Ev.HeadAt w g d) : Calls Tryz.prog 21 #[.agg #[.int .i64 200, .slice (some ⟨g, 0, none⟩) 1 (1 + d)]] w fun e w' => (∃ g' d', e = .returned (.agg #[.int .i64 200, .slice (some ⟨g', 0, none⟩) 1 (1 + d')]) ∧ w.heap.size ≤ g' ∧ Ev.HeadAt w' g' d') ∧ Below w.heap.size w w' := by
  have h1 : Ev.HeadAt ((w.alloc (.cells #[.int .i64 200, .slice (some ⟨g, 0, none⟩) 1 (1 + d)] 34)).alloc (.cells #[.int .i64 0, .slice none 0 0] 34)) g d := h.same ((Below.heap_alloc _ _ _ (by have := h.lt; simp; omega)).trans (Below.heap_alloc _ _ _ h.lt))
  have HC := Lib.hid (clone_one h1)
  clear h h1
  go_enter Tryz.func21, Tryz.ntmps21
  go_wp2_with fail
  have hr1 : ((w.alloc (.cells #[.int .i64 200, .slice (some ⟨g, 0, none⟩) 1 (1 + d)] 34)).alloc (.cells #[.int .i64 0, .slice none 0 0] 34)).heap[w.heap.size]? = some (.cells #[.int .i64 200, .slice (some ⟨g, 0, none⟩) 1 (1 + d)] 34 (0, 0)) := (Below.heap_alloc _ _ _ (by simp)).trans (heap_alloc_new w _)
  have hr2 : ((w.alloc (.cells #[.int .i64 200, .slice (some ⟨g, 0, none⟩) 1 (1 + d)] 34)).alloc (.cells #[.int .i64 0, .slice none 0 0] 34)).heap[w.heap.size + 1]? = some (.cells #[.int .i64 0, .slice none 0 0] 34 (0, 0)) := by
    have := heap_alloc_new (w.alloc (.cells #[.int .i64 200, .slice (some ⟨g, 0, none⟩) 1 (1 + d)] 34)) (.cells #[.int .i64 0, .slice none 0 0] 34)
    rwa [World.size_alloc] at this
  have hsz : ((w.alloc (.cells #[.int .i64 200, .slice (some ⟨g, 0, none⟩) 1 (1 + d)] 34)).alloc (.cells #[.int .i64 0, .slice none 0 0] 34)).heap.size = w.heap.size + 2 := by simp
  have HB0 := Lib.hid (((Below.refl w.heap.size w).alloc (Nat.le_refl _) (.cells #[.int .i64 200, .slice (some ⟨g, 0, none⟩) 1 (1 + d)] 34)).alloc (by simp) (.cells #[.int .i64 0, .slice none 0 0] 34))
  refine HC.out.mono ?_
  rintro e w1 ⟨⟨g', d', rfl, hg', hh⟩, hb1⟩
  rw [hsz] at hb1 hg'
  have HQ1 := Lib.hid ((hb1.block w.heap.size (by omega)).trans hr1)
  have HQ2 := Lib.hid ((hb1.block (w.heap.size + 1) (by omega)).trans hr2)
  clear HC hr1 hr2
  have c0 : w1.cell? ⟨w.heap.size, 0, none⟩ = some (.int .i64 200) := cell_of_row w1 _ 0 _ _ _ HQ1.out
  have c1 : w1.cell? ⟨w.heap.size, 1, none⟩ = some (.slice (some ⟨g, 0, none⟩) 1 (1 + d)) := cell_of_row w1 _ 1 _ _ _ HQ1.out
  have f1 := blk_frozen HQ1.out 1
  have d0 : w1.cell? ⟨w.heap.size + 1, 0, none⟩ = some (.int .i64 0) := cell_of_row w1 _ 0 _ _ _ HQ2.out
  have d1 : w1.cell? ⟨w.heap.size + 1, 1, none⟩ = some (.slice none 0 0) := cell_of_row w1 _ 1 _ _ _ HQ2.out
  have k0 := blk_frozen HQ2.out 0
  have k1 := blk_frozen HQ2.out 1
  have HB1 := Lib.hid (HB0.out.trans (hb1.mono (by omega)))
  have HH := Lib.hid hh
  have hz1 : w.heap.size + 2 ≤ w1.heap.size := by have := hb1.size; omega
  clear hb1 hh hsz
  go_wp2
  refine bodyPost_ret (v := .agg #[.int .i64 200, .slice (some ⟨g', 0, none⟩) 1 (1 + d')]) (by simp [results, Tryz.results21, go_sem, c0, c1, d0, d1]) rfl ⟨⟨g', d', rfl, by omega, ?_⟩, ?_⟩
  · refine HH.out.same ?_
    rw [Below.heap_setCell _ ⟨w.heap.size + 1, 1, none⟩ _ g' (by show g' ≠ w.heap.size + 1; omega), Below.heap_setCell _ ⟨w.heap.size + 1, 0, none⟩ _ g' (by show g' ≠ w.heap.size + 1; omega), Below.heap_setCell _ ⟨w.heap.size, 1, none⟩ _ g' (by show g' ≠ w.heap.size; omega)]
  · exact ((HB1.out.setCell (p := ⟨w.heap.size, 1, none⟩) (Nat.le_refl _) _).setCell (p := ⟨w.heap.size + 1, 0, none⟩) (by show w.heap.size ≤ w.heap.size + 1; omega) _).setCell (p := ⟨w.heap.size + 1, 1, none⟩) (by show w.heap.size ≤ w.heap.size + 1; omega) _
/-- A stream's cells. -/
def stCells (lg : Bool) (status : Int) (hd : Value) (stage : Int) (gh gl : Nat) (jv : Int) (jr : ByteArray) (ja : Int) (jm is : Bool) (came : Int) (sniffed : Bool) : Array Value :=
  #[.bool lg, .int .i64 1445, .int .i64 9, .string ⟨#[]⟩, .bool true, .bool true, .int .i64 0, .int .i64 status, hd, .bool false, .int .i64 stage, .pointer (some ⟨gh, 0, none⟩), .pointer (some ⟨gl, 0, none⟩),
    .int .i64 jv, .string jr, .int .i64 ja, .bool jm, .bool is, .int .i64 came, .int .i64 came, .bool sniffed]
def askV : Value := .agg #[.string ⟨#[]⟩, .bool true, .bool true, .int .i64 0]
structure NewR (w : World) (lg : Bool) (W : World) : Prop where
  one : W.heap[w.heap.size]? = some (.cells #[.bool lg, .int .i64 1445, .int .i64 9] 27 (0, 0))
  two : W.heap[w.heap.size + 1]? = some (.cells #[.string ⟨#[]⟩, .bool true, .bool true, .int .i64 0] 29 (0, 0))
  below : Below w.heap.size w W
  room : w.heap.size + 2 ≤ W.heap.size
theorem NewR.go {w W W' : World} {lg : Bool} (h : NewR w lg W) (hb : Below W.heap.size W W') : NewR w lg W' :=
  ⟨(hb.block _ (blk_lt h.one)).trans h.one, (hb.block _ (blk_lt h.two)).trans h.two, h.below.trans (hb.mono (by have := h.room; omega)), by have := h.room; have := hb.size; omega⟩
theorem NewR.cells {w W : World} {lg : Bool} (h : NewR w lg W) : W.cell? ⟨w.heap.size, 0, none⟩ = some (.bool lg) ∧ W.cell? ⟨w.heap.size, 1, none⟩ = some (.int .i64 1445) ∧ W.cell? ⟨w.heap.size, 2, none⟩ = some (.int .i64 9) ∧
    W.cell? ⟨w.heap.size + 1, 0, none⟩ = some (.string ⟨#[]⟩) ∧ W.cell? ⟨w.heap.size + 1, 1, none⟩ = some (.bool true) ∧ W.cell? ⟨w.heap.size + 1, 2, none⟩ = some (.bool true) ∧ W.cell? ⟨w.heap.size + 1, 3, none⟩ = some (.int .i64 0) :=
  have k := fun i => cell_of_row W _ i _ _ _ h.one
  have m := fun i => cell_of_row W _ i _ _ _ h.two
  ⟨k 0, k 1, k 2, m 0, m 1, m 2, m 3⟩
set_option maxRecDepth 100000 in
theorem sNew (lg : Bool) (w : World) (hw : Ev.Told w) (B : Nat) (hB : B ≤ w.heap.size) (hB1 : 1 ≤ B) : Calls Tryz.prog 7 #[.agg #[.bool lg, .int .i64 1445, .int .i64 9], .agg #[.string ⟨#[]⟩, .bool true, .bool true, .int .i64 0]] w fun e w' =>
    (∃ g gh q gl jb sb, e = .returned (.tuple #[.pointer (some ⟨g, 0, none⟩), .int .i64 0]) ∧ B ≤ g ∧ w'.heap[g]? = some (.cells (stCells lg 0 (.slice none 0 0) 0 gh gl 0 ⟨#[]⟩ 0 false false 0 false) 64 (0, 0)) ∧ Hol w' B gh q [] 1445 0 0 0 ∧ LexOk w' B gl jb sb 0 false) ∧ Below w.heap.size w w' := by
  have HW : Hid (∀ W, NewR w lg W → Ev.Told W) := Lib.hid fun W h => told_below' hw h.below (by have := hw.1; exact this)
  have HG : Hid (∀ w, Ev.Told w → Calls Tryz.prog 17 #[.agg #[.bool lg, .int .i64 1445, .int .i64 9]] w fun x w' => x = .returned (.bool true) ∧ Below w.heap.size w w') := Lib.hid (Ev.good_is lg)
  have HL : Hid (∀ w, Ev.Told w → Calls Tryz.prog 19 #[.agg #[.bool lg, .int .i64 1445, .int .i64 9]] w fun x w' => x = .returned (.int .i64 1445) ∧ Below w.heap.size w w') := Lib.hid (Ev.limit_is lg)
  have hr : NewR w lg ((w.alloc (.cells #[.bool lg, .int .i64 1445, .int .i64 9] 27)).alloc (.cells #[.string ⟨#[]⟩, .bool true, .bool true, .int .i64 0] 29)) := by
    refine ⟨(Below.heap_alloc _ _ _ (by simp)).trans (heap_alloc_new w _), ?_, ((Below.refl w.heap.size w).alloc (Nat.le_refl _) _).alloc (by simp) _, by simp⟩
    have := heap_alloc_new (w.alloc (.cells #[.bool lg, .int .i64 1445, .int .i64 9] 27)) (.cells #[.string ⟨#[]⟩, .bool true, .bool true, .int .i64 0] 29)
    rwa [World.size_alloc] at this
  have HR := Lib.hid hr
  clear hw hr
  go_enter Tryz.func7, Tryz.ntmps7
  go_wp2_with fail
  refine (HG.out _ (HW.out _ HR.out)).mono ?_
  rintro e w1 ⟨rfl, hb1⟩
  have HR1 := Lib.hid (HR.out.go hb1)
  obtain ⟨a0, a1, a2, a3, a4, a5, a6⟩ := HR1.out.cells
  clear hb1
  go_wp2_with fail
  refine (HL.out _ (HW.out _ HR1.out)).mono ?_
  rintro e w2 ⟨rfl, hb2⟩
  have HR2 := Lib.hid (HR1.out.go hb2)
  clear hb2 a0 a1 a2 a3 a4 a5 a6
  go_wp2_with fail
  refine (hNew_yes 1445 (by decide) B w2 (by have := HR2.out.room; omega)).mono ?_
  rintro e w3 ⟨rfl, hH, hb3⟩
  have HR3 := Lib.hid (HR2.out.go hb3)
  have HH := Lib.hid hH
  obtain ⟨a0, a1, a2, a3, a4, a5, a6⟩ := HR3.out.cells
  clear hb3 hH
  go_wp2_with fail
  refine (lx_New (B := B) w3 (by have := HR3.out.room; omega)).mono ?_
  rintro e w4 ⟨rfl, hL, hb4⟩
  have HR4 := Lib.hid (HR3.out.go hb4)
  have HH4 := Lib.hid (HH.out.below hb4)
  have HL4 := Lib.hid hL
  clear a0 a1 a2 a3 a4 a5 a6 hb4 hL
  obtain ⟨a0, a1, a2, a3, a4, a5, a6⟩ := HR4.out.cells
  go_wp2_with fail
  refine bodyPost_ret (v := .tuple #[.pointer (some ⟨w4.heap.size, 0, none⟩), .int .i64 0]) (by simp [results, Tryz.results7, go_sem]) rfl ⟨⟨w4.heap.size, w2.heap.size + 1, w2.heap.size, w3.heap.size + 2, w3.heap.size, w3.heap.size + 1, rfl, ?_, heap_alloc_new w4 _, HH4.out.below ?_, ?_⟩, ?_⟩
  all_goals have hbz := (Below.refl w4.heap.size w4).alloc (Nat.le_refl _) (.cells (stCells lg 0 (.slice none 0 0) 0 (w2.heap.size + 1) (w3.heap.size + 2) 0 ⟨#[]⟩ 0 false false 0 false) 64)
  · have := HR4.out.room; omega
  · exact hbz
  · exact HL4.out.keep (Kept.of hbz (by have := HR4.out.room; omega) []) (by simp)
  · exact HR4.out.below.trans (hbz.mono (by have := HR4.out.room; omega))
end Go.Proofs.YtlhaaokldjdnnaaGreatDoor
namespace Go.Proofs.YtlhaaokldjdnnaaGreatDoor
open Go.RowKit
set_option linter.unusedVariables false
set_option linter.unusedSimpArgs false
set_option linter.all false

theorem Hol.keep {w w' : World} {B g q : Nat} {bs : List UInt8} {most state came went : Nat} {T : List TypeId} (h : Hol w B g q bs most state came went) (hk : Kept w w' B T) (h1 : 85 ∉ T) (h2 : 101 ∉ T) (h3 : 9 ∉ T) : Hol w' B g q bs most state came went := by
  obtain ⟨out, ⟨a1, a2, a3, a4, l, A, cap, k, b1, b2, b3⟩, ho⟩ := h.que
  exact ⟨h.low, (hk.keep g _ _ _ h.blk h1).trans h.blk, ⟨out, ⟨a1, a2, a3, a4, l, A, cap, k, (hk.keep q _ _ _ b1 h2).trans b1, b2.kept hk h3, b3⟩, ho⟩, h.came_, h.went_, h.st⟩
/-- Where all lies. -/
structure Ads where
  g : Nat
  gh : Nat
  q : Nat
  gl : Nat
  jb : Nat
  sb : Nat
  g1 : Nat
  d1 : Nat
def hdV (a : Ads) : Value := .slice (some ⟨a.g1, 0, none⟩) 1 (1 + a.d1)
/-- A stream behind its head, that waits. -/
structure Sm (w : World) (B : Nat) (a : Ads) (lg : Bool) (cells : Array Value) (bs : List UInt8) (ph : Nat) : Prop where
  B1 : 1 ≤ B
  low : B ≤ a.g
  hlow : B ≤ a.g1
  told : Ev.Told w
  blk : w.heap[a.g]? = some (.cells cells 64 (0, 0))
  hold : Hol w B a.gh a.q bs 1445 0 bs.length 0
  lex : LexOk w B a.gl a.jb a.sb ph false
  head : Ev.HeadAt w a.g1 a.d1
section
variable {w w' : World} {B : Nat} {a : Ads} {lg : Bool} {cells : Array Value} {bs : List UInt8} {ph : Nat}
theorem Sm.room (h : Sm w B a lg cells bs ph) : B ≤ w.heap.size := by
  have := blk_lt h.blk
  have := h.low
  omega
theorem Sm.headKept (h : Sm w B a lg cells bs ph) (hk : Kept w w' B [31]) (hh : Ev.HeadAt w' a.g1 a.d1) : Sm w' B a lg cells bs ph :=
  ⟨h.B1, h.low, h.hlow, told_below' h.told hk.below h.B1, (hk.keep _ _ _ _ h.blk (by decide)).trans h.blk, h.hold.keep hk (by decide) (by decide) (by decide), h.lex.keep hk (by decide), hh⟩
theorem Sm.below (h : Sm w B a lg cells bs ph) (hb : Below w.heap.size w w') : Sm w' B a lg cells bs ph :=
  have hk := Kept.of hb h.room []
  ⟨h.B1, h.low, h.hlow, told_below' h.told hk.below h.B1, (hk.keep _ _ _ _ h.blk (by decide)).trans h.blk, h.hold.keep hk (by decide) (by decide) (by decide), h.lex.keep hk (by decide), h.head.kept hk (by decide)⟩
theorem Sm.kept {T : List TypeId} (h : Sm w B a lg cells bs ph) (hk : Kept w w' B T) (hT : ∀ t ∈ [64, 85, 101, 9, 109, 124, 126, 5, 31], t ∉ T) : Sm w' B a lg cells bs ph :=
  ⟨h.B1, h.low, h.hlow, told_below' h.told hk.below h.B1, (hk.keep _ _ _ _ h.blk (hT _ (by decide))).trans h.blk, h.hold.keep hk (hT _ (by decide)) (hT _ (by decide)) (hT _ (by decide)), h.lex.keep hk (fun t ht => hT t (by revert ht; simp [lxT]; rintro (rfl | rfl | rfl | rfl) <;> simp)), h.head.kept hk (hT _ (by decide))⟩
theorem Sm.set (h : Sm w B a lg cells bs ph) (i : Nat) (v : Value) : Sm (w.setCell ⟨a.g, i, none⟩ v) B a lg (cells.setIfInBounds i v) bs ph :=
  have hk : Kept w (w.setCell ⟨a.g, i, none⟩ v) B [64] := (Kept.refl w B [64]).set_ h.low h.blk (by simp) i v
  ⟨h.B1, h.low, h.hlow, told_below' h.told hk.below h.B1, blk_set h.blk i v, h.hold.keep hk (by decide) (by decide) (by decide), h.lex.keep hk (by decide), h.head.kept hk (by decide)⟩
end
/-- A judgement that is laid. -/
theorem set4 {W : World} {n B : Nat} {t : TypeId} {c0 c1 c2 c3 : Value} (h : W.heap[n]? = some (.cells #[c0, c1, c2, c3] t (0, 0))) (hB : B ≤ n) (v0 v1 v2 v3 : Value) :
    Kept W ((((W.setCell ⟨n, 0, none⟩ v0).setCell ⟨n, 1, none⟩ v1).setCell ⟨n, 2, none⟩ v2).setCell ⟨n, 3, none⟩ v3) B [t] ∧ ((((W.setCell ⟨n, 0, none⟩ v0).setCell ⟨n, 1, none⟩ v1).setCell ⟨n, 2, none⟩ v2).setCell ⟨n, 3, none⟩ v3).heap[n]? = some (.cells #[v0, v1, v2, v3] t (0, 0)) :=
  ⟨((((Kept.refl W B [t]).set_ hB h (by simp) 0 v0).set_ hB h (by simp) 1 v1).set_ hB h (by simp) 2 v2).set_ hB h (by simp) 3 v3, blk_set (blk_set (blk_set (blk_set h 0 v0) 1 v1) 2 v2) 3 v3⟩
/-- The cells of a stream that waits at this stage, all judged so far being nothing. -/
def wtCells (lg : Bool) (a : Ads) (stage : Int) (came : Nat) : Array Value := stCells lg 200 (hdV a) stage a.gh a.gl 0 ⟨#[]⟩ 0 false false came false
theorem st_cells {w : World} {g : Nat} {lg : Bool} {status : Int} {hd : Value} {stage : Int} {gh gl : Nat} {jv : Int} {jr : ByteArray} {ja : Int} {jm is : Bool} {came : Int} {sniffed : Bool} (h : w.heap[g]? = some (.cells (stCells lg status hd stage gh gl jv jr ja jm is came sniffed) 64 (0, 0))) :
    w.cell? ⟨g, 0, none⟩ = some (.bool lg) ∧ w.cell? ⟨g, 1, none⟩ = some (.int .i64 1445) ∧ w.cell? ⟨g, 2, none⟩ = some (.int .i64 9) ∧ w.cell? ⟨g, 3, none⟩ = some (.string ⟨#[]⟩) ∧ w.cell? ⟨g, 4, none⟩ = some (.bool true) ∧ w.cell? ⟨g, 5, none⟩ = some (.bool true) ∧ w.cell? ⟨g, 6, none⟩ = some (.int .i64 0) ∧
    w.cell? ⟨g, 7, none⟩ = some (.int .i64 status) ∧ w.cell? ⟨g, 8, none⟩ = some hd ∧ w.cell? ⟨g, 9, none⟩ = some (.bool false) ∧ w.cell? ⟨g, 10, none⟩ = some (.int .i64 stage) ∧ w.cell? ⟨g, 11, none⟩ = some (.pointer (some ⟨gh, 0, none⟩)) ∧ w.cell? ⟨g, 12, none⟩ = some (.pointer (some ⟨gl, 0, none⟩)) ∧
    w.cell? ⟨g, 13, none⟩ = some (.int .i64 jv) ∧ w.cell? ⟨g, 14, none⟩ = some (.string jr) ∧ w.cell? ⟨g, 15, none⟩ = some (.int .i64 ja) ∧ w.cell? ⟨g, 16, none⟩ = some (.bool jm) ∧ w.cell? ⟨g, 17, none⟩ = some (.bool is) ∧ w.cell? ⟨g, 18, none⟩ = some (.int .i64 came) ∧ w.cell? ⟨g, 19, none⟩ = some (.int .i64 came) ∧ w.cell? ⟨g, 20, none⟩ = some (.bool sniffed) :=
  have k := fun i => cell_of_row w g i _ _ _ h
  ⟨k 0, k 1, k 2, k 3, k 4, k 5, k 6, k 7, k 8, k 9, k 10, k 11, k 12, k 13, k 14, k 15, k 16, k 17, k 18, k 19, k 20⟩
theorem judge_head {w : World} {B : Nat} {a : Ads} {lg : Bool} (h : Sm w B a lg (wtCells lg a 0 0) [] 0) : Calls Tryz.prog 36 #[.pointer (some ⟨a.g, 0, none⟩), .bool false] w fun e w' =>
    e = .returned (.agg #[.int .i64 0, .string ⟨#[]⟩, .int .i64 0, .bool false]) ∧ Sm w' B a lg (wtCells lg a 0 0) [] 0 ∧ Kept w w' B [31, 62] := by
  have hb1 : Below w.heap.size w (w.alloc (.cells #[.int .i64 0, .string ⟨#[]⟩, .int .i64 0, .bool false] 62)) := (Below.refl _ _).alloc (Nat.le_refl _) _
  have HS := Lib.hid (h.below hb1)
  have HB1 := Lib.hid (Kept.of hb1 h.room [31])
  have HL := Lib.hid (hLen_any (h.below hb1).hold)
  obtain ⟨k0, k1, k2, k3, k4, k5, k6, k7, k8, k9, k10, k11, k12, k13, k14, k15, k16, k17, k18, k19, k20⟩ := st_cells (h.below hb1).blk
  have HC := Lib.hid (Ev.chead lg (h.below hb1).told (h.below hb1).head h.hlow)
  have hnew := heap_alloc_new w (.cells #[.int .i64 0, .string ⟨#[]⟩, .int .i64 0, .bool false] 62)
  have HN := Lib.hid hnew
  have HH := Lib.hid h
  have hroom := h.room
  clear h hnew hb1
  unfold hdV at k8
  go_enter Tryz.func36, Tryz.ntmps36
  go_wp2_with (first | (go_at_call 37; refine HL.out.mono ?_; rintro e _ ⟨rfl, rfl⟩))
  clear k0 k1 k2 k3 k4 k5 k6 k7 k8 k9 k10 k11 k12 k13 k14 k15 k16 k17 k18 k19 k20
  refine HC.out.mono ?_
  rintro e w1 ⟨rfl, hh, hk⟩
  have hr : w1.heap[w.heap.size]? = some (.cells #[.int .i64 0, .string ⟨#[]⟩, .int .i64 0, .bool false] 62 (0, 0)) := (hk.keep _ _ _ _ HN.out (by decide)).trans HN.out
  have c0 : w1.cell? ⟨w.heap.size, 0, none⟩ = some (.int .i64 0) := cell_of_row _ _ 0 _ _ _ hr
  have c1 : w1.cell? ⟨w.heap.size, 1, none⟩ = some (.string ⟨#[]⟩) := cell_of_row _ _ 1 _ _ _ hr
  have c2 : w1.cell? ⟨w.heap.size, 2, none⟩ = some (.int .i64 0) := cell_of_row _ _ 2 _ _ _ hr
  have c3 : w1.cell? ⟨w.heap.size, 3, none⟩ = some (.bool false) := cell_of_row _ _ 3 _ _ _ hr
  have f0 := blk_frozen hr 0
  have f1 := blk_frozen hr 1
  have f2 := blk_frozen hr 2
  have f3 := blk_frozen hr 3
  have HS1 := Lib.hid (HS.out.headKept hk hh)
  have HK := Lib.hid (HB1.out.trans hk)
  have H4 := Lib.hid (set4 (B := B) hr (by have := hroom; omega) (.int .i64 0) (.string ⟨#[]⟩) (.int .i64 0) (.bool false))
  clear hr hk hh
  go_wp2
  refine bodyPost_ret (results_cell_row Tryz.results36 _ _ w.heap.size 62 #[.int .i64 0, .string ⟨#[]⟩, .int .i64 0, .bool false] (0, 0) _ rfl H4.out.2 Tryz.underlying62 rfl (by kernel_rfl)) rfl ?_
  exact ⟨rfl, HS1.out.kept H4.out.1 (by decide), (HK.out.wide (by simp)).trans (H4.out.1.wide (by simp))⟩
end Go.Proofs.YtlhaaokldjdnnaaGreatDoor
namespace Go.Proofs.YtlhaaokldjdnnaaGreatDoor
open Go.RowKit
set_option linter.unusedVariables false
set_option linter.unusedSimpArgs false
set_option linter.all false

def waitV : Value := .agg #[.int .i64 0, .string ⟨#[]⟩, .int .i64 0, .bool false]
set_option maxRecDepth 100000 in
theorem settle_wait {w : World} {B : Nat} {a : Ads} {lg : Bool} {stage : Int} {came : Nat} {bs : List UInt8} {ph : Nat} (hn : bs.length < 1445)
    (hj : Calls Tryz.prog 36 #[.pointer (some ⟨a.g, 0, none⟩), .bool false] w fun e w' => e = .returned (.agg #[.int .i64 0, .string ⟨#[]⟩, .int .i64 0, .bool false]) ∧ Sm w' B a lg (wtCells lg a stage came) bs ph ∧ Kept w w' B [31, 62]) :
    Calls Tryz.prog 22 #[.pointer (some ⟨a.g, 0, none⟩), .bool false] w fun e w' => e = .returned (.slice none 0 0) ∧ Sm w' B a lg (wtCells lg a 1 came) bs ph ∧ Kept w w' B [31, 62, 64] := by
  have HJ := Lib.hid hj
  have hlen : ¬ (1445 : Int) ≤ (bs.length : Int) := by omega
  clear hj
  go_enter Tryz.func22, Tryz.ntmps22
  go_wp2_with fail
  refine HJ.out.mono ?_
  rintro e w1 ⟨rfl, hs, hk⟩
  have hb1 : Below w1.heap.size w1 (w1.alloc (.cells #[.int .i64 0, .string ⟨#[]⟩, .int .i64 0, .bool false] 62)) := (Below.refl _ _).alloc (Nat.le_refl _) _
  obtain ⟨k0, k1, k2, k3, k4, k5, k6, k7, k8, k9, k10, k11, k12, k13, k14, k15, k16, k17, k18, k19, k20⟩ := st_cells hs.blk
  obtain ⟨m0, m1, m2, m3, m4, m5, m6, m7, m8, m9, m10, m11, m12, m13, m14, m15, m16, m17, m18, m19, m20⟩ := st_cells (hs.below hb1).blk
  have f10 := blk_frozen hs.blk 10
  have n10 := blk_frozen (hs.below hb1).blk 10
  have hlt := blk_lt hs.blk
  have HS := Lib.hid hs
  have HK := Lib.hid hk
  have HE : Hid (Sm ((w1.setCell ⟨a.g, 10, none⟩ (.int .i64 1)).alloc (.cells #[.int .i64 0, .string ⟨#[]⟩, .int .i64 0, .bool false] 62)) B a lg (wtCells lg a 1 came) bs ph) := Lib.hid ((hs.set 10 (.int .i64 1)).below ((Below.refl _ _).alloc (Nat.le_refl _) _))
  have HL : Hid (∀ W, Sm W B a lg (wtCells lg a 1 came) bs ph → Calls Tryz.prog 37 #[.pointer (some ⟨a.gh, 0, none⟩)] W fun e w' => e = .returned (.int .i64 bs.length) ∧ W = w') := Lib.hid fun W h => hLen_any h.hold
  clear hs hk hb1 HJ k0 k1 k2 k3 k4 k5 k6 k7 k8 k9 k12 k13 k14 k15 k16 k17 k18 k19 k20 m0 m1 m2 m3 m4 m5 m6 m7 m8 m9 m12 m13 m14 m15 m16 m17 m18 m19 m20
  go_wp2_with (go_at_call 37; refine (HL.out _ HE.out).mono ?_; rintro e _ ⟨rfl, rfl⟩)
  go_ret
  refine ⟨rfl, HE.out, ?_⟩
  have h1 : Kept w1 (w1.setCell ⟨a.g, 10, none⟩ (.int .i64 1)) B [64] := (Kept.refl w1 B [64]).set_ HS.out.low HS.out.blk (by simp) 10 _
  exact ((HK.out.wide (by simp)).trans (h1.wide (by simp))).trans (Kept.of ((Below.refl _ _).alloc (Nat.le_refl _) _) (HS.out.set 10 (.int .i64 1)).room _)
end Go.Proofs.YtlhaaokldjdnnaaGreatDoor
namespace Go.Proofs.YtlhaaokldjdnnaaGreatDoor
open Go.RowKit
set_option linter.unusedVariables false
set_option linter.unusedSimpArgs false
set_option linter.all false

theorem ready_not (n : Nat) (hn : n < 1445) (w : World) : Calls Tryz.prog 50 #[.int .i64 n, .bool false] w fun e w' => e = .returned (.bool false) ∧ w = w' := by
  have h : ¬ (1445 : Int) ≤ (n : Int) := by omega
  go_enter Tryz.func50, Tryz.ntmps50
  go_wp2
  go_ret
  exact ⟨rfl, rfl⟩
theorem ready_end (n : Nat) (w : World) : Calls Tryz.prog 50 #[.int .i64 n, .bool true] w fun e w' => e = .returned (.bool true) ∧ w = w' := by
  go_enter Tryz.func50, Tryz.ntmps50
  go_wp2
  go_ret
  exact ⟨rfl, rfl⟩
set_option maxRecDepth 100000 in
theorem judge_wait {w : World} {B : Nat} {a : Ads} {lg : Bool} {came : Nat} {bs : List UInt8} {ph : Nat} (hn : bs.length < 1445) (h : Sm w B a lg (wtCells lg a 1 came) bs ph) : Calls Tryz.prog 36 #[.pointer (some ⟨a.g, 0, none⟩), .bool false] w fun e w' =>
    e = .returned (.agg #[.int .i64 0, .string ⟨#[]⟩, .int .i64 0, .bool false]) ∧ Sm w' B a lg (wtCells lg a 1 came) bs ph ∧ Kept w w' B [31, 62] := by
  have hb1 : Below w.heap.size w (w.alloc (.cells #[.int .i64 0, .string ⟨#[]⟩, .int .i64 0, .bool false] 62)) := (Below.refl _ _).alloc (Nat.le_refl _) _
  have HS := Lib.hid (h.below hb1)
  have HB1 := Lib.hid (Kept.of hb1 h.room [31])
  have HL := Lib.hid (hLen_any (h.below hb1).hold)
  have HRd := Lib.hid (ready_not bs.length hn)
  obtain ⟨k0, k1, k2, k3, k4, k5, k6, k7, k8, k9, k10, k11, k12, k13, k14, k15, k16, k17, k18, k19, k20⟩ := st_cells (h.below hb1).blk
  have hnew := heap_alloc_new w (.cells #[.int .i64 0, .string ⟨#[]⟩, .int .i64 0, .bool false] 62)
  have HN := Lib.hid hnew
  have c0 := cell_of_row _ _ 0 _ _ _ hnew
  have c1 := cell_of_row _ _ 1 _ _ _ hnew
  have c2 := cell_of_row _ _ 2 _ _ _ hnew
  have c3 := cell_of_row _ _ 3 _ _ _ hnew
  have hroom := h.room
  clear h hnew hb1 k0 k1 k2 k3 k4 k5 k6 k7 k8 k9 k12 k13 k14 k15 k16 k17 k18 k19
  go_enter Tryz.func36, Tryz.ntmps36
  go_wp2_with (first | (go_at_call 37; refine HL.out.mono ?_; rintro e _ ⟨rfl, rfl⟩) | (go_at_call 50; refine (HRd.out _).mono ?_; rintro e _ ⟨rfl, rfl⟩))
  refine bodyPost_ret (results_cell_row Tryz.results36 _ _ w.heap.size 62 #[.int .i64 0, .string ⟨#[]⟩, .int .i64 0, .bool false] (0, 0) _ rfl HN.out Tryz.underlying62 rfl (by kernel_rfl)) rfl ?_
  exact ⟨rfl, HS.out, HB1.out.wide (by simp)⟩
/-- What a call of the stream's may turn. -/
def stT : List TypeId := [31, 62, 64, 85, 101, 9, 109, 124, 126, 5]
set_option maxRecDepth 100000 in
theorem sHead {w : World} {B : Nat} {g gh q gl jb sb g0 d0 : Nat} {lg : Bool} (hB1 : 1 ≤ B) (hT : Ev.Told w) (hg : B ≤ g) (hb : w.heap[g]? = some (.cells (stCells lg 0 (.slice none 0 0) 0 gh gl 0 ⟨#[]⟩ 0 false false 0 false) 64 (0, 0))) (hH : Hol w B gh q [] 1445 0 0 0) (hL : LexOk w B gl jb sb 0 false) (hd : Ev.HeadAt w g0 d0) :
    Calls Tryz.prog 8 #[.pointer (some ⟨g, 0, none⟩), .agg #[.int .i64 200, .slice (some ⟨g0, 0, none⟩) 1 (1 + d0)], .bool false] w fun e w' => e = .returned (.tuple #[.slice none 0 0, .int .i64 0]) ∧ (∃ g1 d1, Sm w' B ⟨g, gh, q, gl, jb, sb, g1, d1⟩ lg (wtCells lg ⟨g, gh, q, gl, jb, sb, g1, d1⟩ 1 0) [] 0) ∧ Kept w w' B stT := by
  have hroom : B ≤ w.heap.size := by have := blk_lt hb; omega
  have hnil : ∀ w : World, (binOp BinOp.eql 37 (.pointer (some ⟨g, 0, none⟩)) (.pointer none)).run Tryz.prog w = .ok (.bool false) w := fun w => by kernel_rfl
  have hb1 : Below w.heap.size w (w.alloc (.cells #[.int .i64 200, .slice (some ⟨g0, 0, none⟩) 1 (1 + d0)] 34)) := (Below.refl _ _).alloc (Nat.le_refl _) _
  have hg1 := (hb1.block g (blk_lt hb)).trans hb
  have c10 : (w.alloc (.cells #[.int .i64 200, .slice (some ⟨g0, 0, none⟩) 1 (1 + d0)] 34)).cell? ⟨g, 10, none⟩ = some (.int .i64 0) := cell_of_row _ _ 10 _ _ _ hg1
  have HO := Lib.hid (own_one (hd.same (hb1.block g0 hd.lt)))
  have HB1 := Lib.hid hb1
  have HG := Lib.hid hg1
  have HT := Lib.hid hT
  have HH := Lib.hid hH
  have HL := Lib.hid hL
  clear hb1 hg1 hT hH hL hd hb
  go_enter Tryz.func8, Tryz.ntmps8
  go_wp2_with fail
  refine HO.out.mono ?_
  rintro e w1 ⟨⟨g1, d1, rfl, hlow, hh⟩, hb2⟩
  have hbb : Below w.heap.size w w1 := below_then HB1.out (Nat.le_refl _) hb2
  have hrow := (hb2.block g (blk_lt HG.out)).trans HG.out
  obtain ⟨k0, k1, k2, k3, k4, k5, k6, k7, k8, k9, k10, k11, k12, k13, k14, k15, k16, k17, k18, k19, k20⟩ := st_cells hrow
  have f7 := blk_frozen hrow 7
  have f8 := blk_frozen hrow 8
  have f9 := blk_frozen hrow 9
  have hk := Kept.of hbb hroom []
  have hs1 : Sm (((w1.setCell ⟨g, 7, none⟩ (.int .i64 200)).setCell ⟨g, 8, none⟩ (.slice (some ⟨g1, 0, none⟩) 1 (1 + d1))).setCell ⟨g, 9, none⟩ (.bool false)) B ⟨g, gh, q, gl, jb, sb, g1, d1⟩ lg (wtCells lg ⟨g, gh, q, gl, jb, sb, g1, d1⟩ 0 0) [] 0 := by
    have h0 : Sm w1 B ⟨g, gh, q, gl, jb, sb, g1, d1⟩ lg (stCells lg 0 (.slice none 0 0) 0 gh gl 0 ⟨#[]⟩ 0 false false 0 false) [] 0 :=
      ⟨hB1, hg, by have h := hlow; rw [World.size_alloc] at h; show B ≤ g1; omega, told_below' HT.out hk.below hB1, hrow, HH.out.keep hk (by simp) (by simp) (by simp), HL.out.keep hk (by simp), hh⟩
    exact ((h0.set 7 (.int .i64 200)).set 8 (.slice (some ⟨g1, 0, none⟩) 1 (1 + d1))).set 9 (.bool false)
  have HS := Lib.hid (settle_wait (by simp) (judge_head hs1))
  have HK : Hid (Kept w (((w1.setCell ⟨g, 7, none⟩ (.int .i64 200)).setCell ⟨g, 8, none⟩ (.slice (some ⟨g1, 0, none⟩) 1 (1 + d1))).setCell ⟨g, 9, none⟩ (.bool false)) B stT) := by
    have h1 : Kept w1 (((w1.setCell ⟨g, 7, none⟩ (.int .i64 200)).setCell ⟨g, 8, none⟩ (.slice (some ⟨g1, 0, none⟩) 1 (1 + d1))).setCell ⟨g, 9, none⟩ (.bool false)) B stT := (((Kept.refl w1 B stT).set_ hg hrow (by decide) 7 _).set_ hg hrow (by decide) 8 _).set_ hg hrow (by decide) 9 _
    exact Lib.hid ((hk.wide (by simp)).trans h1)
  clear hrow hh hb2 hbb hk hs1 HH HL HO HG HB1 k0 k1 k2 k3 k4 k5 k6 k10 k11 k12 k13 k14 k15 k16 k17 k18 k19 k20 c10
  go_wp2_with fail
  refine HS.out.mono ?_
  rintro e w2 ⟨rfl, hs2, hk2⟩
  have HS2 := Lib.hid hs2
  have HK2 := Lib.hid (HK.out.trans (hk2.wide (by decide)))
  clear hs2 hk2
  go_wp2
  refine bodyPost_ret (v := .tuple #[.slice none 0 0, .int .i64 0]) (by simp [results, Tryz.results8, go_sem]) rfl ⟨rfl, ⟨g1, d1, HS2.out⟩, HK2.out⟩
end Go.Proofs.YtlhaaokldjdnnaaGreatDoor
namespace Go.Proofs.YtlhaaokldjdnnaaGreatDoor
open Go.RowKit
set_option linter.unusedVariables false
set_option linter.unusedSimpArgs false
set_option linter.all false

theorem row_same {cs : Array Value} {i : Nat} {v : Value} (h : cs[i]? = some v) : cs.setIfInBounds i v = cs := by
  apply Array.ext_getElem?
  intro j
  rw [Array.getElem?_setIfInBounds]
  by_cases hj : i = j
  · subst hj
    rw [if_pos rfl, if_pos (Array.getElem?_eq_some_iff.1 h).1, h]
  · rw [if_neg hj]
theorem bytes_at (t : ByteArray) (N k : Nat) (hk : k < t.size) : (bytesRow t N)[k]? = some (.int .u8 (t[k].toNat : Int)) := by
  have h1 : k < t.data.size := hk
  rw [bytesRow, Array.getElem?_append_left (by simpa using h1), Array.getElem?_map, Array.getElem?_eq_getElem h1]
  rfl
theorem bytes_size (t : ByteArray) (N : Nat) : t.size ≤ (bytesRow t N).size := by
  simp [bytesRow]
/-- While the pattern is made. -/
structure TagR (w wr : World) (t : ByteArray) (gb gm N k : Nat) : Prop where
  ne : gb ≠ gm
  b : wr.heap[gb]? = some (.cells (bytesRow t N) 5 ((bytesRow t N).size, (bytesRow t N).size + 1))
  m : ∃ cm, wr.heap[gm]? = some (.cells cm 5 (0, 0)) ∧ cm.size = t.size ∧ ∀ j c, j < k → t.data.toList[j]? = some c → cm[j]? = some (.int .u8 ((maskB c).toNat : Int))
  r : wr.heap[w.heap.size]? = some (.cells #[.string ⟨#[]⟩, .string ⟨#[]⟩, .string ⟨#[]⟩, .string ⟨#[]⟩] 271 (0, 0))
  bel : Below w.heap.size w wr
  lb : w.heap.size < gb
  lm : w.heap.size < gm
section
variable {w wr : World} {t : ByteArray} {gb gm N k : Nat}
theorem TagR.cellB (h : TagR w wr t gb gm N k) (j : Nat) (hj : j < t.size) : wr.cell? ⟨gb, j, none⟩ = some (.int .u8 (t[j].toNat : Int)) ∧ wr.frozen? ⟨gb, j, none⟩ = false := by
  refine ⟨?_, ?_⟩
  · rw [cell_of_row _ _ _ _ _ _ h.b]
    exact bytes_at t N j hj
  · have := bytes_size t N
    have h1 : j < (bytesRow t N).size := by omega
    simp [World.frozen?, h.b]
    omega
theorem TagR.cellM (h : TagR w wr t gb gm N k) (j : Nat) (hj : j < t.size) : (∃ v, wr.cell? ⟨gm, j, none⟩ = some v) ∧ wr.frozen? ⟨gm, j, none⟩ = false := by
  obtain ⟨cm, h1, h2, _⟩ := h.m
  refine ⟨⟨cm[j]'(by omega), ?_⟩, blk_frozen h1 j⟩
  rw [cell_of_row _ _ _ _ _ _ h1]
  exact Array.getElem?_eq_getElem _
/-- The mask's next byte. -/
theorem TagR.setM (h : TagR w wr t gb gm N k) (hk : k < t.size) (z : Int) : TagR w (wr.setCell ⟨gm, k, none⟩ (.int .u8 z)) t gb gm N k ∧ (((maskB t[k]).toNat : Int) = z → TagR w (wr.setCell ⟨gm, k, none⟩ (.int .u8 z)) t gb gm N (k + 1)) := by
  obtain ⟨cm, h1, h2, h3⟩ := h.m
  have hb : (wr.setCell ⟨gm, k, none⟩ (.int .u8 z)).heap[gb]? = _ := (Below.heap_setCell wr ⟨gm, k, none⟩ (.int .u8 z) gb h.ne).trans h.b
  have hr : (wr.setCell ⟨gm, k, none⟩ (.int .u8 z)).heap[w.heap.size]? = _ := (Below.heap_setCell wr ⟨gm, k, none⟩ (.int .u8 z) w.heap.size (by have := h.lm; show _ ≠ gm; omega)).trans h.r
  have hbel : Below w.heap.size w (wr.setCell ⟨gm, k, none⟩ (.int .u8 z)) := bset h.bel (by have := h.lm; omega) k _
  refine ⟨⟨h.ne, hb, ⟨_, blk_set h1 k _, by simpa using h2, fun j c hj hc => ?_⟩, hr, hbel, h.lb, h.lm⟩, fun e => ⟨h.ne, hb, ⟨_, blk_set h1 k _, by simpa using h2, fun j c hj hc => ?_⟩, hr, hbel, h.lb, h.lm⟩⟩
  · rw [Array.getElem?_setIfInBounds, if_neg (by omega)]
    exact h3 j c hj hc
  · rw [Array.getElem?_setIfInBounds]
    by_cases hjk : k = j
    · subst hjk
      rw [if_pos rfl, if_pos (by omega)]
      have hc2 : t[k] = c := by
        rw [List.getElem?_eq_getElem (by rw [← Lib.size_eq]; exact hk), byte_at t k hk] at hc
        exact Option.some.inj hc
      rw [← hc2, e]
    · rw [if_neg hjk]
      exact h3 j c (by omega) hc
/-- The text's own byte is laid anew. -/
theorem TagR.setB (h : TagR w wr t gb gm N k) (hk : k < t.size) : TagR w (wr.setCell ⟨gb, k, none⟩ (.int .u8 (t[k].toNat : Int))) t gb gm N k := by
  obtain ⟨cm, h1, h2, h3⟩ := h.m
  have hb : (wr.setCell ⟨gb, k, none⟩ (.int .u8 (t[k].toNat : Int))).heap[gb]? = some (.cells (bytesRow t N) 5 ((bytesRow t N).size, (bytesRow t N).size + 1)) := by
    have e := row_same (bytes_at t N k hk)
    have h5 : (wr.setCell ⟨gb, k, none⟩ (.int .u8 (t[k].toNat : Int))).heap[gb]? = some (.cells ((bytesRow t N).setIfInBounds k (.int .u8 (t[k].toNat : Int))) 5 ((bytesRow t N).size, (bytesRow t N).size + 1)) := by
      simp [World.setCell, Array.getElem?_modify, h.b]
    rw [e] at h5
    exact h5
  exact ⟨h.ne, hb, ⟨cm, (Below.heap_setCell wr ⟨gb, k, none⟩ _ gm (fun e => h.ne e.symm)).trans h1, h2, h3⟩, (Below.heap_setCell wr ⟨gb, k, none⟩ _ w.heap.size (by have := h.lb; show _ ≠ gb; omega)).trans h.r, bset h.bel (by have := h.lb; omega) k _, h.lb, h.lm⟩
end
theorem and_great : ∀ n, n < 26 → UInt8.ofNat (65 + n) &&& 223 = UInt8.ofNat (65 + n) := by decide
theorem and_letter (c : UInt8) (h : 65 ≤ c.toNat ∧ c.toNat ≤ 90) : bits BinOp.and IntKind.u8 (c.toNat : Int) 223 = (c.toNat : Int) := by
  have e := u8_and_nat c.toNat (223 : UInt8).toNat (UInt8.toNat_lt c) (by decide)
  have e2 : bits BinOp.and IntKind.u8 (c.toNat : Int) (((223 : UInt8).toNat : Nat) : Int) = bits BinOp.and IntKind.u8 (c.toNat : Int) 223 := rfl
  rw [← e2, e, ← UInt8.toNat_and]
  have hc : c = UInt8.ofNat (65 + (c.toNat - 65)) := by
    rw [show 65 + (c.toNat - 65) = c.toNat by omega, UInt8.ofNat_toNat]
  have h3 := and_great (c.toNat - 65) (by omega)
  rw [← hc] at h3
  rw [h3]
theorem mkB_size (n : Nat) : (madeCells (Value.int .u8 0).cells n).size = n := by simp [madeCells]
theorem mkB_full (n : Nat) (hn : n ≤ 1000) : ∃ cz : Array Value, cz.size = n ∧ ∀ W : World, (Instr.makeSlice 69 (.int .i64 (n : Int)) (.int .i64 (n : Int))).run Tryz.prog W = .ok (.slice (some ⟨W.heap.size, 0, none⟩) n n) (W.alloc (.cells cz 5)) := by
  obtain ⟨i, hi, hz0, hz1, hz2⟩ := info_parts infoU5
  refine ⟨madeCells (Value.int .u8 0).cells n, mkB_size n, fun W => ?_⟩
  have h := run_make (P := Tryz.prog) W 69 5 i (.int .u8 0) Tryz.underlying69 hi hz0 .i64 .i64 (n : Int) (n : Int) (by omega) (by omega) (by rw [hz2]; omega) (by omega)
  rw [hz1, Nat.mul_one, Int.toNat_natCast] at h
  exact h
theorem tag_start1 (w : World) (t : ByteArray) (N : Nat) (cz : Array Value) (hz : cz.size = t.size) : TagR w ((((w.alloc (.cells #[.string ⟨#[]⟩, .string ⟨#[]⟩, .string ⟨#[]⟩, .string ⟨#[]⟩] 271)).alloc (.cells (bytesRow t N) 5 ((bytesRow t N).size, (bytesRow t N).size + 1))).alloc (.cells cz 5)).drew.drew) t (w.heap.size + 1) (w.heap.size + 1 + 1) N 0 := by
  refine ⟨by omega, ?_, ⟨cz, ?_, hz, fun j c hj => by omega⟩, ?_, Below.drew (Below.drew ((((Below.refl _ _).alloc (Nat.le_refl _) _).alloc (by simp) _).alloc (by simp; omega) _)), by omega, by omega⟩
  · refine (Below.heap_alloc _ _ _ (by simp)).trans ?_
    have := heap_alloc_new (w.alloc (.cells #[.string ⟨#[]⟩, .string ⟨#[]⟩, .string ⟨#[]⟩, .string ⟨#[]⟩] 271)) (.cells (bytesRow t N) 5 ((bytesRow t N).size, (bytesRow t N).size + 1))
    rwa [World.size_alloc] at this
  · have := heap_alloc_new ((w.alloc (.cells #[.string ⟨#[]⟩, .string ⟨#[]⟩, .string ⟨#[]⟩, .string ⟨#[]⟩] 271)).alloc (.cells (bytesRow t N) 5 ((bytesRow t N).size, (bytesRow t N).size + 1))) (.cells cz 5)
    rwa [World.size_alloc, World.size_alloc] at this
  · exact (Below.heap_alloc _ _ _ (by simp; omega)).trans ((Below.heap_alloc _ _ _ (by simp)).trans (heap_alloc_new w _))
theorem tag_start2 (w : World) (t : ByteArray) (N : Nat) (cz : Array Value) (hz : cz.size = t.size) : TagR w ((((w.alloc (.cells #[.string ⟨#[]⟩, .string ⟨#[]⟩, .string ⟨#[]⟩, .string ⟨#[]⟩] 271)).alloc (.cells cz 5)).alloc (.cells (bytesRow t N) 5 ((bytesRow t N).size, (bytesRow t N).size + 1))).drew.drew) t (w.heap.size + 1 + 1) (w.heap.size + 1) N 0 := by
  refine ⟨by omega, ?_, ⟨cz, ?_, hz, fun j c hj => by omega⟩, ?_, Below.drew (Below.drew ((((Below.refl _ _).alloc (Nat.le_refl _) _).alloc (by simp) _).alloc (by simp; omega) _)), by omega, by omega⟩
  · have := heap_alloc_new ((w.alloc (.cells #[.string ⟨#[]⟩, .string ⟨#[]⟩, .string ⟨#[]⟩, .string ⟨#[]⟩] 271)).alloc (.cells cz 5)) (.cells (bytesRow t N) 5 ((bytesRow t N).size, (bytesRow t N).size + 1))
    rwa [World.size_alloc, World.size_alloc] at this
  · refine (Below.heap_alloc _ _ _ (by simp)).trans ?_
    have := heap_alloc_new (w.alloc (.cells #[.string ⟨#[]⟩, .string ⟨#[]⟩, .string ⟨#[]⟩, .string ⟨#[]⟩] 271)) (.cells cz 5)
    rwa [World.size_alloc] at this
  · exact (Below.heap_alloc _ _ _ (by simp; omega)).trans ((Below.heap_alloc _ _ _ (by simp)).trans (heap_alloc_new w _))
set_option maxRecDepth 100000 in
set_option maxHeartbeats 2000000 in
/-- mask.Tag. -/
theorem Tag_is (t k : ByteArray) (ht : t.size ≤ 64) (hg : ∀ c ∈ t.data.toList, greatB c = true) (w : World) : Calls Tryz.prog 295 #[.string t, .string k] w fun e w' => e = .returned (patV t ⟨(t.data.toList.map maskB).toArray⟩ ⟨#[9, 10, 12, 13, 32]⟩ k) ∧ Below w.heap.size w w' := by
  have HG := Lib.hid hg
  have hl : t.data.toList.length = t.size := (Lib.size_eq t).symm
  have HL := Lib.hid hl
  have hcv : ∀ W : World, (convert 9 69 (.string t)).run Tryz.prog W = .ok (.slice (some ⟨W.heap.size, 0, none⟩) t.size (grownCap W t.size 0 5)) (W.drew.alloc (.cells (bytesRow t (grownCap W t.size 0 5)) 5 ((bytesRow t (grownCap W t.size 0 5)).size, (bytesRow t (grownCap W t.size 0 5)).size + 1))) := fun W => run_bytes_of_string W 9 69 5 t Tryz.underlying9 Tryz.underlying69 Tryz.underlying5
  obtain ⟨cz, hczs, hmk⟩ := mkB_full t.size (by omega)
  have HCZ := Lib.hid hczs
  clear hg hl hczs
  go_enter Tryz.func295, Tryz.ntmps295
  go_wp2_with fail
  go_region
  · generalize grownCap _ _ _ _ = N
    have h := tag_start1 w t N cz HCZ.out
    generalize (World.drew (World.drew (World.alloc _ _))) = W1 at h ⊢
    generalize w.heap.size + 1 + 1 = gm at h ⊢
    generalize w.heap.size + 1 = gb at h ⊢
    have H1 := Lib.hid h
    clear h hcv hmk
    go_wp2
    go_loopw [15] (fun i wr => ∃ j : Nat, i = .int .i64 j ∧ j ≤ t.size ∧ Hid (TagR w wr t gb gm N j)) (fun i _ => t.size - (intOf i).toNat)
    case atStart => exact ⟨0, rfl, Nat.zero_le _, H1⟩
    case round =>
      obtain ⟨j, rfl, hj, HT⟩ := hrel
      by_cases hlt : j < t.size
      · have i1 : (j : Int) < (t.size : Int) := by omega
        obtain ⟨⟨vm, cm0⟩, fm0⟩ := HT.out.cellM j hlt
        obtain ⟨T1, T1'⟩ := HT.out.setM hlt 255
        obtain ⟨cb1, fb1⟩ := T1.cellB j hlt
        have hgr := HG.out t[j] (by rw [← byte_at t j hlt]; exact List.getElem_mem _)
        have hg97 : t[j].toNat < 97 := of_decide_eq_true hgr
        have HLt := Lib.hid (Letter_is (t[j].toNat : Int))
        by_cases hl : 65 ≤ t[j].toNat ∧ t[j].toNat ≤ 90
        · have hlb : letB (t[j].toNat : Int) = true := by
            unfold letB greB smaB
            have h1 : decide ((65 : Int) ≤ (t[j].toNat : Int)) = true := by simp; omega
            have h2 : decide ((t[j].toNat : Int) ≤ 90) = true := by simp; omega
            rw [h1, h2]
            simp
          rw [hlb] at HLt
          have hand := and_letter t[j] hl
          have T2 := T1.setB hlt
          obtain ⟨⟨vm2, cm2⟩, fm2⟩ := T2.cellM j hlt
          have hmb : ((maskB t[j]).toNat : Int) = 223 := by unfold maskB; rw [if_pos hl]; rfl
          have H3 := Lib.hid ((T2.setM hlt 223).2 hmb)
          clear T1 T1' T2 hlb hl hg97 hgr hmb
          go_wp2_with (go_at_call 310; refine (HLt.out _).mono ?_; rintro e _ ⟨rfl, rfl⟩)
          go_roundw
          case rel => exact ⟨j + 1, by go_num, by omega, H3⟩
          case measure => simp [intOf]; omega
        · have hlb : letB (t[j].toNat : Int) = false := by
            unfold letB greB smaB
            have h1 : decide ((97 : Int) ≤ (t[j].toNat : Int)) = false := by simp; omega
            have h2 : (decide ((65 : Int) ≤ (t[j].toNat : Int)) && decide ((t[j].toNat : Int) ≤ 90)) = false := by
              rw [Bool.and_eq_false_iff]
              simp only [decide_eq_false_iff_not]
              omega
            rw [h1, h2]
            rfl
          rw [hlb] at HLt
          have hmb : ((maskB t[j]).toNat : Int) = 255 := by unfold maskB; rw [if_neg hl]; rfl
          have H3 := Lib.hid (T1' hmb)
          clear T1 T1' hlb hl hg97 hgr hmb
          go_wp2_with (go_at_call 310; refine (HLt.out _).mono ?_; rintro e _ ⟨rfl, rfl⟩)
          go_roundw
          case rel => exact ⟨j + 1, by go_num, by omega, H3⟩
          case measure => simp [intOf]; omega
      · obtain rfl : j = t.size := by omega
        have hcb : (convert 69 9 (.slice (some ⟨gb, 0, none⟩) t.size N)).run Tryz.prog wr = .ok (.string t) wr := by
          have h := run_convert_bytes_back (P := Tryz.prog) wr 69 9 5 ⟨gb, 0, none⟩ N t.data.toList Tryz.underlying69 Tryz.underlying5 Tryz.underlying9 (fun i hi => by
            rw [Addr.add_lit, Nat.zero_add]
            have hi2 : i < t.size := by rw [← HL.out]; exact hi
            rw [(HT.out.cellB i hi2).1, byte_at t i hi2])
          rw [HL.out] at h
          rw [h]
        have hcm : (convert 69 9 (.slice (some ⟨gm, 0, none⟩) t.size t.size)).run Tryz.prog wr = .ok (.string ⟨(t.data.toList.map maskB).toArray⟩) wr := by
          obtain ⟨cm, h1, h2, h3⟩ := HT.out.m
          have h := run_convert_bytes_back (P := Tryz.prog) wr 69 9 5 ⟨gm, 0, none⟩ t.size (t.data.toList.map maskB) Tryz.underlying69 Tryz.underlying5 Tryz.underlying9 (fun i hi => by
            rw [Addr.add_lit, Nat.zero_add, cell_of_row _ _ _ _ _ _ h1]
            rw [List.length_map] at hi
            rw [List.getElem_map]
            exact h3 i _ (by rw [← HL.out]; exact hi) (List.getElem?_eq_getElem hi))
          rw [List.length_map, HL.out] at h
          exact h
        have hr := HT.out.r
        have c0 := cell_of_row _ _ 0 _ _ _ hr
        have c1 := cell_of_row _ _ 1 _ _ _ hr
        have c2 := cell_of_row _ _ 2 _ _ _ hr
        have c3 := cell_of_row _ _ 3 _ _ _ hr
        have c0 : wr.cell? ⟨w.heap.size, 0, none⟩ = some (.string ⟨#[]⟩) := c0
        have c1 : wr.cell? ⟨w.heap.size, 1, none⟩ = some (.string ⟨#[]⟩) := c1
        have c2 : wr.cell? ⟨w.heap.size, 2, none⟩ = some (.string ⟨#[]⟩) := c2
        have c3 : wr.cell? ⟨w.heap.size, 3, none⟩ = some (.string ⟨#[]⟩) := c3
        have f0 := blk_frozen hr 0
        have f1 := blk_frozen hr 1
        have f2 := blk_frozen hr 2
        have f3 := blk_frozen hr 3
        have HBL := Lib.hid HT.out.bel
        obtain ⟨M, hM⟩ : ∃ M : ByteArray, ⟨(t.data.toList.map maskB).toArray⟩ = M := ⟨_, rfl⟩
        rw [hM] at hcm
        have HM := Lib.hid hM
        have H4 := Lib.hid (set4 (B := w.heap.size) hr (Nat.le_refl _) (.string t) (.string M) (.string ⟨#[9, 10, 12, 13, 32]⟩) (.string k))
        clear hr HT hM
        go_wp2
        refine bodyPost_ret (results_cell_row Tryz.results295 _ _ w.heap.size 271 #[.string t, .string M, .string ⟨#[9, 10, 12, 13, 32]⟩, .string k] (0, 0) _ rfl H4.out.2 Tryz.underlying271 rfl (by kernel_rfl)) rfl ?_
        exact ⟨by rw [HM.out], HBL.out.trans H4.out.1.below⟩
  · generalize grownCap _ _ _ _ = N
    have h := tag_start2 w t N cz HCZ.out
    generalize (World.drew (World.drew (World.alloc _ _))) = W1 at h ⊢
    generalize w.heap.size + 1 + 1 = gb at h ⊢
    generalize w.heap.size + 1 = gm at h ⊢
    have H1 := Lib.hid h
    clear h hcv hmk
    go_wp2
    go_loopw [15] (fun i wr => ∃ j : Nat, i = .int .i64 j ∧ j ≤ t.size ∧ Hid (TagR w wr t gb gm N j)) (fun i _ => t.size - (intOf i).toNat)
    case atStart => exact ⟨0, rfl, Nat.zero_le _, H1⟩
    case round =>
      obtain ⟨j, rfl, hj, HT⟩ := hrel
      by_cases hlt : j < t.size
      · have i1 : (j : Int) < (t.size : Int) := by omega
        obtain ⟨⟨vm, cm0⟩, fm0⟩ := HT.out.cellM j hlt
        obtain ⟨T1, T1'⟩ := HT.out.setM hlt 255
        obtain ⟨cb1, fb1⟩ := T1.cellB j hlt
        have hgr := HG.out t[j] (by rw [← byte_at t j hlt]; exact List.getElem_mem _)
        have hg97 : t[j].toNat < 97 := of_decide_eq_true hgr
        have HLt := Lib.hid (Letter_is (t[j].toNat : Int))
        by_cases hl : 65 ≤ t[j].toNat ∧ t[j].toNat ≤ 90
        · have hlb : letB (t[j].toNat : Int) = true := by
            unfold letB greB smaB
            have h1 : decide ((65 : Int) ≤ (t[j].toNat : Int)) = true := by simp; omega
            have h2 : decide ((t[j].toNat : Int) ≤ 90) = true := by simp; omega
            rw [h1, h2]
            simp
          rw [hlb] at HLt
          have hand := and_letter t[j] hl
          have T2 := T1.setB hlt
          obtain ⟨⟨vm2, cm2⟩, fm2⟩ := T2.cellM j hlt
          have hmb : ((maskB t[j]).toNat : Int) = 223 := by unfold maskB; rw [if_pos hl]; rfl
          have H3 := Lib.hid ((T2.setM hlt 223).2 hmb)
          clear T1 T1' T2 hlb hl hg97 hgr hmb
          go_wp2_with (go_at_call 310; refine (HLt.out _).mono ?_; rintro e _ ⟨rfl, rfl⟩)
          go_roundw
          case rel => exact ⟨j + 1, by go_num, by omega, H3⟩
          case measure => simp [intOf]; omega
        · have hlb : letB (t[j].toNat : Int) = false := by
            unfold letB greB smaB
            have h1 : decide ((97 : Int) ≤ (t[j].toNat : Int)) = false := by simp; omega
            have h2 : (decide ((65 : Int) ≤ (t[j].toNat : Int)) && decide ((t[j].toNat : Int) ≤ 90)) = false := by
              rw [Bool.and_eq_false_iff]
              simp only [decide_eq_false_iff_not]
              omega
            rw [h1, h2]
            rfl
          rw [hlb] at HLt
          have hmb : ((maskB t[j]).toNat : Int) = 255 := by unfold maskB; rw [if_neg hl]; rfl
          have H3 := Lib.hid (T1' hmb)
          clear T1 T1' hlb hl hg97 hgr hmb
          go_wp2_with (go_at_call 310; refine (HLt.out _).mono ?_; rintro e _ ⟨rfl, rfl⟩)
          go_roundw
          case rel => exact ⟨j + 1, by go_num, by omega, H3⟩
          case measure => simp [intOf]; omega
      · obtain rfl : j = t.size := by omega
        have hcb : (convert 69 9 (.slice (some ⟨gb, 0, none⟩) t.size N)).run Tryz.prog wr = .ok (.string t) wr := by
          have h := run_convert_bytes_back (P := Tryz.prog) wr 69 9 5 ⟨gb, 0, none⟩ N t.data.toList Tryz.underlying69 Tryz.underlying5 Tryz.underlying9 (fun i hi => by
            rw [Addr.add_lit, Nat.zero_add]
            have hi2 : i < t.size := by rw [← HL.out]; exact hi
            rw [(HT.out.cellB i hi2).1, byte_at t i hi2])
          rw [HL.out] at h
          rw [h]
        have hcm : (convert 69 9 (.slice (some ⟨gm, 0, none⟩) t.size t.size)).run Tryz.prog wr = .ok (.string ⟨(t.data.toList.map maskB).toArray⟩) wr := by
          obtain ⟨cm, h1, h2, h3⟩ := HT.out.m
          have h := run_convert_bytes_back (P := Tryz.prog) wr 69 9 5 ⟨gm, 0, none⟩ t.size (t.data.toList.map maskB) Tryz.underlying69 Tryz.underlying5 Tryz.underlying9 (fun i hi => by
            rw [Addr.add_lit, Nat.zero_add, cell_of_row _ _ _ _ _ _ h1]
            rw [List.length_map] at hi
            rw [List.getElem_map]
            exact h3 i _ (by rw [← HL.out]; exact hi) (List.getElem?_eq_getElem hi))
          rw [List.length_map, HL.out] at h
          exact h
        have hr := HT.out.r
        have c0 := cell_of_row _ _ 0 _ _ _ hr
        have c1 := cell_of_row _ _ 1 _ _ _ hr
        have c2 := cell_of_row _ _ 2 _ _ _ hr
        have c3 := cell_of_row _ _ 3 _ _ _ hr
        have c0 : wr.cell? ⟨w.heap.size, 0, none⟩ = some (.string ⟨#[]⟩) := c0
        have c1 : wr.cell? ⟨w.heap.size, 1, none⟩ = some (.string ⟨#[]⟩) := c1
        have c2 : wr.cell? ⟨w.heap.size, 2, none⟩ = some (.string ⟨#[]⟩) := c2
        have c3 : wr.cell? ⟨w.heap.size, 3, none⟩ = some (.string ⟨#[]⟩) := c3
        have f0 := blk_frozen hr 0
        have f1 := blk_frozen hr 1
        have f2 := blk_frozen hr 2
        have f3 := blk_frozen hr 3
        have HBL := Lib.hid HT.out.bel
        obtain ⟨M, hM⟩ : ∃ M : ByteArray, ⟨(t.data.toList.map maskB).toArray⟩ = M := ⟨_, rfl⟩
        rw [hM] at hcm
        have HM := Lib.hid hM
        have H4 := Lib.hid (set4 (B := w.heap.size) hr (Nat.le_refl _) (.string t) (.string M) (.string ⟨#[9, 10, 12, 13, 32]⟩) (.string k))
        clear hr HT hM
        go_wp2
        refine bodyPost_ret (results_cell_row Tryz.results295 _ _ w.heap.size 271 #[.string t, .string M, .string ⟨#[9, 10, 12, 13, 32]⟩, .string k] (0, 0) _ rfl H4.out.2 Tryz.underlying271 rfl (by kernel_rfl)) rfl ?_
        exact ⟨by rw [HM.out], HBL.out.trans H4.out.1.below⟩
end Go.Proofs.YtlhaaokldjdnnaaGreatDoor
namespace Go.Proofs.YtlhaaokldjdnnaaGreatDoor
open Go.RowKit
set_option linter.unusedVariables false
set_option linter.unusedSimpArgs false
set_option linter.all false
attribute [local go_sem] plus_cell

def htmlT : ByteArray := ⟨#[116, 101, 120, 116, 47, 104, 116, 109, 108]⟩
theorem tag_of {t : List UInt8} (ht : t.length < 20) (hg : ∀ c ∈ (60 :: t), greatB c = true) (w : World) : Calls Tryz.prog 295 #[.string ⟨(60 :: t).toArray⟩, .string htmlT] w fun e w' => e = .returned (patV ⟨(60 :: t).toArray⟩ ⟨((60 :: t).map maskB).toArray⟩ whiteT htmlT) ∧ Below w.heap.size w w' := by
  have h := Tag_is ⟨(60 :: t).toArray⟩ htmlT (by simp [ByteArray.size]; omega) hg w
  exact h
theorem tag_remark (w : World) : Calls Tryz.prog 295 #[.string ⟨#[60, 33, 45, 45]⟩, .string ⟨#[116, 101, 120, 116, 47, 104, 116, 109, 108]⟩] w fun e w' => e = .returned (patV ⟨#[60, 33, 45, 45]⟩ ⟨#[255, 255, 255, 255]⟩ whiteT htmlT) ∧ Below w.heap.size w w' := by
  have h := tag_of (t := [33, 45, 45]) (by decide) (by decide) w
  exact h
/-- What tagged says. -/
def taggedB (s : ByteArray) (t : List UInt8) : Bool := matchB s ⟨(60 :: t).toArray⟩ ⟨((60 :: t).map maskB).toArray⟩ whiteT && endsB s (padN s.data.toList whiteL + (t.length + 1))
set_option maxRecDepth 100000 in
set_option maxHeartbeats 2000000 in
theorem tagged_is (s : ByteArray) (hs : s.size ≤ 1000) (t : List UInt8) (ht : t ∈ tagsL) (w : World) (hw : Ev.Told w) : Calls Tryz.prog 298 #[.string s, .string ⟨t.toArray⟩] w fun e w' => e = .returned (.bool (taggedB s t)) ∧ Below w.heap.size w w' := by
  have h20 := (tags_great t ht).2.1
  have hcat : (({ data := #[60] } : ByteArray) ++ ⟨t.toArray⟩) = ⟨(60 :: t).toArray⟩ := by
    apply ByteArray.ext
    simp
  have HT := tag_of (tags_great t ht).2.1 (tags_great t ht).1 w
  unfold taggedB
  obtain ⟨T, hT⟩ : ∃ T : ByteArray, ⟨t.toArray⟩ = T := ⟨_, rfl⟩
  obtain ⟨b, hb⟩ : ∃ b : ByteArray, ⟨(60 :: t).toArray⟩ = b := ⟨_, rfl⟩
  obtain ⟨m, hm⟩ : ∃ m : ByteArray, ⟨((60 :: t).map maskB).toArray⟩ = m := ⟨_, rfl⟩
  have hTs : T.size = t.length := by rw [← hT]; simp [ByteArray.size]
  have hso1 : ¬ (9223372036854775807 < 1 + T.size) := by omega
  have hso2 : ¬ (9223372036854775807 < ({ data := #[60] } : ByteArray).size + T.size) := by
    have : (⟨#[60]⟩ : ByteArray).size = 1 := rfl
    omega
  clear hTs
  have hbs : (b.size : Int) = ((t.length + 1 : Nat) : Int) := by rw [← hb]; simp [ByteArray.size]
  rw [hT, hb] at hcat
  rw [hb, hm] at HT
  rw [hT, hb, hm]
  have HT : Hid (Calls Tryz.prog 295 #[.string b, .string ⟨#[116, 101, 120, 116, 47, 104, 116, 109, 108]⟩] w fun e w' => e = .returned (patV b m whiteT htmlT) ∧ Below w.heap.size w w') := Lib.hid HT
  clear hT hb hm
  obtain ⟨L, hL⟩ : ∃ L, padN s.data.toList whiteL = L := ⟨_, rfl⟩
  have hLs : L ≤ s.size := by rw [← hL, Lib.size_eq]; exact padN_le _ _
  have hwr : IntKind.i64.wrap ((L : Int) + (b.size : Int)) = ((L + (t.length + 1) : Nat) : Int) := by rw [IntKind.wrap_i64]; omega
  obtain ⟨N, hN⟩ : ∃ N, L + (t.length + 1) = N := ⟨_, rfl⟩
  rw [hN] at hwr
  rw [hL, hN]
  clear hbs hLs h20 hN
  obtain ⟨x, hx⟩ : ∃ x, matchB s b m whiteT = x := ⟨_, rfl⟩
  rw [hx]
  have HX := Lib.hid hx
  have HLL : Hid (padN s.data.toList whiteT.data.toList = L) := Lib.hid hL
  clear hx hL
  cases x
  all_goals
    go_enter Tryz.func298, Tryz.ntmps298
    go_wp2_with (go_at_call 295; refine HT.out.mono ?_; rintro e w1 ⟨rfl, hb1⟩; have HB1 := Lib.hid hb1; clear hb1)
    have HM : Hid (∀ X, Calls Tryz.prog 294 #[.string s, patV b m whiteT htmlT] (plus (w1.alloc (.cells #[.string b, .string m, .string whiteT, .string htmlT] 271)) X) fun e w' => e = .returned (.bool (matchB s b m whiteT)) ∧ Below (plus (w1.alloc (.cells #[.string b, .string m, .string whiteT, .string htmlT] 271)) X).heap.size (plus (w1.alloc (.cells #[.string b, .string m, .string whiteT, .string htmlT] 271)) X) w') := Lib.hid fun X => Match_is s b m whiteT htmlT _ (by omega)
    have HBg : Hid (∀ X, Calls Tryz.prog 354 #[.string s, patV b m whiteT htmlT] (plus (w1.alloc (.cells #[.string b, .string m, .string whiteT, .string htmlT] 271)) X) fun e w' => e = .returned (.int .i64 (L : Int)) ∧ Below (plus (w1.alloc (.cells #[.string b, .string m, .string whiteT, .string htmlT] 271)) X).heap.size (plus (w1.alloc (.cells #[.string b, .string m, .string whiteT, .string htmlT] 271)) X) w') := Lib.hid fun X => by
      have h := Begins_is s b m whiteT htmlT (plus (w1.alloc (.cells #[.string b, .string m, .string whiteT, .string htmlT] 271)) X) (by omega)
      rw [HLL.out] at h
      exact h
    have HE : Hid (∀ X, Calls Tryz.prog 353 #[.string s, .int .i64 (N : Int)] (plus (w1.alloc (.cells #[.string b, .string m, .string whiteT, .string htmlT] 271)) X) fun e w' => e = .returned (.bool (endsB s N)) ∧ plus (w1.alloc (.cells #[.string b, .string m, .string whiteT, .string htmlT] 271)) X = w') := Lib.hid fun X => ends_is s N _
    rw [HX.out] at HM
    have c0 : (w1.alloc (.cells #[.string b, .string m, .string whiteT, .string htmlT] 271)).cell? ⟨w1.heap.size, 0, none⟩ = some (.string b) := by rw [World.cell?_alloc_new]; rfl
    have c1 : (w1.alloc (.cells #[.string b, .string m, .string whiteT, .string htmlT] 271)).cell? ⟨w1.heap.size, 1, none⟩ = some (.string m) := by rw [World.cell?_alloc_new]; rfl
    have c2 : (w1.alloc (.cells #[.string b, .string m, .string whiteT, .string htmlT] 271)).cell? ⟨w1.heap.size, 2, none⟩ = some (.string whiteT) := by rw [World.cell?_alloc_new]; rfl
    have c3 : (w1.alloc (.cells #[.string b, .string m, .string whiteT, .string htmlT] 271)).cell? ⟨w1.heap.size, 3, none⟩ = some (.string htmlT) := by rw [World.cell?_alloc_new]; rfl
    have HBW : Hid (Below w.heap.size w (w1.alloc (.cells #[.string b, .string m, .string whiteT, .string htmlT] 271))) := Lib.hid (below_then HB1.out (Nat.le_refl _) ((Below.refl _ _).alloc (Nat.le_refl _) _))
    refine wp_region_plus (by kernel_rfl) (by kernel_rfl) ?_
    repeat (first | go_big_quiet_skip | (go_big_quiet_want; go_big_quiet_op; first | go_big_quiet_on | (apply Exists.intro; refine ⟨fun _ => ?_, ?_⟩; (focus (first | (go_at_call 294; with_reducible exact plus_call (HM.out _)) | (go_at_call 354; with_reducible exact plus_call (HBg.out _)) | (go_at_call 353; with_reducible exact plus_same (HE.out _)))); go_big_quiet_on)))
    refine wpQuiet_nil ?_
    rintro _ ⟨X, rfl⟩
    go_wp2
    go_ret
    exact ⟨ret_bool (by simp), below_then HBW.out (Nat.le_refl _) (plus_below _ X)⟩
theorem clos_is (s : ByteArray) (hs : s.size ≤ 1000) (t : List UInt8) (ht : t ∈ tagsL) (p : Addr) (w : World) (hw : Ev.Told w) (hp : w.cell? p = some (.string s)) : Calls Tryz.prog 297 #[.string ⟨t.toArray⟩, .pointer (some p)] w fun e w' => e = .returned (.bool (taggedB s t)) ∧ Below w.heap.size w w' := by
  have H := Lib.hid (tagged_is s hs t ht w hw)
  clear hw
  go_enter Tryz.func297, Tryz.ntmps297
  go_wp2_with (go_at_call 298; refine H.out.mono ?_; rintro e w1 ⟨rfl, hb1⟩; have HB := Lib.hid hb1; clear hb1)
  go_ret
  exact ⟨rfl, HB.out⟩
theorem tagged_yes {s : ByteArray} {t : List UInt8} (ht : t ∈ tagsL) (h : TagFit (skipL s.data.toList) t) : taggedB s t = true := by
  unfold taggedB
  rw [tag_match ht h, Bool.true_and]
  obtain ⟨hk, he⟩ := tag_end h
  unfold endsB
  rw [dif_pos hk]
  rcases he with e | e <;> rw [e] <;> decide
end Go.Proofs.YtlhaaokldjdnnaaGreatDoor
