/-
  Parts, one behind the other: Layer 38 (stream): what is blocked at the end is settled: one thing is told. No condition but that the tables lie as they were laid. | Layer 38 (stream): the end of what is blocked. No condition but that the tables lie as they were laid.
-/
import Derived.Test.YtlhaaokldjdnnaaGreatDoorSt7All
namespace Go.Proofs.YtlhaaokldjdnnaaGreatDoor
open Go.RowKit
set_option linter.unusedVariables false
set_option linter.unusedSimpArgs false
set_option linter.all false

set_option maxRecDepth 100000 in
set_option maxHeartbeats 4000000 in
theorem settle_block {w : World} {B : Nat} {a : Ads} {lg sn : Bool} {came : Nat} {bs : List UInt8}
    (hj : Calls Tryz.prog 36 #[.pointer (some ⟨a.g, 0, none⟩), .bool true] w fun e w' => (∃ r p, e = .returned (.agg #[.int .i64 2, .string r, .int .i64 p, .bool false])) ∧ Sw w' B a (stCells lg 200 (hdV a) 1 a.gh a.gl 0 ⟨#[]⟩ 0 false false came sn) bs ∧ Kept w w' B stT) :
    Calls Tryz.prog 22 #[.pointer (some ⟨a.g, 0, none⟩), .bool true] w fun e w' => (∃ n r, e = .returned (.slice (some ⟨n, 0, none⟩) 1 1) ∧ w'.heap[n]? = some (.cells #[.int .i64 4, .int .i64 0, .int .i64 0, .slice none 0 0, .string ⟨#[]⟩, .string r] 47 (0, 0))) ∧ (∃ c, w'.heap[a.g]? = some (.cells c 64 (0, 0)) ∧ c[10]? = some (.int .i64 4)) ∧ B ≤ a.g ∧ Kept w w' B stT := by
  have HJ := Lib.hid hj
  clear hj
  go_enter Tryz.func22, Tryz.ntmps22
  go_wp2_with fail
  refine HJ.out.mono ?_
  rintro e w1 ⟨⟨r, p, rfl⟩, hs, hk⟩
  have hb1 : Below w1.heap.size w1 (w1.alloc (.cells #[.int .i64 2, .string r, .int .i64 p, .bool false] 62)) := (Below.refl _ _).alloc (Nat.le_refl _) _
  have hs2 := hs.below hb1
  obtain ⟨m0, m1, m2, m3, m4, m5, m6, m7, m8, m9, m10, m11, m12, m13, m14, m15, m16, m17, m18, m19, m20⟩ := st_cells hs2.blk
  have n10 := blk_frozen hs2.blk 10
  have n13 := blk_frozen hs2.blk 13
  have n14 := blk_frozen hs2.blk 14
  have n15 := blk_frozen hs2.blk 15
  have n16 := blk_frozen hs2.blk 16
  have n17 := blk_frozen hs2.blk 17
  have hne : a.g ≠ w1.heap.size := by have := blk_lt hs.blk; omega
  have hr5 : (w1.alloc (.cells #[.int .i64 2, .string r, .int .i64 p, .bool false] 62)).heap[w1.heap.size]? = some (.cells #[.int .i64 2, .string r, .int .i64 p, .bool false] 62 (0, 0)) := heap_alloc_new w1 _
  have HS := Lib.hid hs
  have HK := Lib.hid hk
  have HS2 := Lib.hid hs2
  have HR5 := Lib.hid hr5
  clear hs hk hb1 hs2 HJ hr5 m0 m1 m2 m3 m4 m5 m6 m7 m8 m9 m12 m18 m19 m20
  go_wp2_with fail
  have HS3 := Lib.hid ((((((HS2.out.set 13 (.int .i64 2)).set 14 (.string r)).set 15 (.int .i64 p)).set 16 (.bool false)).set 17 (.bool true)).set 10 (.int .i64 4))
  have hlow := HS2.out.low
  have HK3 := Lib.hid ((((((Kept.refl _ B [64]).set_ hlow HS2.out.blk (by simp) 13 (.int .i64 2)).set_ hlow HS2.out.blk (by simp) 14 (.string r)).set_ hlow HS2.out.blk (by simp) 15 (.int .i64 p)).set_ hlow HS2.out.blk (by simp) 16 (.bool false)).set_ hlow HS2.out.blk (by simp) 17 (.bool true) |>.set_ hlow HS2.out.blk (by simp) 10 (.int .i64 4))
  have HR3 := Lib.hid ((HK3.out.keep _ _ _ _ HR5.out (by decide)).trans HR5.out)
  have HK03 : Hid (Kept w _ B stT) := Lib.hid ((HK.out.trans (Kept.of ((Below.refl _ _).alloc (Nat.le_refl _) _) HS.out.room stT)).trans (HK3.out.wide (by decide)))
  refine (Shut_yes HS3.out.hold (by decide) HS3.out.room).mono ?_
  rintro e w2 ⟨rfl, hh2, hk2⟩
  have hr := (hk2.keep _ _ _ _ HR3.out (by decide)).trans HR3.out
  have c1 : w2.cell? ⟨w1.heap.size, 1, none⟩ = some (.string r) := cell_of_row _ _ 1 _ _ _ hr
  have HB2 := Lib.hid ((hk2.keep _ _ _ _ HS3.out.blk (by decide)).trans HS3.out.blk)
  have HK2 := Lib.hid (HK03.out.trans (hk2.wide (by decide)))
  clear hr hh2 hk2
  go_wp2
  go_ret
  refine ⟨⟨w2.heap.size, r, rfl, heap_alloc_new w2 _⟩, ⟨_, (Below.heap_alloc _ _ _ (blk_lt HB2.out)).trans HB2.out, rfl⟩, hlow, HK2.out.trans (Kept.of ((Below.refl _ _).alloc (Nat.le_refl _) _) ?_ _)⟩
  have := blk_lt HB2.out
  omega
end Go.Proofs.YtlhaaokldjdnnaaGreatDoor
namespace Go.Proofs.YtlhaaokldjdnnaaGreatDoor
open Go.RowKit
set_option linter.unusedVariables false
set_option linter.unusedSimpArgs false
set_option linter.all false

/-- One thing is told: a block. -/
def BlockRow (w : World) (n : Nat) (r : ByteArray) : Prop := w.heap[n]? = some (.cells #[.int .i64 4, .int .i64 0, .int .i64 0, .slice none 0 0, .string ⟨#[]⟩, .string r] 47 (0, 0))
set_option maxRecDepth 100000 in
theorem sEnd_block {w : World} {B : Nat} {a : Ads} {lg : Bool} {came : Nat} {bs : List UInt8} {ph : Nat} (h : Sm w B a lg (wtCells lg a 1 came) bs ph)
    (hs : Calls Tryz.prog 22 #[.pointer (some ⟨a.g, 0, none⟩), .bool true] w fun e w' => (∃ n r, e = .returned (.slice (some ⟨n, 0, none⟩) 1 1) ∧ w'.heap[n]? = some (.cells #[.int .i64 4, .int .i64 0, .int .i64 0, .slice none 0 0, .string ⟨#[]⟩, .string r] 47 (0, 0))) ∧ (∃ c, w'.heap[a.g]? = some (.cells c 64 (0, 0)) ∧ c[10]? = some (.int .i64 4)) ∧ B ≤ a.g ∧ Kept w w' B stT) :
    Calls Tryz.prog 10 #[.pointer (some ⟨a.g, 0, none⟩)] w fun e w' => (∃ n r, e = .returned (.tuple #[.slice (some ⟨n, 0, none⟩) 1 1, .int .i64 0]) ∧ BlockRow w' n r) ∧ Kept w w' B stT := by
  have hnil : ∀ w : World, (binOp BinOp.eql 37 (.pointer (some ⟨a.g, 0, none⟩)) (.pointer none)).run Tryz.prog w = .ok (.bool false) w := fun w => by kernel_rfl
  have HO := Lib.hid (sOpen h)
  have HW := Lib.hid (sWaits h)
  have HS := Lib.hid hs
  clear h hs
  go_enter Tryz.func10, Tryz.ntmps10
  go_wp2_with (first
    | (go_at_call 23; refine HO.out.mono ?_; rintro e _ ⟨rfl, rfl⟩)
    | (go_at_call 25; refine HW.out.mono ?_; rintro e _ ⟨rfl, rfl⟩))
  refine HS.out.mono ?_
  rintro e w1 ⟨⟨n, r, rfl, hn⟩, ⟨c, hc, hc10⟩, hlow, hk⟩
  have k10 : w1.cell? ⟨a.g, 10, none⟩ = some (.int .i64 4) := (cell_of_row _ _ 10 _ _ _ hc).trans hc10
  have f10 := blk_frozen hc 10
  have hne : n ≠ a.g := by
    intro e
    rw [e, hc] at hn
    injection hn with hn
    injection hn with _ ht
    exact absurd ht (by decide)
  have HN : Hid (BlockRow (w1.setCell ⟨a.g, 10, none⟩ (.int .i64 5)) n r) := Lib.hid ((Below.heap_setCell w1 ⟨a.g, 10, none⟩ _ n hne).trans hn)
  have HK := Lib.hid (hk.trans ((Kept.refl w1 B stT).set_ hlow hc (by decide) 10 (.int .i64 5)))
  clear hn hc hc10 hk HS HO HW
  go_wp2
  refine bodyPost_ret (v := .tuple #[.slice (some ⟨n, 0, none⟩) 1 1, .int .i64 0]) (by simp [results, Tryz.results10, go_sem]) rfl ⟨⟨n, r, rfl, HN.out⟩, HK.out⟩
end Go.Proofs.YtlhaaokldjdnnaaGreatDoor
