/-
  Parts, one behind the other: Layer 38 (stream): a piece of the body comes: nothing is told. No condition but that the tables lie as they were laid. | Layer 33 (orbsniff): the first bytes of a plain text do not decide. No condition but that the tables lie as they were laid. | Layer 36 (classify): the first bytes of a plain text do not decide by the new rules. No condition but that the tables lie as they were laid. | Layer 38 (stream): the end: what the lexer says. No condition but that the tables lie as they were laid.
-/
import Derived.Test.YtlhaaokldjdnnaaGreatDoorSt6
import Derived.StillTailTactics
namespace Go.Proofs.YtlhaaokldjdnnaaGreatDoor
open Go.RowKit
set_option linter.unusedVariables false
set_option linter.unusedSimpArgs false
set_option linter.all false

section
variable {w : World} {B : Nat} {a : Ads} {lg : Bool} {came : Nat} {bs : List UInt8} {ph : Nat}
set_option maxRecDepth 100000 in
set_option maxHeartbeats 1000000 in
theorem sChunk (h : Sm w B a lg (wtCells lg a 1 came) bs ph) (b : ByteArray) (hc : came ≤ 1000) (hs : bs.length + b.size ≤ 1000) (h5 : ph ≤ 5)
    (hok : lg = false → ∀ (k : Nat) (hk : k < b.size), runPh ph (b.data.toList.take k) = 0 → padB (b[k].toNat : Int) = true ∨ (b[k].toNat : Int) = 60) :
    Calls Tryz.prog 24 #[.pointer (some ⟨a.g, 0, none⟩), .string b] w fun e w' => e = .returned (.slice none 0 0) ∧ Sm w' B a lg (wtCells lg a 1 (came + b.size)) (bs ++ b.data.toList) (phOf lg ph b.data.toList) ∧ Kept w w' B stT := by
  have hw : IntKind.i64.wrap ((came : Int) + (b.size : Int)) = (came : Int) + (b.size : Int) := IntWalk.i64_in _ (by omega)
  obtain ⟨k0, k1, k2, k3, k4, k5, k6, k7, k8, k9, k10, k11, k12, k13, k14, k15, k16, k17, k18, k19, k20⟩ := st_cells h.blk
  have f18 := blk_frozen h.blk 18
  have f19 := blk_frozen h.blk 19
  have hset : ((wtCells lg a 1 came).setIfInBounds 18 (.int .i64 ((came : Int) + (b.size : Int)))).setIfInBounds 19 (.int .i64 ((came : Int) + (b.size : Int))) = wtCells lg a 1 (came + b.size) := by
    have e : (came : Int) + (b.size : Int) = ((came + b.size : Nat) : Int) := by omega
    rw [e]
    rfl
  have h2 := (h.set 18 (.int .i64 ((came : Int) + (b.size : Int)))).set 19 (.int .i64 ((came : Int) + (b.size : Int)))
  rw [hset] at h2
  have hk2 : Kept w ((w.setCell ⟨a.g, 18, none⟩ (.int .i64 ((came : Int) + (b.size : Int)))).setCell ⟨a.g, 19, none⟩ (.int .i64 ((came : Int) + (b.size : Int)))) B stT := ((Kept.refl w B stT).set_ h.low h.blk (by decide) 18 _).set_ h.low h.blk (by decide) 19 _
  have HK2 := Lib.hid hk2
  have HW := Lib.hid (sWaits h2)
  have HL := Lib.hid (sLook rfl h2 b hs h5 hok)
  have hlen : (bs ++ b.data.toList).length < 1445 := by rw [List.length_append, ← Lib.size_eq b]; omega
  have HLEN := Lib.hid hlen
  clear h h2 hk2 hok hset hlen k0 k1 k2 k3 k4 k5 k6 k7 k8 k9 k10 k11 k12 k13 k14 k15 k16 k17 k20
  go_enter Tryz.func24, Tryz.ntmps24
  go_wp2_with fail
  refine HW.out.mono ?_
  rintro e _ ⟨rfl, rfl⟩
  go_wp2_with fail
  refine HL.out.mono ?_
  rintro e w1 ⟨rfl, hs1, hk1⟩
  have HS := Lib.hid (settle_wait HLEN.out (judge_wait HLEN.out hs1))
  have HK1 := Lib.hid (HK2.out.trans hk1)
  clear hs1 hk1 HW HL HK2
  go_wp2_with fail
  refine HS.out.mono ?_
  rintro e w3 ⟨rfl, hs3, hk3⟩
  have c10 : w3.cell? ⟨a.g, 10, none⟩ = some (.int .i64 1) := cell_of_row _ _ 10 _ _ _ hs3.blk
  have HS3 := Lib.hid hs3
  have HK3 := Lib.hid (HK1.out.trans (hk3.wide (by decide)))
  clear hs3 hk3 HS HK1
  go_wp2
  go_ret
  exact ⟨rfl, HS3.out, HK3.out⟩
theorem sChunkAll (h : Sm w B a lg (wtCells lg a 1 came) bs ph) (b : ByteArray) (hc : came ≤ 1000) (hs : bs.length + b.size ≤ 1000) (h5 : ph ≤ 5)
    (hok : lg = false → ∀ (k : Nat) (hk : k < b.size), runPh ph (b.data.toList.take k) = 0 → padB (b[k].toNat : Int) = true ∨ (b[k].toNat : Int) = 60) :
    Calls Tryz.prog 9 #[.pointer (some ⟨a.g, 0, none⟩), .string b] w fun e w' => e = .returned (.tuple #[.slice none 0 0, .int .i64 0]) ∧ Sm w' B a lg (wtCells lg a 1 (came + b.size)) (bs ++ b.data.toList) (phOf lg ph b.data.toList) ∧ Kept w w' B stT := by
  have HO := Lib.hid (sOpen h)
  have HC := Lib.hid (sChunk h b hc hs h5 hok)
  have hnil : ∀ w : World, (binOp BinOp.eql 37 (.pointer (some ⟨a.g, 0, none⟩)) (.pointer none)).run Tryz.prog w = .ok (.bool false) w := fun w => by kernel_rfl
  clear h hok
  go_enter Tryz.func9, Tryz.ntmps9
  go_wp2_with (first
    | (go_at_call 23; refine HO.out.mono ?_; rintro e _ ⟨rfl, rfl⟩)
    | (go_at_call 24; refine HC.out.mono ?_; rintro e w1 ⟨rfl, hs1, hk1⟩; have HS1 := Lib.hid hs1; have HK1 := Lib.hid hk1; clear hs1 hk1))
  refine bodyPost_ret (v := .tuple #[.slice none 0 0, .int .i64 0]) (by simp [results, Tryz.results9, go_sem]) rfl ⟨rfl, HS1.out, HK1.out⟩
end
end Go.Proofs.YtlhaaokldjdnnaaGreatDoor
namespace Go.Proofs.YtlhaaokldjdnnaaGreatDoor
open Go.RowKit
set_option linter.unusedVariables false
set_option linter.unusedSimpArgs false
set_option linter.all false

theorem okind_none {s : ByteArray} (h : Plain s) (w : World) (hw : Ev.Told w) : Calls Tryz.prog 171 #[.string s] w fun e w' => e = .returned (.tuple #[.string .empty, .bool false]) ∧ Below w.heap.size w w' := by
  have HM := Lib.hid (Media_none h w hw)
  have HI := Lib.hid (fun w hw => Image_none h w hw)
  have HW := Lib.hid hw
  clear h hw
  go_enter Tryz.func171, Tryz.ntmps171
  go_wp2_with (first
    | (go_at_call 226; refine HM.out.mono ?_; rintro e w1 ⟨rfl, hb1⟩; have HT1 := Lib.hid (told_below HW.out hb1); have HB1 := Lib.hid hb1; clear hb1)
    | (go_at_call 227; refine (HI.out _ HT1.out).mono ?_; rintro e w2 ⟨rfl, hb2⟩; have HB2 := Lib.hid (below_then HB1.out (Nat.le_refl _) hb2); clear hb2))
  refine bodyPost_ret (v := .tuple #[.string .empty, .bool false]) (by simp [results, Tryz.results171, go_sem]) rfl ⟨rfl, HB2.out⟩
structure JdR (w W : World) (B g d : Nat) : Prop where
  ask : W.heap[w.heap.size]? = some (.cells #[.string ⟨#[]⟩, .bool true, .bool true, .int .i64 0] 29 (0, 0))
  rep : W.heap[w.heap.size + 1]? = some (.cells #[.int .i64 200, .slice (some ⟨g, 0, none⟩) 1 (1 + d)] 34 (0, 0))
  told : Ev.Told W
  head : Ev.HeadAt W g d
  kept : Kept w W B [31]
  B1 : 1 ≤ B
  low : B ≤ g
section
variable {w W W' : World} {B g d : Nat}
theorem JdR.go (h : JdR w W B g d) (hk : Kept W W' B [31]) (hh : Ev.HeadAt W' g d) : JdR w W' B g d :=
  ⟨(hk.keep _ _ _ _ h.ask (by decide)).trans h.ask, (hk.keep _ _ _ _ h.rep (by decide)).trans h.rep, told_below' h.told hk.below h.B1, hh, h.kept.trans hk, h.B1, h.low⟩
theorem JdR.room (h : JdR w W B g d) : B ≤ W.heap.size := by
  have := h.head.lt
  have := h.low
  omega
theorem JdR.below (h : JdR w W B g d) (hb : Below W.heap.size W W') : JdR w W' B g d := h.go (Kept.of hb h.room [31]) (h.head.same (hb.block g h.head.lt))
theorem JdR.cells (h : JdR w W B g d) : W.cell? ⟨w.heap.size, 3, none⟩ = some (.int .i64 0) ∧ W.cell? ⟨w.heap.size + 1, 0, none⟩ = some (.int .i64 200) ∧ W.cell? ⟨w.heap.size + 1, 1, none⟩ = some (.slice (some ⟨g, 0, none⟩) 1 (1 + d)) :=
  ⟨cell_of_row _ _ 3 _ _ _ h.ask, cell_of_row _ _ 0 _ _ _ h.rep, cell_of_row _ _ 1 _ _ _ h.rep⟩
end
def SaidRow (W : World) (n : Nat) : Prop := W.heap[n]? = some (.cells #[.string ⟨#[116, 101, 120, 116]⟩, .string ⟨#[104, 116, 109, 108]⟩, .slice none 0 0, .bool true, .bool false, .bool false] 166 (0, 0))
theorem SaidRow.kept {W W' : World} {n B : Nat} (h : SaidRow W n) (hk : Kept W W' B [31]) : SaidRow W' n := (hk.keep _ _ _ _ h (by decide)).trans h
theorem SaidRow.cells {W : World} {n : Nat} (h : SaidRow W n) : W.cell? ⟨n, 0, none⟩ = some (.string ⟨#[116, 101, 120, 116]⟩) ∧ W.cell? ⟨n, 1, none⟩ = some (.string ⟨#[104, 116, 109, 108]⟩) ∧ W.cell? ⟨n, 2, none⟩ = some (.slice none 0 0) ∧ W.cell? ⟨n, 3, none⟩ = some (.bool true) ∧ W.cell? ⟨n, 4, none⟩ = some (.bool false) ∧ W.cell? ⟨n, 5, none⟩ = some (.bool false) :=
  have k := fun i => cell_of_row W n i _ _ _ h
  ⟨k 0, k 1, k 2, k 3, k 4, k 5⟩
set_option maxRecDepth 100000 in
set_option maxHeartbeats 1000000 in
theorem ojudge_wait {s : ByteArray} (h : Plain s) {w : World} {B g d : Nat} (hB1 : 1 ≤ B) (hlow : B ≤ g) (hw : Ev.Told w) (hh : Ev.HeadAt w g d) :
    Calls Tryz.prog 124 #[.agg #[.string ⟨#[]⟩, .bool true, .bool true, .int .i64 0], .agg #[.int .i64 200, .slice (some ⟨g, 0, none⟩) 1 (1 + d)], .string s] w fun e w' => e = .returned (.tuple #[.int .i64 0, .string ⟨#[]⟩]) ∧ Ev.HeadAt w' g d ∧ Kept w w' B [31] := by
  have hb0 : Below w.heap.size w ((w.alloc (.cells #[.string ⟨#[]⟩, .bool true, .bool true, .int .i64 0] 29)).alloc (.cells #[.int .i64 200, .slice (some ⟨g, 0, none⟩) 1 (1 + d)] 34)) := ((Below.refl _ _).alloc (Nat.le_refl _) _).alloc (by simp) _
  have hroom : B ≤ w.heap.size := by have := hh.lt; omega
  have hJ : JdR w ((w.alloc (.cells #[.string ⟨#[]⟩, .bool true, .bool true, .int .i64 0] 29)).alloc (.cells #[.int .i64 200, .slice (some ⟨g, 0, none⟩) 1 (1 + d)] 34)) B g d := by
    refine ⟨(Below.heap_alloc _ _ _ (by simp)).trans (heap_alloc_new w _), ?_, told_below hw hb0, hh.same (hb0.block g hh.lt), Kept.of hb0 hroom _, hB1, hlow⟩
    have := heap_alloc_new (w.alloc (.cells #[.string ⟨#[]⟩, .bool true, .bool true, .int .i64 0] 29)) (.cells #[.int .i64 200, .slice (some ⟨g, 0, none⟩) 1 (1 + d)] 34)
    rwa [World.size_alloc] at this
  have HJ := Lib.hid hJ
  have HK := Lib.hid (fun w hw => okind_none h w hw)
  clear h hw hh hb0 hJ
  go_enter Tryz.func124, Tryz.ntmps124
  go_wp2_with fail
  refine (Ev.csaid HJ.out.told HJ.out.head HJ.out.low).mono ?_
  rintro e w1 ⟨rfl, hh1, hk1⟩
  have hJ1 := HJ.out.go hk1 hh1
  have hb1 : Below w1.heap.size w1 (w1.alloc (.cells #[.string ⟨#[116, 101, 120, 116]⟩, .string ⟨#[104, 116, 109, 108]⟩, .slice none 0 0, .bool true, .bool false, .bool false] 166)) := (Below.refl _ _).alloc (Nat.le_refl _) _
  have HS1 : Hid (SaidRow (w1.alloc (.cells #[.string ⟨#[116, 101, 120, 116]⟩, .string ⟨#[104, 116, 109, 108]⟩, .slice none 0 0, .bool true, .bool false, .bool false] 166)) w1.heap.size) := Lib.hid (heap_alloc_new w1 _)
  have HJ1 := Lib.hid (hJ1.below hb1)
  clear hJ1 hb1 hk1 hh1
  unfold Ev.saidV
  go_wp2_with fail
  refine (HK.out _ HJ1.out.told).mono ?_
  rintro e w2 ⟨rfl, hb2⟩
  have HJ2 := Lib.hid (HJ1.out.below hb2)
  have HS2 := Lib.hid (HS1.out.kept (Kept.of hb2 HJ1.out.room [31]))
  obtain ⟨a1, a2, a3⟩ := HJ2.out.cells
  clear hb2
  go_wp2_with fail
  refine (Ev.cpart HJ2.out.told HJ2.out.head HJ2.out.low).mono ?_
  rintro e w3 ⟨rfl, hh3, hk3⟩
  have HJ3 := Lib.hid (HJ2.out.go hk3 hh3)
  have HS3 := Lib.hid (HS2.out.kept hk3)
  clear a1 a2 a3 hh3 hk3
  obtain ⟨a1, a2, a3⟩ := HJ3.out.cells
  obtain ⟨b0, b1, b2, b3, b4, b5⟩ := HS3.out.cells
  go_wp2_with fail
  refine (Ev.cok _ HJ3.out.told).mono ?_
  rintro e w4 ⟨rfl, hb4⟩
  have HJ4 := Lib.hid (HJ3.out.below hb4)
  have HS4 := Lib.hid (HS3.out.kept (Kept.of hb4 HJ3.out.room [31]))
  clear a1 a2 a3 b0 b1 b2 b3 b4 b5 hb4
  obtain ⟨b0, b1, b2, b3, b4, b5⟩ := HS4.out.cells
  have HLb := Lib.hid (Ev.clabel _ HJ4.out.told)
  unfold Ev.saidV at HLb
  go_wp2_with fail
  refine HLb.out.mono ?_
  rintro e w5 ⟨rfl, hb5⟩
  have HJ5 := Lib.hid (HJ4.out.below hb5)
  clear b0 b1 b2 b3 b4 b5 hb5
  go_wp2
  refine bodyPost_ret (v := .tuple #[.int .i64 0, .string ⟨#[]⟩]) (by simp [results, Tryz.results124, go_sem]) rfl ⟨rfl, HJ5.out.head, HJ5.out.kept⟩
theorem Kept.fresh {a b : World} {B n : Nat} {T : List TypeId} (h : Kept a b B T) (hn : a.heap.size ≤ n) (hB : B ≤ n) (i : Nat) (u : Value) : Kept a (b.setCell ⟨n, i, none⟩ u) B T :=
  ⟨h.below.setCell (p := ⟨n, i, none⟩) hB u, fun k cs t m hk ht => by
    have hlt := (Array.getElem?_eq_some_iff.1 hk).1
    exact (Below.heap_setCell b ⟨n, i, none⟩ u k (by show k ≠ n; omega)).trans (h.keep k cs t m hk ht)⟩
theorem Kept.fresh4 {a b : World} {B n : Nat} {T : List TypeId} (h : Kept a b B T) (hn : a.heap.size ≤ n) (hB : B ≤ n) (v0 v1 v2 v3 : Value) : Kept a ((((b.setCell ⟨n, 0, none⟩ v0).setCell ⟨n, 1, none⟩ v1).setCell ⟨n, 2, none⟩ v2).setCell ⟨n, 3, none⟩ v3) B T :=
  (((h.fresh hn hB 0 v0).fresh hn hB 1 v1).fresh hn hB 2 v2).fresh hn hB 3 v3
/-- Of a plain text: nothing. -/
theorem oOf_wait {s : ByteArray} (h : Plain s) {w : World} {B g d : Nat} (hB1 : 1 ≤ B) (hlow : B ≤ g) (hw : Ev.Told w) (hh : Ev.HeadAt w g d) :
    Calls Tryz.prog 88 #[.agg #[.string ⟨#[]⟩, .bool true, .bool true, .int .i64 0], .agg #[.int .i64 200, .slice (some ⟨g, 0, none⟩) 1 (1 + d)], .string s] w fun e w' => e = .returned (.agg #[.int .i64 0, .string ⟨#[]⟩, .int .i64 0, .bool false]) ∧ Ev.HeadAt w' g d ∧ Kept w w' B [31] := by
  have hb0 : Below w.heap.size w (((w.alloc (.cells #[.string ⟨#[]⟩, .bool true, .bool true, .int .i64 0] 29)).alloc (.cells #[.int .i64 200, .slice (some ⟨g, 0, none⟩) 1 (1 + d)] 34)).alloc (.cells #[.int .i64 0, .string ⟨#[]⟩, .int .i64 0, .bool false] 62)) := (((Below.refl _ _).alloc (Nat.le_refl _) _).alloc (by simp) _).alloc (by simp; omega) _
  have hroom : B ≤ w.heap.size := by have := hh.lt; omega
  have hrow : (((w.alloc (.cells #[.string ⟨#[]⟩, .bool true, .bool true, .int .i64 0] 29)).alloc (.cells #[.int .i64 200, .slice (some ⟨g, 0, none⟩) 1 (1 + d)] 34)).alloc (.cells #[.int .i64 0, .string ⟨#[]⟩, .int .i64 0, .bool false] 62)).heap[w.heap.size + 1 + 1]? = some (.cells #[.int .i64 0, .string ⟨#[]⟩, .int .i64 0, .bool false] 62 (0, 0)) := by
    have := heap_alloc_new ((w.alloc (.cells #[.string ⟨#[]⟩, .bool true, .bool true, .int .i64 0] 29)).alloc (.cells #[.int .i64 200, .slice (some ⟨g, 0, none⟩) 1 (1 + d)] 34)) (.cells #[.int .i64 0, .string ⟨#[]⟩, .int .i64 0, .bool false] 62)
    rwa [World.size_alloc, World.size_alloc] at this
  have HJ := Lib.hid (ojudge_wait h hB1 hlow (told_below hw hb0) (hh.same (hb0.block g hh.lt)))
  have HK0 := Lib.hid (Kept.of hb0 hroom [31])
  have HR := Lib.hid hrow
  clear h hw hh hb0 hrow
  go_enter Tryz.func88, Tryz.ntmps88
  go_wp2_with fail
  refine HJ.out.mono ?_
  rintro e w1 ⟨rfl, hh1, hk1⟩
  have hr := (hk1.keep _ _ _ _ HR.out (by decide)).trans HR.out
  have c0 : w1.cell? ⟨w.heap.size + 1 + 1, 0, none⟩ = some (.int .i64 0) := cell_of_row _ _ 0 _ _ _ hr
  have c1 : w1.cell? ⟨w.heap.size + 1 + 1, 1, none⟩ = some (.string ⟨#[]⟩) := cell_of_row _ _ 1 _ _ _ hr
  have c2 : w1.cell? ⟨w.heap.size + 1 + 1, 2, none⟩ = some (.int .i64 0) := cell_of_row _ _ 2 _ _ _ hr
  have c3 : w1.cell? ⟨w.heap.size + 1 + 1, 3, none⟩ = some (.bool false) := cell_of_row _ _ 3 _ _ _ hr
  have f0 := blk_frozen hr 0
  have f1 := blk_frozen hr 1
  have f2 := blk_frozen hr 2
  have f3 := blk_frozen hr 3
  have HH1 := Lib.hid hh1
  have HK1 := Lib.hid (HK0.out.trans hk1)
  have H4 := Lib.hid (set4 (B := B) hr (by omega) (.int .i64 0) (.string ⟨#[]⟩) (.int .i64 0) (.bool false))
  clear hr hh1 hk1 HJ HK0
  go_wp2
  refine bodyPost_ret (results_cell_row Tryz.results88 _ _ (w.heap.size + 1 + 1) 62 #[.int .i64 0, .string ⟨#[]⟩, .int .i64 0, .bool false] (0, 0) _ rfl H4.out.2 Tryz.underlying62 rfl (by kernel_rfl)) rfl ?_
  exact ⟨rfl, HH1.out.kept H4.out.1 (by decide), HK1.out.fresh4 (by omega) (by omega) _ _ _ _⟩
end Go.Proofs.YtlhaaokldjdnnaaGreatDoor
namespace Go.Proofs.YtlhaaokldjdnnaaGreatDoor
open Go.RowKit
set_option linter.unusedVariables false
set_option linter.unusedSimpArgs false
set_option linter.all false

def caseCells (lg : Bool) (g d : Nat) : Array Value := #[.bool lg, .int .i64 1445, .int .i64 9, .string ⟨#[]⟩, .bool true, .bool true, .int .i64 0, .int .i64 200, .slice (some ⟨g, 0, none⟩) 1 (1 + d), .bool false]
def CaseRow (W : World) (n : Nat) (lg : Bool) (g d : Nat) : Prop := W.heap[n]? = some (.cells (caseCells lg g d) 36 (0, 0))
theorem CaseRow.cells {W : World} {n : Nat} {lg : Bool} {g d : Nat} (h : CaseRow W n lg g d) : W.cell? ⟨n, 0, none⟩ = some (.bool lg) ∧ W.cell? ⟨n, 3, none⟩ = some (.string ⟨#[]⟩) ∧ W.cell? ⟨n, 4, none⟩ = some (.bool true) ∧ W.cell? ⟨n, 5, none⟩ = some (.bool true) ∧ W.cell? ⟨n, 6, none⟩ = some (.int .i64 0) ∧
    W.cell? ⟨n, 7, none⟩ = some (.int .i64 200) ∧ W.cell? ⟨n, 8, none⟩ = some (.slice (some ⟨g, 0, none⟩) 1 (1 + d)) ∧ W.cell? ⟨n, 9, none⟩ = some (.bool false) ∧ W.cell? ⟨n, 1, none⟩ = some (.int .i64 1445) ∧ W.cell? ⟨n, 2, none⟩ = some (.int .i64 9) :=
  have k := fun i => cell_of_row W n i _ _ _ h
  ⟨k 0, k 3, k 4, k 5, k 6, k 7, k 8, k 9, k 1, k 2⟩
/-- What stands in classify.sniffed before it judges. -/
theorem sniff_start {w : World} (lg : Bool) (g d : Nat) : Below w.heap.size w ((w.alloc (.cells (caseCells lg g d) 36)).alloc (.cells #[.int .i64 0, .string ⟨#[]⟩, .int .i64 0, .bool false] 62)) ∧ CaseRow ((w.alloc (.cells (caseCells lg g d) 36)).alloc (.cells #[.int .i64 0, .string ⟨#[]⟩, .int .i64 0, .bool false] 62)) w.heap.size lg g d ∧
    ((w.alloc (.cells (caseCells lg g d) 36)).alloc (.cells #[.int .i64 0, .string ⟨#[]⟩, .int .i64 0, .bool false] 62)).heap[w.heap.size + 1]? = some (.cells #[.int .i64 0, .string ⟨#[]⟩, .int .i64 0, .bool false] 62 (0, 0)) := by
  refine ⟨((Below.refl _ _).alloc (Nat.le_refl _) _).alloc (by simp) _, (Below.heap_alloc _ _ _ (by simp)).trans (heap_alloc_new w _), ?_⟩
  have := heap_alloc_new (w.alloc (.cells (caseCells lg g d) 36)) (.cells #[.int .i64 0, .string ⟨#[]⟩, .int .i64 0, .bool false] 62)
  rwa [World.size_alloc] at this
set_option maxRecDepth 100000 in
theorem csniff_wait {s : ByteArray} (h : Plain s) {w : World} {B g d : Nat} (hB1 : 1 ≤ B) (hlow : B ≤ g) (hw : Ev.Told w) (hh : Ev.HeadAt w g d) :
    Calls Tryz.prog 65 #[.agg #[.bool false, .int .i64 1445, .int .i64 9, .string ⟨#[]⟩, .bool true, .bool true, .int .i64 0, .int .i64 200, .slice (some ⟨g, 0, none⟩) 1 (1 + d), .bool false], .string s, .bool true] w fun e w' => e = .returned (.agg #[.int .i64 0, .string ⟨#[]⟩, .int .i64 0, .bool false]) ∧ Ev.HeadAt w' g d ∧ Kept w w' B [31] := by
  obtain ⟨hb0, hr0, hr1⟩ := sniff_start (w := w) false g d
  have hroom : B ≤ w.heap.size := by have := hh.lt; omega
  have HO := Lib.hid (oOf_wait h hB1 hlow (told_below hw hb0) (hh.same (hb0.block g hh.lt)))
  have HRd := Lib.hid (ready_end s.size)
  obtain ⟨a0, a3, a4, a5, a6, a7, a8, a9, a1, a2⟩ := hr0.cells
  have HK0 := Lib.hid (Kept.of hb0 hroom [31])
  have HR := Lib.hid hr1
  clear h hw hh hb0 hr0 hr1
  unfold caseCells at a0 a3 a4 a5 a6 a7 a8 a9 a1 a2 HR HK0 HO
  go_enter Tryz.func65, Tryz.ntmps65
  go_wp2_with (go_at_call 50; refine (HRd.out _).mono ?_; rintro e _ ⟨rfl, rfl⟩)
  refine HO.out.mono ?_
  rintro e w1 ⟨rfl, hh1, hk1⟩
  have hr := (hk1.keep _ _ _ _ HR.out (by decide)).trans HR.out
  have c0 : w1.cell? ⟨w.heap.size + 1, 0, none⟩ = some (.int .i64 0) := cell_of_row _ _ 0 _ _ _ hr
  have c1 : w1.cell? ⟨w.heap.size + 1, 1, none⟩ = some (.string ⟨#[]⟩) := cell_of_row _ _ 1 _ _ _ hr
  have c2 : w1.cell? ⟨w.heap.size + 1, 2, none⟩ = some (.int .i64 0) := cell_of_row _ _ 2 _ _ _ hr
  have c3 : w1.cell? ⟨w.heap.size + 1, 3, none⟩ = some (.bool false) := cell_of_row _ _ 3 _ _ _ hr
  have f0 := blk_frozen hr 0
  have f1 := blk_frozen hr 1
  have f2 := blk_frozen hr 2
  have f3 := blk_frozen hr 3
  have hlt := blk_lt hr
  have HH1 := Lib.hid hh1
  have HK1 := Lib.hid (HK0.out.trans hk1)
  have H4 := Lib.hid (set4 (B := B) hr (by omega) (.int .i64 0) (.string ⟨#[]⟩) (.int .i64 0) (.bool false))
  clear hr hh1 hk1 HO HK0 a0 a3 a4 a5 a6 a7 a8 a9 a1 a2
  go_wp2
  have hal : ∀ (W : World) (o : Obj), Below W.heap.size W (W.alloc o) := fun W o => (Below.refl _ _).alloc (Nat.le_refl _) o
  refine bodyPost_ret (results_cell_row Tryz.results65 _ _ (w.heap.size + 1) 62 #[.int .i64 0, .string ⟨#[]⟩, .int .i64 0, .bool false] (0, 0) _ rfl ((Below.heap_alloc _ _ _ (by simpa using hlt)).trans H4.out.2) Tryz.underlying62 rfl (by kernel_rfl)) rfl ?_
  have hh2 := HH1.out.kept H4.out.1 (by decide)
  have hk2 := HK1.out.fresh4 (n := w.heap.size + 1) (by omega) (by omega) (.int .i64 0) (.string ⟨#[]⟩) (.int .i64 0) (.bool false)
  exact ⟨rfl, hh2.same ((hal _ _).block g hh2.lt), hk2.trans (Kept.of (hal _ _) (by simp; omega) _)⟩
theorem cSniffed_of {lg : Bool} {s : ByteArray} {w : World} {B g d : Nat} {jv ja : Int} {jr : ByteArray} (hB1 : 1 ≤ B) (hlow : B ≤ g) (hw : Ev.Told w) (hh : Ev.HeadAt w g d)
    (hc : ∀ W, Ev.Told W → Ev.HeadAt W g d → Calls Tryz.prog 65 #[.agg #[.bool lg, .int .i64 1445, .int .i64 9, .string ⟨#[]⟩, .bool true, .bool true, .int .i64 0, .int .i64 200, .slice (some ⟨g, 0, none⟩) 1 (1 + d), .bool false], .string s, .bool true] W fun e w' => e = .returned (.agg #[.int .i64 jv, .string jr, .int .i64 ja, .bool false]) ∧ Ev.HeadAt w' g d ∧ Kept W w' B [31]) :
    Calls Tryz.prog 51 #[.agg #[.bool lg, .int .i64 1445, .int .i64 9, .string ⟨#[]⟩, .bool true, .bool true, .int .i64 0, .int .i64 200, .slice (some ⟨g, 0, none⟩) 1 (1 + d), .bool false], .string s, .bool true] w fun e w' => e = .returned (.agg #[.int .i64 jv, .string jr, .int .i64 ja, .bool false]) ∧ Ev.HeadAt w' g d ∧ Kept w w' B [31] := by
  obtain ⟨hb0, hr0, hr1⟩ := sniff_start (w := w) lg g d
  have hroom : B ≤ w.heap.size := by have := hh.lt; omega
  have HO := Lib.hid (hc _ (told_below hw hb0) (hh.same (hb0.block g hh.lt)))
  obtain ⟨a0, a3, a4, a5, a6, a7, a8, a9, a1, a2⟩ := hr0.cells
  have HK0 := Lib.hid (Kept.of hb0 hroom [31])
  have HR := Lib.hid hr1
  clear hw hh hb0 hr0 hr1 hc
  unfold caseCells at a0 a3 a4 a5 a6 a7 a8 a9 a1 a2 HR HK0 HO
  go_enter Tryz.func51, Tryz.ntmps51
  go_wp2_with fail
  refine HO.out.mono ?_
  rintro e w1 ⟨rfl, hh1, hk1⟩
  have hr := (hk1.keep _ _ _ _ HR.out (by decide)).trans HR.out
  have c0 : w1.cell? ⟨w.heap.size + 1, 0, none⟩ = some (.int .i64 0) := cell_of_row _ _ 0 _ _ _ hr
  have c1 : w1.cell? ⟨w.heap.size + 1, 1, none⟩ = some (.string ⟨#[]⟩) := cell_of_row _ _ 1 _ _ _ hr
  have c2 : w1.cell? ⟨w.heap.size + 1, 2, none⟩ = some (.int .i64 0) := cell_of_row _ _ 2 _ _ _ hr
  have c3 : w1.cell? ⟨w.heap.size + 1, 3, none⟩ = some (.bool false) := cell_of_row _ _ 3 _ _ _ hr
  have f0 := blk_frozen hr 0
  have f1 := blk_frozen hr 1
  have f2 := blk_frozen hr 2
  have f3 := blk_frozen hr 3
  have HH1 := Lib.hid hh1
  have HK1 := Lib.hid (HK0.out.trans hk1)
  have H4 := Lib.hid (set4 (B := B) hr (by omega) (.int .i64 jv) (.string jr) (.int .i64 ja) (.bool false))
  clear hr hh1 hk1 HO HK0 a0 a3 a4 a5 a6 a7 a8 a9 a1 a2
  go_wp2
  refine bodyPost_ret (results_cell_row Tryz.results51 _ _ (w.heap.size + 1) 62 #[.int .i64 jv, .string jr, .int .i64 ja, .bool false] (0, 0) _ rfl H4.out.2 Tryz.underlying62 rfl (by kernel_rfl)) rfl ?_
  exact ⟨rfl, HH1.out.kept H4.out.1 (by decide), HK1.out.fresh4 (by omega) (by omega) _ _ _ _⟩
theorem cSniffed_wait {s : ByteArray} (h : Plain s) {w : World} {B g d : Nat} (hB1 : 1 ≤ B) (hlow : B ≤ g) (hw : Ev.Told w) (hh : Ev.HeadAt w g d) :
    Calls Tryz.prog 51 #[.agg #[.bool false, .int .i64 1445, .int .i64 9, .string ⟨#[]⟩, .bool true, .bool true, .int .i64 0, .int .i64 200, .slice (some ⟨g, 0, none⟩) 1 (1 + d), .bool false], .string s, .bool true] w fun e w' => e = .returned (.agg #[.int .i64 0, .string ⟨#[]⟩, .int .i64 0, .bool false]) ∧ Ev.HeadAt w' g d ∧ Kept w w' B [31] :=
  cSniffed_of hB1 hlow hw hh fun W hW hH => csniff_wait h hB1 hlow hW hH
end Go.Proofs.YtlhaaokldjdnnaaGreatDoor
namespace Go.Proofs.YtlhaaokldjdnnaaGreatDoor
open Go.RowKit
set_option linter.unusedVariables false
set_option linter.unusedSimpArgs false
set_option linter.all false

/-- A stream behind its head; the lexer may stand as it may. -/
structure Sw (w : World) (B : Nat) (a : Ads) (cells : Array Value) (bs : List UInt8) : Prop where
  B1 : 1 ≤ B
  low : B ≤ a.g
  hlow : B ≤ a.g1
  told : Ev.Told w
  blk : w.heap[a.g]? = some (.cells cells 64 (0, 0))
  hold : Hol w B a.gh a.q bs 1445 0 bs.length 0
  head : Ev.HeadAt w a.g1 a.d1
section
variable {w w' : World} {B : Nat} {a : Ads} {lg : Bool} {cells : Array Value} {bs : List UInt8} {ph : Nat}
theorem Sm.sw (h : Sm w B a lg cells bs ph) : Sw w B a cells bs := ⟨h.B1, h.low, h.hlow, h.told, h.blk, h.hold, h.head⟩
theorem Sw.room (h : Sw w B a cells bs) : B ≤ w.heap.size := by
  have := blk_lt h.blk
  have := h.low
  omega
theorem Sw.headKept (h : Sw w B a cells bs) (hk : Kept w w' B [31]) (hh : Ev.HeadAt w' a.g1 a.d1) : Sw w' B a cells bs :=
  ⟨h.B1, h.low, h.hlow, told_below' h.told hk.below h.B1, (hk.keep _ _ _ _ h.blk (by decide)).trans h.blk, h.hold.keep hk (by decide) (by decide) (by decide), hh⟩
theorem Sw.kept {T : List TypeId} (h : Sw w B a cells bs) (hk : Kept w w' B T) (hT : ∀ t ∈ [64, 85, 101, 9, 31], t ∉ T) : Sw w' B a cells bs :=
  ⟨h.B1, h.low, h.hlow, told_below' h.told hk.below h.B1, (hk.keep _ _ _ _ h.blk (hT _ (by decide))).trans h.blk, h.hold.keep hk (hT _ (by decide)) (hT _ (by decide)) (hT _ (by decide)), h.head.kept hk (hT _ (by decide))⟩
theorem Sw.below (h : Sw w B a cells bs) (hb : Below w.heap.size w w') : Sw w' B a cells bs := h.kept (Kept.of hb h.room []) (by simp)
theorem Sw.set (h : Sw w B a cells bs) (i : Nat) (v : Value) : Sw (w.setCell ⟨a.g, i, none⟩ v) B a (cells.setIfInBounds i v) bs :=
  have hk : Kept w (w.setCell ⟨a.g, i, none⟩ v) B [64] := (Kept.refl w B [64]).set_ h.low h.blk (by simp) i v
  ⟨h.B1, h.low, h.hlow, told_below' h.told hk.below h.B1, blk_set h.blk i v, h.hold.keep hk (by decide) (by decide) (by decide), h.head.kept hk (by decide)⟩
end
/-- .. that has been sniffed. -/
def snCells (lg : Bool) (a : Ads) (came : Nat) : Array Value := stCells lg 200 (hdV a) 1 a.gh a.gl 0 ⟨#[]⟩ 0 false false came true
theorem oAt_is (n : Nat) (w : World) : Calls Tryz.prog 71 #[.int .i64 n] w fun e w' => (∃ x, e = .returned (.int .i64 x)) ∧ w = w' := by
  go_enter Tryz.func71, Tryz.ntmps71
  go_wp2
  go_ret
  exact ⟨⟨_, rfl⟩, rfl⟩
theorem oAt_small (n : Nat) (hn : n < 1445) (w : World) : Calls Tryz.prog 71 #[.int .i64 n] w fun e w' => e = .returned (.int .i64 n) ∧ w = w' := by
  have h1 : max (n : Int) 0 = n := by omega
  have h2 : min (n : Int) 1445 = n := by omega
  go_enter Tryz.func71, Tryz.ntmps71
  go_wp2
  go_ret
  exact ⟨rfl, rfl⟩
set_option maxRecDepth 100000 in
set_option maxHeartbeats 2000000 in
theorem sParsed {w : World} {B : Nat} {a : Ads} {came : Nat} {bs : List UInt8} {ph : Nat} (h : Sm w B a false (snCells false a came) bs ph) (hn : bs.length < 1445) (h4 : 4 ≤ ph) (h5 : ph ≤ 5) :
    Calls Tryz.prog 53 #[.pointer (some ⟨a.g, 0, none⟩), .int .i64 bs.length, .bool true] w fun e w' => (∃ v r p, e = .returned (.agg #[.int .i64 v, .string r, .int .i64 p, .bool false]) ∧ v ≠ 0 ∧ (ph = 5 → v = 2)) ∧ Sw w' B a (snCells false a came) bs ∧ Kept w w' B lxT := by
  have hb1 : Below w.heap.size w (w.alloc (.cells #[.int .i64 0, .string ⟨#[]⟩, .int .i64 0, .bool false] 62)) := (Below.refl _ _).alloc (Nat.le_refl _) _
  have hlt : (bs.length : Int) < 1445 := by omega
  have hs1 := h.below hb1
  have HLm : Hid (∀ w, Ev.Told w → Calls Tryz.prog 19 #[.agg #[.bool false, .int .i64 1445, .int .i64 9]] w fun x w' => x = .returned (.int .i64 1445) ∧ Below w.heap.size w w') := Lib.hid (Ev.limit_is false)
  have HN : Hid ((w.alloc (.cells #[.int .i64 0, .string ⟨#[]⟩, .int .i64 0, .bool false] 62)).heap[w.heap.size]? = some (.cells #[.int .i64 0, .string ⟨#[]⟩, .int .i64 0, .bool false] 62 (0, 0))) := Lib.hid (heap_alloc_new w _)
  have hroom := h.room
  have HS1 := Lib.hid hs1
  have HB1 := Lib.hid hb1
  obtain ⟨k0, k1, k2, k3, k4, k5, k6, k7, k8, k9, k10, k11, k12, k13, k14, k15, k16, k17, k18, k19, k20⟩ := st_cells hs1.blk
  clear h hb1 hs1 k3 k4 k5 k6 k7 k8 k9 k10 k11 k13 k14 k15 k16 k17 k18 k19 k20
  go_enter Tryz.func53, Tryz.ntmps53
  go_wp2_with fail
  refine (HLm.out _ HS1.out.told).mono ?_
  rintro e w1 ⟨rfl, hb2⟩
  have HB2 := Lib.hid (below_then HB1.out (Nat.le_refl _) hb2)
  have HS2 := Lib.hid (HS1.out.below hb2)
  have HN2 := Lib.hid ((hb2.block _ (blk_lt HN.out)).trans HN.out)
  clear hb2 k0 k1 k2 k12
  obtain ⟨k0, k1, k2, k3, k4, k5, k6, k7, k8, k9, k10, k11, k12, k13, k14, k15, k16, k17, k18, k19, k20⟩ := st_cells HS2.out.blk
  clear k0 k1 k2 k3 k4 k5 k6 k7 k8 k9 k10 k11 k13 k14 k15 k16 k17 k18 k19 k20
  go_wp2_with fail
  refine (lx_End HS2.out.lex h4 h5).mono ?_
  rintro e w2 ⟨⟨x2, rfl⟩, ⟨l', hl', hv', hv5⟩, hk2⟩
  have HN3 := Lib.hid ((hk2.keep _ _ _ _ HN2.out (by decide)).trans HN2.out)
  have HS3 := Lib.hid (HS2.out.sw.kept hk2 (by decide))
  have HK3 : Hid (Kept w w2 B lxT) := Lib.hid ((Kept.of HB2.out hroom lxT).trans hk2)
  have HL3 := Lib.hid hl'
  have HV := Lib.hid hv5
  have hvb : (l'.v != 0) = true := by simpa using hv'
  have HVd := Lib.hid (lx_Verdict hl')
  clear hk2 hl' hv5 k12
  obtain ⟨k0, k1, k2, k3, k4, k5, k6, k7, k8, k9, k10, k11, k12, k13, k14, k15, k16, k17, k18, k19, k20⟩ := st_cells HS3.out.blk
  clear k0 k1 k2 k3 k4 k5 k6 k7 k8 k9 k10 k11 k13 k14 k15 k16 k17 k18 k19 k20
  go_wp2_with (go_at_call 68; refine HVd.out.mono ?_; rintro e _ ⟨rfl, rfl⟩)
  have hsame : ∀ {f : FuncId} {us : Array Value} {v : Value}, (Calls Tryz.prog f us w2.drew fun e w' => e = .returned v ∧ w2.drew = w') → Calls Tryz.prog f us w2.drew fun e w' => e = .returned v ∧ w' = w2.drew := fun h => h.mono fun _ _ ⟨h1, h2⟩ => ⟨h1, h2.symm⟩
  have hld := HL3.out.below (Below.drew (Below.refl _ _))
  have HcV := hsame (lx_Verdict hld)
  have HcR := hsame (lx_Reason hld)
  have HcA := hsame (lx_At hld)
  have HcO := hsame (oAt_small bs.length hn w2.drew)
  have hr : w2.drew.heap[w.heap.size]? = some (.cells #[.int .i64 0, .string ⟨#[]⟩, .int .i64 0, .bool false] 62 (0, 0)) := HN3.out
  have c0 : w2.drew.cell? ⟨w.heap.size, 0, none⟩ = some (.int .i64 0) := cell_of_row _ _ 0 _ _ _ hr
  have c1 : w2.drew.cell? ⟨w.heap.size, 1, none⟩ = some (.string ⟨#[]⟩) := cell_of_row _ _ 1 _ _ _ hr
  have c2 : w2.drew.cell? ⟨w.heap.size, 2, none⟩ = some (.int .i64 0) := cell_of_row _ _ 2 _ _ _ hr
  have c3 : w2.drew.cell? ⟨w.heap.size, 3, none⟩ = some (.bool false) := cell_of_row _ _ 3 _ _ _ hr
  have f0 := blk_frozen hr 0
  have f1 := blk_frozen hr 1
  have f2 := blk_frozen hr 2
  have f3 := blk_frozen hr 3
  have e0 : w2.cell? ⟨w.heap.size, 0, none⟩ = some (.int .i64 0) := c0
  have e1 : w2.cell? ⟨w.heap.size, 1, none⟩ = some (.string ⟨#[]⟩) := c1
  have e2 : w2.cell? ⟨w.heap.size, 2, none⟩ = some (.int .i64 0) := c2
  have e3 : w2.cell? ⟨w.heap.size, 3, none⟩ = some (.bool false) := c3
  have m0 : w2.frozen? ⟨w.heap.size, 0, none⟩ = false := f0
  have m1 : w2.frozen? ⟨w.heap.size, 1, none⟩ = false := f1
  have m2 : w2.frozen? ⟨w.heap.size, 2, none⟩ = false := f2
  have m3 : w2.frozen? ⟨w.heap.size, 3, none⟩ = false := f3
  have H4 := Lib.hid (set4 (B := B) hr hroom (.int .i64 l'.v) (.string l'.rs) (.int .i64 (max l'.pos bs.length)) (.bool false))
  clear hr hld
  refine wp_region_still_tail 17 (by kernel_rfl) (by kernel_rfl) ?_
  simp only [List.take_succ_cons, List.take_zero, List.drop_succ_cons, List.drop_zero]
  repeat (first | still_call HcV | still_call HcR | still_call HcA | still_call HcO | still_step)
  try refine wpStill_nil ?_
  change wpList _ _ _ _ _ w2.drew
  go_wp2
  trace_state
  refine bodyPost_ret (results_cell_row Tryz.results53 _ _ w.heap.size 62 #[.int .i64 l'.v, .string l'.rs, .int .i64 (max l'.pos bs.length), .bool false] (0, 0) _ rfl H4.out.2 Tryz.underlying62 rfl (by kernel_rfl)) rfl ?_
  have hkd : Kept w w2.drew B lxT := HK3.out.trans (Kept.of (Below.drew (Below.refl _ _)) HS3.out.room _)
  exact ⟨⟨_, _, _, rfl, hv', HV.out⟩, (HS3.out.below (Below.drew (Below.refl _ _))).kept H4.out.1 (by decide), hkd.fresh4 (Nat.le_refl _) hroom _ _ _ _⟩
end Go.Proofs.YtlhaaokldjdnnaaGreatDoor
