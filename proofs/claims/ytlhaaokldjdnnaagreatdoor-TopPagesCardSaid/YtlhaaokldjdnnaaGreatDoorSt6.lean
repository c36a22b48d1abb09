/-
  Layer 38 (stream): a piece of the body is held, and read. No condition but that the tables lie as they were laid.
-/
import Derived.Test.YtlhaaokldjdnnaaGreatDoorSt2All
import Derived.Deep.RegionWith
namespace Go.Proofs.YtlhaaokldjdnnaaGreatDoor
open Go.RowKit
set_option linter.unusedVariables false
set_option linter.unusedSimpArgs false
set_option linter.all false

section
variable {w : World} {B : Nat} {a : Ads} {lg : Bool} {came : Nat} {bs : List UInt8} {ph : Nat}
theorem sOpen (h : Sm w B a lg (wtCells lg a 1 came) bs ph) : Calls Tryz.prog 23 #[.pointer (some ⟨a.g, 0, none⟩)] w fun e w' => e = .returned (.bool true) ∧ w = w' := by
  have k10 : w.cell? ⟨a.g, 10, none⟩ = some (.int .i64 1) := cell_of_row _ _ 10 _ _ _ h.blk
  clear h
  go_enter Tryz.func23, Tryz.ntmps23
  go_wp2
  go_ret
  exact ⟨rfl, rfl⟩
theorem sWaits (h : Sm w B a lg (wtCells lg a 1 came) bs ph) : Calls Tryz.prog 25 #[.pointer (some ⟨a.g, 0, none⟩)] w fun e w' => e = .returned (.bool true) ∧ w = w' := by
  have k10 : w.cell? ⟨a.g, 10, none⟩ = some (.int .i64 1) := cell_of_row _ _ 10 _ _ _ h.blk
  clear h
  go_enter Tryz.func25, Tryz.ntmps25
  go_wp2
  go_ret
  exact ⟨rfl, rfl⟩
theorem Sm.held {w' : World} {cells : Array Value} {bs' : List UInt8} (h : Sm w B a lg cells bs ph) (hH : Hol w' B a.gh a.q bs' 1445 0 bs'.length 0) (hk : Kept w w' B [85, 101, 9]) : Sm w' B a lg cells bs' ph :=
  ⟨h.B1, h.low, h.hlow, told_below' h.told hk.below h.B1, (hk.keep _ _ _ _ h.blk (by decide)).trans h.blk, hH, h.lex.keep hk (by decide), h.head.kept hk (by decide)⟩
theorem Sm.lexed {w' : World} {cells : Array Value} {ph' : Nat} (h : Sm w B a lg cells bs ph) (hL : LexOk w' B a.gl a.jb a.sb ph' false) (hk : Kept w w' B lxT) : Sm w' B a lg cells bs ph' :=
  ⟨h.B1, h.low, h.hlow, told_below' h.told hk.below h.B1, (hk.keep _ _ _ _ h.blk (by decide)).trans h.blk, h.hold.keep hk (by decide) (by decide) (by decide), hL, h.head.kept hk (by decide)⟩
/-- How far the lexer is behind a piece. -/
def phOf (lg : Bool) (ph : Nat) (l : List UInt8) : Nat := if lg then ph else runPh ph l
set_option maxRecDepth 100000 in
set_option maxHeartbeats 4000000 in
theorem sLook {cells : Array Value} (hc : cells = wtCells lg a 1 came) (h : Sm w B a lg cells bs ph) (b : ByteArray) (hs : bs.length + b.size ≤ 1000) (h5 : ph ≤ 5)
    (hok : lg = false → ∀ (k : Nat) (hk : k < b.size), runPh ph (b.data.toList.take k) = 0 → padB (b[k].toNat : Int) = true ∨ (b[k].toNat : Int) = 60) :
    Calls Tryz.prog 42 #[.pointer (some ⟨a.g, 0, none⟩), .string b] w fun e w' => e = .returned (.string .empty) ∧ Sm w' B a lg cells (bs ++ b.data.toList) (phOf lg ph b.data.toList) ∧ Kept w w' B stT := by
  have hroom := h.room
  subst hc
  have HS := Lib.hid (h.below (Below.drew (Below.refl w.heap.size w)))
  have HLm : Hid (∀ w, Ev.Told w → Calls Tryz.prog 19 #[.agg #[.bool lg, .int .i64 1445, .int .i64 9]] w fun x w' => x = .returned (.int .i64 1445) ∧ Below w.heap.size w w') := Lib.hid (Ev.limit_is lg)
  have HOK := Lib.hid hok
  obtain ⟨k0, k1, k2, k3, k4, k5, k6, k7, k8, k9, k10, k11, k12, k13, k14, k15, k16, k17, k18, k19, k20⟩ := st_cells h.blk
  have hbl : (bs ++ b.data.toList).length = bs.length + b.size := by rw [List.length_append, Lib.size_eq b]
  have hw45 : IntKind.i64.wrap (1445 - (bs.length : Int)) = 1445 - (bs.length : Int) := IntWalk.i64_in _ (by omega)
  have hmin : min (b.size : Int) (1445 - (bs.length : Int)) = (b.size : Int) := by omega
  have hx := extract_all b b.size (Nat.le_refl _)
  clear h hok k3 k4 k5 k6 k7 k8 k9 k10 k13 k14 k15 k16 k17 k18 k19 k20
  go_enter Tryz.func42, Tryz.ntmps42
  go_wp2_with fail
  go_region_with (first
    | (go_at_call 19; refine (HLm.out _ HS.out.told).mono ?_; rintro e w1 ⟨rfl, hb1⟩; have hs1 := HS.out.below hb1; have q11 : w1.cell? ⟨a.g, 11, none⟩ = some (.pointer (some ⟨a.gh, 0, none⟩)) := (st_cells hs1.blk).2.2.2.2.2.2.2.2.2.2.2.1; have HK1 : Hid (Kept w w1 B stT) := Lib.hid (Kept.of (below_then (Below.drew (Below.refl w.heap.size w)) (Nat.le_refl _) hb1) hroom stT); have HL1 := Lib.hid (hLen_any hs1.hold); have HS1 := Lib.hid hs1; clear hs1 hb1)
    | (go_at_call 37; refine HL1.out.mono ?_; rintro e _ ⟨rfl, rfl⟩))
  all_goals
    have HA1 := Lib.hid (Add_hold (HS1.out.below (Below.drew (Below.refl _ _))).hold b (by omega) (by omega) (HS1.out.below (Below.drew (Below.refl _ _))).room)
    obtain ⟨k0, k1, k2, k3, k4, k5, k6, k7, k8, k9, k10, k11, k12, k13, k14, k15, k16, k17, k18, k19, k20⟩ := st_cells HS1.out.blk
    clear k1 k2 k3 k4 k5 k6 k7 k8 k9 k10 k13 k14 k15 k16 k17 k18 k19 k20 k11
    go_wp2_with fail
    go_still_tail 7, (by kernel_rfl)
    change wpList _ _ _ _ _ w1.drew
    go_wp2_with fail
    refine HA1.out.mono ?_
    rintro e w2 ⟨rfl, hh2, hk2⟩
    have hs2 := (HS1.out.below (Below.drew (Below.refl _ _))).held (bs' := bs ++ b.data.toList) (by rw [hbl]; exact hh2) hk2
    have HS2 := Lib.hid hs2
    have HK2 : Hid (Kept w w2 B stT) := Lib.hid ((HK1.out.trans (Kept.of (Below.drew (Below.refl _ _)) HS1.out.room stT)).trans (hk2.wide (by decide)))
    clear hs2 hh2 hk2 HA1 HS1 HK1 HL1 q11
    obtain ⟨k0, k1, k2, k3, k4, k5, k6, k7, k8, k9, k10, k11, k12, k13, k14, k15, k16, k17, k18, k19, k20⟩ := st_cells HS2.out.blk
    clear k1 k2 k3 k4 k5 k6 k7 k8 k9 k10 k13 k14 k15 k16 k17 k18 k19 k20 k11
    have hnone : b.extract b.size b.size = .empty := by simp
    cases lg
    · have HF := Lib.hid (lx_Feed (HS2.out.below (Below.drew (Below.refl _ _))).lex h5 b (by omega) (HOK.out rfl) (HS2.out.below (Below.drew (Below.refl _ _))).room HS2.out.B1 (HS2.out.below (Below.drew (Below.refl _ _))).told)
      go_wp2_with fail
      go_still_tail 7, (by kernel_rfl)
      change wpList _ _ _ _ _ w2.drew
      go_wp2_with fail
      refine HF.out.mono ?_
      rintro e w3 ⟨⟨x3, rfl⟩, hl3, hk3⟩
      have HS3 := Lib.hid ((HS2.out.below (Below.drew (Below.refl _ _))).lexed hl3 hk3)
      have HK3 : Hid (Kept w w3 B stT) := Lib.hid ((HK2.out.trans (Kept.of (Below.drew (Below.refl _ _)) HS2.out.room stT)).trans (hk3.wide (by decide)))
      clear hl3 hk3
      go_wp2
      go_ret
      exact ⟨ret_string (by first | exact hnone | simp), HS3.out, HK3.out⟩
    · go_wp2
      go_ret
      exact ⟨ret_string (by first | exact hnone | simp), HS2.out, HK2.out⟩
end
end Go.Proofs.YtlhaaokldjdnnaaGreatDoor
