/-
  The queue: bytes that come to it; Push. No condition but that the queue is one.
-/
import Derived.Test.YtamfkiimppfoaaaQFirst
namespace Go.Proofs.Ytamfkiimppfoaaa
open Go.RowKit
set_option linter.unusedVariables false

theorem hold_none {w : World} (g : Addr) (s : ByteArray) (hs : s.toList.isEmpty = true) :
    Calls Try.prog 24 #[.pointer (some g), .string s] w fun e w' => e = .returned (.tuple #[]) ∧ w = w' := by
  go_enter Try.func24, Try.ntmps24
  go_wp2
  go_end0
  exact ⟨rfl, rfl⟩
theorem toList_empty (s : ByteArray) : s.toList.isEmpty = decide (s.size = 0) := by
  rw [Lib.toList_data, Lib.size_eq]
  cases s.data.toList <;> simp

theorem pos_of_some {s : ByteArray} (h : s.toList.isEmpty = false) : 0 < s.size := by
  rw [toList_empty] at h
  have := of_decide_eq_false h
  omega
theorem grown_blk {w w1 : World} {o : Obj} {row : Option Nat} (h : (w.alloc o).grownBy w1 row) {g : Nat} (hg : g < w.heap.size) (hne : row ≠ some g) : w1.heap[g]? = w.heap[g]? :=
  (h.block g (by simp; omega) (fun e => hne e.symm)).trans (Below.heap_alloc w o g hg)

set_option maxHeartbeats 1000000 in
theorem hold_some {w : World} {B g : Nat} {bs : List UInt8} {most out : Nat} (h : Que w B g bs most out) (s : ByteArray) (hs : s.toList.isEmpty = false) (hfit : bs.length + s.size ≤ most) (hB : B ≤ w.heap.size) :
    Calls Try.prog 24 #[.pointer (some ⟨g, 0, none⟩), .string s] w fun e w' => e = .returned (.tuple #[]) ∧ Que w' B g (bs ++ s.data.toList) most out ∧ Turn w w' B g := by
  have hlt := h.lt
  obtain ⟨h0, h1, h2, h3, l, A, cap, k, hg, hr, hh⟩ := h
  have hcells : ∀ W : World, W.heap[g]? = w.heap[g]? → W.cell? ⟨g, 0, none⟩ = some (.slice A l.length cap) ∧ W.cell? ⟨g, 2, none⟩ = some (.int .i64 bs.length) ∧ W.frozen? ⟨g, 0, none⟩ = false ∧ W.frozen? ⟨g, 2, none⟩ = false := fun W hb => by
    have := hb.trans hg
    exact ⟨cell_of_row W g 0 _ _ _ this, cell_of_row W g 2 _ _ _ this, blk_frozen this 0, blk_frozen this 2⟩
  obtain ⟨c0, c2, f0, f2⟩ := hcells w rfl
  have hap := hr.apart hg (by decide)
  have hlen := hh.many
  have HR := Lib.hid (hr.alloc (.cells #[.string s] 9))
  have HH := Lib.hid hh
  have HG := Lib.hid hg
  have HA := Lib.hid hap
  have HB := Lib.hid hB
  have HCN : Hid ((w.alloc (.cells #[.string s] 9)).cell? ⟨w.heap.size, 0, none⟩ = some (.string s)) := by unfold Hid; rw [World.cell?_alloc_new]; rfl
  obtain ⟨N, hN⟩ : ∃ N, bs.length = N := ⟨_, rfl⟩
  rw [hN] at c2 hfit h1 hlen
  simp only [hN] at hcells
  have HC := Lib.hid hcells
  have HN := Lib.hid hN
  obtain ⟨i, hi, hz0, hz1, hz2⟩ := info_parts Try.infoS
  have HI := Lib.hid hi
  have HZ := Lib.hid hz0
  have HZ1 := Lib.hid hz1
  have HZ2 : Hid (i.bytes ≤ 1000) := by unfold Hid; omega
  have HL : Hid (l.length ≤ 1000000000) := by unfold Hid; omega
  have HB2 : Hid (B ≤ (w.alloc (.cells #[.string s] 9)).heap.size) := by unfold Hid; simp; omega
  clear hr hh hcells hg hN hi hz0 hz1 hz2 hap hB
  go_enter Try.func24, Try.ntmps24
  go_wp2_with (at_builtin; refine wpList_append_row rfl (.tmp 10) (.tmp 12) 45 rfl B 9 i (.string ByteArray.empty) Try.underlying45 HI.out HZ.out HZ1.out HZ2.out rfl _ _ _ rfl HR.out _ _ _ rfl HCN.out rfl HL.out HB2.out ?_; intro A1 e1 w1 hr1 hgr1; have hg1 := grown_blk hgr1 hlt HA.out; obtain ⟨d0, d2, f0', f2'⟩ := HC.out w1 hg1; have HG1 := Lib.hid (hg1.trans HG.out); have HR1 := Lib.hid hr1; have HGR := Lib.hid hgr1; clear hr1 hgr1 hg1)
  go_end0
  have hb1 : Below B w w1 := ((Below.refl B w).alloc HB.out _).grown HGR.out HB2.out (fun b hb => (HR.out.lt b hb).1)
  have hap1 := HR1.out.apart HG1.out (by decide)
  refine ⟨rfl, ⟨h0, by rw [List.length_append, ← Lib.size_eq, HN.out]; exact hfit, h2, h3, l ++ [s], A1, e1, k, ?_, ?_, HH.out.push s (pos_of_some hs) (by omega)⟩, ?_⟩
  · have e2 := blk_set (blk_set HG1.out 0 (.slice A1 (l.length + 1) e1)) 2 (.int .i64 ((N : Int) + s.size))
    rw [e2]
    simp [HN.out]
  · have := (HR1.out.setCell (p := ⟨g, 0, none⟩) hap1 (.slice A1 (l.length + 1) e1)).setCell (p := ⟨g, 2, none⟩) hap1 (.int .i64 ((N : Int) + s.size))
    simpa using this
  · refine ⟨(hb1.setCell (p := ⟨g, 0, none⟩) h0 _).setCell (p := ⟨g, 2, none⟩) h0 _, fun k' cs t m hk hkg ht => ?_⟩
    have hne : (Value.slice A l.length cap).ownBlock ≠ some k' := HR.out.apart ((Below.heap_alloc w _ k' (blk_lt hk)).trans hk) (fun e => ht e.symm)
    exact (Below.heap_setCell _ ⟨g, 2, none⟩ _ k' hkg).trans ((Below.heap_setCell _ ⟨g, 0, none⟩ _ k' hkg).trans (grown_blk HGR.out (blk_lt hk) hne))
theorem toList_of_empty {s : ByteArray} (h : s.toList.isEmpty = true) : s.data.toList = [] := by
  rw [Lib.toList_data] at h
  exact List.isEmpty_iff.1 h
theorem hold_any {w : World} {B g : Nat} {bs : List UInt8} {most out : Nat} (h : Que w B g bs most out) (s : ByteArray) (hfit : bs.length + s.size ≤ most) (hB : B ≤ w.heap.size) :
    Calls Try.prog 24 #[.pointer (some ⟨g, 0, none⟩), .string s] w fun e w' => e = .returned (.tuple #[]) ∧ Que w' B g (bs ++ s.data.toList) most out ∧ Turn w w' B g := by
  cases hs : s.toList.isEmpty
  · exact hold_some h s hs hfit hB
  · refine (hold_none ⟨g, 0, none⟩ s hs).mono fun e w' hw => ?_
    obtain ⟨he, rfl⟩ := hw
    rw [toList_of_empty hs, List.append_nil]
    exact ⟨he, h, Turn.refl _ _ _⟩

theorem Push_nil (s : ByteArray) (w : World) : Calls Try.prog 19 #[.pointer none, .string s] w fun e w' => e = .returned (.int .i64 1) ∧ w = w' := by
  go_enter Try.func19, Try.ntmps19
  go_wp2
  go_ret
  exact ⟨rfl, rfl⟩
theorem Push_full {w : World} {B g : Nat} {bs : List UInt8} {most out : Nat} (h : Que w B g bs most out) (s : ByteArray) (hs : most - bs.length < s.size) :
    Calls Try.prog 19 #[.pointer (some ⟨g, 0, none⟩), .string s] w fun e w' => e = .returned (.int .i64 3) ∧ Below w.heap.size w w' := by
  have H1 := Lib.hid (room_any h)
  have hd : decide (((most - bs.length : Nat) : Int) < (s.size : Int)) = true := by simp; omega
  obtain ⟨r, hr⟩ : ∃ r : Nat, most - bs.length = r := ⟨_, rfl⟩
  rw [hr] at H1 hd hs
  clear h hr
  go_enter Try.func19, Try.ntmps19
  go_wp2_with (go_at_call 23; refine H1.out.mono ?_; rintro e w1 ⟨rfl, hb1⟩; have HB1 := Lib.hid hb1; clear hb1)
  go_ret
  exact ⟨rfl, HB1.out⟩
theorem Push_ok {w : World} {B g : Nat} {bs : List UInt8} {most out : Nat} (h : Que w B g bs most out) (s : ByteArray) (hs : s.size ≤ most - bs.length) (hB : B ≤ w.heap.size) :
    Calls Try.prog 19 #[.pointer (some ⟨g, 0, none⟩), .string s] w fun e w' => e = .returned (.int .i64 0) ∧ Que w' B g (bs ++ s.data.toList) most out ∧ Turn w w' B g := by
  have H1 := Lib.hid (room_any h)
  have h1 := h.fits
  have H2 : Hid (∀ W, Below w.heap.size w W → Calls Try.prog 24 #[.pointer (some ⟨g, 0, none⟩), .string s] W fun e w' => e = .returned (.tuple #[]) ∧ Que w' B g (bs ++ s.data.toList) most out ∧ Turn W w' B g) :=
    fun W hb => hold_any (h.below hb) s (by omega) (Nat.le_trans hB hb.size)
  obtain ⟨r, hr⟩ : ∃ r : Nat, most - bs.length = r := ⟨_, rfl⟩
  rw [hr] at H1 hs
  have HB := Lib.hid hB
  clear h hr h1 hB
  go_enter Try.func19, Try.ntmps19
  go_wp2_with (first
    | (go_at_call 23; refine H1.out.mono ?_; rintro e w1 ⟨rfl, hb1⟩; have HB1 := Lib.hid hb1; clear hb1)
    | (go_at_call 24; refine (H2.out _ HB1.out).mono ?_; rintro e w2 ⟨rfl, hq2, hb2⟩; have HQ2 := Lib.hid hq2; have HB2 := Lib.hid hb2; clear hq2 hb2))
  go_ret
  exact ⟨rfl, HQ2.out, (Turn.of HB1.out HB.out).trans HB2.out⟩
end Go.Proofs.Ytamfkiimppfoaaa
