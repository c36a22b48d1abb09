/-
  Parts, one behind the other: The queue: the first bytes, so many, that there are; Peek. No condition but that the queue is one, and that the bytes are there. | The queue: bytes that come to it; Push. No condition but that the queue is one. | The queue: the first bytes, so many, go; Drain. No condition but that the queue is one. | Layer 37 (hold): a hold in memory, and what its calls make of it. No condition but that the hold is one. | Layer 28 (jscript): the machine in memory; its smallest functions. No condition but that the machine is one. | Layer 27 (json): a machine that has met blanks alone, and one that has met a byte with which no JSON begins. No condition but that the machine is one.
-/
import Derived.Test.YtlhaaokldjdnnaaGreatDoorQLook
import Derived.Outline
import Derived.Test.YtlhaaokldjdnnaaGreatDoorBytes
namespace Go.Proofs.YtlhaaokldjdnnaaGreatDoor
open Go.RowKit
set_option linter.unusedVariables false
set_option linter.unusedSimpArgs false

def byteV (c : UInt8) : Value := .int .u8 (c.toNat : Int)
theorem strCells_bytes (s : ByteArray) : Lib.strCells s = s.data.toList.map byteV := rfl
theorem Tryz.infoU : (Tryz.prog.info? 5).map (fun i => (i.zero, i.size, i.bytes)) = some (some (.int .u8 0), 1, 1) := by kernel_rfl
theorem Tryz.infoS : (Tryz.prog.info? 9).map (fun i => (i.zero, i.size, i.bytes)) = some (some (.string ByteArray.empty), 1, 16) := by kernel_rfl

def lenV : Value → Nat | .slice _ m _ => m | _ => 0
theorem make_bytes (n : Nat) (hn : n ≤ 1000000000) (w : World) : (Instr.makeSlice 69 (.int .i64 0) (.int .i64 n)).run Tryz.prog w = .ok (.slice (some ⟨w.heap.size, 0, none⟩) 0 n) (w.alloc (.cells (madeCells #[.int .u8 0] n) 5)) := by
  obtain ⟨i, hi, hz0, hz1, hz2⟩ := info_parts Tryz.infoU
  have h := run_make (P := Tryz.prog) w 69 5 i (.int .u8 0) Tryz.underlying69 hi hz0 .i64 .i64 0 n (by omega) (by omega) (by rw [hz2]; omega) (by omega)
  rw [hz1] at h
  change _ = Result.ok _ (w.alloc (.cells (madeCells #[.int .u8 0] _) 5)) at h
  simpa using h

theorem drop_bytes (p : ByteArray) (k : Nat) : (p.extract k p.size).data.toList = p.data.toList.drop k := by
  rw [Lib.extract_data, List.take_of_length_le (by rw [List.length_drop, ← Lib.size_eq]; omega)]
theorem take_bytes (p : ByteArray) (k : Nat) : (p.extract 0 k).data.toList = p.data.toList.take k := by
  rw [Lib.extract_data, List.drop_zero, Nat.sub_zero]

/-- What the first piece gives. -/
theorem Held.piece {p : ByteArray} {t : List ByteArray} {k m j : Nat} {bs : List UInt8} (h : Held (p :: t) k (bs.drop m)) (hj : j ≤ p.size - k) :
    (bs.take m).map byteV ++ Lib.strCells ((p.extract k p.size).extract 0 j) = (bs.take (m + j)).map byteV := by
  rw [strCells_bytes, take_bytes, drop_bytes, ← h.take j hj, ← List.map_append, List.take_add]

theorem own_next {w1 : World} {B k' m jj X : Nat} {p : ByteArray} {bs : List UInt8} {v1 : Value} (hX : X = jj) (hle : jj ≤ p.size - k') (hpos : 0 < jj)
    (hp : ∀ j, j ≤ p.size - k' → (bs.take m).map byteV ++ Lib.strCells ((p.extract k' p.size).extract 0 j) = (bs.take (m + j)).map byteV)
    (h : w1.ownsRow B 5 1 v1 (m + ((p.extract k' p.size).extract 0 X).size) ((bs.take m).map byteV ++ Lib.strCells ((p.extract k' p.size).extract 0 X))) :
    ∃ A1 c1, v1 = .slice A1 (m + jj) c1 ∧ w1.ownsRow B 5 1 (.slice A1 (m + jj) c1) (m + jj) ((bs.take (m + jj)).map byteV) := by
  subst hX
  rw [hp X hle] at h
  have hsz : ((p.extract k' p.size).extract 0 X).size = X := by rw [ByteArray.size_extract, ByteArray.size_extract]; omega
  rw [hsz] at h
  rcases h.2 with ⟨_, h0⟩ | ⟨g, cap, cur, hv, _⟩
  · omega
  · exact ⟨_, _, hv, by rw [← hv]; exact h⟩

set_option maxHeartbeats 1000000 in
theorem first_any {w : World} {B g : Nat} {bs : List UInt8} {most out : Nat} (h : Que w B g bs most out) (n : Nat) (hn : n ≤ bs.length) :
    Calls Tryz.prog 90 #[.pointer (some ⟨g, 0, none⟩), .int .i64 n] w fun e w' => e = .returned (.string ⟨(bs.take n).toArray⟩) ∧ Below w.heap.size w w' := by
  have hlt := h.lt
  have h1 := h.fits
  have h2 := h.small
  obtain ⟨l, A, cap, k, hg, hr, hh⟩ := h.ex
  have hcells : ∀ W, Below w.heap.size w W → W.cell? ⟨g, 0, none⟩ = some (.slice A l.length cap) ∧ W.cell? ⟨g, 1, none⟩ = some (.int .i64 k) := fun W hb => by
    have := (hb.block g hlt).trans hg
    exact ⟨cell_of_row W g 0 _ _ _ this, cell_of_row W g 1 _ _ _ this⟩
  obtain ⟨c0, c1⟩ := hcells w (Below.refl _ _)
  have hlen := hh.many
  have HR := Lib.hid hr
  have HC := Lib.hid hcells
  have HH := Lib.hid hh
  have HG := Lib.hid hg
  obtain ⟨N, hN⟩ : ∃ N, bs.length = N := ⟨_, rfl⟩
  rw [hN] at hn h1 hlen
  have HN := Lib.hid hN
  have hmk := make_bytes n (by omega)
  obtain ⟨i, hi, hz0, hz1, hz2⟩ := info_parts Tryz.infoU
  have HI := Lib.hid hi
  have HZ := Lib.hid hz0
  have HZ1 := Lib.hid hz1
  have HZ2 := Lib.hid hz2
  clear h hr hh hcells hg hN hi hz0 hz1 hz2
  go_enter Tryz.func90, Tryz.ntmps90
  go_wp2
  go_loopw [5, 6, 7] (fun o a i wr => ∃ (m j k' c : Nat) (A' : Option Addr), o = .slice A' m c ∧ a = .int .i64 k' ∧ i = .int .i64 j ∧ m ≤ n ∧ j ≤ m ∧ wr.ownsRow w.heap.size 5 1 (.slice A' m c) m ((bs.take m).map byteV) ∧ Hid (m < n → Held (l.drop j) k' (bs.drop m)) ∧ Below w.heap.size w wr) (fun o _ _ _ => n - lenV o)
  case atStart =>
    refine ⟨0, 0, k, n, some ⟨w.heap.size, 0, none⟩, rfl, rfl, rfl, Nat.zero_le _, Nat.le_refl _, ?_, fun _ => by simpa using HH.out, (Below.refl _ _).alloc (Nat.le_refl _) _⟩
    exact World.ownsRow_made w _ n (Nat.le_refl _) (by unfold maxLen; omega) (by simp [size_madeCells])
  case round =>
    obtain ⟨m, j, k', c, A', rfl, rfl, rfl, hm, hj, hown, HP, hb⟩ := hrel
    by_cases hlt2 : m < n
    · obtain ⟨d0, d1⟩ := HC.out _ hb
      have hheld := HP.out hlt2
      obtain ⟨p, t, hpt, hkp⟩ := hheld.ex (by rw [List.length_drop, HN.out]; omega)
      have hjl : j < l.length := by
        have := congrArg List.length hpt
        simp at this
        omega
      have hpj : l[j] = p := by
        rw [List.drop_eq_getElem_cons hjl] at hpt
        injection hpt
      have hrow := HR.out.below hb (Nat.le_refl _)
      obtain ⟨gl, off, cap', hA, hcell, hc1, hc2⟩ := hrow.get hjl
      injection hA with hA1 hA2 hA3
      subst hA1
      have hcp : wr.cell? ⟨gl, off + j, none⟩ = some (.string p) := by rw [hcell]; simp [hpj]
      rw [hpt] at hheld
      have hps : p.size - k' ≤ N - m := by have := hheld.size; rw [List.length_drop, HN.out] at this; exact this
      have hpiece := fun jj hjj => hheld.piece (j := jj) hjj
      have hnext := hheld.next
      have HPI := Lib.hid hpiece
      have HNX := Lib.hid hnext
      have HT : Hid (l.drop (j + 1) = t) := by
        unfold Hid
        rw [List.drop_eq_getElem_cons hjl] at hpt
        injection hpt
      have HB := Lib.hid hb
      have HO := Lib.hid hown
      have hsz := hb.size
      clear hheld hpiece hnext hpt hpj hcell hrow hA2 hA3 hb hown HP
      unfold maxLen at hc2
      have HX1 : Hid (∀ x, m + ((p.extract k' p.size).extract 0 x).size ≤ maxLen) := fun x => by unfold maxLen; rw [ByteArray.size_extract, ByteArray.size_extract]; omega
      have HX2 : Hid (∀ x, m + ((p.extract k' p.size).extract 0 x).size ≤ 140737488355328) := fun x => by rw [ByteArray.size_extract, ByteArray.size_extract]; omega
      have HSZ := Lib.hid hsz
      by_cases hmin : p.size - k' ≤ n - m
      · go_wp2_with (at_builtin; refine Lib.wpList_append_own_string _ rfl (.tmp 32) (.tmp 41) 69 9 rfl w.heap.size 5 i Tryz.underlying69 Tryz.underlying9 HI.out HZ.out HZ1.out HZ2.out _ _ _ rfl HO.out _ rfl (HX1.out _) (HX2.out _) HSZ.out ?_; intro v1 w1 hown1 hgr1 _)
        obtain ⟨A1, e1, rfl, hown2⟩ := own_next (jj := p.size - k') (rfl) (by omega) (by omega) HPI.out hown1
        go_roundw
        case rel =>
          refine ⟨m + (p.size - k'), j + 1, 0, e1, A1, rfl, rfl, by go_num, by omega, by omega, hown2, fun _ => ?_, ?_⟩
          · rw [HT.out, ← List.drop_drop]
            exact HNX.out
          · exact HB.out.grown hgr1 HSZ.out (fun b hb' => (HO.out.lt b hb').1)
        case measure => simp [lenV]; omega
      · go_wp2_with (at_builtin; refine Lib.wpList_append_own_string _ rfl (.tmp 32) (.tmp 41) 69 9 rfl w.heap.size 5 i Tryz.underlying69 Tryz.underlying9 HI.out HZ.out HZ1.out HZ2.out _ _ _ rfl HO.out _ rfl (HX1.out _) (HX2.out _) HSZ.out ?_; intro v1 w1 hown1 hgr1 _)
        obtain ⟨A1, e1, rfl, hown2⟩ := own_next (jj := n - m) (by rw [if_pos (by omega)]; omega) (by omega) (by omega) HPI.out hown1
        go_roundw
        case rel =>
          refine ⟨m + (n - m), j + 1, 0, e1, A1, rfl, rfl, by go_num, by omega, by omega, hown2, fun h' => absurd h' (by omega), ?_⟩
          exact HB.out.grown hgr1 HSZ.out (fun b hb' => (HO.out.lt b hb').1)
        case measure => simp [lenV]; omega
    · obtain rfl : m = n := by omega
      have hcv := own_string (P := Tryz.prog) 69 5 9 Tryz.underlying69 Tryz.underlying5 Tryz.underlying9 wr w.heap.size m (.slice A' m c) (bs.take m) (by rw [List.length_take, HN.out]; omega) hown
      have HB := Lib.hid hb
      clear hown HP hb
      go_wp2
      go_ret
      exact ⟨rfl, HB.out⟩

theorem first_nil (w : World) : Calls Tryz.prog 90 #[.pointer none, .int .i64 0] w fun e w' => e = .returned (.string ⟨#[]⟩) ∧ Below w.heap.size w w' := by
  have hmk : ∀ w : World, (Instr.makeSlice 69 (.int .i64 0) (.int .i64 0)).run Tryz.prog w = .ok (.slice (some ⟨w.heap.size, 0, none⟩) 0 0) (w.alloc (.cells (madeCells #[.int .u8 0] 0) 5)) := fun w => make_bytes 0 (by omega) w
  have hcv : ∀ (wr : World) a, (convert 69 9 (.slice (some a) 0 0)).run Tryz.prog wr = .ok (.string ⟨#[]⟩) wr := fun wr a => run_convert_bytes_back (P := Tryz.prog) wr 69 9 5 a 0 [] Tryz.underlying69 Tryz.underlying5 Tryz.underlying9 (fun j hj => by simp at hj)
  go_enter Tryz.func90, Tryz.ntmps90
  go_wp2
  go_loopw [5, 6, 7] (fun o a i wr => o = .slice (some ⟨w.heap.size, 0, none⟩) 0 0 ∧ Below w.heap.size w wr) (fun _ _ _ _ => 0)
  case atStart => exact ⟨rfl, (Below.refl _ _).alloc (Nat.le_refl _) _⟩
  case round =>
    obtain ⟨rfl, hb⟩ := hrel
    have HB := Lib.hid hb
    clear hb
    go_wp2
    go_ret
    exact ⟨rfl, HB.out⟩
theorem Peek_nil (n : Int) (w : World) : Calls Tryz.prog 66 #[.pointer none, .int .i64 n] w fun e w' => e = .returned (.string ⟨#[]⟩) ∧ Below w.heap.size w w' := by
  have H1 := Lib.hid (count_nil n w)
  have H2 := Lib.hid (first_nil w)
  go_enter Tryz.func66, Tryz.ntmps66
  go_wp2_with (first | (go_at_call 91; refine H1.out.mono ?_; rintro e w1 ⟨rfl, rfl⟩) | (go_at_call 90; refine H2.out.mono ?_; rintro e w1 ⟨rfl, hb1⟩; have HB1 := Lib.hid hb1; clear hb1))
  go_ret
  exact ⟨rfl, HB1.out⟩
theorem Peek_any {w : World} {B g : Nat} {bs : List UInt8} {most out : Nat} (h : Que w B g bs most out) (n : Int) :
    Calls Tryz.prog 66 #[.pointer (some ⟨g, 0, none⟩), .int .i64 n] w fun e w' => e = .returned (.string ⟨(bs.take (cntN n bs.length)).toArray⟩) ∧ Below w.heap.size w w' := by
  have H1 := Lib.hid (count_any h n)
  have H2 := Lib.hid (first_any h (cntN n bs.length) (cntN_le _ _))
  clear h
  go_enter Tryz.func66, Tryz.ntmps66
  go_wp2_with (first | (go_at_call 91; refine H1.out.mono ?_; rintro e w1 ⟨rfl, rfl⟩) | (go_at_call 90; refine H2.out.mono ?_; rintro e w1 ⟨rfl, hb1⟩; have HB1 := Lib.hid hb1; clear hb1))
  go_ret
  exact ⟨rfl, HB1.out⟩
end Go.Proofs.YtlhaaokldjdnnaaGreatDoor
namespace Go.Proofs.YtlhaaokldjdnnaaGreatDoor
open Go.RowKit
set_option linter.unusedVariables false
set_option linter.unusedSimpArgs false

theorem hold_none {w : World} (g : Addr) (s : ByteArray) (hs : s.toList.isEmpty = true) :
    Calls Tryz.prog 95 #[.pointer (some g), .string s] w fun e w' => e = .returned (.tuple #[]) ∧ w = w' := by
  go_enter Tryz.func95, Tryz.ntmps95
  go_wp2
  go_end0
  exact ⟨rfl, rfl⟩
theorem toList_empty (s : ByteArray) : s.toList.isEmpty = decide (s.size = 0) := by
  rw [Lib.toList_data, Lib.size_eq]
  cases s.data.toList <;> simp

theorem pos_of_some {s : ByteArray} (h : s.toList.isEmpty = false) : 0 < s.size := by
  rw [toList_empty] at h
  have := of_decide_eq_false h
  omega
theorem grown_blk {w w1 : World} {o : Obj} {row : Option Nat} (h : (w.alloc o).grownBy w1 row) {g : Nat} (hg : g < w.heap.size) (hne : row ≠ some g) : w1.heap[g]? = w.heap[g]? :=
  (h.block g (by simp; omega) (fun e => hne e.symm)).trans (Below.heap_alloc w o g hg)

set_option maxHeartbeats 1000000 in
theorem hold_some {w : World} {B g : Nat} {bs : List UInt8} {most out : Nat} (h : Que w B g bs most out) (s : ByteArray) (hs : s.toList.isEmpty = false) (hfit : bs.length + s.size ≤ most) (hB : B ≤ w.heap.size) :
    Calls Tryz.prog 95 #[.pointer (some ⟨g, 0, none⟩), .string s] w fun e w' => e = .returned (.tuple #[]) ∧ Que w' B g (bs ++ s.data.toList) most out ∧ Turn w w' B g := by
  have hlt := h.lt
  obtain ⟨h0, h1, h2, h3, l, A, cap, k, hg, hr, hh⟩ := h
  have hcells : ∀ W : World, W.heap[g]? = w.heap[g]? → W.cell? ⟨g, 0, none⟩ = some (.slice A l.length cap) ∧ W.cell? ⟨g, 2, none⟩ = some (.int .i64 bs.length) ∧ W.frozen? ⟨g, 0, none⟩ = false ∧ W.frozen? ⟨g, 2, none⟩ = false := fun W hb => by
    have := hb.trans hg
    exact ⟨cell_of_row W g 0 _ _ _ this, cell_of_row W g 2 _ _ _ this, blk_frozen this 0, blk_frozen this 2⟩
  obtain ⟨c0, c2, f0, f2⟩ := hcells w rfl
  have hap := hr.apart hg (by decide)
  have hlen := hh.many
  have HR := Lib.hid (hr.alloc (.cells #[.string s] 9))
  have HH := Lib.hid hh
  have HG := Lib.hid hg
  have HA := Lib.hid hap
  have HB := Lib.hid hB
  have HCN : Hid ((w.alloc (.cells #[.string s] 9)).cell? ⟨w.heap.size, 0, none⟩ = some (.string s)) := by unfold Hid; rw [World.cell?_alloc_new]; rfl
  obtain ⟨N, hN⟩ : ∃ N, bs.length = N := ⟨_, rfl⟩
  rw [hN] at c2 hfit h1 hlen
  simp only [hN] at hcells
  have HC := Lib.hid hcells
  have HN := Lib.hid hN
  obtain ⟨i, hi, hz0, hz1, hz2⟩ := info_parts Tryz.infoS
  have HI := Lib.hid hi
  have HZ := Lib.hid hz0
  have HZ1 := Lib.hid hz1
  have HZ2 : Hid (i.bytes ≤ 1000) := by unfold Hid; omega
  have HL : Hid (l.length ≤ 1000000000) := by unfold Hid; omega
  have HB2 : Hid (B ≤ (w.alloc (.cells #[.string s] 9)).heap.size) := by unfold Hid; simp; omega
  clear hr hh hcells hg hN hi hz0 hz1 hz2 hap hB
  go_enter Tryz.func95, Tryz.ntmps95
  go_wp2_with (at_builtin; refine wpList_append_row rfl (.tmp 10) (.tmp 12) 50 rfl B 9 i (.string ByteArray.empty) Tryz.underlying50 HI.out HZ.out HZ1.out HZ2.out rfl _ _ _ rfl HR.out _ _ _ rfl HCN.out rfl HL.out HB2.out ?_; intro A1 e1 w1 hr1 hgr1; have hg1 := grown_blk hgr1 hlt HA.out; obtain ⟨d0, d2, f0', f2'⟩ := HC.out w1 hg1; have HG1 := Lib.hid (hg1.trans HG.out); have HR1 := Lib.hid hr1; have HGR := Lib.hid hgr1; clear hr1 hgr1 hg1)
  go_end0
  have hb1 : Below B w w1 := ((Below.refl B w).alloc HB.out _).grown HGR.out HB2.out (fun b hb => (HR.out.lt b hb).1)
  have hap1 := HR1.out.apart HG1.out (by decide)
  refine ⟨rfl, ⟨h0, by rw [List.length_append, ← Lib.size_eq, HN.out]; exact hfit, h2, h3, l ++ [s], A1, e1, k, ?_, ?_, HH.out.push s (pos_of_some hs) (by omega)⟩, ?_⟩
  · have e2 := blk_set (blk_set HG1.out 0 (.slice A1 (l.length + 1) e1)) 2 (.int .i64 ((N : Int) + s.size))
    rw [e2]
    simp [HN.out]
  · have := (HR1.out.setCell (p := ⟨g, 0, none⟩) hap1 (.slice A1 (l.length + 1) e1)).setCell (p := ⟨g, 2, none⟩) hap1 (.int .i64 ((N : Int) + s.size))
    simpa using this
  · refine ⟨(hb1.setCell (p := ⟨g, 0, none⟩) h0 _).setCell (p := ⟨g, 2, none⟩) h0 _, fun k' cs t m hk hkg ht => ?_⟩
    have hne : (Value.slice A l.length cap).ownBlock ≠ some k' := HR.out.apart ((Below.heap_alloc w _ k' (blk_lt hk)).trans hk) (fun e => ht e.symm)
    exact (Below.heap_setCell _ ⟨g, 2, none⟩ _ k' hkg).trans ((Below.heap_setCell _ ⟨g, 0, none⟩ _ k' hkg).trans (grown_blk HGR.out (blk_lt hk) hne))
theorem toList_of_empty {s : ByteArray} (h : s.toList.isEmpty = true) : s.data.toList = [] := by
  rw [Lib.toList_data] at h
  exact List.isEmpty_iff.1 h
theorem hold_any {w : World} {B g : Nat} {bs : List UInt8} {most out : Nat} (h : Que w B g bs most out) (s : ByteArray) (hfit : bs.length + s.size ≤ most) (hB : B ≤ w.heap.size) :
    Calls Tryz.prog 95 #[.pointer (some ⟨g, 0, none⟩), .string s] w fun e w' => e = .returned (.tuple #[]) ∧ Que w' B g (bs ++ s.data.toList) most out ∧ Turn w w' B g := by
  cases hs : s.toList.isEmpty
  · exact hold_some h s hs hfit hB
  · refine (hold_none ⟨g, 0, none⟩ s hs).mono fun e w' hw => ?_
    obtain ⟨he, rfl⟩ := hw
    rw [toList_of_empty hs, List.append_nil]
    exact ⟨he, h, Turn.refl _ _ _⟩

theorem Push_nil (s : ByteArray) (w : World) : Calls Tryz.prog 73 #[.pointer none, .string s] w fun e w' => e = .returned (.int .i64 1) ∧ w = w' := by
  go_enter Tryz.func73, Tryz.ntmps73
  go_wp2
  go_ret
  exact ⟨rfl, rfl⟩
theorem Push_full {w : World} {B g : Nat} {bs : List UInt8} {most out : Nat} (h : Que w B g bs most out) (s : ByteArray) (hs : most - bs.length < s.size) :
    Calls Tryz.prog 73 #[.pointer (some ⟨g, 0, none⟩), .string s] w fun e w' => e = .returned (.int .i64 3) ∧ Below w.heap.size w w' := by
  have H1 := Lib.hid (room_any h)
  have hd : decide (((most - bs.length : Nat) : Int) < (s.size : Int)) = true := by simp; omega
  obtain ⟨r, hr⟩ : ∃ r : Nat, most - bs.length = r := ⟨_, rfl⟩
  rw [hr] at H1 hd hs
  clear h hr
  go_enter Tryz.func73, Tryz.ntmps73
  go_wp2_with (go_at_call 94; refine H1.out.mono ?_; rintro e w1 ⟨rfl, hb1⟩; have HB1 := Lib.hid hb1; clear hb1)
  go_ret
  exact ⟨rfl, HB1.out⟩
theorem Push_ok {w : World} {B g : Nat} {bs : List UInt8} {most out : Nat} (h : Que w B g bs most out) (s : ByteArray) (hs : s.size ≤ most - bs.length) (hB : B ≤ w.heap.size) :
    Calls Tryz.prog 73 #[.pointer (some ⟨g, 0, none⟩), .string s] w fun e w' => e = .returned (.int .i64 0) ∧ Que w' B g (bs ++ s.data.toList) most out ∧ Turn w w' B g := by
  have H1 := Lib.hid (room_any h)
  have h1 := h.fits
  have H2 : Hid (∀ W, Below w.heap.size w W → Calls Tryz.prog 95 #[.pointer (some ⟨g, 0, none⟩), .string s] W fun e w' => e = .returned (.tuple #[]) ∧ Que w' B g (bs ++ s.data.toList) most out ∧ Turn W w' B g) :=
    fun W hb => hold_any (h.below hb) s (by omega) (Nat.le_trans hB hb.size)
  obtain ⟨r, hr⟩ : ∃ r : Nat, most - bs.length = r := ⟨_, rfl⟩
  rw [hr] at H1 hs
  have HB := Lib.hid hB
  clear h hr h1 hB
  go_enter Tryz.func73, Tryz.ntmps73
  go_wp2_with (first
    | (go_at_call 94; refine H1.out.mono ?_; rintro e w1 ⟨rfl, hb1⟩; have HB1 := Lib.hid hb1; clear hb1)
    | (go_at_call 95; refine (H2.out _ HB1.out).mono ?_; rintro e w2 ⟨rfl, hq2, hb2⟩; have HQ2 := Lib.hid hq2; have HB2 := Lib.hid hb2; clear hq2 hb2))
  go_ret
  exact ⟨rfl, HQ2.out, (Turn.of HB1.out HB.out).trans HB2.out⟩
end Go.Proofs.YtlhaaokldjdnnaaGreatDoor
namespace Go.Proofs.YtlhaaokldjdnnaaGreatDoor
open Go.RowKit
set_option linter.unusedVariables false
set_option linter.unusedSimpArgs false

/-- The queue while some of its bytes go: r of them still have to. -/
structure Going (w wr : World) (B g : Nat) (bs : List UInt8) (most out n r : Nat) (A : Option Addr) (cap : Nat) (l : List ByteArray) (k : Nat) : Prop where
  blk : wr.heap[g]? = some (.cells #[.slice A l.length cap, .int .i64 k, .int .i64 ((bs.length - n : Nat) : Int), .int .i64 most, .int .i64 ((out + n : Nat) : Int)] 101 (0, 0))
  row : Row wr B 9 (.slice A l.length cap) l.length (l.map Value.string)
  held : Held l k (bs.drop (n - r))
  le : r ≤ n
  turn : Turn w wr B g

theorem Turn.drewN {a b : World} {B g : Nat} (h : Turn a b B g) (n : Nat) : Turn a (b.drewN n) B g := ⟨below_drewN h.below n, h.keep⟩
theorem Turn.set_ {a b : World} {B g : Nat} (h : Turn a b B g) (hg : B ≤ g) (i : Nat) (u : Value) : Turn a (b.setCell ⟨g, i, none⟩ u) B g :=
  ⟨h.below.setCell (p := ⟨g, i, none⟩) hg u, fun k cs t m hk hkg ht => (Below.heap_setCell _ ⟨g, i, none⟩ _ k hkg).trans (h.keep k cs t m hk hkg ht)⟩

section
variable {w wr : World} {B g : Nat} {bs : List UInt8} {most out n r cap k gl off : Nat} {p : ByteArray} {t : List ByteArray}
/-- A whole piece goes. -/
theorem Going.whole (h : Going w wr B g bs most out n r (some ⟨gl, off, none⟩) cap (p :: t) k) (hg : B ≤ g) (hle : p.size - k ≤ r) (a b : Nat) (u : Value) :
    Going w (((((wr.drewN a).setCell ⟨g, 1, none⟩ u).drewN b).setCell ⟨g, 0, none⟩ (.slice (if cap = 1 then some ⟨gl, off, none⟩ else some ⟨gl, off + 1, none⟩) t.length (cap - 1))).setCell ⟨g, 1, none⟩ (.int .i64 0))
      B g bs most out n (r - (p.size - k)) (if cap = 1 then some ⟨gl, off, none⟩ else some ⟨gl, off + 1, none⟩) (cap - 1) t 0 := by
  have hap := h.row.apart h.blk (by decide)
  have hap2 := h.row.tail.apart (g := g) (t := 101) h.blk (by decide)
  refine ⟨?_, ?_, ?_, by have := h.le; omega, ?_⟩
  · have e := blk_set (blk_set (blk_set h.blk 1 u) 0 (.slice (if cap = 1 then some ⟨gl, off, none⟩ else some ⟨gl, off + 1, none⟩) t.length (cap - 1))) 1 (.int .i64 0)
    refine Eq.trans e ?_
    simp
  · refine Row.setCell (p := ⟨g, 1, none⟩) (Row.setCell (p := ⟨g, 0, none⟩) ?_ hap2 _) hap2 _
    exact (h.row.tail.setCell (p := ⟨g, 1, none⟩) hap2 u).keep fun _ _ => rfl
  · have hn := h.held.next
    rw [List.drop_drop] at hn
    have e : n - (r - (p.size - k)) = n - r + (p.size - k) := by have := h.le; omega
    rw [e]
    exact hn
  · exact ((((h.turn.drewN a).set_ hg 1 u).drewN b).set_ hg 0 _).set_ hg 1 _
/-- A part of a piece goes: the last one. -/
theorem Going.part (h : Going w wr B g bs most out n r (some ⟨gl, off, none⟩) cap (p :: t) k) (hg : B ≤ g) (hle : r < p.size - k) (a b : Nat) :
    Going w (((wr.drewN a).setCell ⟨g, 1, none⟩ (.int .i64 ((k : Int) + r))).drewN b) B g bs most out n 0 (some ⟨gl, off, none⟩) cap (p :: t) (k + r) := by
  have hap := h.row.apart h.blk (by decide)
  refine ⟨?_, (h.row.setCell (p := ⟨g, 1, none⟩) hap _).keep fun _ _ => rfl, ?_, Nat.zero_le _, ((h.turn.drewN a).set_ hg 1 _).drewN b⟩
  · have e := blk_set h.blk 1 (.int .i64 ((k : Int) + r))
    refine Eq.trans e ?_
    simp
  · have hs := h.held.some_ r (by omega)
    rw [List.drop_drop] at hs
    have e : n - r + r = n - 0 := by have := h.le; omega
    rw [← e]
    exact hs
/-- All of them have gone. -/
theorem Going.gone {l : List ByteArray} {A : Option Addr} (h : Going w wr B g bs most out n 0 A cap l k) (hg : B ≤ g) (hn : n ≤ bs.length) (hf : bs.length ≤ most) (hm : most ≤ 1048576) (ho : out + n ≤ 1000000000) :
    Que wr B g (bs.drop n) most (out + n) := by
  refine ⟨hg, by rw [List.length_drop]; omega, hm, ho, l, A, cap, k, ?_, h.row, h.held⟩
  rw [List.length_drop]
  exact h.blk
end

set_option maxHeartbeats 1000000 in
theorem drop_any {w : World} {B g : Nat} {bs : List UInt8} {most out : Nat} (h : Que w B g bs most out) (n : Nat) (hn : n ≤ bs.length) (hB : B ≤ w.heap.size) (ho : out + n ≤ 1000000000) :
    Calls Tryz.prog 93 #[.pointer (some ⟨g, 0, none⟩), .int .i64 n] w fun e w' => e = .returned (.tuple #[]) ∧ Que w' B g (bs.drop n) most (out + n) ∧ Turn w w' B g := by
  obtain ⟨h0, h1, h2, h3, l, A, cap, k, hg, hr, hh⟩ := h
  have hlt := blk_lt hg
  obtain ⟨c2, c4⟩ : w.cell? ⟨g, 2, none⟩ = some (.int .i64 bs.length) ∧ w.cell? ⟨g, 4, none⟩ = some (.int .i64 out) := ⟨cell_of_row w g 2 _ _ _ hg, cell_of_row w g 4 _ _ _ hg⟩
  have f2 := blk_frozen hg 2
  have f4 := blk_frozen hg 4
  have hap := hr.apart hg (by decide)
  have HS : Hid (Going w ((w.setCell ⟨g, 2, none⟩ (.int .i64 ((bs.length : Int) - n))).setCell ⟨g, 4, none⟩ (.int .i64 ((out : Int) + n))) B g bs most out n n A cap l k) := by
    refine ⟨?_, ?_, ?_, Nat.le_refl _, ((Turn.refl w B g).set_ h0 _ _).set_ h0 _ _⟩
    · have e2 := blk_set (blk_set hg 2 (.int .i64 ((bs.length : Int) - n))) 4 (.int .i64 ((out : Int) + n))
      rw [e2]
      simp
      omega
    · exact (hr.setCell (p := ⟨g, 2, none⟩) hap _).setCell (p := ⟨g, 4, none⟩) hap _
    · simpa using hh
  obtain ⟨N, hN⟩ : ∃ N, bs.length = N := ⟨_, rfl⟩
  have HN := Lib.hid hN
  rw [hN] at hn h1 c2 HS
  have HLE := Lib.hid (hh.many)
  clear hg hr hh hap hN
  go_enter Tryz.func93, Tryz.ntmps93
  go_wp2
  go_loopw [1] (fun i wr => ∃ (r cap k : Nat) (A : Option Addr) (l : List ByteArray), i = .int .i64 r ∧ Hid (Going w wr B g bs most out n r A cap l k)) (fun i _ => (intOf i).toNat)
  case atStart => exact ⟨n, cap, k, A, l, rfl, HS.out⟩
  case round =>
    obtain ⟨r, cap, k, A, l, rfl, HG⟩ := hrel
    by_cases hr0 : 0 < r
    · have hG := HG.out
      obtain ⟨p, t, rfl, hkp⟩ := hG.held.ex (by have := hG.le; rw [List.length_drop, HN.out]; omega)
      obtain ⟨gl, off, cap', hA, hcell, hc1, hc2⟩ := hG.row.get (j := 0) (by simp)
      injection hA with hA1 _ hA3
      subst hA1 hA3
      have hcp : wr.cell? ⟨gl, off, none⟩ = some (.string p) := by simpa using hcell
      obtain ⟨d0, d1⟩ : wr.cell? ⟨g, 0, none⟩ = some (.slice (some ⟨gl, off, none⟩) (t.length + 1) cap) ∧ wr.cell? ⟨g, 1, none⟩ = some (.int .i64 k) := ⟨cell_of_row wr g 0 _ _ _ hG.blk, cell_of_row wr g 1 _ _ _ hG.blk⟩
      have e0 := blk_frozen hG.blk 0
      have e1 := blk_frozen hG.blk 1
      have hps := hG.held.size
      rw [List.length_drop, HN.out] at hps
      have hle := hG.le
      have hbig := hG.held.big p (by simp)
      simp only [List.length_cons] at hc1
      unfold maxLen at hc2
      have hne : gl ≠ g := by
        have := hG.row.apart hG.blk (by decide)
        simpa [Value.ownBlock] using this
      have hne' : g ≠ gl := fun e => hne e.symm
      clear hcell hG
      by_cases hmin : p.size - k ≤ r
      · have hE : ((k : Int) + ((p.size : Int) - k) == p.size) = true := by
          rw [beq_iff_eq]
          omega
        go_wp2
        go_quiet (fail)
        go_wp2
        go_quiet (fail)
        go_wp2
        go_roundw
        case rel => exact ⟨r - (p.size - k), _, 0, _, t, by go_num, HG.out.whole h0 hmin _ _ _⟩
        case measure => simp [intOf]; omega
      · have hE : ((k : Int) + r == p.size) = false := by
          rw [beq_eq_false_iff_ne]
          omega
        go_wp2
        go_quiet (fail)
        go_wp2
        go_quiet (fail)
        go_wp2
        go_roundw
        case rel => exact ⟨0, _, k + r, _, p :: t, rfl, HG.out.part h0 (by omega) _ _⟩
        case measure => simp [intOf]; omega
    · obtain rfl : r = 0 := by omega
      go_wp2
      go_end0
      exact ⟨rfl, HG.out.gone h0 (by rw [HN.out]; exact hn) (by rw [HN.out]; exact h1) h2 ho, HG.out.turn⟩

theorem take_any {w : World} {B g : Nat} {bs : List UInt8} {most out : Nat} (h : Que w B g bs most out) (n : Nat) (hn : n ≤ bs.length) (hB : B ≤ w.heap.size) (ho : out + n ≤ 1000000000) :
    Calls Tryz.prog 72 #[.pointer (some ⟨g, 0, none⟩), .int .i64 n] w fun e w' => e = .returned (.string ⟨(bs.take n).toArray⟩) ∧ Que w' B g (bs.drop n) most (out + n) ∧ Turn w w' B g := by
  have H1 := Lib.hid (first_any h n hn)
  have H2 : Hid (∀ W, Below w.heap.size w W → Calls Tryz.prog 93 #[.pointer (some ⟨g, 0, none⟩), .int .i64 n] W fun e w' => e = .returned (.tuple #[]) ∧ Que w' B g (bs.drop n) most (out + n) ∧ Turn W w' B g) :=
    fun W hb => drop_any (h.below hb) n hn (Nat.le_trans hB hb.size) ho
  have HB := Lib.hid hB
  by_cases hn0 : 0 < n
  · clear h hn hB
    go_enter Tryz.func72, Tryz.ntmps72
    go_wp2_with (first
      | (go_at_call 90; refine H1.out.mono ?_; rintro e w1 ⟨rfl, hb1⟩; have HB1 := Lib.hid hb1; clear hb1)
      | (go_at_call 93; refine (H2.out _ HB1.out).mono ?_; rintro e w2 ⟨rfl, hq2, hb2⟩; have HQ2 := Lib.hid hq2; have HB2 := Lib.hid hb2; clear hq2 hb2))
    go_ret
    exact ⟨rfl, HQ2.out, (Turn.of HB1.out HB.out).trans HB2.out⟩
  · obtain rfl : n = 0 := by omega
    have HQ := Lib.hid h
    clear h hn hB ho
    go_enter Tryz.func72, Tryz.ntmps72
    go_wp2_with (go_at_call 90; refine H1.out.mono ?_; rintro e w1 ⟨rfl, hb1⟩; have HB1 := Lib.hid hb1; clear hb1)
    go_ret
    refine ⟨rfl, ?_, Turn.of HB1.out HB.out⟩
    simpa using HQ.out.below HB1.out
theorem take_nil (w : World) : Calls Tryz.prog 72 #[.pointer none, .int .i64 0] w fun e w' => e = .returned (.string ⟨#[]⟩) ∧ Below w.heap.size w w' := by
  have H1 := Lib.hid (first_nil w)
  go_enter Tryz.func72, Tryz.ntmps72
  go_wp2_with (go_at_call 90; refine H1.out.mono ?_; rintro e w1 ⟨rfl, hb1⟩; have HB1 := Lib.hid hb1; clear hb1)
  go_ret
  exact ⟨rfl, HB1.out⟩
theorem Drain_any {w : World} {B g : Nat} {bs : List UInt8} {most out : Nat} (h : Que w B g bs most out) (hB : B ≤ w.heap.size) (ho : out + bs.length ≤ 1000000000) :
    Calls Tryz.prog 55 #[.pointer (some ⟨g, 0, none⟩)] w fun e w' => e = .returned (.string ⟨bs.toArray⟩) ∧ Que w' B g [] most (out + bs.length) ∧ Turn w w' B g := by
  have H1 := Lib.hid (Len_any h)
  have h2 := take_any h bs.length (Nat.le_refl _) hB ho
  rw [List.take_length, List.drop_length] at h2
  have H2 := Lib.hid h2
  clear h hB h2
  go_enter Tryz.func55, Tryz.ntmps55
  go_wp2_with (first
    | (go_at_call 54; refine H1.out.mono ?_; rintro e w1 ⟨rfl, rfl⟩)
    | (go_at_call 72; refine H2.out.mono ?_; rintro e w2 ⟨rfl, hq2, hb2⟩; have HQ2 := Lib.hid hq2; have HB2 := Lib.hid hb2; clear hq2 hb2))
  go_ret
  exact ⟨rfl, HQ2.out, HB2.out⟩
theorem Drain_nil (w : World) : Calls Tryz.prog 55 #[.pointer none] w fun e w' => e = .returned (.string ⟨#[]⟩) ∧ Below w.heap.size w w' := by
  have H1 := Lib.hid (Len_nil w)
  have H2 := Lib.hid (take_nil w)
  go_enter Tryz.func55, Tryz.ntmps55
  go_wp2_with (first
    | (go_at_call 54; refine H1.out.mono ?_; rintro e w1 ⟨rfl, rfl⟩)
    | (go_at_call 72; refine H2.out.mono ?_; rintro e w1 ⟨rfl, hb1⟩; have HB1 := Lib.hid hb1; clear hb1))
  go_ret
  exact ⟨rfl, HB1.out⟩
end Go.Proofs.YtlhaaokldjdnnaaGreatDoor
namespace Go.Proofs.YtlhaaokldjdnnaaGreatDoor
open Go.RowKit
set_option linter.unusedVariables false
set_option linter.unusedSimpArgs false
attribute [local go_sem] plus_cell

/-- What a call may turn: blocks of the types T, from block B on. -/
structure Kept (w w' : World) (B : Nat) (T : List TypeId) : Prop where
  below : Below B w w'
  keep : ∀ (k : Nat) cs t m, w.heap[k]? = some (.cells cs t m) → t ∉ T → w'.heap[k]? = w.heap[k]?
theorem Kept.refl (w : World) (B : Nat) (T : List TypeId) : Kept w w B T := ⟨Below.refl _ _, fun _ _ _ _ _ _ => rfl⟩
theorem Kept.trans {a b c : World} {B : Nat} {T : List TypeId} (h : Kept a b B T) (k : Kept b c B T) : Kept a c B T :=
  ⟨h.below.trans k.below, fun i cs t m hi ht => (k.keep i cs t m ((h.keep i cs t m hi ht).trans hi) ht).trans (h.keep i cs t m hi ht)⟩
theorem Kept.of {w w' : World} {B : Nat} (h : Below w.heap.size w w') (hB : B ≤ w.heap.size) (T : List TypeId) : Kept w w' B T :=
  ⟨h.mono hB, fun k _ _ _ hk _ => h.block k (blk_lt hk)⟩
theorem Kept.wide {w w' : World} {B : Nat} {T S : List TypeId} (h : Kept w w' B T) (hs : ∀ t ∈ T, t ∈ S) : Kept w w' B S :=
  ⟨h.below, fun k cs t m hk ht => h.keep k cs t m hk fun hm => ht (hs t hm)⟩
theorem Kept.set_ {a b : World} {B : Nat} {T : List TypeId} (h : Kept a b B T) {g : Nat} (hg : B ≤ g) {cs : Array Value} {t : TypeId} {m : Nat × Nat} (hk : a.heap[g]? = some (.cells cs t m)) (ht : t ∈ T) (i : Nat) (u : Value) : Kept a (b.setCell ⟨g, i, none⟩ u) B T :=
  ⟨h.below.setCell (p := ⟨g, i, none⟩) hg u, fun k cs' t' m' hk' ht' => by
    by_cases hkg : k = g
    · subst hkg
      rw [hk] at hk'
      injection hk' with hk'
      injection hk' with _ e _
      subst e
      exact absurd ht ht'
    · exact (Below.heap_setCell _ ⟨g, i, none⟩ _ k hkg).trans (h.keep k cs' t' m' hk' ht')⟩
theorem Turn.kept {w w' : World} {B g most out : Nat} {bs : List UInt8} (hq : Que w B g bs most out) (h : Turn w w' B g) : Kept w w' B [101, 9] :=
  ⟨h.below, fun k cs t m hk ht => by
    refine h.keep k cs t m hk (fun e => ?_) (fun e => ht (by simp [e]))
    subst e
    obtain ⟨l, A, cap, j, hg, _⟩ := hq.ex
    rw [hg] at hk
    injection hk with hk
    injection hk with _ e _
    exact ht (by simp [← e])⟩

/-- The hold whose block is g, over the queue whose block is q. -/
structure Hol (w : World) (B g q : Nat) (bs : List UInt8) (most state came went : Nat) : Prop where
  low : B ≤ g
  blk : w.heap[g]? = some (.cells #[.pointer (some ⟨q, 0, none⟩), .int .i64 state, .int .i64 came, .int .i64 went] 85 (0, 0))
  que : ∃ out, Que w B q bs most out ∧ out + bs.length ≤ came
  came_ : came ≤ 1000000
  went_ : went ≤ came
  st : state ≤ 2

section
variable {w w' : World} {B g q : Nat} {bs : List UInt8} {most state came went : Nat}
theorem Hol.below (h : Hol w B g q bs most state came went) (hb : Below w.heap.size w w') : Hol w' B g q bs most state came went := by
  obtain ⟨out, hq, ho⟩ := h.que
  exact ⟨h.low, (hb.block g (blk_lt h.blk)).trans h.blk, ⟨out, hq.below hb, ho⟩, h.came_, h.went_, h.st⟩
theorem Hol.cells (h : Hol w B g q bs most state came went) : w.cell? ⟨g, 0, none⟩ = some (.pointer (some ⟨q, 0, none⟩)) ∧ w.cell? ⟨g, 1, none⟩ = some (.int .i64 state) ∧ w.cell? ⟨g, 2, none⟩ = some (.int .i64 came) ∧ w.cell? ⟨g, 3, none⟩ = some (.int .i64 went) :=
  ⟨cell_of_row w g 0 _ _ _ h.blk, cell_of_row w g 1 _ _ _ h.blk, cell_of_row w g 2 _ _ _ h.blk, cell_of_row w g 3 _ _ _ h.blk⟩
theorem Hol.ne (h : Hol w B g q bs most state came went) : g ≠ q := by
  obtain ⟨out, hq, ho⟩ := h.que
  obtain ⟨l, A, cap, k, hg, _⟩ := hq.ex
  intro e
  rw [← e, h.blk] at hg
  injection hg with hg
  injection hg with _ ht
  exact absurd ht (by decide)
/-- A number of the hold's is stored. -/
theorem Que.set_ {out : Nat} (hq : Que w B q bs most out) {g : Nat} {cs : Array Value} (hg : w.heap[g]? = some (.cells cs 85 (0, 0))) (i : Nat) (u : Value) : Que (w.setCell ⟨g, i, none⟩ u) B q bs most out := by
  obtain ⟨h1, h2, h3, h4, l, A, cap, k, hb, hr, hh⟩ := hq
  have hne : q ≠ g := by
    intro e
    rw [e, hg] at hb
    injection hb with hb
    injection hb with _ ht
    exact absurd ht (by decide)
  exact ⟨h1, h2, h3, h4, l, A, cap, k, (Below.heap_setCell w ⟨g, i, none⟩ u q hne).trans hb, hr.setCell (p := ⟨g, i, none⟩) (hr.apart hg (by decide)) u, hh⟩
end

theorem hNew_yes (n : Nat) (hn : n ≤ 1048576) (B : Nat) (w : World) (hB : B ≤ w.heap.size) :
    Calls Tryz.prog 18 #[.int .i64 n] w fun e w' => e = .returned (.tuple #[.pointer (some ⟨w.heap.size + 1, 0, none⟩), .int .i64 0]) ∧ Hol w' B (w.heap.size + 1) w.heap.size [] n 0 0 0 ∧ Below w.heap.size w w' := by
  have H16 := Lib.hid (New_exact n hn)
  go_enter Tryz.func18, Tryz.ntmps18
  go_wp2_with (go_at_call 32; refine (H16.out _).mono ?_; rintro e w1 ⟨rfl, rfl⟩)
  go_ret2
  refine ⟨by simp, ⟨by omega, ?_, ⟨0, ⟨hB, Nat.zero_le _, hn, Nat.zero_le _, [], none, 0, 0, ?_, Row.nil_ _ _ _, Held.start⟩, Nat.le_refl _⟩, by omega, Nat.le_refl _, by omega⟩, ((Below.refl _ _).alloc (Nat.le_refl _) _).alloc (by simp) _⟩
  · have := heap_alloc_new (w.alloc (.cells #[.slice none 0 0, .int .i64 0, .int .i64 0, .int .i64 n, .int .i64 0] 101)) (.cells #[.pointer (some ⟨w.heap.size, 0, none⟩), .int .i64 0, .int .i64 0, .int .i64 0] 85)
    simpa using this
  · exact (Below.heap_alloc _ _ _ (by simp)).trans (heap_alloc_new w _)

section
variable {w : World} {B g q : Nat} {bs : List UInt8} {most state came went : Nat}
theorem hLen_any (h : Hol w B g q bs most state came went) : Calls Tryz.prog 37 #[.pointer (some ⟨g, 0, none⟩)] w fun e w' => e = .returned (.int .i64 bs.length) ∧ w = w' := by
  obtain ⟨c0, c1, c2, c3⟩ := h.cells
  obtain ⟨out, hq, ho⟩ := h.que
  have H21 := Lib.hid (Len_any hq)
  clear h hq ho
  go_enter Tryz.func37, Tryz.ntmps37
  go_wp2_with (go_at_call 54; refine H21.out.mono ?_; rintro e w1 ⟨rfl, rfl⟩)
  go_ret
  exact ⟨rfl, rfl⟩
theorem All_any (h : Hol w B g q bs most state came went) : Calls Tryz.prog 52 #[.pointer (some ⟨g, 0, none⟩)] w fun e w' => e = .returned (.string ⟨bs.toArray⟩) ∧ Below w.heap.size w w' := by
  obtain ⟨c0, c1, c2, c3⟩ := h.cells
  obtain ⟨out, hq, ho⟩ := h.que
  have H21 : Hid (∀ X, Calls Tryz.prog 54 #[.pointer (some ⟨q, 0, none⟩)] (plus w X) fun e w' => e = .returned (.int .i64 bs.length) ∧ plus w X = w') := fun X => Len_any (hq.below (plus_below w X))
  have H20 : Hid (∀ X, Calls Tryz.prog 66 #[.pointer (some ⟨q, 0, none⟩), .int .i64 bs.length] (plus w X) fun e w' => e = .returned (.string ⟨bs.toArray⟩) ∧ Below (plus w X).heap.size (plus w X) w') := fun X => by
    have h := Peek_any (hq.below (plus_below w X)) bs.length
    have e : cntN (bs.length : Int) bs.length = bs.length := by unfold cntN; omega
    rw [e, List.take_length] at h
    exact h
  clear h hq ho
  go_enter Tryz.func52, Tryz.ntmps52
  go_wp2_with fail
  refine wp_region_plus (by kernel_rfl) (by kernel_rfl) ?_
  repeat (first | go_big_quiet_skip | (go_big_quiet_want; go_big_quiet_op; first | go_big_quiet_on | (apply Exists.intro; refine ⟨fun _ => ?_, ?_⟩; (focus (first | (go_at_call 54; with_reducible exact plus_same (H21.out _)) | (go_at_call 66; with_reducible exact plus_call (H20.out _)))); go_big_quiet_on)))
  refine wpQuiet_nil ?_
  rintro _ ⟨X, rfl⟩
  go_wp2
  go_ret
  exact ⟨rfl, plus_below w X⟩

theorem pass_any (h : Hol w B g q bs most state came went) (s : ByteArray) (hs : went + s.size ≤ 1000000) :
    Calls Tryz.prog 56 #[.pointer (some ⟨g, 0, none⟩), .string s] w fun e w' => e = .returned (.string s) ∧ w.setCell ⟨g, 3, none⟩ (.int .i64 ((went + s.size : Nat) : Int)) = w' := by
  obtain ⟨c0, c1, c2, c3⟩ := h.cells
  have f3 := blk_frozen h.blk 3
  have HE : Hid ((went : Int) + s.size = ((went + s.size : Nat) : Int)) := by unfold Hid; omega
  clear h
  go_enter Tryz.func56, Tryz.ntmps56
  go_wp2
  go_ret
  exact ⟨rfl, by rw [← HE.out]⟩
theorem Hol.set_ (h : Hol w B g q bs most state came went) (i : Nat) (u : Value) {state' came' went' : Nat} (he : (#[.pointer (some ⟨q, 0, none⟩), .int .i64 state, .int .i64 came, .int .i64 went] : Array Value).setIfInBounds i u = #[.pointer (some ⟨q, 0, none⟩), .int .i64 state', .int .i64 came', .int .i64 went'])
    (h1 : came ≤ came') (h2 : came' ≤ 1000000) (h3 : went' ≤ came') (h4 : state' ≤ 2) : Hol (w.setCell ⟨g, i, none⟩ u) B g q bs most state' came' went' := by
  obtain ⟨out, hq, ho⟩ := h.que
  refine ⟨h.low, ?_, ⟨out, hq.set_ h.blk i u, by omega⟩, h2, h3, h4⟩
  rw [← he]
  exact blk_set h.blk i u
theorem bset {a b : World} {B g : Nat} (h : Below B a b) (hg : B ≤ g) (i : Nat) (u : Value) : Below B a (b.setCell ⟨g, i, none⟩ u) := h.setCell (p := ⟨g, i, none⟩) hg u

theorem Add_hold (h : Hol w B g q bs most 0 came went) (s : ByteArray) (hs : s.size ≤ most - bs.length) (hc : came + s.size ≤ 1000000) (hB : B ≤ w.heap.size) :
    Calls Tryz.prog 57 #[.pointer (some ⟨g, 0, none⟩), .string s] w fun e w' => e = .returned (.tuple #[.string ⟨#[]⟩, .int .i64 0]) ∧ Hol w' B g q (bs ++ s.data.toList) most 0 (came + s.size) went ∧ Kept w w' B [85, 101, 9] := by
  obtain ⟨c0, c1, c2, c3⟩ := h.cells
  obtain ⟨out, hq, ho⟩ := h.que
  have HQ0 := Lib.hid hq
  have H19 := Lib.hid (Push_ok hq s hs hB)
  have HH := Lib.hid h
  have HO := Lib.hid ho
  have HE : Hid ((came : Int) + s.size = ((came + s.size : Nat) : Int)) := by unfold Hid; omega
  clear h hq ho hs hB
  go_enter Tryz.func57, Tryz.ntmps57
  go_wp2_with (go_at_call 73; refine H19.out.mono ?_; rintro e w1 ⟨rfl, hq1, ht1⟩; have hb1 := (ht1.keep g _ _ _ HH.out.blk HH.out.ne (by decide)).trans HH.out.blk; have d1 := cell_of_row w1 g 1 _ _ _ hb1; have d2 := cell_of_row w1 g 2 _ _ _ hb1; have d3 := cell_of_row w1 g 3 _ _ _ hb1; have f2 := blk_frozen hb1 2; have HK := Lib.hid hb1; have HQ := Lib.hid hq1; have HT := Lib.hid ht1; clear hb1 hq1 ht1)
  go_ret2
  refine ⟨rfl, ⟨HH.out.low, ?_, ⟨out, HQ.out.set_ HK.out _ _, ?_⟩, hc, Nat.le_trans HH.out.went_ (Nat.le_add_right _ _), by omega⟩, ((HT.out.kept HQ0.out).wide (by simp)).set_ HH.out.low HH.out.blk (by simp) _ _⟩
  · rw [HE.out]
    exact blk_set HK.out 2 _
  · rw [List.length_append, ← Lib.size_eq]
    have := HO.out
    omega

theorem Open_yes (h : Hol w B g q bs most 0 came went) (hw : went + bs.length ≤ came) (hB : B ≤ w.heap.size) :
    Calls Tryz.prog 41 #[.pointer (some ⟨g, 0, none⟩)] w fun e w' => e = .returned (.string ⟨bs.toArray⟩) ∧ Hol w' B g q [] most 1 came (went + bs.length) ∧ Kept w w' B [85, 101, 9] := by
  obtain ⟨c0, c1, c2, c3⟩ := h.cells
  have f1 := blk_frozen h.blk 1
  have hca := h.came_
  have h1 : Hol (w.setCell ⟨g, 1, none⟩ (.int .i64 1)) B g q bs most 1 came went := h.set_ 1 _ (by rfl) (by omega) h.came_ h.went_ (by omega)
  obtain ⟨out, hq, ho⟩ := h1.que
  have H18 := Lib.hid (Drain_any hq (by simpa [World.setCell] using hB) (by omega))
  have HX : Hid (∀ W, Que W B q [] most (out + bs.length) → Turn (w.setCell ⟨g, 1, none⟩ (.int .i64 1)) W B q → Hol W B g q [] most 1 came went ∧ Kept w W B [85, 101, 9]) := fun W hqW hT =>
    ⟨⟨h.low, (hT.keep g _ _ _ h1.blk h1.ne (by decide)).trans h1.blk, ⟨_, hqW, by simpa using ho⟩, h.came_, h.went_, by omega⟩, ((Kept.refl w B _).set_ h.low h.blk (by simp) _ _).trans ((hT.kept hq).wide (by simp))⟩
  have HSZ : Hid ((⟨bs.toArray⟩ : ByteArray).size = bs.length) := by unfold Hid; simp [ByteArray.size]
  obtain ⟨x, hx⟩ : ∃ x : ByteArray, ⟨bs.toArray⟩ = x := ⟨_, rfl⟩
  rw [hx] at H18 HSZ ⊢
  have H17 : Hid (∀ W, Hol W B g q [] most 1 came went → Calls Tryz.prog 56 #[.pointer (some ⟨g, 0, none⟩), .string x] W fun e w' => e = .returned (.string x) ∧ Hol w' B g q [] most 1 came (went + bs.length) ∧ Kept W w' B [85, 101, 9]) := fun W hW =>
    (pass_any hW x (by rw [HSZ.out]; omega)).mono fun e w' hh => by
      obtain ⟨he, rfl⟩ := hh
      rw [HSZ.out]
      exact ⟨he, hW.set_ 3 _ (by rfl) (Nat.le_refl _) hca hw (by omega), (Kept.refl W B _).set_ h.low hW.blk (by simp) _ _⟩
  clear h h1 hq ho hx hw hB
  go_enter Tryz.func41, Tryz.ntmps41
  go_wp2_with (first
    | (go_at_call 55; refine H18.out.mono ?_; rintro e w1 ⟨rfl, hq1, ht1⟩; have HH1 := Lib.hid (HX.out _ hq1 ht1); clear hq1 ht1)
    | (go_at_call 56; refine (H17.out _ HH1.out.1).mono ?_; rintro e w2 ⟨rfl, hh2, hb2⟩; have HH2 := Lib.hid hh2; have HB2 := Lib.hid hb2; clear hh2 hb2))
  go_ret
  exact ⟨rfl, HH2.out, HH1.out.2.trans HB2.out⟩

theorem Shut_yes (h : Hol w B g q bs most state came went) (hs : ((state : Int) == 2) = false) (hB : B ≤ w.heap.size) :
    Calls Tryz.prog 38 #[.pointer (some ⟨g, 0, none⟩)] w fun e w' => e = .returned (.int .i64 bs.length) ∧ Hol w' B g q [] most 2 came went ∧ Kept w w' B [85, 101, 9] := by
  obtain ⟨c0, c1, c2, c3⟩ := h.cells
  have f1 := blk_frozen h.blk 1
  have hca := h.came_
  have h1 : Hol (w.setCell ⟨g, 1, none⟩ (.int .i64 2)) B g q bs most 2 came went := h.set_ 1 _ (by rfl) (by omega) h.came_ h.went_ (by omega)
  obtain ⟨out, hq, ho⟩ := h1.que
  have H18 := Lib.hid (Drain_any hq (by simpa [World.setCell] using hB) (by omega))
  have HX : Hid (∀ W, Que W B q [] most (out + bs.length) → Turn (w.setCell ⟨g, 1, none⟩ (.int .i64 2)) W B q → Hol W B g q [] most 2 came went ∧ Kept w W B [85, 101, 9]) := fun W hqW hT =>
    ⟨⟨h.low, (hT.keep g _ _ _ h1.blk h1.ne (by decide)).trans h1.blk, ⟨_, hqW, by simpa using ho⟩, h.came_, h.went_, by omega⟩, ((Kept.refl w B _).set_ h.low h.blk (by simp) _ _).trans ((hT.kept hq).wide (by simp))⟩
  have HSZ : Hid ((⟨bs.toArray⟩ : ByteArray).size = bs.length) := by unfold Hid; simp [ByteArray.size]
  obtain ⟨x, hx⟩ : ∃ x : ByteArray, ⟨bs.toArray⟩ = x := ⟨_, rfl⟩
  rw [hx] at H18 HSZ
  clear h h1 hq ho hx hB
  go_enter Tryz.func38, Tryz.ntmps38
  go_wp2_with (go_at_call 55; refine H18.out.mono ?_; rintro e w1 ⟨rfl, hq1, ht1⟩; have HH1 := Lib.hid (HX.out _ hq1 ht1); clear hq1 ht1)
  go_ret
  exact ⟨ret_int (by rw [HSZ.out]), HH1.out.1, HH1.out.2⟩
end
end Go.Proofs.YtlhaaokldjdnnaaGreatDoor
namespace Go.Proofs.YtlhaaokldjdnnaaGreatDoor
open Go.RowKit
set_option linter.unusedVariables false
set_option linter.unusedSimpArgs false

/-- What the machine holds. -/
structure Js where
  A : Option Addr
  n : Nat
  cap : Nat
  zs : List Int
  pos : Int
  by_ : Int
  taken : Bool
  said : ByteArray
  last : Int
  broken : Bool
  bad : Bool
  place : Int
  pieces : Int
  ends : Int
  seen : Int
def Js.cells (j : Js) : Array Value := #[.int .i64 9, .slice j.A j.n j.cap, .int .i64 j.pos, .int .u8 j.by_, .bool j.taken, .string j.said, .int .i64 j.last, .bool j.broken, .bool j.bad, .int .i64 j.place, .int .i64 j.pieces, .int .i64 j.ends, .int .i64 j.seen]
def jsT : List TypeId := [126, 5]
structure JsIs (w : World) (B g : Nat) (j : Js) : Prop where
  low : B ≤ g
  blk : w.heap[g]? = some (.cells j.cells 126 (0, 0))
  row : Row w B 5 (.slice j.A j.n j.cap) j.n (j.zs.map fun z => .int .u8 z)
  deep : j.n ≤ 9
  said_ : j.said.size ≤ 11
section
variable {w w' : World} {B g : Nat} {j j' : Js}
theorem JsIs.below (h : JsIs w B g j) (hb : Below w.heap.size w w') : JsIs w' B g j :=
  ⟨h.low, (hb.block g (blk_lt h.blk)).trans h.blk, h.row.below hb (Nat.le_refl _), h.deep, h.said_⟩
theorem JsIs.cells (h : JsIs w B g j) : w.cell? ⟨g, 0, none⟩ = some (.int .i64 9) ∧ w.cell? ⟨g, 1, none⟩ = some (.slice j.A j.n j.cap) ∧ w.cell? ⟨g, 2, none⟩ = some (.int .i64 j.pos) ∧ w.cell? ⟨g, 3, none⟩ = some (.int .u8 j.by_) ∧
    w.cell? ⟨g, 4, none⟩ = some (.bool j.taken) ∧ w.cell? ⟨g, 5, none⟩ = some (.string j.said) ∧ w.cell? ⟨g, 6, none⟩ = some (.int .i64 j.last) ∧ w.cell? ⟨g, 7, none⟩ = some (.bool j.broken) ∧ w.cell? ⟨g, 8, none⟩ = some (.bool j.bad) ∧
    w.cell? ⟨g, 9, none⟩ = some (.int .i64 j.place) ∧ w.cell? ⟨g, 10, none⟩ = some (.int .i64 j.pieces) ∧ w.cell? ⟨g, 11, none⟩ = some (.int .i64 j.ends) ∧ w.cell? ⟨g, 12, none⟩ = some (.int .i64 j.seen) :=
  have k := fun i => cell_of_row w g i _ _ _ h.blk
  ⟨k 0, k 1, k 2, k 3, k 4, k 5, k 6, k 7, k 8, k 9, k 10, k 11, k 12⟩
theorem JsIs.free (h : JsIs w B g j) (i : Nat) : w.frozen? ⟨g, i, none⟩ = false := blk_frozen h.blk i
/-- A field is stored, which is not the stack. -/
theorem JsIs.set_ (h : JsIs w B g j) (i : Nat) (u : Value) (j' : Js) (he : j.cells.setIfInBounds i u = j'.cells) (hA : j'.A = j.A ∧ j'.n = j.n ∧ j'.cap = j.cap ∧ j'.zs = j.zs) (hs : j'.said.size ≤ 11) : JsIs (w.setCell ⟨g, i, none⟩ u) B g j' := by
  obtain ⟨h1, h2, h3, h4⟩ := hA
  refine ⟨h.low, ?_, ?_, by rw [h2]; exact h.deep, hs⟩
  · rw [← he]
    exact blk_set h.blk i u
  · rw [h1, h2, h3, h4]
    exact h.row.setCell (p := ⟨g, i, none⟩) (h.row.apart h.blk (by decide)) u
theorem JsIs.pos_ (h : JsIs w B g j) (x : Int) : JsIs (w.setCell ⟨g, 2, none⟩ (.int .i64 x)) B g { j with pos := x } := h.set_ 2 _ _ rfl ⟨rfl, rfl, rfl, rfl⟩ h.said_
theorem JsIs.byy_ (h : JsIs w B g j) (x : Int) : JsIs (w.setCell ⟨g, 3, none⟩ (.int .u8 x)) B g { j with by_ := x } := h.set_ 3 _ _ rfl ⟨rfl, rfl, rfl, rfl⟩ h.said_
theorem JsIs.taken_ (h : JsIs w B g j) (x : Bool) : JsIs (w.setCell ⟨g, 4, none⟩ (.bool x)) B g { j with taken := x } := h.set_ 4 _ _ rfl ⟨rfl, rfl, rfl, rfl⟩ h.said_
theorem JsIs.broken_ (h : JsIs w B g j) (x : Bool) : JsIs (w.setCell ⟨g, 7, none⟩ (.bool x)) B g { j with broken := x } := h.set_ 7 _ _ rfl ⟨rfl, rfl, rfl, rfl⟩ h.said_
theorem JsIs.ends_ (h : JsIs w B g j) (x : Int) : JsIs (w.setCell ⟨g, 11, none⟩ (.int .i64 x)) B g { j with ends := x } := h.set_ 11 _ _ rfl ⟨rfl, rfl, rfl, rfl⟩ h.said_
theorem JsIs.seen_ (h : JsIs w B g j) (x : Int) : JsIs (w.setCell ⟨g, 12, none⟩ (.int .i64 x)) B g { j with seen := x } := h.set_ 12 _ _ rfl ⟨rfl, rfl, rfl, rfl⟩ h.said_
theorem JsIs.said__ (h : JsIs w B g j) (x : ByteArray) (hx : x.size ≤ 11) : JsIs (w.setCell ⟨g, 5, none⟩ (.string x)) B g { j with said := x } := h.set_ 5 _ _ rfl ⟨rfl, rfl, rfl, rfl⟩ hx
theorem JsIs.frees (h : JsIs w B g j) : w.frozen? ⟨g, 1, none⟩ = false ∧ w.frozen? ⟨g, 2, none⟩ = false ∧ w.frozen? ⟨g, 3, none⟩ = false ∧ w.frozen? ⟨g, 4, none⟩ = false ∧ w.frozen? ⟨g, 5, none⟩ = false ∧ w.frozen? ⟨g, 6, none⟩ = false ∧
    w.frozen? ⟨g, 7, none⟩ = false ∧ w.frozen? ⟨g, 8, none⟩ = false ∧ w.frozen? ⟨g, 9, none⟩ = false ∧ w.frozen? ⟨g, 10, none⟩ = false ∧ w.frozen? ⟨g, 11, none⟩ = false ∧ w.frozen? ⟨g, 12, none⟩ = false :=
  have k := fun i => h.free i
  ⟨k 1, k 2, k 3, k 4, k 5, k 6, k 7, k 8, k 9, k 10, k 11, k 12⟩
theorem JsIs.kept (h : JsIs w B g j) (i : Nat) (u : Value) (hk : Kept w w' B jsT) : Kept w (w'.setCell ⟨g, i, none⟩ u) B jsT := hk.set_ h.low h.blk (by simp [jsT]) i u

theorem JsIs.drewN (h : JsIs w B g j) (n : Nat) : JsIs (w.drewN n) B g j := ⟨h.low, h.blk, h.row.keep fun _ _ => rfl, h.deep, h.said_⟩
theorem Kept.drewN {T : List TypeId} (h : Kept w w' B T) (n : Nat) : Kept w (w'.drewN n) B T := ⟨below_drewN h.below n, h.keep⟩
/-- A machine, whatever it holds. -/
def JsOk (w : World) (B g : Nat) : Prop := ∃ j, JsIs w B g j
theorem JsOk.pos_ (h : JsOk w B g) (x : Int) : JsOk (w.setCell ⟨g, 2, none⟩ (.int .i64 x)) B g := let ⟨j, h⟩ := h; ⟨_, h.pos_ x⟩
theorem JsOk.byy_ (h : JsOk w B g) (x : Int) : JsOk (w.setCell ⟨g, 3, none⟩ (.int .u8 x)) B g := let ⟨j, h⟩ := h; ⟨_, h.byy_ x⟩
theorem JsOk.taken_ (h : JsOk w B g) (x : Bool) : JsOk (w.setCell ⟨g, 4, none⟩ (.bool x)) B g := let ⟨j, h⟩ := h; ⟨_, h.taken_ x⟩
theorem JsOk.broken_ (h : JsOk w B g) (x : Bool) : JsOk (w.setCell ⟨g, 7, none⟩ (.bool x)) B g := let ⟨j, h⟩ := h; ⟨_, h.broken_ x⟩
theorem JsOk.ends_ (h : JsOk w B g) (x : Int) : JsOk (w.setCell ⟨g, 11, none⟩ (.int .i64 x)) B g := let ⟨j, h⟩ := h; ⟨_, h.ends_ x⟩
theorem JsOk.seen_ (h : JsOk w B g) (x : Int) : JsOk (w.setCell ⟨g, 12, none⟩ (.int .i64 x)) B g := let ⟨j, h⟩ := h; ⟨_, h.seen_ x⟩
theorem JsOk.said__ (h : JsOk w B g) (x : ByteArray) (hx : x.size ≤ 11) : JsOk (w.setCell ⟨g, 5, none⟩ (.string x)) B g := let ⟨j, h⟩ := h; ⟨_, h.said__ x hx⟩
theorem JsIs.ok (h : JsIs w B g j) : JsOk w B g := ⟨j, h⟩
abbrev Js4 (w : World) (B g : Nat) (e : Ending) (w' : World) : Prop := e = .returned (.tuple #[]) ∧ JsOk w' B g ∧ Kept w w' B jsT

theorem js_fail (h : JsIs w B g j) : Calls Tryz.prog 239 #[.pointer (some ⟨g, 0, none⟩)] w fun e w' => e = .returned (.tuple #[]) ∧ JsIs w' B g { j with bad := true, place := j.seen } ∧ Kept w w' B jsT := by
  obtain ⟨c0, c1, c2, c3, c4, c5, c6, c7, c8, c9, c10, c11, c12⟩ := h.cells
  have f8 := h.free 8
  have f9 := h.free 9
  have H := Lib.hid h
  clear h
  go_enter Tryz.func239, Tryz.ntmps239
  go_wp2
  go_end0
  exact ⟨rfl, (H.out.set_ 8 _ { j with bad := true } rfl ⟨rfl, rfl, rfl, rfl⟩ H.out.said_).set_ 9 _ _ rfl ⟨rfl, rfl, rfl, rfl⟩ H.out.said_, H.out.kept _ _ (H.out.kept _ _ (Kept.refl _ _ _))⟩
theorem js_piece (h : JsIs w B g j) : Calls Tryz.prog 240 #[.pointer (some ⟨g, 0, none⟩)] w fun e w' => e = .returned (.tuple #[]) ∧ JsIs w' B g { j with pieces := wrap64 (j.pieces + 1) } ∧ Kept w w' B jsT := by
  obtain ⟨c0, c1, c2, c3, c4, c5, c6, c7, c8, c9, c10, c11, c12⟩ := h.cells
  have f10 := h.free 10
  have H := Lib.hid h
  clear h
  go_enter Tryz.func240, Tryz.ntmps240
  go_wp2
  go_end0
  exact ⟨rfl, H.out.set_ 10 _ _ rfl ⟨rfl, rfl, rfl, rfl⟩ H.out.said_, H.out.kept _ _ (Kept.refl _ _ _)⟩
theorem js_ended (h : JsIs w B g j) (l : Int) : Calls Tryz.prog 243 #[.pointer (some ⟨g, 0, none⟩), .int .i64 l] w fun e w' => e = .returned (.tuple #[]) ∧ JsIs w' B g { j with pos := 0, last := l, broken := false } ∧ Kept w w' B jsT := by
  obtain ⟨c0, c1, c2, c3, c4, c5, c6, c7, c8, c9, c10, c11, c12⟩ := h.cells
  have f2 := h.free 2
  have f6 := h.free 6
  have f7 := h.free 7
  have H := Lib.hid h
  clear h
  go_enter Tryz.func243, Tryz.ntmps243
  go_wp2
  go_end0
  exact ⟨rfl, ((H.out.set_ 2 _ { j with pos := 0 } rfl ⟨rfl, rfl, rfl, rfl⟩ H.out.said_).set_ 6 _ { j with pos := 0, last := l } rfl ⟨rfl, rfl, rfl, rfl⟩ H.out.said_).set_ 7 _ _ rfl ⟨rfl, rfl, rfl, rfl⟩ H.out.said_, H.out.kept _ _ (H.out.kept _ _ (H.out.kept _ _ (Kept.refl _ _ _)))⟩
theorem js_joined (h : JsIs w B g j) : Calls Tryz.prog 238 #[.pointer (some ⟨g, 0, none⟩)] w fun e w' => e = .returned (.bool (j.last == 1 && !j.broken)) ∧ w = w' := by
  obtain ⟨c0, c1, c2, c3, c4, c5, c6, c7, c8, c9, c10, c11, c12⟩ := h.cells
  clear h
  by_cases hl : j.last = 1
  all_goals
    go_enter Tryz.func238, Tryz.ntmps238
    go_wp2
    go_ret
    exact ⟨ret_bool (by simp [hl]), rfl⟩
theorem infoU5 : (Tryz.prog.info? 5).map (fun i => (i.zero, i.size, i.bytes)) = some (some (.int .u8 0), 1, 1) := by kernel_rfl
set_option maxRecDepth 100000 in
set_option maxHeartbeats 1000000 in
theorem js_push (h : JsIs w B g j) (c : UInt8) (hB : B ≤ w.heap.size) : Calls Tryz.prog 244 #[.pointer (some ⟨g, 0, none⟩), .int .u8 (c.toNat : Int)] w (Js4 w B g) := by
  obtain ⟨c0, c1, c2, c3, c4, c5, c6, c7, c8, c9, c10, c11, c12⟩ := h.cells
  have hdeep := h.deep
  by_cases hn : j.n = 9
  · have H := Lib.hid h
    rw [hn] at c1
    clear h hdeep
    go_enter Tryz.func244, Tryz.ntmps244
    go_wp2
    go_quiet (fail)
    go_wp2_with (go_at_call 239; refine (js_fail (H.out.drewN _)).mono ?_; rintro e w1 ⟨rfl, h1, hk1⟩; have H1 := Lib.hid h1; have HK := Lib.hid hk1; clear h1 hk1)
    go_end0
    exact ⟨rfl, ⟨_, H1.out⟩, ((Kept.refl w B jsT).drewN _).trans HK.out⟩
  · have hd : ((j.n : Int) == 9) = false := by
      have : ¬ (j.n : Int) = 9 := by omega
      simp [this]
    have f1 := h.free 1
    have H := Lib.hid h
    have hlt := blk_lt h.blk
    have hap := h.row.apart h.blk (by decide)
    obtain ⟨i, hi, hz0, hz1, hz2⟩ := info_parts infoU5
    have HR : Hid (∀ n, Row ((w.drewN n).alloc (.cells #[.int .u8 (c.toNat : Int)] 5)) B 5 (.slice j.A j.n j.cap) j.n (j.zs.map fun z => .int .u8 z)) := fun n => (h.drewN n).row.alloc _
    have HCN : Hid (∀ n, ((w.drewN n).alloc (.cells #[.int .u8 (c.toNat : Int)] 5)).cell? ⟨w.heap.size, 0, none⟩ = some (.int .u8 (c.toNat : Int))) := fun n => by
      show ((w.drewN n).alloc (.cells #[.int .u8 (c.toNat : Int)] 5)).cell? ⟨(w.drewN n).heap.size, 0, none⟩ = _
      rw [World.cell?_alloc_new]
      rfl
    have HI := Lib.hid hi
    have HZ := Lib.hid hz0
    have HZ1 := Lib.hid hz1
    have HZ2 : Hid (i.bytes ≤ 1000) := by unfold Hid; omega
    have HL : Hid (j.n ≤ 1000000000) := by unfold Hid; omega
    have HB2 : Hid (∀ n, B ≤ ((w.drewN n).alloc (.cells #[.int .u8 (c.toNat : Int)] 5)).heap.size) := fun n => by
      rw [World.size_alloc]
      exact Nat.le_succ_of_le hB
    have HLT := Lib.hid hlt
    have HA := Lib.hid hap
    have HD : Hid (j.n + 1 ≤ 9) := by unfold Hid; omega
    have HB := Lib.hid hB
    clear h hdeep hn hlt hap hi hz0 hz1 hz2 hB
    go_enter Tryz.func244, Tryz.ntmps244
    go_wp2
    go_quiet (fail)
    go_wp2_with (first
      | (at_builtin; refine wpList_append_row rfl (.tmp 20) (.tmp 22) 69 rfl B 5 i (.int .u8 0) Tryz.underlying69 HI.out HZ.out HZ1.out HZ2.out rfl _ _ _ rfl (HR.out _) _ _ _ rfl (HCN.out _) rfl HL.out (HB2.out _) ?_; intro A1 e1 w1 hr1 hgr1; have hg1 := (grown_blk hgr1 HLT.out HA.out).trans H.out.blk; have f1' := blk_frozen hg1 1; have d1 : w1.cell? ⟨g, 1, none⟩ = some (.slice j.A j.n j.cap) := cell_of_row w1 g 1 _ _ _ hg1; have HG1 := Lib.hid hg1; have HR1 := Lib.hid hr1; have HGR := Lib.hid hgr1; clear hr1 hgr1 hg1)
      | (go_at_call 243
         have hj : JsIs (w1.setCell ⟨g, 1, none⟩ (.slice A1 (j.n + 1) e1)) B g { j with A := A1, n := j.n + 1, cap := e1, zs := j.zs ++ [(c.toNat : Int)] } :=
           ⟨H.out.low, blk_set HG1.out 1 _, by simpa using HR1.out.setCell (p := ⟨g, 1, none⟩) (HR1.out.apart HG1.out (by decide)) _, HD.out, H.out.said_⟩
         refine (js_ended hj 0).mono ?_; rintro e w2 ⟨rfl, h2, hk2⟩; have H2 := Lib.hid h2; have HK := Lib.hid hk2; clear h2 hk2))
    go_end0
    refine ⟨rfl, ⟨_, H2.out⟩, Kept.trans ?_ HK.out⟩
    refine H.out.kept 1 _ ⟨?_, fun k cs t m hk ht => ?_⟩
    · exact ((below_drewN (Below.refl B w) _).alloc HB.out _).grown HGR.out (HB2.out nq) (fun b hb => ((HR.out nq).lt b hb).1)
    · exact grown_blk (w := w.drewN nq) HGR.out (blk_lt hk) ((HR.out nq).apart ((Below.heap_alloc (w.drewN nq) _ k (blk_lt hk)).trans hk) (fun e => ht (by simp [jsT, ← e])))
end
end Go.Proofs.YtlhaaokldjdnnaaGreatDoor
namespace Go.Proofs.YtlhaaokldjdnnaaGreatDoor
open Go.RowKit
set_option linter.unusedVariables false
set_option linter.unusedSimpArgs false

def jnCells (bad : Bool) (st pl sn : Int) : Array Value := #[.int .i64 9, .slice none 0 0, .int .i64 0, .bool false, .string .empty, .int .i64 0, .bool bad, .int .i64 st, .int .i64 pl, .int .i64 sn]
/-- The machine: open, and blanks alone came; or bad, and another byte came. -/
structure JnIs (w : World) (B g : Nat) (bad : Bool) (pl sn : Int) : Prop where
  low : B ≤ g
  blk : w.heap[g]? = some (.cells (jnCells bad (if bad then 0 else 1) pl sn) 124 (0, 0))
def JnOk (w : World) (B g : Nat) (bad : Bool) : Prop := ∃ pl sn, JnIs w B g bad pl sn
section
variable {w w' : World} {B g : Nat} {bad : Bool} {pl sn : Int}
theorem JnIs.below (h : JnIs w B g bad pl sn) (hb : Below w.heap.size w w') : JnIs w' B g bad pl sn := ⟨h.low, (hb.block g (blk_lt h.blk)).trans h.blk⟩
theorem JnIs.cells (h : JnIs w B g bad pl sn) : w.cell? ⟨g, 0, none⟩ = some (.int .i64 9) ∧ w.cell? ⟨g, 1, none⟩ = some (.slice none 0 0) ∧ w.cell? ⟨g, 2, none⟩ = some (.int .i64 0) ∧ w.cell? ⟨g, 3, none⟩ = some (.bool false) ∧
    w.cell? ⟨g, 4, none⟩ = some (.string .empty) ∧ w.cell? ⟨g, 5, none⟩ = some (.int .i64 0) ∧ w.cell? ⟨g, 6, none⟩ = some (.bool bad) ∧ w.cell? ⟨g, 7, none⟩ = some (.int .i64 (if bad then 0 else 1)) ∧ w.cell? ⟨g, 8, none⟩ = some (.int .i64 pl) ∧ w.cell? ⟨g, 9, none⟩ = some (.int .i64 sn) :=
  have k := fun i => cell_of_row w g i _ _ _ h.blk
  ⟨k 0, k 1, k 2, k 3, k 4, k 5, k 6, k 7, k 8, k 9⟩
theorem JnIs.free (h : JnIs w B g bad pl sn) (i : Nat) : w.frozen? ⟨g, i, none⟩ = false := blk_frozen h.blk i
theorem JnIs.kept (h : JnIs w B g bad pl sn) (i : Nat) (u : Value) (hk : Kept w w' B [124]) : Kept w (w'.setCell ⟨g, i, none⟩ u) B [124] := hk.set_ h.low h.blk (by simp) i u
/-- What the machine tells is its state. -/
theorem jn_tell (h : JnIs w B g bad pl sn) : Calls Tryz.prog 132 #[.pointer (some ⟨g, 0, none⟩)] w fun e w' => e = .returned (.int .i64 (if bad then 0 else 1)) ∧ w = w' := by
  have HE : Hid (∀ w : World, Calls Tryz.prog 184 #[.int .i64 0] w fun e w' => e = .returned (.bool false) ∧ w = w') := fun w => by
    go_enter Tryz.func184, Tryz.ntmps184
    go_wp2
    go_ret
    exact ⟨rfl, rfl⟩
  obtain ⟨c0, c1, c2, c3, c4, c5, c6, c7, c8, c9⟩ := h.cells
  clear h
  cases bad
  all_goals
    simp only [Bool.false_eq_true, if_false, if_true] at c7
    go_enter Tryz.func132, Tryz.ntmps132
    go_wp2_with (go_at_call 184; refine (HE.out _).mono ?_; rintro e _ ⟨rfl, rfl⟩)
    go_ret
    exact ⟨rfl, rfl⟩
theorem jn_State (h : JnIs w B g bad pl sn) : Calls Tryz.prog 128 #[.pointer (some ⟨g, 0, none⟩)] w fun e w' => e = .returned (.int .i64 (if bad then 0 else 1)) ∧ w = w' := by
  have HB := Lib.hid (jn_tell h)
  obtain ⟨st, hst⟩ : ∃ st, (if bad = true then (0 : Int) else 1) = st := ⟨_, rfl⟩
  rw [hst] at HB ⊢
  clear h hst
  go_enter Tryz.func128, Tryz.ntmps128
  go_wp2_with (go_at_call 132; refine HB.out.mono ?_; rintro e _ ⟨rfl, rfl⟩)
  go_ret
  exact ⟨rfl, rfl⟩
theorem jn_Begun (h : JnIs w B g bad pl sn) : Calls Tryz.prog 126 #[.pointer (some ⟨g, 0, none⟩)] w fun e w' => e = .returned (.bool bad) ∧ w = w' := by
  obtain ⟨c0, c1, c2, c3, c4, c5, c6, c7, c8, c9⟩ := h.cells
  clear h
  go_enter Tryz.func126, Tryz.ntmps126
  go_wp2
  go_ret
  exact ⟨rfl, rfl⟩
/-- JSON's blanks. -/
def jwB (z : Int) : Bool := z == 32 || z == 9 || z == 10 || z == 13
theorem jwhite_is (z : Int) : IsB 130 z (jwB z) := fun w => by
  unfold jwB
  cases h1 : (z == 32)
  all_goals
    cases h2 : (z == 9)
    all_goals
      cases h3 : (z == 10)
      all_goals
        go_enter Tryz.func130, Tryz.ntmps130
        go_wp2
        go_ret
        exact ⟨ret_bool (by simp), rfl⟩
theorem jn_fail (h : JnIs w B g false pl sn) : Calls Tryz.prog 177 #[.pointer (some ⟨g, 0, none⟩), .int .i64 0] (w.setCell ⟨g, 6, none⟩ (.bool true)) fun e w' => e = .returned (.tuple #[]) ∧ w' = ((w.setCell ⟨g, 6, none⟩ (.bool true)).setCell ⟨g, 7, none⟩ (.int .i64 0)).setCell ⟨g, 8, none⟩ (.int .i64 sn) := by
  obtain ⟨c0, c1, c2, c3, c4, c5, c6, c7, c8, c9⟩ := h.cells
  have f6 := h.free 6
  have f7 := h.free 7
  have f8 := h.free 8
  clear h
  go_enter Tryz.func177, Tryz.ntmps177
  go_wp2
  go_end0
  exact ⟨rfl, rfl⟩

theorem jn_byte_white (h : JnIs w B g false pl sn) (z : Int) (hz : jwB z = true) : Calls Tryz.prog 131 #[.pointer (some ⟨g, 0, none⟩), .int .u8 z] w fun e w' => e = .returned (.tuple #[]) ∧ w = w' := by
  obtain ⟨c0, c1, c2, c3, c4, c5, c6, c7, c8, c9⟩ := h.cells
  have HW := Lib.hid (jwhite_is z)
  rw [hz] at HW
  clear h
  go_enter Tryz.func131, Tryz.ntmps131
  go_wp2_with (go_at_call 130; refine (HW.out _).mono ?_; rintro e _ ⟨rfl, rfl⟩)
  go_end0
  exact ⟨rfl, rfl⟩
def jnBad (w : World) (g : Nat) (sn : Int) : World := ((w.setCell ⟨g, 6, none⟩ (.bool true)).setCell ⟨g, 7, none⟩ (.int .i64 0)).setCell ⟨g, 8, none⟩ (.int .i64 sn)
theorem jn_byte_bad (h : JnIs w B g false pl sn) (z : Int) (hz : z = 12 ∨ z = 60) : Calls Tryz.prog 131 #[.pointer (some ⟨g, 0, none⟩), .int .u8 z] (w.setCell ⟨g, 6, none⟩ (.bool true)) fun e w' => e = .returned (.tuple #[]) ∧ w' = jnBad w g sn := by
  have z1 : (z == 93) = false := by rcases hz with rfl | rfl <;> rfl
  have z2 : (z == 91) = false := by rcases hz with rfl | rfl <;> rfl
  have z3 : (z == 123) = false := by rcases hz with rfl | rfl <;> rfl
  have z4 : (z == 34) = false := by rcases hz with rfl | rfl <;> rfl
  have z5 : (z == 45) = false := by rcases hz with rfl | rfl <;> rfl
  have z6 : (z == 48) = false := by rcases hz with rfl | rfl <;> rfl
  have z7 : (z == 116) = false := by rcases hz with rfl | rfl <;> rfl
  have z8 : (z == 102) = false := by rcases hz with rfl | rfl <;> rfl
  have z9 : (z == 110) = false := by rcases hz with rfl | rfl <;> rfl
  have zd : digB z = false := by rcases hz with rfl | rfl <;> rfl
  have zw : jwB z = false := by rcases hz with rfl | rfl <;> rfl
  have HW := Lib.hid (jwhite_is z)
  rw [zw] at HW
  have HD := Lib.hid (Digit_is z)
  rw [zd] at HD
  have HF := Lib.hid (jn_fail h)
  obtain ⟨c0, c1, c2, c3, c4, c5, c6, c7, c8, c9⟩ := h.cells
  clear h hz zd zw
  have HBE : Hid (Calls Tryz.prog 175 #[.pointer (some ⟨g, 0, none⟩), .int .u8 z] (w.setCell ⟨g, 6, none⟩ (.bool true)) fun e w' => e = .returned (.tuple #[]) ∧ w' = jnBad w g sn) := by
    unfold Hid
    go_enter Tryz.func175, Tryz.ntmps175
    go_wp2_with (first | (go_at_call 231; refine (HD.out _).mono ?_; rintro e _ ⟨rfl, rfl⟩) | (go_at_call 177; refine HF.out.mono ?_; rintro e _ ⟨rfl, rfl⟩))
    go_end0
    exact ⟨rfl, rfl⟩
  go_enter Tryz.func131, Tryz.ntmps131
  go_wp2_with (first | (go_at_call 130; refine (HW.out _).mono ?_; rintro e _ ⟨rfl, rfl⟩) | (go_at_call 175; refine HBE.out.mono ?_; rintro e _ ⟨rfl, rfl⟩))
  go_end0
  exact ⟨rfl, rfl⟩

/-- What a byte makes of the machine: it is bad, if it was, or if the byte is none of JSON's blanks. -/
theorem jn_Feed1 (h : JnIs w B g bad pl sn) (c : UInt8) (hc : bad = true ∨ jwB (c.toNat : Int) = true ∨ (c.toNat : Int) = 12 ∨ (c.toNat : Int) = 60) :
    Calls Tryz.prog 96 #[.pointer (some ⟨g, 0, none⟩), .string ⟨#[c]⟩] w fun e w' => (∃ x, e = .returned (.int .i64 x)) ∧ JnOk w' B g (bad || !jwB (c.toNat : Int)) ∧ Kept w w' B [124] := by
  obtain ⟨c0, c1, c2, c3, c4, c5, c6, c7, c8, c9⟩ := h.cells
  have f6 := h.free 6
  have f9 := h.free 9
  have H := Lib.hid h
  have HJ := Lib.hid hc
  have HW := Lib.hid (jwhite_is (c.toNat : Int))
  clear h hc
  go_enter Tryz.func96, Tryz.ntmps96
  go_wp2
  go_loopw [10] (fun i wr => (i = .int .i64 0 ∧ Hid (wr = w)) ∨ (i = .int .i64 1 ∧ Hid (JnOk wr B g (bad || !jwB (c.toNat : Int)) ∧ Kept w wr B [124]))) (fun i _ => 1 - (intOf i).toNat)
  case atStart => exact .inl ⟨rfl, Lib.hid rfl⟩
  case round =>
    rcases hrel with ⟨rfl, hw⟩ | ⟨rfl, hq⟩
    · have hw := hw.out
      subst hw
      cases bad
      case true =>
        simp only [if_true] at c7
        go_wp2
        go_roundw
        case rel => exact .inr ⟨rfl, ⟨_, _, H.out.low, blk_set (blk_set H.out.blk 6 _) 9 _⟩, H.out.kept _ _ (H.out.kept _ _ (Kept.refl _ _ _))⟩
        case measure => simp [intOf]
      case false =>
        simp only [Bool.false_eq_true, if_false] at c7
        cases hj : jwB (c.toNat : Int)
        case true =>
          rw [hj] at HW
          have h6 : JnIs (wr.setCell ⟨g, 6, none⟩ (.bool false)) B g false pl sn := ⟨H.out.low, blk_set H.out.blk 6 _⟩
          have HBY := Lib.hid (jn_byte_white h6 _ hj)
          clear h6
          go_wp2_with (first | (go_at_call 130; refine (HW.out _).mono ?_; rintro e _ ⟨rfl, rfl⟩) | (go_at_call 131; refine HBY.out.mono ?_; rintro e _ ⟨rfl, rfl⟩))
          go_roundw
          case rel => exact .inr ⟨rfl, ⟨_, _, H.out.low, blk_set (blk_set H.out.blk 6 _) 9 _⟩, H.out.kept _ _ (H.out.kept _ _ (Kept.refl _ _ _))⟩
          case measure => simp [intOf]
        case false =>
          rw [hj] at HW
          have hz : (c.toNat : Int) = 12 ∨ (c.toNat : Int) = 60 := by
            rcases HJ.out with h | h | h
            · cases h
            · rw [hj] at h; cases h
            · exact h
          have HBY := Lib.hid (jn_byte_bad H.out _ hz)
          have hb : (jnBad wr g sn).heap[g]? = some (.cells (jnCells true 0 sn sn) 124 (0, 0)) := blk_set (blk_set (blk_set H.out.blk 6 _) 7 _) 8 _
          have d9 : (jnBad wr g sn).cell? ⟨g, 9, none⟩ = some (.int .i64 sn) := cell_of_row _ g 9 _ _ _ hb
          have g9 := blk_frozen hb 9
          have HBL := Lib.hid hb
          clear hz hb
          go_wp2_with (first | (go_at_call 130; refine (HW.out _).mono ?_; rintro e _ ⟨rfl, rfl⟩) | (go_at_call 131; refine HBY.out.mono ?_; rintro e _ ⟨rfl, rfl⟩))
          go_roundw
          case rel => exact .inr ⟨rfl, ⟨_, _, H.out.low, blk_set HBL.out 9 _⟩, H.out.kept _ _ (H.out.kept _ _ (H.out.kept _ _ (H.out.kept _ _ (Kept.refl _ _ _))))⟩
          case measure => simp [intOf]
    · obtain ⟨⟨pl2, sn2, h2⟩, hk2⟩ := hq.out
      have HT := Lib.hid (jn_tell h2)
      have H2 := Lib.hid h2
      have HK2 := Lib.hid hk2
      obtain ⟨st, hst⟩ : ∃ st, (if (bad || !jwB (c.toNat : Int)) = true then (0 : Int) else 1) = st := ⟨_, rfl⟩
      rw [hst] at HT
      clear hq h2 hk2 hst
      go_wp2_with (go_at_call 132; refine HT.out.mono ?_; rintro e _ ⟨rfl, rfl⟩)
      go_ret
      exact ⟨⟨_, rfl⟩, ⟨_, _, H2.out⟩, HK2.out⟩
end
end Go.Proofs.YtlhaaokldjdnnaaGreatDoor
