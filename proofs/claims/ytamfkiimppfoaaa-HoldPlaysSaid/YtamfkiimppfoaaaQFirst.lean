/-
  The queue: the first bytes, so many, that there are; Peek. No condition but that the queue is one, and that the bytes are there.
-/
import Derived.Test.YtamfkiimppfoaaaQLook
import Derived.Outline
namespace Go.Proofs.Ytamfkiimppfoaaa
open Go.RowKit
set_option linter.unusedVariables false

def byteV (c : UInt8) : Value := .int .u8 (c.toNat : Int)
theorem strCells_bytes (s : ByteArray) : Lib.strCells s = s.data.toList.map byteV := rfl
theorem Try.infoU : (Try.prog.info? 5).map (fun i => (i.zero, i.size, i.bytes)) = some (some (.int .u8 0), 1, 1) := by kernel_rfl
theorem Try.infoS : (Try.prog.info? 9).map (fun i => (i.zero, i.size, i.bytes)) = some (some (.string ByteArray.empty), 1, 16) := by kernel_rfl

def lenV : Value → Nat | .slice _ m _ => m | _ => 0
theorem make_bytes (n : Nat) (hn : n ≤ 1000000000) (w : World) : (Instr.makeSlice 51 (.int .i64 0) (.int .i64 n)).run Try.prog w = .ok (.slice (some ⟨w.heap.size, 0, none⟩) 0 n) (w.alloc (.cells (madeCells #[.int .u8 0] n) 5)) := by
  obtain ⟨i, hi, hz0, hz1, hz2⟩ := info_parts Try.infoU
  have h := run_make (P := Try.prog) w 51 5 i (.int .u8 0) Try.underlying51 hi hz0 .i64 .i64 0 n (by omega) (by omega) (by rw [hz2]; omega) (by omega)
  rw [hz1] at h
  change _ = Result.ok _ (w.alloc (.cells (madeCells #[.int .u8 0] _) 5)) at h
  simpa using h

theorem drop_bytes (p : ByteArray) (k : Nat) : (p.extract k p.size).data.toList = p.data.toList.drop k := by
  rw [Lib.extract_data, List.take_of_length_le (by rw [List.length_drop, ← Lib.size_eq]; omega)]
theorem take_bytes (p : ByteArray) (k : Nat) : (p.extract 0 k).data.toList = p.data.toList.take k := by
  rw [Lib.extract_data, List.drop_zero, Nat.sub_zero]

/-- What the first piece gives. -/
theorem Held.piece {p : ByteArray} {t : List ByteArray} {k m j : Nat} {bs : List UInt8} (h : Held (p :: t) k (bs.drop m)) (hj : j ≤ p.size - k) :
    (bs.take m).map byteV ++ Lib.strCells ((p.extract k p.size).extract 0 j) = (bs.take (m + j)).map byteV := by
  rw [strCells_bytes, take_bytes, drop_bytes, ← h.take j hj, ← List.map_append, List.take_add]

theorem own_next {w1 : World} {B k' m jj X : Nat} {p : ByteArray} {bs : List UInt8} {v1 : Value} (hX : X = jj) (hle : jj ≤ p.size - k') (hpos : 0 < jj)
    (hp : ∀ j, j ≤ p.size - k' → (bs.take m).map byteV ++ Lib.strCells ((p.extract k' p.size).extract 0 j) = (bs.take (m + j)).map byteV)
    (h : w1.ownsRow B 5 1 v1 (m + ((p.extract k' p.size).extract 0 X).size) ((bs.take m).map byteV ++ Lib.strCells ((p.extract k' p.size).extract 0 X))) :
    ∃ A1 c1, v1 = .slice A1 (m + jj) c1 ∧ w1.ownsRow B 5 1 (.slice A1 (m + jj) c1) (m + jj) ((bs.take (m + jj)).map byteV) := by
  subst hX
  rw [hp X hle] at h
  have hsz : ((p.extract k' p.size).extract 0 X).size = X := by rw [ByteArray.size_extract, ByteArray.size_extract]; omega
  rw [hsz] at h
  rcases h.2 with ⟨_, h0⟩ | ⟨g, cap, cur, hv, _⟩
  · omega
  · exact ⟨_, _, hv, by rw [← hv]; exact h⟩

set_option maxHeartbeats 1000000 in
theorem first_any {w : World} {B g : Nat} {bs : List UInt8} {most out : Nat} (h : Que w B g bs most out) (n : Nat) (hn : n ≤ bs.length) :
    Calls Try.prog 25 #[.pointer (some ⟨g, 0, none⟩), .int .i64 n] w fun e w' => e = .returned (.string ⟨(bs.take n).toArray⟩) ∧ Below w.heap.size w w' := by
  have hlt := h.lt
  have h1 := h.fits
  have h2 := h.small
  obtain ⟨l, A, cap, k, hg, hr, hh⟩ := h.ex
  have hcells : ∀ W, Below w.heap.size w W → W.cell? ⟨g, 0, none⟩ = some (.slice A l.length cap) ∧ W.cell? ⟨g, 1, none⟩ = some (.int .i64 k) := fun W hb => by
    have := (hb.block g hlt).trans hg
    exact ⟨cell_of_row W g 0 _ _ _ this, cell_of_row W g 1 _ _ _ this⟩
  obtain ⟨c0, c1⟩ := hcells w (Below.refl _ _)
  have hlen := hh.many
  have HR := Lib.hid hr
  have HC := Lib.hid hcells
  have HH := Lib.hid hh
  have HG := Lib.hid hg
  obtain ⟨N, hN⟩ : ∃ N, bs.length = N := ⟨_, rfl⟩
  rw [hN] at hn h1 hlen
  have HN := Lib.hid hN
  have hmk := make_bytes n (by omega)
  obtain ⟨i, hi, hz0, hz1, hz2⟩ := info_parts Try.infoU
  have HI := Lib.hid hi
  have HZ := Lib.hid hz0
  have HZ1 := Lib.hid hz1
  have HZ2 := Lib.hid hz2
  clear h hr hh hcells hg hN hi hz0 hz1 hz2
  go_enter Try.func25, Try.ntmps25
  go_wp2
  go_loopw [5, 6, 7] (fun o a i wr => ∃ (m j k' c : Nat) (A' : Option Addr), o = .slice A' m c ∧ a = .int .i64 k' ∧ i = .int .i64 j ∧ m ≤ n ∧ j ≤ m ∧ wr.ownsRow w.heap.size 5 1 (.slice A' m c) m ((bs.take m).map byteV) ∧ Hid (m < n → Held (l.drop j) k' (bs.drop m)) ∧ Below w.heap.size w wr) (fun o _ _ _ => n - lenV o)
  case atStart =>
    refine ⟨0, 0, k, n, some ⟨w.heap.size, 0, none⟩, rfl, rfl, rfl, Nat.zero_le _, Nat.le_refl _, ?_, fun _ => by simpa using HH.out, (Below.refl _ _).alloc (Nat.le_refl _) _⟩
    exact World.ownsRow_made w _ n (Nat.le_refl _) (by unfold maxLen; omega) (by simp [size_madeCells])
  case round =>
    obtain ⟨m, j, k', c, A', rfl, rfl, rfl, hm, hj, hown, HP, hb⟩ := hrel
    by_cases hlt2 : m < n
    · obtain ⟨d0, d1⟩ := HC.out _ hb
      have hheld := HP.out hlt2
      obtain ⟨p, t, hpt, hkp⟩ := hheld.ex (by rw [List.length_drop, HN.out]; omega)
      have hjl : j < l.length := by
        have := congrArg List.length hpt
        simp at this
        omega
      have hpj : l[j] = p := by
        rw [List.drop_eq_getElem_cons hjl] at hpt
        injection hpt
      have hrow := HR.out.below hb (Nat.le_refl _)
      obtain ⟨gl, off, cap', hA, hcell, hc1, hc2⟩ := hrow.get hjl
      injection hA with hA1 hA2 hA3
      subst hA1
      have hcp : wr.cell? ⟨gl, off + j, none⟩ = some (.string p) := by rw [hcell]; simp [hpj]
      rw [hpt] at hheld
      have hps : p.size - k' ≤ N - m := by have := hheld.size; rw [List.length_drop, HN.out] at this; exact this
      have hpiece := fun jj hjj => hheld.piece (j := jj) hjj
      have hnext := hheld.next
      have HPI := Lib.hid hpiece
      have HNX := Lib.hid hnext
      have HT : Hid (l.drop (j + 1) = t) := by
        unfold Hid
        rw [List.drop_eq_getElem_cons hjl] at hpt
        injection hpt
      have HB := Lib.hid hb
      have HO := Lib.hid hown
      have hsz := hb.size
      clear hheld hpiece hnext hpt hpj hcell hrow hA2 hA3 hb hown HP
      unfold maxLen at hc2
      have HX1 : Hid (∀ x, m + ((p.extract k' p.size).extract 0 x).size ≤ maxLen) := fun x => by unfold maxLen; rw [ByteArray.size_extract, ByteArray.size_extract]; omega
      have HX2 : Hid (∀ x, m + ((p.extract k' p.size).extract 0 x).size ≤ 140737488355328) := fun x => by rw [ByteArray.size_extract, ByteArray.size_extract]; omega
      have HSZ := Lib.hid hsz
      by_cases hmin : p.size - k' ≤ n - m
      · go_wp2_with (at_builtin; refine Lib.wpList_append_own_string _ rfl (.tmp 32) (.tmp 41) 51 9 rfl w.heap.size 5 i Try.underlying51 Try.underlying9 HI.out HZ.out HZ1.out HZ2.out _ _ _ rfl HO.out _ rfl (HX1.out _) (HX2.out _) HSZ.out ?_; intro v1 w1 hown1 hgr1 _)
        obtain ⟨A1, e1, rfl, hown2⟩ := own_next (jj := p.size - k') (rfl) (by omega) (by omega) HPI.out hown1
        go_roundw
        case rel =>
          refine ⟨m + (p.size - k'), j + 1, 0, e1, A1, rfl, rfl, by go_num, by omega, by omega, hown2, fun _ => ?_, ?_⟩
          · rw [HT.out, ← List.drop_drop]
            exact HNX.out
          · exact HB.out.grown hgr1 HSZ.out (fun b hb' => (HO.out.lt b hb').1)
        case measure => simp [lenV]; omega
      · go_wp2_with (at_builtin; refine Lib.wpList_append_own_string _ rfl (.tmp 32) (.tmp 41) 51 9 rfl w.heap.size 5 i Try.underlying51 Try.underlying9 HI.out HZ.out HZ1.out HZ2.out _ _ _ rfl HO.out _ rfl (HX1.out _) (HX2.out _) HSZ.out ?_; intro v1 w1 hown1 hgr1 _)
        obtain ⟨A1, e1, rfl, hown2⟩ := own_next (jj := n - m) (by rw [if_pos (by omega)]; omega) (by omega) (by omega) HPI.out hown1
        go_roundw
        case rel =>
          refine ⟨m + (n - m), j + 1, 0, e1, A1, rfl, rfl, by go_num, by omega, by omega, hown2, fun h' => absurd h' (by omega), ?_⟩
          exact HB.out.grown hgr1 HSZ.out (fun b hb' => (HO.out.lt b hb').1)
        case measure => simp [lenV]; omega
    · obtain rfl : m = n := by omega
      have hcv := own_string (P := Try.prog) 51 5 9 Try.underlying51 Try.underlying5 Try.underlying9 wr w.heap.size m (.slice A' m c) (bs.take m) (by rw [List.length_take, HN.out]; omega) hown
      have HB := Lib.hid hb
      clear hown HP hb
      go_wp2
      go_ret
      exact ⟨rfl, HB.out⟩

theorem first_nil (w : World) : Calls Try.prog 25 #[.pointer none, .int .i64 0] w fun e w' => e = .returned (.string ⟨#[]⟩) ∧ Below w.heap.size w w' := by
  have hmk : ∀ w : World, (Instr.makeSlice 51 (.int .i64 0) (.int .i64 0)).run Try.prog w = .ok (.slice (some ⟨w.heap.size, 0, none⟩) 0 0) (w.alloc (.cells (madeCells #[.int .u8 0] 0) 5)) := fun w => make_bytes 0 (by omega) w
  have hcv : ∀ (wr : World) a, (convert 51 9 (.slice (some a) 0 0)).run Try.prog wr = .ok (.string ⟨#[]⟩) wr := fun wr a => run_convert_bytes_back (P := Try.prog) wr 51 9 5 a 0 [] Try.underlying51 Try.underlying5 Try.underlying9 (fun j hj => by simp at hj)
  go_enter Try.func25, Try.ntmps25
  go_wp2
  go_loopw [5, 6, 7] (fun o a i wr => o = .slice (some ⟨w.heap.size, 0, none⟩) 0 0 ∧ Below w.heap.size w wr) (fun _ _ _ _ => 0)
  case atStart => exact ⟨rfl, (Below.refl _ _).alloc (Nat.le_refl _) _⟩
  case round =>
    obtain ⟨rfl, hb⟩ := hrel
    have HB := Lib.hid hb
    clear hb
    go_wp2
    go_ret
    exact ⟨rfl, HB.out⟩
theorem Peek_nil (n : Int) (w : World) : Calls Try.prog 20 #[.pointer none, .int .i64 n] w fun e w' => e = .returned (.string ⟨#[]⟩) ∧ Below w.heap.size w w' := by
  have H1 := Lib.hid (count_nil n w)
  have H2 := Lib.hid (first_nil w)
  go_enter Try.func20, Try.ntmps20
  go_wp2_with (first | (go_at_call 26; refine H1.out.mono ?_; rintro e w1 ⟨rfl, rfl⟩) | (go_at_call 25; refine H2.out.mono ?_; rintro e w1 ⟨rfl, hb1⟩; have HB1 := Lib.hid hb1; clear hb1))
  go_ret
  exact ⟨rfl, HB1.out⟩
theorem Peek_any {w : World} {B g : Nat} {bs : List UInt8} {most out : Nat} (h : Que w B g bs most out) (n : Int) :
    Calls Try.prog 20 #[.pointer (some ⟨g, 0, none⟩), .int .i64 n] w fun e w' => e = .returned (.string ⟨(bs.take (cntN n bs.length)).toArray⟩) ∧ Below w.heap.size w w' := by
  have H1 := Lib.hid (count_any h n)
  have H2 := Lib.hid (first_any h (cntN n bs.length) (cntN_le _ _))
  clear h
  go_enter Try.func20, Try.ntmps20
  go_wp2_with (first | (go_at_call 26; refine H1.out.mono ?_; rintro e w1 ⟨rfl, rfl⟩) | (go_at_call 25; refine H2.out.mono ?_; rintro e w1 ⟨rfl, hb1⟩; have HB1 := Lib.hid hb1; clear hb1))
  go_ret
  exact ⟨rfl, HB1.out⟩
end Go.Proofs.Ytamfkiimppfoaaa
