/-
  The queue: the first bytes, so many, go; Drain. No condition but that the queue is one.
-/
import Derived.Test.YtamfkiimppfoaaaQHold
namespace Go.Proofs.Ytamfkiimppfoaaa
open Go.RowKit
set_option linter.unusedVariables false

/-- The queue while some of its bytes go: r of them still have to. -/
structure Going (w wr : World) (B g : Nat) (bs : List UInt8) (most out n r : Nat) (A : Option Addr) (cap : Nat) (l : List ByteArray) (k : Nat) : Prop where
  blk : wr.heap[g]? = some (.cells #[.slice A l.length cap, .int .i64 k, .int .i64 ((bs.length - n : Nat) : Int), .int .i64 most, .int .i64 ((out + n : Nat) : Int)] 47 (0, 0))
  row : Row wr B 9 (.slice A l.length cap) l.length (l.map Value.string)
  held : Held l k (bs.drop (n - r))
  le : r ≤ n
  turn : Turn w wr B g

theorem Turn.drewN {a b : World} {B g : Nat} (h : Turn a b B g) (n : Nat) : Turn a (b.drewN n) B g := ⟨below_drewN h.below n, h.keep⟩
theorem Turn.set_ {a b : World} {B g : Nat} (h : Turn a b B g) (hg : B ≤ g) (i : Nat) (u : Value) : Turn a (b.setCell ⟨g, i, none⟩ u) B g :=
  ⟨h.below.setCell (p := ⟨g, i, none⟩) hg u, fun k cs t m hk hkg ht => (Below.heap_setCell _ ⟨g, i, none⟩ _ k hkg).trans (h.keep k cs t m hk hkg ht)⟩

section
variable {w wr : World} {B g : Nat} {bs : List UInt8} {most out n r cap k gl off : Nat} {p : ByteArray} {t : List ByteArray}
/-- A whole piece goes. -/
theorem Going.whole (h : Going w wr B g bs most out n r (some ⟨gl, off, none⟩) cap (p :: t) k) (hg : B ≤ g) (hle : p.size - k ≤ r) (a b : Nat) (u : Value) :
    Going w (((((wr.drewN a).setCell ⟨g, 1, none⟩ u).drewN b).setCell ⟨g, 0, none⟩ (.slice (if cap = 1 then some ⟨gl, off, none⟩ else some ⟨gl, off + 1, none⟩) t.length (cap - 1))).setCell ⟨g, 1, none⟩ (.int .i64 0))
      B g bs most out n (r - (p.size - k)) (if cap = 1 then some ⟨gl, off, none⟩ else some ⟨gl, off + 1, none⟩) (cap - 1) t 0 := by
  have hap := h.row.apart h.blk (by decide)
  have hap2 := h.row.tail.apart (g := g) (t := 47) h.blk (by decide)
  refine ⟨?_, ?_, ?_, by have := h.le; omega, ?_⟩
  · have e := blk_set (blk_set (blk_set h.blk 1 u) 0 (.slice (if cap = 1 then some ⟨gl, off, none⟩ else some ⟨gl, off + 1, none⟩) t.length (cap - 1))) 1 (.int .i64 0)
    refine Eq.trans e ?_
    simp
  · refine Row.setCell (p := ⟨g, 1, none⟩) (Row.setCell (p := ⟨g, 0, none⟩) ?_ hap2 _) hap2 _
    exact (h.row.tail.setCell (p := ⟨g, 1, none⟩) hap2 u).keep fun _ _ => rfl
  · have hn := h.held.next
    rw [List.drop_drop] at hn
    have e : n - (r - (p.size - k)) = n - r + (p.size - k) := by have := h.le; omega
    rw [e]
    exact hn
  · exact ((((h.turn.drewN a).set_ hg 1 u).drewN b).set_ hg 0 _).set_ hg 1 _
/-- A part of a piece goes: the last one. -/
theorem Going.part (h : Going w wr B g bs most out n r (some ⟨gl, off, none⟩) cap (p :: t) k) (hg : B ≤ g) (hle : r < p.size - k) (a b : Nat) :
    Going w (((wr.drewN a).setCell ⟨g, 1, none⟩ (.int .i64 ((k : Int) + r))).drewN b) B g bs most out n 0 (some ⟨gl, off, none⟩) cap (p :: t) (k + r) := by
  have hap := h.row.apart h.blk (by decide)
  refine ⟨?_, (h.row.setCell (p := ⟨g, 1, none⟩) hap _).keep fun _ _ => rfl, ?_, Nat.zero_le _, ((h.turn.drewN a).set_ hg 1 _).drewN b⟩
  · have e := blk_set h.blk 1 (.int .i64 ((k : Int) + r))
    refine Eq.trans e ?_
    simp
  · have hs := h.held.some_ r (by omega)
    rw [List.drop_drop] at hs
    have e : n - r + r = n - 0 := by have := h.le; omega
    rw [← e]
    exact hs
/-- All of them have gone. -/
theorem Going.gone {l : List ByteArray} {A : Option Addr} (h : Going w wr B g bs most out n 0 A cap l k) (hg : B ≤ g) (hn : n ≤ bs.length) (hf : bs.length ≤ most) (hm : most ≤ 1048576) (ho : out + n ≤ 1000000000) :
    Que wr B g (bs.drop n) most (out + n) := by
  refine ⟨hg, by rw [List.length_drop]; omega, hm, ho, l, A, cap, k, ?_, h.row, h.held⟩
  rw [List.length_drop]
  exact h.blk
end

set_option maxHeartbeats 1000000 in
theorem drop_any {w : World} {B g : Nat} {bs : List UInt8} {most out : Nat} (h : Que w B g bs most out) (n : Nat) (hn : n ≤ bs.length) (hB : B ≤ w.heap.size) (ho : out + n ≤ 1000000000) :
    Calls Try.prog 27 #[.pointer (some ⟨g, 0, none⟩), .int .i64 n] w fun e w' => e = .returned (.tuple #[]) ∧ Que w' B g (bs.drop n) most (out + n) ∧ Turn w w' B g := by
  obtain ⟨h0, h1, h2, h3, l, A, cap, k, hg, hr, hh⟩ := h
  have hlt := blk_lt hg
  obtain ⟨c2, c4⟩ : w.cell? ⟨g, 2, none⟩ = some (.int .i64 bs.length) ∧ w.cell? ⟨g, 4, none⟩ = some (.int .i64 out) := ⟨cell_of_row w g 2 _ _ _ hg, cell_of_row w g 4 _ _ _ hg⟩
  have f2 := blk_frozen hg 2
  have f4 := blk_frozen hg 4
  have hap := hr.apart hg (by decide)
  have HS : Hid (Going w ((w.setCell ⟨g, 2, none⟩ (.int .i64 ((bs.length : Int) - n))).setCell ⟨g, 4, none⟩ (.int .i64 ((out : Int) + n))) B g bs most out n n A cap l k) := by
    refine ⟨?_, ?_, ?_, Nat.le_refl _, ((Turn.refl w B g).set_ h0 _ _).set_ h0 _ _⟩
    · have e2 := blk_set (blk_set hg 2 (.int .i64 ((bs.length : Int) - n))) 4 (.int .i64 ((out : Int) + n))
      rw [e2]
      simp
      omega
    · exact (hr.setCell (p := ⟨g, 2, none⟩) hap _).setCell (p := ⟨g, 4, none⟩) hap _
    · simpa using hh
  obtain ⟨N, hN⟩ : ∃ N, bs.length = N := ⟨_, rfl⟩
  have HN := Lib.hid hN
  rw [hN] at hn h1 c2 HS
  have HLE := Lib.hid (hh.many)
  clear hg hr hh hap hN
  go_enter Try.func27, Try.ntmps27
  go_wp2
  go_loopw [1] (fun i wr => ∃ (r cap k : Nat) (A : Option Addr) (l : List ByteArray), i = .int .i64 r ∧ Hid (Going w wr B g bs most out n r A cap l k)) (fun i _ => (intOf i).toNat)
  case atStart => exact ⟨n, cap, k, A, l, rfl, HS.out⟩
  case round =>
    obtain ⟨r, cap, k, A, l, rfl, HG⟩ := hrel
    by_cases hr0 : 0 < r
    · have hG := HG.out
      obtain ⟨p, t, rfl, hkp⟩ := hG.held.ex (by have := hG.le; rw [List.length_drop, HN.out]; omega)
      obtain ⟨gl, off, cap', hA, hcell, hc1, hc2⟩ := hG.row.get (j := 0) (by simp)
      injection hA with hA1 _ hA3
      subst hA1 hA3
      have hcp : wr.cell? ⟨gl, off, none⟩ = some (.string p) := by simpa using hcell
      obtain ⟨d0, d1⟩ : wr.cell? ⟨g, 0, none⟩ = some (.slice (some ⟨gl, off, none⟩) (t.length + 1) cap) ∧ wr.cell? ⟨g, 1, none⟩ = some (.int .i64 k) := ⟨cell_of_row wr g 0 _ _ _ hG.blk, cell_of_row wr g 1 _ _ _ hG.blk⟩
      have e0 := blk_frozen hG.blk 0
      have e1 := blk_frozen hG.blk 1
      have hps := hG.held.size
      rw [List.length_drop, HN.out] at hps
      have hle := hG.le
      have hbig := hG.held.big p (by simp)
      simp only [List.length_cons] at hc1
      unfold maxLen at hc2
      have hne : gl ≠ g := by
        have := hG.row.apart hG.blk (by decide)
        simpa [Value.ownBlock] using this
      have hne' : g ≠ gl := fun e => hne e.symm
      clear hcell hG
      by_cases hmin : p.size - k ≤ r
      · have hE : ((k : Int) + ((p.size : Int) - k) == p.size) = true := by
          rw [beq_iff_eq]
          omega
        go_wp2
        go_quiet (fail)
        go_wp2
        go_quiet (fail)
        go_wp2
        go_roundw
        case rel => exact ⟨r - (p.size - k), _, 0, _, t, by go_num, HG.out.whole h0 hmin _ _ _⟩
        case measure => simp [intOf]; omega
      · have hE : ((k : Int) + r == p.size) = false := by
          rw [beq_eq_false_iff_ne]
          omega
        go_wp2
        go_quiet (fail)
        go_wp2
        go_quiet (fail)
        go_wp2
        go_roundw
        case rel => exact ⟨0, _, k + r, _, p :: t, rfl, HG.out.part h0 (by omega) _ _⟩
        case measure => simp [intOf]; omega
    · obtain rfl : r = 0 := by omega
      go_wp2
      go_end0
      exact ⟨rfl, HG.out.gone h0 (by rw [HN.out]; exact hn) (by rw [HN.out]; exact h1) h2 ho, HG.out.turn⟩

theorem take_any {w : World} {B g : Nat} {bs : List UInt8} {most out : Nat} (h : Que w B g bs most out) (n : Nat) (hn : n ≤ bs.length) (hB : B ≤ w.heap.size) (ho : out + n ≤ 1000000000) :
    Calls Try.prog 22 #[.pointer (some ⟨g, 0, none⟩), .int .i64 n] w fun e w' => e = .returned (.string ⟨(bs.take n).toArray⟩) ∧ Que w' B g (bs.drop n) most (out + n) ∧ Turn w w' B g := by
  have H1 := Lib.hid (first_any h n hn)
  have H2 : Hid (∀ W, Below w.heap.size w W → Calls Try.prog 27 #[.pointer (some ⟨g, 0, none⟩), .int .i64 n] W fun e w' => e = .returned (.tuple #[]) ∧ Que w' B g (bs.drop n) most (out + n) ∧ Turn W w' B g) :=
    fun W hb => drop_any (h.below hb) n hn (Nat.le_trans hB hb.size) ho
  have HB := Lib.hid hB
  by_cases hn0 : 0 < n
  · clear h hn hB
    go_enter Try.func22, Try.ntmps22
    go_wp2_with (first
      | (go_at_call 25; refine H1.out.mono ?_; rintro e w1 ⟨rfl, hb1⟩; have HB1 := Lib.hid hb1; clear hb1)
      | (go_at_call 27; refine (H2.out _ HB1.out).mono ?_; rintro e w2 ⟨rfl, hq2, hb2⟩; have HQ2 := Lib.hid hq2; have HB2 := Lib.hid hb2; clear hq2 hb2))
    go_ret
    exact ⟨rfl, HQ2.out, (Turn.of HB1.out HB.out).trans HB2.out⟩
  · obtain rfl : n = 0 := by omega
    have HQ := Lib.hid h
    clear h hn hB ho
    go_enter Try.func22, Try.ntmps22
    go_wp2_with (go_at_call 25; refine H1.out.mono ?_; rintro e w1 ⟨rfl, hb1⟩; have HB1 := Lib.hid hb1; clear hb1)
    go_ret
    refine ⟨rfl, ?_, Turn.of HB1.out HB.out⟩
    simpa using HQ.out.below HB1.out
theorem take_nil (w : World) : Calls Try.prog 22 #[.pointer none, .int .i64 0] w fun e w' => e = .returned (.string ⟨#[]⟩) ∧ Below w.heap.size w w' := by
  have H1 := Lib.hid (first_nil w)
  go_enter Try.func22, Try.ntmps22
  go_wp2_with (go_at_call 25; refine H1.out.mono ?_; rintro e w1 ⟨rfl, hb1⟩; have HB1 := Lib.hid hb1; clear hb1)
  go_ret
  exact ⟨rfl, HB1.out⟩
theorem Drain_any {w : World} {B g : Nat} {bs : List UInt8} {most out : Nat} (h : Que w B g bs most out) (hB : B ≤ w.heap.size) (ho : out + bs.length ≤ 1000000000) :
    Calls Try.prog 18 #[.pointer (some ⟨g, 0, none⟩)] w fun e w' => e = .returned (.string ⟨bs.toArray⟩) ∧ Que w' B g [] most (out + bs.length) ∧ Turn w w' B g := by
  have H1 := Lib.hid (Len_any h)
  have h2 := take_any h bs.length (Nat.le_refl _) hB ho
  rw [List.take_length, List.drop_length] at h2
  have H2 := Lib.hid h2
  clear h hB h2
  go_enter Try.func18, Try.ntmps18
  go_wp2_with (first
    | (go_at_call 21; refine H1.out.mono ?_; rintro e w1 ⟨rfl, rfl⟩)
    | (go_at_call 22; refine H2.out.mono ?_; rintro e w2 ⟨rfl, hq2, hb2⟩; have HQ2 := Lib.hid hq2; have HB2 := Lib.hid hb2; clear hq2 hb2))
  go_ret
  exact ⟨rfl, HQ2.out, HB2.out⟩
theorem Drain_nil (w : World) : Calls Try.prog 18 #[.pointer none] w fun e w' => e = .returned (.string ⟨#[]⟩) ∧ Below w.heap.size w w' := by
  have H1 := Lib.hid (Len_nil w)
  have H2 := Lib.hid (take_nil w)
  go_enter Try.func18, Try.ntmps18
  go_wp2_with (first
    | (go_at_call 21; refine H1.out.mono ?_; rintro e w1 ⟨rfl, rfl⟩)
    | (go_at_call 22; refine H2.out.mono ?_; rintro e w1 ⟨rfl, hb1⟩; have HB1 := Lib.hid hb1; clear hb1))
  go_ret
  exact ⟨rfl, HB1.out⟩
end Go.Proofs.Ytamfkiimppfoaaa
