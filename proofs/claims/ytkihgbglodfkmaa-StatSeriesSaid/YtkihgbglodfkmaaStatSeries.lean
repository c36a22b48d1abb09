/-
  Layer 41: the law on the mean of any numbers, how far they lie from it, the least and the greatest, and how many are of which kind, walked. No condition but that what comes in lies in memory.
-/
import Derived.Test.YtkihgbglodfkmaaStatJoins
namespace Go.Proofs.Ytkihgbglodfkmaa
open Go.RowKit
set_option linter.unusedVariables false

/-- What has been made, and the row of the counts. -/
structure Counted (w W : World) (A : Option Addr) (c : Nat) (g : Nat) (kb : Nat) (xs ks : List Nat) : Prop where
  below : Below w.heap.size w W
  nums : Nums W w.heap.size A c xs
  ser : Ser W w.heap.size g xs
  row : KRow W kb ks
  low : w.heap.size ≤ kb
theorem Counted.then {w W W' : World} {A : Option Addr} {c : Nat} {g : Nat} {kb : Nat} {xs ks : List Nat} (h : Counted w W A c g kb xs ks) (hb : Below W.heap.size W W') : Counted w W' A c g kb xs ks :=
  ⟨below_then h.below (Nat.le_refl _) hb, h.nums.below hb, h.ser.below hb, h.row.below hb, h.low⟩
theorem Row.up {w : World} {B B' : Nat} {e : TypeId} {v : Value} {n : Nat} {xs : List Value} (h : Row w B e v n xs) (hb : ∀ k, v.ownBlock = some k → B' ≤ k) : Row w B' e v n xs := by
  refine ⟨h.1, ?_⟩
  rcases h.2 with hn | ⟨g, off, cap, cur, rfl, _, rest⟩
  · exact .inl hn
  · exact .inr ⟨g, off, cap, cur, rfl, hb g rfl, rest⟩
theorem SerAt.other {w : World} {g : Nat} {A : Option Addr} {c : Nat} {xs : List Nat} (h : SerAt w g A c xs) {kb : Nat} {cs : Array Value} (hk : w.heap[kb]? = some (.cells cs 47 (0, 0))) (j : Nat) (u : Value) : SerAt (w.setCell ⟨kb, j, none⟩ u) g A c xs := by
  have h1 : g ≠ kb := by
    intro e
    have := h.blk
    rw [e, hk] at this
    simp at this
  exact h.keep (Below.heap_setCell _ _ _ _ h1) fun k hk2 => Below.heap_setCell _ _ _ _ fun e => h.row.apart hk (by decide) (by rw [hk2, e])
theorem Counted.more {w W : World} {A : Option Addr} {c : Nat} {g : Nat} {kb : Nat} {xs ks ks2 : List Nat} (h : Counted w W A c g kb xs ks) {j : Nat} {u : Value} (hr : KRow (W.setCell ⟨kb, j, none⟩ u) kb ks2) :
    Counted w (W.setCell ⟨kb, j, none⟩ u) A c g kb xs ks2 := by
  obtain ⟨R, k, hs, hs1, hs2⟩ := h.ser.at_
  have hrow : W.heap[kb]? = some (.cells (krow (kc ks 0) (kc ks 1) (kc ks 2) (kc ks 3) (kc ks 4)) 47 (0, 0)) := h.row
  have hs' := (hs.other hrow j u)
  exact ⟨h.below.setCell (p := ⟨kb, j, none⟩) h.low u, Row.setCell h.nums (p := ⟨kb, j, none⟩) (Row.apart h.nums hrow (by decide)) u, ⟨hs1, hs'.few, R, k, hs'.blk, hs'.row.up hs2⟩, hr, h.low⟩
theorem var_of {w W : World} {A : Option Addr} {c g kb : Nat} {xs ks : List Nat} (h : Counted w W A c g kb xs ks) (hw : ∀ x ∈ xs, x < W64) :
    Calls Try.prog 24 #[.pointer (some ⟨g, 0, none⟩)] W fun e w' => ∃ y, e = .returned (.float .f64 y) ∧ Sum_ y (varO xs) ∧ Below W.heap.size W w' := by
  obtain ⟨A2, c2, hh⟩ := Has.ser h.ser
  exact Var_any hh hw
theorem kinds_of {w W : World} {A : Option Addr} {c g kb : Nat} {xs ks : List Nat} (h : Counted w W A c g kb xs ks) (hw : ∀ x ∈ xs, x < W64) :
    Calls Try.prog 29 #[.pointer (some ⟨g, 0, none⟩)] W fun e w' => e = .returned (.agg #[.int .i64 (kc xs 0), .int .i64 (kc xs 1), .int .i64 (kc xs 2), .int .i64 (kc xs 3), .int .i64 (kc xs 4)]) ∧ Below W.heap.size W w' := by
  obtain ⟨A2, c2, hh⟩ := Has.ser h.ser
  exact Kinds_any hh hw
theorem sorted_of {w W : World} {n : Nat} {A : Option Addr} {c g kb : Nat} {xs ks : List Nat} (h : Counted w W A c g kb xs ks) (hn : xs.length = n) (hw : ∀ x ∈ xs, x < W64) :
    Calls Try.prog 27 #[.pointer (some ⟨g, 0, none⟩)] W fun e w' => ∃ A c ys, e = .returned (.slice A n c) ∧ ys.length = n ∧ ys.map bitsN = (srt xs).map bitsN ∧ Nums w' W.heap.size A c ys ∧ Below W.heap.size W w' := by
  obtain ⟨A2, c2, hh⟩ := Has.ser h.ser
  exact Sorted_n hh hn hw
theorem stand {w W : World} {A : Option Addr} {c g kb : Nat} {xs ks : List Nat} (h : Hid (Counted w W A c g kb xs ks)) :
    Hid (Counted w W A c g kb xs ks) ∧ W.cell? ⟨kb, 0, none⟩ = some (.int .i64 (kc ks 0 : Nat)) ∧ W.cell? ⟨kb, 1, none⟩ = some (.int .i64 (kc ks 1 : Nat)) ∧ W.cell? ⟨kb, 2, none⟩ = some (.int .i64 (kc ks 2 : Nat)) ∧ W.cell? ⟨kb, 3, none⟩ = some (.int .i64 (kc ks 3 : Nat)) ∧ W.cell? ⟨kb, 4, none⟩ = some (.int .i64 (kc ks 4 : Nat)) :=
  ⟨h, KRow.cells h.out.row⟩
theorem stand_drew {w W : World} {A : Option Addr} {c g kb : Nat} {xs ks : List Nat} (h : Hid (Counted w W A c g kb xs ks)) :
    Hid (Counted w W.drew A c g kb xs ks) ∧ W.drew.cell? ⟨kb, 0, none⟩ = some (.int .i64 (kc ks 0 : Nat)) ∧ W.drew.cell? ⟨kb, 1, none⟩ = some (.int .i64 (kc ks 1 : Nat)) ∧ W.drew.cell? ⟨kb, 2, none⟩ = some (.int .i64 (kc ks 2 : Nat)) ∧ W.drew.cell? ⟨kb, 3, none⟩ = some (.int .i64 (kc ks 3 : Nat)) ∧ W.drew.cell? ⟨kb, 4, none⟩ = some (.int .i64 (kc ks 4 : Nat)) :=
  stand (Lib.hid (h.out.then ((Below.refl _ _).drew)))
theorem rK_n (x k : Nat) (hk : kindI x = (k : Int)) (w : World) : Calls Try.prog 13 #[.float .f64 x] w fun e w' => e = .returned (.int .i64 k) ∧ w = w' :=
  (rKind_any x w).mono fun e w' ⟨he, hw⟩ => ⟨by rw [he, hk], hw⟩
theorem rShare0 {xs : List Nat} : shareB xs 0 1 = atB xs 0 := by
  unfold shareB
  by_cases h : xs.length = 0
  · rw [if_neg (fun k => k.1 h), atB_out (by omega)]
  · rw [if_pos ⟨h, by omega, by omega, by omega, by omega⟩]
    congr 1
    omega
theorem rShare1 {xs : List Nat} : shareB xs 1 1 = atB xs ((xs.length : Int) - 1) := by
  unfold shareB
  by_cases h : xs.length = 0
  · rw [if_neg (fun k => k.1 h), atB_out (by omega)]
  · rw [if_pos ⟨h, by omega, by omega, by omega, by omega⟩]
    congr 1
    omega

theorem zero_row {w : World} {g : Nat} (h : w.heap[g]? = some (.cells (krow 0 0 0 0 0) 47 (0, 0))) :
    (((((w.setCell ⟨g, 0, none⟩ (.int .i64 0)).setCell ⟨g, 1, none⟩ (.int .i64 0)).setCell ⟨g, 2, none⟩ (.int .i64 0)).setCell ⟨g, 3, none⟩ (.int .i64 0)).setCell ⟨g, 4, none⟩ (.int .i64 0)).heap[g]? = some (.cells (krow 0 0 0 0 0) 47 (0, 0)) := by
  rw [blk_set (blk_set (blk_set (blk_set (blk_set h 0 _) 1 _) 2 _) 3 _) 4 _]
  simp [krow]

set_option maxRecDepth 100000 in
set_option maxHeartbeats 4000000 in
theorem StatSeries_any {w : World} {a : Option Addr} {len : Nat} {zs : List Nat} (cap : Nat) (h : Words w a len zs) :
    Calls Try.prog 6 #[.slice a len cap] w fun e w' => e = .returned (.bool true) ∧ Below w.heap.size w w' := by
  have H8 := Lib.hid (numbers_any cap h 40 (by decide))
  have HW := Lib.hid (few_lt h 40)
  have HL := Lib.hid lives_any
  have hf : (few zs len 40).length ≤ 40 := by rw [few_len h]; omega
  obtain ⟨xs, hxs⟩ : ∃ xs, few zs len 40 = xs := ⟨_, rfl⟩
  rw [hxs] at H8 HW hf
  obtain ⟨n, hN⟩ : ∃ n, xs.length = n := ⟨_, rfl⟩
  have HN := Lib.hid hN
  rw [hN] at hf
  rw [hN] at H8
  have HF : Hid (n ≤ 10000) := by unfold Hid; omega
  have HF1 : Hid (n ≤ 1000000) := by unfold Hid; omega
  clear h hxs hN
  go_enter Try.func6, Try.ntmps6
  go_wp2_with fail
  refine H8.out.mono ?_
  rintro e w1 ⟨A, c, rfl, hn, hb⟩
  have HNU := Lib.hid hn
  have HB1 := Lib.hid hb
  clear hn hb
  go_wp2_with fail
  refine (of_n HNU.out HN.out HF.out).mono ?_
  rintro e w2 ⟨rfl, hs, hb⟩
  obtain ⟨A2, c2, hm⟩ := Made.mk' HB1.out HNU.out hs hb
  have HM := Lib.hid hm
  have HZ := Lib.hid (heap_alloc_new w2 (.cells (krow 0 0 0 0 0) 47))
  have hb2 : Below w2.heap.size w2 (w2.alloc (.cells (krow 0 0 0 0 0) 47)) := (Below.refl _ _).alloc (Nat.le_refl _) _
  have HB2 := Lib.hid hb2
  have f0 := blk_frozen HZ.out 0
  have f1 := blk_frozen HZ.out 1
  have f2 := blk_frozen HZ.out 2
  have f3 := blk_frozen HZ.out 3
  have f4 := blk_frozen HZ.out 4
  have hlow : w.heap.size ≤ w2.heap.size := HM.out.below.size
  clear hs hb hm hb2
  go_wp2_with fail
  obtain ⟨W0, hW0⟩ : ∃ W0, w2.alloc (.cells (krow 0 0 0 0 0) 47) = W0 := ⟨_, rfl⟩
  have hc0 : Counted w W0 A c w1.heap.size w2.heap.size xs [] := by
    rw [← hW0]
    exact ⟨(HM.out.then HB2.out).below, (HM.out.then HB2.out).nums, (HM.out.then HB2.out).ser, HZ.out, hlow⟩
  have HC0 := Lib.hid hc0
  have hW1 : w2.alloc (.cells #[.int .i64 0, .int .i64 0, .int .i64 0, .int .i64 0, .int .i64 0] 47) = W0 := hW0
  rw [hW1]
  generalize w2.heap.size = kb at HC0 ⊢
  clear f0 f1 f2 f3 f4 hlow HZ HB2 HM hc0 hW0 hW1
  go_loopw [6] (fun iv wr => ∃ i : Nat, iv = .int .i64 i ∧ i ≤ n ∧ Hid (Counted w wr A c w1.heap.size kb xs (xs.take i))) (fun iv _ => n - (intOf iv).toNat)
  case atStart => exact ⟨0, rfl, Nat.zero_le _, HC0⟩
  case round =>
    obtain ⟨i, rfl, hi, HC⟩ := hrel
    by_cases hin : i < n
    · have hix : i < xs.length := by rw [HN.out]; exact hin
      obtain ⟨g, off, rfl, _, hcell, hc1, hc2⟩ := HC.out.nums.get (j := i) hix
      have HT := Lib.hid (take_more hix)
      generalize xs[i]'hix = x at hcell HT
      rw [HN.out] at hc1
      obtain ⟨k, hk⟩ : ∃ k : Nat, kindI x = k := ⟨(kindI x).toNat, by have := kind_is x; omega⟩
      have hk5 : k < 5 := by have := kind_is x; omega
      have HKX := Lib.hid hk
      have hcm : kc (xs.take i) (k : Int) ≤ 10000 := Nat.le_trans (kc_le _ _) (by rw [List.length_take]; omega)
      have HM2 := Lib.hid (KRow.more HC.out.row hk)
      have hck : wr.cell? ⟨kb, k, none⟩ = some (.int .i64 (kc (xs.take i) (k : Int) : Int)) := by
        rw [cell_of_row wr _ k _ _ _ HC.out.row]
        have h5 : k = 0 ∨ k = 1 ∨ k = 2 ∨ k = 3 ∨ k = 4 := by omega
        rcases h5 with rfl | rfl | rfl | rfl | rfl <;> rfl
      have hfr := blk_frozen HC.out.row k
      generalize kc (xs.take i) (k : Int) = m at hck hcm HM2
      have i1 : (0 : Int) ≤ (k : Int) := by omega
      have i2 : (k : Int) < 5 := by omega
      clear hk hix
      go_wp2_with (go_at_call 13; refine (rK_n x k HKX.out _).mono ?_; rintro e w3 ⟨rfl, rfl⟩)
      go_roundw
      case rel =>
        refine ⟨i + 1, by go_num, by omega, ?_⟩
        unfold Hid
        rw [HT.out]
        exact HC.out.more HM2.out
      case measure => simp [intOf]; omega
    · obtain rfl : i = n := by omega
      have HC2 : Hid (Counted w wr A c w1.heap.size kb xs xs) := by
        have := HC.out
        rwa [List.take_of_length_le (by rw [HN.out]; exact Nat.le_refl _)] at this
      clear HC hin
      have heq := eq47 (kc xs 0) (kc xs 1) (kc xs 2) (kc xs 3) (kc xs 4)
      go_wp2_with fail
      go_region_held3 (fun w' => Hid (Counted w w' A c w1.heap.size kb xs xs) ∧ w'.cell? ⟨kb, 0, none⟩ = some (.int .i64 (kc xs 0 : Nat)) ∧ w'.cell? ⟨kb, 1, none⟩ = some (.int .i64 (kc xs 1 : Nat)) ∧ w'.cell? ⟨kb, 2, none⟩ = some (.int .i64 (kc xs 2 : Nat)) ∧ w'.cell? ⟨kb, 3, none⟩ = some (.int .i64 (kc xs 3 : Nat)) ∧ w'.cell? ⟨kb, 4, none⟩ = some (.int .i64 (kc xs 4 : Nat)))
        ((first | exact stand (by assumption) | exact stand_drew (by assumption)))
        (first
          | (go_at_call 21; refine (Len_n (by assumption : Hid (Counted w _ A c w1.heap.size kb xs xs) ∧ _).1.out.ser HN.out).mono ?_; rintro e wn ⟨rfl, rfl⟩)
          | (go_at_call 22; refine (Mean_any (by assumption : Hid (Counted w _ A c w1.heap.size kb xs xs) ∧ _).1.out.ser).mono ?_; rintro e wn ⟨y1, rfl, hs, hb⟩; have HS1 := Lib.hid hs; clear hs; have HC3 := Lib.hid (Counted.then (by assumption : Hid (Counted w _ A c w1.heap.size kb xs xs) ∧ _).1.out hb); clear hb)
          | (go_at_call 23; refine (rMean_n (by assumption : Hid (Counted w _ A c w1.heap.size kb xs xs) ∧ _).1.out.nums HN.out HF.out).mono ?_; rintro e wn ⟨y2, rfl, hs, hb⟩; have HS2 := Lib.hid hs; clear hs; have HC3 := Lib.hid (Counted.then (by assumption : Hid (Counted w _ A c w1.heap.size kb xs xs) ∧ _).1.out hb); clear hb)
          | (go_at_call 10; (first | refine (HS3.out.is HS4.out _).mono ?_ | refine (HS1.out.is HS2.out _).mono ?_); rintro e wn ⟨rfl, rfl⟩)
          | (go_at_call 24; refine (Calls.mono (var_of (by assumption : Hid (Counted w _ A c w1.heap.size kb xs xs) ∧ _).1.out HW.out) ?_); rintro e wn ⟨y3, rfl, hs, hb⟩; have HS3 := Lib.hid hs; clear hs; have HC3 := Lib.hid (Counted.then (by assumption : Hid (Counted w _ A c w1.heap.size kb xs xs) ∧ _).1.out hb); clear hb)
          | (go_at_call 25; refine (rVar_n (by assumption : Hid (Counted w _ A c w1.heap.size kb xs xs) ∧ _).1.out.nums HN.out HF.out HW.out).mono ?_; rintro e wn ⟨y4, rfl, hs, hb⟩; have HS4 := Lib.hid hs; clear hs; have HC3 := Lib.hid (Counted.then (by assumption : Hid (Counted w _ A c w1.heap.size kb xs xs) ∧ _).1.out hb); clear hb)
          | (go_at_call 29; refine (Calls.mono (kinds_of (by assumption : Hid (Counted w _ A c w1.heap.size kb xs xs) ∧ _).1.out HW.out) ?_); rintro e wn ⟨rfl, hb⟩; have HC3 := Lib.hid (Counted.then (by assumption : Hid (Counted w _ A c w1.heap.size kb xs xs) ∧ _).1.out hb); clear hb)
          | (go_at_call 27; refine (Calls.mono (sorted_of (by assumption : Hid (Counted w _ A c w1.heap.size kb xs xs) ∧ _).1.out HN.out HW.out) ?_); rintro e wn ⟨As, cs, vs, rfl, hvl, hvb, hv, hb⟩; have HVL := Lib.hid hvl; have HVB := Lib.hid hvb; have HV := Lib.hid hv; clear hvl hvb hv; have HC3 := Lib.hid (Counted.then (by assumption : Hid (Counted w _ A c w1.heap.size kb xs xs) ∧ _).1.out hb); clear hb)
          | (go_at_call 28; refine (rSorted_n (by assumption : Hid (Counted w _ A c w1.heap.size kb xs xs) ∧ _).1.out.nums HN.out HF.out HW.out).mono ?_; rintro e wn ⟨At, ct, rfl, hr, hb⟩; have HV := Lib.hid (HV.out.below hb); have HR3 := Lib.hid hr; clear hr; have HC3 := Lib.hid (Counted.then (by assumption : Hid (Counted w _ A c w1.heap.size kb xs xs) ∧ _).1.out hb); clear hb)
          | (go_at_call 26; refine (Same_n HV.out HR3.out HVB.out HVL.out HF1.out).mono ?_; rintro e wn ⟨rfl, hb⟩; have HC3 := Lib.hid (Counted.then (by assumption : Hid (Counted w _ A c w1.heap.size kb xs xs) ∧ _).1.out hb); clear hb))
      go_wp2_with fail
      have HC2 := Lib.hid (by assumption : Hid (Counted w _ A c w1.heap.size kb xs xs) ∧ _).1.out
      obtain ⟨Ah, ch, hh⟩ := Has.ser HC2.out.ser
      have HH := Lib.hid hh
      clear hh
      refine (Least_any HH.out HW.out).mono ?_
      rintro e wn ⟨y5, rfl, hy, hb⟩
      have HY5 := Lib.hid hy
      clear hy
      have HC2 := Lib.hid (HC2.out.then hb)
      clear hb
      go_wp2_with fail
      refine (rAt_n HC2.out.nums HN.out HF.out HW.out 0 1).mono ?_
      rintro e wn ⟨y6, rfl, hy, hb⟩
      have HY6 := Lib.hid hy
      clear hy
      have HC2 := Lib.hid (HC2.out.then hb)
      clear hb
      go_wp2_with fail
      refine (is_true HY5.out.1 (HY6.out.1.trans rShare0) _).mono ?_
      rintro e wn ⟨rfl, rfl⟩
      go_wp2_with fail
      obtain ⟨Ah, ch, hh⟩ := Has.ser HC2.out.ser
      have HH := Lib.hid hh
      clear hh
      refine (Most_any HH.out HW.out).mono ?_
      rintro e wn ⟨y7, rfl, hy, hb⟩
      have HY7 := Lib.hid hy
      clear hy
      have HC2 := Lib.hid (HC2.out.then hb)
      clear hb
      go_wp2_with fail
      refine (rAt_n HC2.out.nums HN.out HF.out HW.out 1 1).mono ?_
      rintro e wn ⟨y8, rfl, hy, hb⟩
      have HY8 := Lib.hid hy
      clear hy
      have HC2 := Lib.hid (HC2.out.then hb)
      clear hb
      go_wp2_with fail
      refine (is_true HY7.out.1 (HY8.out.1.trans rShare1) _).mono ?_
      rintro e wn ⟨rfl, rfl⟩
      go_wp2_with fail
      refine (HL.out _).mono ?_
      rintro e wn ⟨rfl, hb⟩
      have HC2 := Lib.hid (HC2.out.then hb)
      clear hb
      go_wp2_with fail
      go_ret
      exact ⟨rfl, HC2.out.below⟩


/-- The law. -/
theorem StatSeries_walk (a0 : Option Addr) (len0 cap0 : Nat) (z0 : List Int) (W : World) (w0 : IsRow .u64 W a0 len0 cap0 z0) :
    Calls Try.prog 6 #[.slice a0 len0 cap0] W fun e w' => e = .returned (.bool true) ∧ Below W.heap.size W w' := by
  obtain ⟨zs, hz⟩ := words_of w0
  exact StatSeries_any cap0 hz
end Go.Proofs.Ytkihgbglodfkmaa
