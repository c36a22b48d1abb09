/-
  Layer 43 (mix): events with other ids, by the program, and an id by both. No condition but that what comes in lies in memory.
-/
import Derived.Test.YtlalbfpdelfnfaaThose
namespace Go.Proofs.Ytlalbfpdelfnfaa
open Go.RowKit
set_option linter.unusedVariables false

def inB (n : Int) : Bool := decide (1 ≤ n ∧ n ≤ 1000000)
def shiftI (id by_ : Int) : Int := if 1 ≤ id ∧ id ≤ 1000000 ∧ -1000000 ≤ by_ ∧ by_ ≤ 1000000 ∧ 1 ≤ id + by_ ∧ id + by_ ≤ 1000000 then id + by_ else id
theorem in_any (n : Int) (w : World) : Calls Try.prog 51 #[.int .i64 n] w fun e w' => e = .returned (.bool (inB n)) ∧ w = w' := by
  by_cases h1 : 1 ≤ n
  · by_cases h2 : n ≤ 1000000
    · have H : Hid (inB n = true) := by unfold Hid inB; simp [h1, h2]
      go_enter Try.func51, Try.ntmps51
      go_wp2
      go_ret
      exact ⟨ret_bool (by rw [H.out]), rfl⟩
    · have H : Hid (inB n = false) := by unfold Hid inB; simp [h2]
      go_enter Try.func51, Try.ntmps51
      go_wp2
      go_ret
      exact ⟨ret_bool (by rw [H.out]), rfl⟩
  · have H : Hid (inB n = false) := by unfold Hid inB; simp [h1]
    go_enter Try.func51, Try.ntmps51
    go_wp2
    go_ret
    exact ⟨ret_bool (by rw [H.out]), rfl⟩
theorem in_b {n : Int} {b : Bool} (h : inB n = b) (w : World) : Calls Try.prog 51 #[.int .i64 n] w fun e w' => e = .returned (.bool b) ∧ w = w' := by
  rw [← h]
  exact in_any n w
theorem shifted_any (id by_ : Int) (w : World) : Calls Try.prog 38 #[.int .i64 id, .int .i64 by_] w fun e w' => e = .returned (.int .i64 (shiftI id by_)) ∧ w = w' := by
  by_cases h1 : 1 ≤ id ∧ id ≤ 1000000
  · have H1 : Hid (inB id = true) := by unfold Hid inB; simp [h1]
    obtain ⟨h1a, h1b⟩ := h1
    by_cases h2 : by_ < -1000000
    · have HE : Hid (shiftI id by_ = id) := by unfold Hid shiftI; rw [if_neg (by omega)]
      go_enter Try.func38, Try.ntmps38
      go_wp2_with (go_at_call 51; refine (in_b H1.out _).mono ?_; rintro e w' ⟨rfl, rfl⟩)
      go_ret
      exact ⟨ret_int HE.out.symm, rfl⟩
    · by_cases h3 : 1000000 < by_
      · have HE : Hid (shiftI id by_ = id) := by unfold Hid shiftI; rw [if_neg (by omega)]
        go_enter Try.func38, Try.ntmps38
        go_wp2_with (go_at_call 51; refine (in_b H1.out _).mono ?_; rintro e w' ⟨rfl, rfl⟩)
        go_ret
        exact ⟨ret_int HE.out.symm, rfl⟩
      · have l2 : -1000000 ≤ by_ := by omega
        have l3 : by_ ≤ 1000000 := by omega
        by_cases h4 : 1 ≤ id + by_ ∧ id + by_ ≤ 1000000
        · have H2 : Hid (inB (id + by_) = true) := by unfold Hid inB; simp [h4]
          have HE : Hid (shiftI id by_ = id + by_) := by unfold Hid shiftI; rw [if_pos (by omega)]
          clear h4 h2 h3
          go_enter Try.func38, Try.ntmps38
          go_wp2_with fail
          refine (in_b H1.out _).mono ?_
          rintro e w' ⟨rfl, rfl⟩
          go_wp2_with (go_at_call 51; refine (in_b H2.out _).mono ?_; rintro e w' ⟨rfl, rfl⟩)
          go_ret
          exact ⟨ret_int HE.out.symm, rfl⟩
        · have H2 : Hid (inB (id + by_) = false) := by unfold Hid inB; simpa using h4
          have HE : Hid (shiftI id by_ = id) := by unfold Hid shiftI; rw [if_neg (by omega)]
          clear h4 h2 h3
          go_enter Try.func38, Try.ntmps38
          go_wp2_with fail
          refine (in_b H1.out _).mono ?_
          rintro e w' ⟨rfl, rfl⟩
          go_wp2_with (go_at_call 51; refine (in_b H2.out _).mono ?_; rintro e w' ⟨rfl, rfl⟩)
          go_ret
          exact ⟨ret_int HE.out.symm, rfl⟩
  · have H1 : Hid (inB id = false) := by unfold Hid inB; simpa using h1
    have HE : Hid (shiftI id by_ = id) := by unfold Hid shiftI; rw [if_neg (by omega)]
    clear h1
    go_enter Try.func38, Try.ntmps38
    go_wp2_with (go_at_call 51; refine (in_b H1.out _).mono ?_; rintro e w' ⟨rfl, rfl⟩)
    go_ret
    exact ⟨ret_int HE.out.symm, rfl⟩
theorem rShifted_any (id by_ : Int) (w : World) : Calls Try.prog 22 #[.int .i64 id, .int .i64 by_] w fun e w' => e = .returned (.int .i64 (shiftI id by_)) ∧ w = w' := by
  by_cases h1 : id < 1
  · have HE : Hid (shiftI id by_ = id) := by unfold Hid shiftI; rw [if_neg (by omega)]
    go_enter Try.func22, Try.ntmps22
    go_wp2
    go_ret
    exact ⟨ret_int HE.out.symm, rfl⟩
  · by_cases h2 : 1000000 < id
    · have HE : Hid (shiftI id by_ = id) := by unfold Hid shiftI; rw [if_neg (by omega)]
      go_enter Try.func22, Try.ntmps22
      go_wp2
      go_ret
      exact ⟨ret_int HE.out.symm, rfl⟩
    · by_cases h3 : by_ < -1000000
      · have HE : Hid (shiftI id by_ = id) := by unfold Hid shiftI; rw [if_neg (by omega)]
        go_enter Try.func22, Try.ntmps22
        go_wp2
        go_ret
        exact ⟨ret_int HE.out.symm, rfl⟩
      · by_cases h4 : 1000000 < by_
        · have HE : Hid (shiftI id by_ = id) := by unfold Hid shiftI; rw [if_neg (by omega)]
          go_enter Try.func22, Try.ntmps22
          go_wp2
          go_ret
          exact ⟨ret_int HE.out.symm, rfl⟩
        · have l1 : 1 ≤ id := by omega
          have l2 : id ≤ 1000000 := by omega
          have l3 : -1000000 ≤ by_ := by omega
          have l4 : by_ ≤ 1000000 := by omega
          by_cases h5 : id + by_ < 1
          · have HE : Hid (shiftI id by_ = id) := by unfold Hid shiftI; rw [if_neg (by omega)]
            go_enter Try.func22, Try.ntmps22
            go_wp2
            go_ret
            exact ⟨ret_int HE.out.symm, rfl⟩
          · by_cases h6 : 1000000 < id + by_
            · have HE : Hid (shiftI id by_ = id) := by unfold Hid shiftI; rw [if_neg (by omega)]
              go_enter Try.func22, Try.ntmps22
              go_wp2
              go_ret
              exact ⟨ret_int HE.out.symm, rfl⟩
            · have HE : Hid (shiftI id by_ = id + by_) := by unfold Hid shiftI; rw [if_pos (by omega)]
              go_enter Try.func22, Try.ntmps22
              go_wp2
              go_ret
              exact ⟨ret_int HE.out.symm, rfl⟩

/-- An event with another id. -/
def shiftE (by_ : Int) (e : Ev) : Ev := if e.k = 6 then e else { e with id := shiftI e.id by_ }
set_option maxRecDepth 100000 in
set_option maxHeartbeats 2000000 in
theorem shift_any {w : World} {lo n : Nat} {v : Value} {es : List Ev} (by_ : Int) (h : Evs w lo v n es) (hn : n ≤ 1000000) (hfew : ∀ e ∈ es, e.hs.length ≤ 1000000) :
    Calls Try.prog 23 #[.int .i64 by_, v] w (Made_ w w.heap.size (es.map (shiftE by_))) := by
  have HH := Lib.hid (h.base (Nat.zero_le _))
  have HN := Lib.hid h.len
  have HF := Lib.hid hfew
  obtain ⟨A0, c0, rfl⟩ := h.slice
  clear h hfew
  go_enter Try.func23, Try.ntmps23
  go_wp2
  go_loopw [5, 11] (fun o iv wr => ∃ (i c : Nat) (A : Option Addr), o = .slice A i c ∧ iv = .int .i64 i ∧ i ≤ n ∧ Hid (Outs wr w.heap.size w.heap.size (.slice A i c) i ((es.take i).map (shiftE by_))) ∧ Hid (Below w.heap.size w wr)) (fun _ iv _ => n - (intOf iv).toNat)
  case atStart => exact ⟨0, 0, none, rfl, rfl, Nat.zero_le _, Lib.hid (Outs.nil_ w _ _), Lib.hid (Below.refl _ _)⟩
  case round =>
    obtain ⟨i, c, A, rfl, rfl, hi, HO, HB⟩ := hrel
    by_cases hl : i < n
    · obtain ⟨g, off, A1, c1, hix, rfl, he, hh, ha⟩ := evs_at HH.out HB.out hl
      have HT : Hid ((es.take (i + 1)).map (shiftE by_) = (es.take i).map (shiftE by_) ++ [shiftE by_ es[i]]) := by
        unfold Hid
        rw [List.take_succ_eq_append_getElem hix, List.map_append]
        rfl
      have HFE := Lib.hid (HF.out _ (List.getElem_mem hix))
      have HHD := Lib.hid hh
      have HJ : Hid (i + 1 ≤ 1000000000) := by unfold Hid; omega
      generalize es[i]'hix = e at he HT HFE HHD
      have HZ := Lib.hid (EvRow.zero wr)
      obtain ⟨d0, d1, d2, d3, d4, d5, d6, d7, d8⟩ := he
      obtain ⟨n1, hn1⟩ : ∃ n1, e.hs.length = n1 := ⟨_, rfl⟩
      rw [hn1] at d7 HHD
      clear hix hh ha hn1
      obtain ⟨b, hb⟩ : ∃ b, (e.k == 6) = b := ⟨_, rfl⟩
      have hbn : (e.k != 6) = !b := by rw [← hb]; rfl
      have HBK : Hid (decide (e.k = 6) = b) := by unfold Hid; rw [← hb]; rfl
      cases b
      · go_wp2_with (first
          | (refine wpList_store_ev rfl (.tmp 7) (.tmp 14) rfl _ _ _ HZ.out e _ rfl rfl rfl ?_; intro w2 hF hB hO; have HR := Lib.hid hF; have HB2 := Lib.hid (hB wr.heap.size wr ((Below.refl _ _).alloc (Nat.le_refl _) _) (Nat.le_refl _)); clear d0 d1 d2 d3 d4 d5 d6 d7 d8; obtain ⟨x0, x1, x2, x3, x4, x5, x6, x7, x8⟩ := hF.cells; clear hF hB hO)
          | (go_at_call 26; refine (own_any (hds_more HHD.out HB2.out) HFE.out).mono ?_; rintro o w4 ⟨hv', rfl, hh, hb4⟩; obtain ⟨A2, c2, rfl⟩ := hh.slice
             have HR4 := Lib.hid (HR.out.below hb4); have HZ4 := Lib.hid (EvRow.zero w4); have HB4 := Lib.hid (HB2.out.trans (hb4.mono HB2.out.size)); have HH4 := Lib.hid (hh.base (Nat.le_trans HB.out.size HB2.out.size)); clear hh hb4 x0 x1 x2 x3 x4 x5 x6 x7 x8)
          | (refine wpList_store_ev rfl (.tmp 8) (.tmp 16) rfl _ _ _ HZ4.out e _ rfl rfl rfl ?_; intro w5 hF hB hO; have HB5 := Lib.hid (hB w4.heap.size w4 ((Below.refl _ _).alloc (Nat.le_refl _) _) (Nat.le_refl _)); have HRE := Lib.hid (HR4.out.below HB5.out)
             have HH5 := Lib.hid (HH4.out.below HB5.out); have HO5 := Lib.hid (HO.out.below (HB4.out.trans (HB5.out.mono HB4.out.size))); have HBW5 := Lib.hid (HB4.out.trans (HB5.out.mono HB4.out.size)); have HS5 := Lib.hid (Nat.le_trans HB.out.size HBW5.out.size)
             have hb6 := HB5.out.setCell (p := ⟨w4.heap.size, 1, none⟩) (Nat.le_refl _) (.int .i64 (shiftI e.id by_)); have HB6 := Lib.hid (HB4.out.trans (hb6.mono HB4.out.size)); have HZS := Lib.hid (show (w5.setCell ⟨w4.heap.size, 1, none⟩ (.int .i64 (shiftI e.id by_))).heap.size = w5.heap.size by simp [World.setCell])
             have HP := Lib.hid (Pushing.mk' (wr := w5.setCell ⟨w4.heap.size, 1, none⟩ (.int .i64 (shiftI e.id by_))) (e := { e with id := shiftI e.id by_ }) (HO.out.below HB6.out) (HH4.out.below hb6).hds ((HH4.out.below hb6).apart _) (by rw [HZS.out]; exact HS5.out) HJ.out)
             obtain ⟨x0, x1, x2, x3, x4, x5, x6, x7, x8⟩ := hF.cells; obtain ⟨y0, y1, y2, y3, y4, y5, y6, y7, y8⟩ := HRE.out.cells; have f1 := hF.frozen 1; clear hF hB hO hb6)
          | (go_at_call 38; refine (shifted_any _ _ _).mono ?_; rintro o w6 ⟨rfl, rfl⟩)
          | (at_builtin; refine wpList_push' rfl (.tmp 25) (.tmp 27) rfl HP.out HZS.out rfl rfl ?_; intro A' c' w7 ho hb; have HO7 := Lib.hid ho; have HB7 := Lib.hid hb; clear ho hb))
        go_roundw
        case rel =>
          refine ⟨i + 1, c', A', rfl, by go_num, by omega, ?_, Lib.hid ((HB.out.trans (HB6.out.mono HB.out.size)).trans HB7.out)⟩
          unfold Hid
          rw [HT.out]
          have : shiftE by_ e = { e with id := shiftI e.id by_ } := by unfold shiftE; rw [if_neg (of_decide_eq_false HBK.out)]
          rw [this]
          exact HO7.out
        case measure => simp [intOf]; omega
      · go_wp2_with (first
          | (refine wpList_store_ev rfl (.tmp 7) (.tmp 14) rfl _ _ _ HZ.out e _ rfl rfl rfl ?_; intro w2 hF hB hO; have HR := Lib.hid hF; have HB2 := Lib.hid (hB wr.heap.size wr ((Below.refl _ _).alloc (Nat.le_refl _) _) (Nat.le_refl _)); clear d0 d1 d2 d3 d4 d5 d6 d7 d8; obtain ⟨x0, x1, x2, x3, x4, x5, x6, x7, x8⟩ := hF.cells; clear hF hB hO)
          | (go_at_call 26; refine (own_any (hds_more HHD.out HB2.out) HFE.out).mono ?_; rintro o w4 ⟨hv', rfl, hh, hb4⟩; obtain ⟨A2, c2, rfl⟩ := hh.slice
             have HR4 := Lib.hid (HR.out.below hb4); have HZ4 := Lib.hid (EvRow.zero w4); have HB4 := Lib.hid (HB2.out.trans (hb4.mono HB2.out.size)); have HH4 := Lib.hid (hh.base (Nat.le_trans HB.out.size HB2.out.size)); clear hh hb4 x0 x1 x2 x3 x4 x5 x6 x7 x8)
          | (refine wpList_store_ev rfl (.tmp 8) (.tmp 16) rfl _ _ _ HZ4.out e _ rfl rfl rfl ?_; intro w5 hF hB hO; have HB5 := Lib.hid (hB w4.heap.size w4 ((Below.refl _ _).alloc (Nat.le_refl _) _) (Nat.le_refl _)); have HRE := Lib.hid (HR4.out.below HB5.out)
             have HH5 := Lib.hid (HH4.out.below HB5.out); have HO5 := Lib.hid (HO.out.below (HB4.out.trans (HB5.out.mono HB4.out.size))); have HBW5 := Lib.hid (HB4.out.trans (HB5.out.mono HB4.out.size)); have HS5 := Lib.hid (Nat.le_trans HB.out.size HBW5.out.size)
             have hb6 := HB5.out.setCell (p := ⟨w4.heap.size, 1, none⟩) (Nat.le_refl _) (.int .i64 (shiftI e.id by_)); have HB6 := Lib.hid (HB4.out.trans (hb6.mono HB4.out.size)); have HZS := Lib.hid (show (w5.setCell ⟨w4.heap.size, 1, none⟩ (.int .i64 (shiftI e.id by_))).heap.size = w5.heap.size by simp [World.setCell])
             have HP := Lib.hid (Pushing.mk' (e := e) HO5.out HH5.out.hds (HH5.out.apart _) HS5.out HJ.out)
             obtain ⟨x0, x1, x2, x3, x4, x5, x6, x7, x8⟩ := hF.cells; obtain ⟨y0, y1, y2, y3, y4, y5, y6, y7, y8⟩ := HRE.out.cells; have f1 := hF.frozen 1; clear hF hB hO hb6)
          | (go_at_call 38; refine (shifted_any _ _ _).mono ?_; rintro o w6 ⟨rfl, rfl⟩)
          | (at_builtin; refine wpList_push' rfl (.tmp 25) (.tmp 27) rfl HP.out rfl rfl rfl ?_; intro A' c' w7 ho hb; have HO7 := Lib.hid ho; have HB7 := Lib.hid hb; clear ho hb))
        go_roundw
        case rel =>
          refine ⟨i + 1, c', A', rfl, by go_num, by omega, ?_, Lib.hid ((HB.out.trans (HBW5.out.mono HB.out.size)).trans HB7.out)⟩
          unfold Hid
          rw [HT.out]
          have : shiftE by_ e = e := by unfold shiftE; rw [if_pos (of_decide_eq_true HBK.out)]
          rw [this]
          exact HO7.out
        case measure => simp [intOf]; omega
    · obtain rfl : i = n := by omega
      have HE : Hid ((es.take i).map (shiftE by_) = es.map (shiftE by_)) := by unfold Hid; rw [List.take_of_length_le (by rw [HN.out]; exact Nat.le_refl _)]
      rw [HE.out] at HO
      go_wp2
      go_ret
      exact Made_.mk' HO.out (Nat.le_refl _) HB.out
end Go.Proofs.Ytlalbfpdelfnfaa
