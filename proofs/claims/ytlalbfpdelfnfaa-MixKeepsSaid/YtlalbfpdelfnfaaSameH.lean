/-
  Layer 43 (mix): whether two lists of headers are one, by the reference and by slices.Equal. No condition but that both lie in memory.
-/
import Derived.Test.YtlalbfpdelfnfaaShift
namespace Go.Proofs.Ytlalbfpdelfnfaa
open Go.RowKit
set_option linter.unusedVariables false

theorem toList_eq_iff (x k : ByteArray) : x.toList = k.toList ↔ x = k := by
  refine ⟨fun e => ext_data ?_, fun e => by rw [e]⟩
  rw [← Lib.toList_data, ← Lib.toList_data]
  exact e
theorem toList_beq (x k : ByteArray) : (x.toList == k.toList) = decide (x = k) := by
  by_cases h : x = k
  · simp [h]
  · rw [decide_eq_false h, Bool.eq_false_iff]
    intro e
    exact h ((toList_eq_iff x k).1 (eq_of_beq e))
theorem eq34 (a b c d : ByteArray) (w : World) : (Op.equalIn 10000 34 (.agg #[.string a, .string b]) (.agg #[.string c, .string d])).run Try.prog w = .ok (decide ((a, b) = (c, d))) w := by
  have u9 := Try.underlying9
  have a9 := Try.isAgg9
  have z9 := Try.sizeOf9
  rw [show (10000 : Nat) = 9999 + 1 from rfl, Op.equalIn]
  simp only [Sem.run_bind, run_underlying Try.underlying34, Result.andThen_ok]
  go_simp
  by_cases h1 : a = c
  · by_cases h2 : b = d
    · rw [if_pos ((toList_eq_iff a c).2 h1), if_pos ((toList_eq_iff b d).2 h2)]
      simp [h1, h2]
    · rw [if_pos ((toList_eq_iff a c).2 h1), if_neg (fun h => h2 ((toList_eq_iff b d).1 h))]
      simp [h2]
  · rw [if_neg (fun h => h1 ((toList_eq_iff a c).1 h))]
    simp [h1]
theorem eq34_b {x y : ByteArray × ByteArray} {b : Bool} (h : decide (x = y) = b) (w : World) : (Op.equalIn 10000 34 (.agg #[.string x.1, .string x.2]) (.agg #[.string y.1, .string y.2])).run Try.prog w = .ok b w := by
  rw [eq34, h]
theorem take_eq_more {α : Type} {xs ys : List α} {i : Nat} (h : xs.take i = ys.take i) (hx : i < xs.length) (hy : i < ys.length) (he : xs[i] = ys[i]) : xs.take (i + 1) = ys.take (i + 1) := by
  rw [List.take_succ_eq_append_getElem hx, List.take_succ_eq_append_getElem hy, h, he]
theorem take_eq_all {α : Type} {xs ys : List α} {n : Nat} (hx : xs.length = n) (hy : ys.length = n) (h : xs.take n = ys.take n) : xs = ys := by
  rwa [List.take_of_length_le (by omega), List.take_of_length_le (by omega)] at h
theorem ne_at {α : Type} {xs ys : List α} {i : Nat} (hx : i < xs.length) (hy : i < ys.length) (he : ¬ xs[i] = ys[i]) : xs ≠ ys := fun e => by
  subst e
  exact he rfl

set_option maxRecDepth 100000 in
set_option maxHeartbeats 2000000 in
theorem rHSame_any {w : World} {lo lo2 : Nat} {v v2 : Value} {hs hs2 : List (ByteArray × ByteArray)} (h : Hdr w lo v hs) (h2 : Hdr w lo2 v2 hs2) (hn : hs.length ≤ 1000000) :
    Calls Try.prog 46 #[v, v2] w fun o w' => o = .returned (.bool (decide (hs = hs2))) ∧ Below w.heap.size w w' := by
  have HA := Lib.hid h
  have HC := Lib.hid h2
  obtain ⟨A, c, rfl⟩ := h.slice
  obtain ⟨A2, c2, rfl⟩ := h2.slice
  obtain ⟨n, hN⟩ : ∃ n, hs.length = n := ⟨_, rfl⟩
  obtain ⟨m, hM⟩ : ∃ m, hs2.length = m := ⟨_, rfl⟩
  have HN := Lib.hid hN
  have HM := Lib.hid hM
  rw [hN] at hn HA ⊢
  rw [hM] at HC ⊢
  clear h h2 hN hM
  by_cases hnm : n = m
  · subst hnm
    go_enter Try.func46, Try.ntmps46
    go_wp2
    go_loopw [5] (fun iv wr => ∃ i : Nat, iv = .int .i64 i ∧ i ≤ n ∧ Hid (hs.take i = hs2.take i) ∧ Hid (Below w.heap.size w wr)) (fun iv _ => n - (intOf iv).toNat)
    case atStart => exact ⟨0, rfl, Nat.zero_le _, Lib.hid rfl, Lib.hid (Below.refl _ _)⟩
    case round =>
      obtain ⟨i, rfl, hi, HT, HB⟩ := hrel
      by_cases hin : i < n
      · have hx : i < hs.length := by rw [HN.out]; exact hin
        have hy : i < hs2.length := by rw [HM.out]; exact hin
        obtain ⟨g, off, cap, hv, _, _, _, hg, k0, k1⟩ := Hdr.get HA.out hx
        obtain ⟨g2, off2, cap2, hv2, _, _, _, hg2, l0, l1⟩ := Hdr.get HC.out hy
        injection hv with q1 q2 q3
        injection hv2 with r1 r2 r3
        subst q1 q3 r1 r3
        have d0 := (HB.out.cell (p := ⟨g, off + i * 2, none⟩) hg).trans k0
        have d1 := (HB.out.cell (p := ⟨g, off + i * 2 + 1, none⟩) hg).trans k1
        have e0 := (HB.out.cell (p := ⟨g2, off2 + i * 2, none⟩) hg2).trans l0
        have e1 := (HB.out.cell (p := ⟨g2, off2 + i * 2 + 1, none⟩) hg2).trans l1
        have HMORE := Lib.hid fun he => take_eq_more HT.out hx hy he
        have HNE := Lib.hid fun he => ne_at hx hy he
        generalize hs[i]'hx = x at d0 d1 HMORE HNE
        generalize hs2[i]'hy = y at e0 e1 HMORE HNE
        obtain ⟨b, hb⟩ : ∃ b, decide (x = y) = b := ⟨_, rfl⟩
        have heq := eq34_b hb
        have HBE := Lib.hid hb
        clear k0 k1 l0 l1 hx hy q2 r2 hg hg2 hb
        cases b
        · go_wp2_with fail
          go_quiet (fail)
          go_wp2
          go_ret
          exact ⟨ret_bool (decide_eq_false (HNE.out (of_decide_eq_false HBE.out))).symm, below_drewN HB.out _⟩
        · go_wp2_with fail
          go_quiet (fail)
          go_wp2
          go_roundw
          case rel => exact ⟨i + 1, by go_num, by omega, Lib.hid (HMORE.out (of_decide_eq_true HBE.out)), Lib.hid (below_drewN HB.out _)⟩
          case measure => simp [intOf]; omega
      · obtain rfl : i = n := by omega
        go_wp2
        go_ret
        exact ⟨ret_bool (decide_eq_true (take_eq_all HN.out HM.out HT.out)).symm, HB.out⟩
  · have HF : Hid (decide (hs = hs2) = false) := by
      unfold Hid
      rw [decide_eq_false_iff_not]
      intro e
      rw [e, HM.out] at HN
      exact hnm HN.out.symm
    go_enter Try.func46, Try.ntmps46
    go_wp2
    go_ret
    exact ⟨ret_bool HF.out.symm, Below.refl _ _⟩

set_option maxRecDepth 100000 in
set_option maxHeartbeats 2000000 in
theorem hEqual_any {w : World} {lo lo2 : Nat} {v v2 : Value} {hs hs2 : List (ByteArray × ByteArray)} (h : Hdr w lo v hs) (h2 : Hdr w lo2 v2 hs2) (hn : hs.length ≤ 1000000) :
    Calls Try.prog 53 #[v, v2] w fun o w' => o = .returned (.bool (decide (hs = hs2))) ∧ Below w.heap.size w w' := by
  have HA := Lib.hid h
  have HC := Lib.hid h2
  obtain ⟨A, c, rfl⟩ := h.slice
  obtain ⟨A2, c2, rfl⟩ := h2.slice
  obtain ⟨n, hN⟩ : ∃ n, hs.length = n := ⟨_, rfl⟩
  obtain ⟨m, hM⟩ : ∃ m, hs2.length = m := ⟨_, rfl⟩
  have HN := Lib.hid hN
  have HM := Lib.hid hM
  rw [hN] at hn HA ⊢
  rw [hM] at HC ⊢
  clear h h2 hN hM
  by_cases hnm : n = m
  · subst hnm
    go_enter Try.func53, Try.ntmps53
    go_wp2
    go_loopw [13] (fun iv wr => ∃ i : Nat, iv = .int .i64 i ∧ i ≤ n ∧ Hid (hs.take i = hs2.take i) ∧ Hid (Below w.heap.size w wr)) (fun iv _ => n - (intOf iv).toNat)
    case atStart => exact ⟨0, rfl, Nat.zero_le _, Lib.hid rfl, Lib.hid (Below.refl _ _)⟩
    case round =>
      obtain ⟨i, rfl, hi, HT, HB⟩ := hrel
      by_cases hin : i < n
      · have hx : i < hs.length := by rw [HN.out]; exact hin
        have hy : i < hs2.length := by rw [HM.out]; exact hin
        obtain ⟨g, off, cap, hv, _, _, _, hg, k0, k1⟩ := Hdr.get HA.out hx
        obtain ⟨g2, off2, cap2, hv2, _, _, _, hg2, l0, l1⟩ := Hdr.get HC.out hy
        injection hv with q1 q2 q3
        injection hv2 with r1 r2 r3
        subst q1 q3 r1 r3
        have d0 := (HB.out.cell (p := ⟨g, off + i * 2, none⟩) hg).trans k0
        have d1 := (HB.out.cell (p := ⟨g, off + i * 2 + 1, none⟩) hg).trans k1
        have e0 := (HB.out.cell (p := ⟨g2, off2 + i * 2, none⟩) hg2).trans l0
        have e1 := (HB.out.cell (p := ⟨g2, off2 + i * 2 + 1, none⟩) hg2).trans l1
        have HMORE := Lib.hid fun he => take_eq_more HT.out hx hy he
        have HNE := Lib.hid fun he => ne_at hx hy he
        generalize hs[i]'hx = x at d0 d1 HMORE HNE
        generalize hs2[i]'hy = y at e0 e1 HMORE HNE
        obtain ⟨b, hb⟩ : ∃ b, decide (x = y) = b := ⟨_, rfl⟩
        have heq := eq34_b hb
        have HBE := Lib.hid hb
        clear k0 k1 l0 l1 hx hy q2 r2 hg hg2 hb
        cases b
        · go_wp2_with fail
          go_quiet (fail)
          go_wp2
          go_ret
          exact ⟨ret_bool (decide_eq_false (HNE.out (of_decide_eq_false HBE.out))).symm, below_drewN HB.out _⟩
        · go_wp2_with fail
          go_quiet (fail)
          go_wp2
          go_roundw
          case rel => exact ⟨i + 1, by go_num, by omega, Lib.hid (HMORE.out (of_decide_eq_true HBE.out)), Lib.hid (below_drewN HB.out _)⟩
          case measure => simp [intOf]; omega
      · obtain rfl : i = n := by omega
        go_wp2
        go_ret
        exact ⟨ret_bool (decide_eq_true (take_eq_all HN.out HM.out HT.out)).symm, HB.out⟩
  · have HF : Hid (decide (hs = hs2) = false) := by
      unfold Hid
      rw [decide_eq_false_iff_not]
      intro e
      rw [e, HM.out] at HN
      exact hnm HN.out.symm
    go_enter Try.func53, Try.ntmps53
    go_wp2
    go_ret
    exact ⟨ret_bool HF.out.symm, Below.refl _ _⟩
end Go.Proofs.Ytlalbfpdelfnfaa
