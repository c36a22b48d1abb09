/-
  Layer 43 (mix): a script glued, by the program. No condition but that what comes in lies in memory, and there are not too many bytes.
-/
import Derived.Test.YtlalbfpdelfnfaaGlueAid
import Derived.Test.YtlalbfpdelfnfaaThose
namespace Go.Proofs.Ytlalbfpdelfnfaa
open Go.RowKit
set_option linter.unusedVariables false

set_option maxRecDepth 100000 in
set_option maxHeartbeats 4000000 in
theorem glue_any {w : World} {lo n : Nat} {v : Value} {es : List Ev} (h : Evs w lo v n es) (hn : n ≤ 1000) (hb : ∀ e ∈ es, e.body.size ≤ 100000) (hf : ∀ e ∈ es, e.hs.length ≤ 1000000) :
    Calls Try.prog 8 #[v] w (Made_ w w.heap.size (glueL es)) := by
  have HH := Lib.hid (h.base (Nat.zero_le _))
  have HN := Lib.hid h.len
  have HBD := Lib.hid hb
  have HFW := Lib.hid hf
  obtain ⟨A0, c0, rfl⟩ := h.slice
  clear h hb hf
  go_enter Try.func8, Try.ntmps8
  go_wp2
  go_loopw [3, 9] (fun o iv wr => ∃ (i j c : Nat) (A : Option Addr), o = .slice A j c ∧ iv = .int .i64 i ∧ i ≤ n ∧ j ≤ i ∧ Hid (Outs wr w.heap.size w.heap.size (.slice A j c) j (glueL (es.take i))) ∧ Hid (Below w.heap.size w wr)) (fun _ iv _ => n - (intOf iv).toNat)
  case atStart => exact ⟨0, 0, 0, none, rfl, rfl, Nat.zero_le _, Nat.le_refl _, Lib.hid (Outs.nil_ w _ _), Lib.hid (Below.refl _ _)⟩
  case round =>
    obtain ⟨i, j, c, A, rfl, rfl, hi, hj, HO, HB⟩ := hrel
    by_cases hl : i < n
    · obtain ⟨g, off, A1, c1, hix, rfl, he, hh, ha⟩ := evs_at HH.out HB.out hl
      have hmore := glueL_more hix
      have hsz := glueL_size HBD.out i
      have hbe := HBD.out _ (List.getElem_mem hix)
      have HFE := Lib.hid (HFW.out _ (List.getElem_mem hix))
      have HHD := Lib.hid hh
      have HJ : Hid (j + 1 ≤ 1000000000) := by unfold Hid; omega
      obtain ⟨os, hos⟩ : ∃ os, glueL (es.take i) = os := ⟨_, rfl⟩
      rw [hos] at hmore hsz HO
      generalize es[i]'hix = e at he hmore hbe HHD HFE
      have HT := Lib.hid hmore
      have HZ := Lib.hid (EvRow.zero wr)
      obtain ⟨d0, d1, d2, d3, d4, d5, d6, d7, d8⟩ := he
      obtain ⟨n1, hn1⟩ : ∃ n1, e.hs.length = n1 := ⟨_, rfl⟩
      rw [hn1] at d7 HHD
      clear hix hh ha hn1 hos hmore
      cases j with
      | zero =>
        have h0 : os = [] := List.eq_nil_of_length_eq_zero HO.out.len
        have HS : Hid (glueStep os e = os ++ [e]) := by unfold Hid; rw [h0]; rfl
        clear h0 hsz
        go_wp2_with (first | (refine wpList_store_ev rfl (.tmp 5) (.tmp 12) rfl _ _ _ HZ.out e _ rfl rfl rfl ?_; intro w2 hF hB hO; have HR := Lib.hid hF; have HB2 := Lib.hid (hB wr.heap.size wr ((Below.refl _ _).alloc (Nat.le_refl _) _) (Nat.le_refl _)); have HO2 := Lib.hid (HO.out.below HB2.out); clear d0 d1 d2 d3 d4 d5 d6 d7 d8; obtain ⟨x0, x1, x2, x3, x4, x5, x6, x7, x8⟩ := hF.cells; clear hF hB hO))
        go_quiet (fail)
        have HB3 : Hid (Below wr.heap.size wr (w2.drewN nq)) := below_drewN HB2.out nq
        go_wp2_with (first
          | (go_at_call 26; refine (own_any (hds_more HHD.out HB3.out) HFE.out).mono ?_; rintro o w4 ⟨hv', rfl, hh, hb4⟩; obtain ⟨A2, c2, rfl⟩ := hh.slice; have HB4 := Lib.hid (HB3.out.trans (hb4.mono HB3.out.size)); have HW4 := Lib.hid (Nat.le_trans HB.out.size HB4.out.size); have HP := Lib.hid (Pushing.mk' (HO.out.below HB4.out) (hh.base (Nat.le_trans HB.out.size HB3.out.size)).hds (hh.apart _) HW4.out HJ.out); clear hh hb4 x0 x1 x2 x3 x4 x5 x6 x7 x8)
          | (at_builtin; refine wpList_push rfl (.tmp 51) (.tmp 54) rfl HP.out rfl rfl ?_; intro A' c' w5 ho hb; have HO5 := Lib.hid ho; have HB5 := Lib.hid hb; clear ho hb))
        go_roundw
        case rel =>
          refine ⟨i + 1, 0 + 1, c', A', rfl, by go_num, by omega, by omega, ?_, Lib.hid ((HB.out.trans (HB4.out.mono HB.out.size)).trans HB5.out)⟩
          unfold Hid
          rw [HT.out, HS.out]
          exact HO5.out
        case measure => simp [intOf]; omega
      | succ j =>
        have hlen := HO.out.len
        go_wp2_with (first | (refine wpList_store_ev rfl (.tmp 5) (.tmp 12) rfl _ _ _ HZ.out e _ rfl rfl rfl ?_; intro w2 hF hB hO; have HR := Lib.hid hF; have HB2 := Lib.hid (hB wr.heap.size wr ((Below.refl _ _).alloc (Nat.le_refl _) _) (Nat.le_refl _)); have HO2 := Lib.hid (HO.out.below HB2.out); clear d0 d1 d2 d3 d4 d5 d6 d7 d8; obtain ⟨x0, x1, x2, x3, x4, x5, x6, x7, x8⟩ := hF.cells; clear hF hB hO))
        obtain ⟨g2, off2, hv2, hjx, rfl, hf, hfz, hc1, hc2, hB⟩ := Outs.last HO2.out (Nat.lt_succ_self j)
        have hstep := glueStep_last hlen e
        have hset := fun z => Outs.setBody HO2.out hjx z
        have hfs := hsz _ (List.getElem_mem hjx)
        generalize os[j]'hjx = f at hf hstep hset hfs
        have HST := Lib.hid hstep
        have HSET := Lib.hid hset
        obtain ⟨y0, y1, y2, y3, y4, y5, y6, y7, y8⟩ := hf
        have hbs : f.body.size + e.body.size ≤ 1000000000 := by
          have : i * 100000 ≤ 1000 * 100000 := Nat.mul_le_mul_right _ (by omega)
          omega
        have HFIT : ∀ b1 b2 b3 : Bool, (e.k == 3) = b1 → (f.k == 3) = b2 → (f.id == e.id) = b3 → Hid (fits f e = (b1 && b2 && b3)) := by
          rintro _ _ _ rfl rfl rfl
          rfl
        have HBB : Hid (w.heap.size ≤ g2) := hB
        unfold maxLen at hc2
        clear hjx hstep hset hfs hsz hlen hbe hB
        obtain ⟨b1, hb1⟩ : ∃ b, (e.k == 3) = b := ⟨_, rfl⟩
        obtain ⟨b2, hb2⟩ : ∃ b, (f.k == 3) = b := ⟨_, rfl⟩
        obtain ⟨b3, hb3⟩ : ∃ b, (f.id == e.id) = b := ⟨_, rfl⟩
        have HF := Lib.hid (HFIT _ _ _ hb1 hb2 hb3).out
        clear HFIT
        have HA : (b1 && b2 && b3) = false → Hid (glueStep os e = os ++ [e]) := fun hb => by
          unfold Hid
          rw [HST.out, if_neg (by rw [HF.out, hb]; decide)]
        have HAA := Lib.hid HA
        clear HA
        cases b1
        · have HS := HAA.out rfl
          go_quiet (fail)
          have HB3 : Hid (Below wr.heap.size wr (w2.drewN nq)) := below_drewN HB2.out nq
          go_wp2_with (first
            | (go_at_call 26; refine (own_any (hds_more HHD.out HB3.out) HFE.out).mono ?_; rintro o w4 ⟨hv', rfl, hh, hb4⟩; obtain ⟨A2, c2, rfl⟩ := hh.slice; have HB4 := Lib.hid (HB3.out.trans (hb4.mono HB3.out.size)); have HW4 := Lib.hid (Nat.le_trans HB.out.size HB4.out.size); have HP := Lib.hid (Pushing.mk' (HO.out.below HB4.out) (hh.base (Nat.le_trans HB.out.size HB3.out.size)).hds (hh.apart _) HW4.out HJ.out); clear hh hb4 x0 x1 x2 x3 x4 x5 x6 x7 x8)
            | (at_builtin; refine wpList_push rfl (.tmp 51) (.tmp 54) rfl HP.out rfl rfl ?_; intro A' c' w5 ho hb; have HO5 := Lib.hid ho; have HB5 := Lib.hid hb; clear ho hb))
          go_roundw
          case rel =>
            refine ⟨i + 1, j + 1 + 1, c', A', rfl, by go_num, by omega, by omega, ?_, Lib.hid ((HB.out.trans (HB4.out.mono HB.out.size)).trans HB5.out)⟩
            unfold Hid
            rw [HT.out, HS.out]
            exact HO5.out
          case measure => simp [intOf]; omega
        · cases b2
          · have HS := HAA.out (by simp)
            go_quiet (fail)
            have HB3 : Hid (Below wr.heap.size wr (w2.drewN nq)) := below_drewN HB2.out nq
            go_wp2_with (first
              | (go_at_call 26; refine (own_any (hds_more HHD.out HB3.out) HFE.out).mono ?_; rintro o w4 ⟨hv', rfl, hh, hb4⟩; obtain ⟨A2, c2, rfl⟩ := hh.slice; have HB4 := Lib.hid (HB3.out.trans (hb4.mono HB3.out.size)); have HW4 := Lib.hid (Nat.le_trans HB.out.size HB4.out.size); have HP := Lib.hid (Pushing.mk' (HO.out.below HB4.out) (hh.base (Nat.le_trans HB.out.size HB3.out.size)).hds (hh.apart _) HW4.out HJ.out); clear hh hb4 x0 x1 x2 x3 x4 x5 x6 x7 x8)
              | (at_builtin; refine wpList_push rfl (.tmp 51) (.tmp 54) rfl HP.out rfl rfl ?_; intro A' c' w5 ho hb; have HO5 := Lib.hid ho; have HB5 := Lib.hid hb; clear ho hb))
            go_roundw
            case rel =>
              refine ⟨i + 1, j + 1 + 1, c', A', rfl, by go_num, by omega, by omega, ?_, Lib.hid ((HB.out.trans (HB4.out.mono HB.out.size)).trans HB5.out)⟩
              unfold Hid
              rw [HT.out, HS.out]
              exact HO5.out
            case measure => simp [intOf]; omega
          · cases b3
            · have HS := HAA.out (by simp)
              go_quiet (fail)
              have HB3 : Hid (Below wr.heap.size wr (w2.drewN nq)) := below_drewN HB2.out nq
              go_wp2_with (first
                | (go_at_call 26; refine (own_any (hds_more HHD.out HB3.out) HFE.out).mono ?_; rintro o w4 ⟨hv', rfl, hh, hb4⟩; obtain ⟨A2, c2, rfl⟩ := hh.slice; have HB4 := Lib.hid (HB3.out.trans (hb4.mono HB3.out.size)); have HW4 := Lib.hid (Nat.le_trans HB.out.size HB4.out.size); have HP := Lib.hid (Pushing.mk' (HO.out.below HB4.out) (hh.base (Nat.le_trans HB.out.size HB3.out.size)).hds (hh.apart _) HW4.out HJ.out); clear hh hb4 x0 x1 x2 x3 x4 x5 x6 x7 x8)
                | (at_builtin; refine wpList_push rfl (.tmp 51) (.tmp 54) rfl HP.out rfl rfl ?_; intro A' c' w5 ho hb; have HO5 := Lib.hid ho; have HB5 := Lib.hid hb; clear ho hb))
              go_roundw
              case rel =>
                refine ⟨i + 1, j + 1 + 1, c', A', rfl, by go_num, by omega, by omega, ?_, Lib.hid ((HB.out.trans (HB4.out.mono HB.out.size)).trans HB5.out)⟩
                unfold Hid
                rw [HT.out, HS.out]
                exact HO5.out
              case measure => simp [intOf]; omega
            · have HS : Hid (glueStep os e = os.set j { f with body := f.body ++ e.body }) := by
                unfold Hid
                rw [HST.out, if_pos (by rw [HF.out]; rfl)]
              go_quiet (fail)
              go_wp2_with fail
              go_region
              all_goals go_wp2_with fail
              all_goals go_roundw
              case rel =>
                refine ⟨i + 1, j + 1, c, some ⟨g2, off2, none⟩, rfl, by go_num, by omega, by omega, ?_, ?_⟩
                · unfold Hid
                  rw [HT.out, HS.out]
                  exact (HSET.out _).below (below_drewN (Below.refl _ _) (nq + 1))
                · exact Lib.hid (below_drewN ((below_then HB.out (Nat.le_refl _) HB2.out).setCell (p := ⟨g2, off2 + j * 9 + 8, none⟩) HBB.out _) (nq + 1))
              case measure => simp [intOf]; omega
    · obtain rfl : i = n := by omega
      have HE : Hid (glueL (es.take i) = glueL es) := by unfold Hid; rw [List.take_of_length_le (by rw [HN.out]; exact Nat.le_refl _)]
      rw [HE.out] at HO
      go_wp2
      go_ret
      exact Made_.mk' HO.out (Nat.le_refl _) HB.out
end Go.Proofs.Ytlalbfpdelfnfaa
