/-
  Layer 41: what was told in all, by the document. No condition but that the list is no longer than thirty, and the texts are not long.
-/
import Derived.Test.YtkihgbglodfkmaaGreatSumsP
import Derived.Test.YtkihgbglodfkmaaGreatRAdd
namespace Go.Proofs.YtkihgbglodfkmaaGreat
open Go.RowKit Go.Maps Go.Sort
set_option linter.unusedVariables false

theorem whyL_skip {ws : List Bs} {T : List Ou} {e : Ou} (h : whyB e = false) : whyL ws (T ++ [e]) = whyL ws T := by
  unfold whyL
  refine List.map_congr_left fun b _ => ?_
  rw [ctW_snoc, if_neg (by rw [h]; rintro ⟨h, _⟩; cases h)]
  rfl
theorem rW_skip {T : List Ou} {e : Ou} (h : whyB e = false) : rW (T ++ [e]) = rW T := by
  rw [rW_snoc, if_neg (by rw [h]; decide), List.append_nil]

set_option maxRecDepth 100000 in
set_option maxHeartbeats 8000000 in
theorem rSums_any {w : World} {lo n : Nat} {v : Value} {es : List Ou} (h : Os w lo v n es) (hn : n ≤ 30) (hbs : ∀ e ∈ es, e.body.size ≤ 40) :
    Calls Tryz.prog 8 #[v] w fun o w' => ∃ A c ws, o = .returned (.agg (sumc (kcO es 0) (kcO es 1) (kcO es 2) (kcO es 3) (kcO es 4) (kcO es 5) (kcO es 6) (byO es) (.slice A (List.length ws) c))) ∧ Rk w' w.heap.size 61 2 (.slice A ws.length c) ws.length ((whyL ws es).flatMap ctc) ∧ ws.length ≤ n ∧ UpS ws (rW es) ∧ Below w.heap.size w w' := by
  have HH := Lib.hid (h.base (Nat.zero_le _))
  have HN := Lib.hid h.1
  have HBS := Lib.hid hbs
  obtain ⟨A0, c0, rfl⟩ := h.slice
  have hz1 : SmRow ((w.alloc (.cells #[.int .i64 0, .int .i64 0, .int .i64 0, .int .i64 0, .int .i64 0, .int .i64 0, .int .i64 0, .int .i64 0, .slice none 0 0] 30)).alloc (.cells #[.int .i64 0, .int .i64 0, .int .i64 0, .int .i64 0, .int .i64 0, .int .i64 0, .int .i64 0, .int .i64 0, .slice none 0 0] 30)) (w.heap.size + 1) [] 0 (.slice none 0 0) := by
    have := SmRow.zero (w.alloc (.cells #[.int .i64 0, .int .i64 0, .int .i64 0, .int .i64 0, .int .i64 0, .int .i64 0, .int .i64 0, .int .i64 0, .slice none 0 0] 30))
    rwa [World.size_alloc] at this
  have hz0 : SmRow ((w.alloc (.cells #[.int .i64 0, .int .i64 0, .int .i64 0, .int .i64 0, .int .i64 0, .int .i64 0, .int .i64 0, .int .i64 0, .slice none 0 0] 30)).alloc (.cells #[.int .i64 0, .int .i64 0, .int .i64 0, .int .i64 0, .int .i64 0, .int .i64 0, .int .i64 0, .int .i64 0, .slice none 0 0] 30)) w.heap.size [] 0 (.slice none 0 0) := (Below.heap_alloc _ _ _ (by simp)).trans (SmRow.zero w)
  have hb0 : Below w.heap.size w ((w.alloc (.cells #[.int .i64 0, .int .i64 0, .int .i64 0, .int .i64 0, .int .i64 0, .int .i64 0, .int .i64 0, .int .i64 0, .slice none 0 0] 30)).alloc (.cells #[.int .i64 0, .int .i64 0, .int .i64 0, .int .i64 0, .int .i64 0, .int .i64 0, .int .i64 0, .int .i64 0, .slice none 0 0] 30)) := ((Below.refl _ _).alloc (Nat.le_refl _) _).alloc (by simp) _
  have HZ1 := Lib.hid hz1
  have HZ0 := Lib.hid hz0
  have HB0 := Lib.hid hb0
  clear h hbs hz1 hz0 hb0
  go_enter Tryz.func8, Tryz.ntmps8
  go_wp2_with (refine wpList_store_sm rfl (.tmp 3) (.tmp 7) rfl _ _ _ _ HZ1.out [] 0 (.slice none 0 0) rfl rfl rfl ?_; intro wi hF hB hO; have HFI := Lib.hid hF; have HBI := Lib.hid (hB w.heap.size w HB0.out (Nat.le_succ _)); have HZI : Hid (SmRow wi w.heap.size [] 0 (.slice none 0 0)) := Lib.hid ((hO.2 _ (by omega)).trans HZ0.out); clear hF hB hO)
  clear HZ1 HZ0 HB0
  go_loopw [4] (fun iv wr => ∃ (i k c : Nat) (A : Option Addr) (ws : List Bs), iv = .int .i64 i ∧ i ≤ n ∧ k ≤ i ∧ Hid (ws.length = k) ∧ Hid (UpS ws (rW (es.take i))) ∧ Hid (SmRow wr (w.heap.size + 1) (es.take i) (byO (es.take i)) (.slice A k c)) ∧ Hid (Rk wr w.heap.size 61 2 (.slice A k c) k ((whyL ws (es.take i)).flatMap ctc)) ∧ Hid (SmRow wr w.heap.size [] 0 (.slice none 0 0)) ∧ Hid (Below w.heap.size w wr)) (fun iv _ => n - (intOf iv).toNat)
  case atStart => exact ⟨0, 0, 0, none, [], rfl, Nat.zero_le _, Nat.le_refl _, Lib.hid rfl, Lib.hid ⟨List.Pairwise.nil, fun x => by simp [rW]⟩, HFI, Lib.hid (Rk.nil_ _ _ _ _), HZI, HBI⟩
  case round =>
    clear HFI HZI HBI
    obtain ⟨i, k, c, A, ws, rfl, hi, hk, HWL, HUP, HSM, HC, HZR, HB⟩ := hrel
    by_cases hl : i < n
    · obtain ⟨g, off, hix, rfl, hc1, hc2, hg, he0⟩ := HH.out.get hl
      have he := OuAt.below he0 (HB.out.mono (Nat.le_refl _))
      clear he0
      unfold maxLen at hc2
      have HT : Hid (es.take (i + 1) = es.take i ++ [es[i]]) := List.take_succ_eq_append_getElem hix
      have HLT : Hid (i ≤ 30 ∧ (es.take i).length ≤ 30) := by unfold Hid; rw [List.length_take]; omega
      have hbe := HBS.out _ (List.getElem_mem hix)
      have hby := byO_le (es.take i) (fun e he => HBS.out e (List.mem_of_mem_take he))
      generalize es[i]'hix = e at he HT hbe
      generalize hTT : es.take i = T at *
      clear hTT
      have hby2 : byO T ≤ 1200 := by have := HLT.out; omega
      have HZ := Lib.hid (OuRow.zero wr)
      obtain ⟨d0, d1, d2, d3, d4, d5⟩ := he
      obtain ⟨L, hL⟩ : ∃ L, e.body.size = L := ⟨_, rfl⟩
      have HLL := Lib.hid hL
      obtain ⟨b, hb⟩ : ∃ b, byO T = b := ⟨_, rfl⟩
      have HBY := Lib.hid hb
      rw [hb] at HSM hby2
      obtain ⟨g1, hg1⟩ : ∃ g1, w.heap.size + 1 = g1 := ⟨_, rfl⟩
      rw [hg1] at HSM
      have HGE : Hid (w.heap.size < g1 ∧ g1 < wr.heap.size) := by unfold Hid; have := blk_lt HSM.out; omega
      have hne1 : ¬ g1 = wr.heap.size := by have := HGE.out; omega
      have hne2 : ¬ wr.heap.size = g1 := by have := HGE.out; omega
      obtain ⟨kn, hkn⟩ : ∃ kn, kdO e = kn := ⟨_, rfl⟩
      have hk7 : kn < 7 := by rw [← hkn]; exact kdO_lt e
      have hkc := kcO_le T kn
      have HKN := Lib.hid hkn
      have HCK : Hid (kcO T kn ≤ 30) := by unfold Hid; have := HLT.out; omega
      clear hix hg hby hkc hb
      by_cases hin : 0 ≤ e.k ∧ e.k ≤ 6
      · have hek : e.k = (kn : Int) := by rw [← hkn]; unfold kdO; rw [if_pos hin]; omega
        have HEK := Lib.hid hek
        have i1 : ¬ (kn : Int) < 0 := by omega
        have i2 : ¬ (kn : Int) > 6 := by omega
        have i5 : ¬ (6 : Int) < (kn : Int) := by omega
        have i3 : (0 : Int) ≤ (kn : Int) := by omega
        have i4 : (kn : Int) < 7 := by omega
        by_cases h2 : e.k = 2
        · have HK2 := Lib.hid h2
          have hk2 : ((kn : Int) == 2) = true := by simp; omega
          have hk3 : ¬ (kn : Int) > 3 := by omega
          have hk4 : ¬ (3 : Int) < (kn : Int) := by omega
          have HWB : Hid (whyB e = false) := by unfold Hid whyB; simp; omega
          have hby3 : b + L ≤ 1240 := by omega
          clear h2 hin hkn hek
          go_upto_region 10 with (first | (refine wpList_store_ou rfl (.tmp 5) (.tmp 17) rfl _ _ HZ.out e rfl rfl ?_; intro w2 hF hB hO; have HBW := Lib.hid (hB wr.heap.size wr ((Below.refl _ _).alloc (Nat.le_refl _) _) (Nat.le_refl _)); have HOR := Lib.hid hF; clear d0 d1 d2 d3 d4 d5; obtain ⟨x0, x1, x2, x3, x4, x5⟩ := hF.cells; rw [HEK.out] at x0; have HS2 := Lib.hid (SmRow.below HSM.out HBW.out); have hck := HS2.out.kind hk7; have hfr := HS2.out.frozen kn; have HM := Lib.hid (HS2.out.more HKN.out); have hc30 := HCK.out; generalize kcO T kn = cc at hck HM hc30; clear hF hB hO))
          obtain ⟨W1, hW1⟩ : ∃ W1, w2.setCell ⟨g1, kn, none⟩ (.int .i64 ((cc : Int) + 1)) = W1 := ⟨_, rfl⟩
          rw [hW1] at HM ⊢
          have HO1 : Hid (OuRow W1 wr.heap.size e) := by unfold Hid; rw [← hW1]; exact HOR.out.keep (Below.heap_setCell _ _ _ _ hne2)
          have HB1 : Hid (Below w.heap.size w W1) := by unfold Hid; rw [← hW1]; exact (below_then HB.out (Nat.le_refl _) HBW.out).setCell (p := ⟨g1, kn, none⟩) (Nat.le_of_lt HGE.out.1) _
          have HC1 : Hid (Rk W1 w.heap.size 61 2 (.slice A k c) k ((whyL ws T).flatMap ctc)) := by unfold Hid; rw [← hW1]; exact (HC.out.below HBW.out (Nat.le_refl _)).setCell (rk_ne (HC.out.below HBW.out (Nat.le_refl _)) HS2.out (by decide)) _
          have HZ1 : Hid (SmRow W1 w.heap.size [] 0 (.slice none 0 0)) := by unfold Hid; rw [← hW1]; exact (Below.heap_setCell _ _ _ _ (by have := HGE.out; simp <;> omega)).trans ((HBW.out.block _ (blk_lt HZR.out)).trans HZR.out)
          clear hW1 hck hfr hc30 HS2 HOR HBW x0 x1 x2 x3 x4 x5
          obtain ⟨x0, x1, x2, x3, x4, x5⟩ := HO1.out.cells
          have hy7 := HM.out.bytes
          have f7 := HM.out.frozen 7
          have hy8 := HM.out.why
          go_upto_region 12 with fail
          obtain ⟨W2, hW2⟩ : ∃ W2, W1.setCell ⟨g1, 7, none⟩ (.int .i64 ((b : Int) + (L : Int))) = W2 := ⟨_, rfl⟩
          rw [hW2]
          have HM2 : Hid (SmRow W2 g1 (T ++ [e]) (byO (T ++ [e])) (.slice A k c)) := by unfold Hid; rw [← hW2, byO_snoc, if_pos HK2.out, HBY.out, HLL.out]; exact HM.out.setB (b + L)
          have HB2 : Hid (Below w.heap.size w W2) := by unfold Hid; rw [← hW2]; exact HB1.out.setCell (p := ⟨g1, 7, none⟩) (Nat.le_of_lt HGE.out.1) _
          have HC2 : Hid (Rk W2 w.heap.size 61 2 (.slice A k c) k ((whyL ws T).flatMap ctc)) := by unfold Hid; rw [← hW2]; exact HC1.out.setCell (rk_ne HC1.out HM.out (by decide)) _
          have HZ2 : Hid (SmRow W2 w.heap.size [] 0 (.slice none 0 0)) := by unfold Hid; rw [← hW2]; exact (Below.heap_setCell _ _ _ _ (by have := HGE.out; simp <;> omega)).trans HZ1.out
          clear hW2 x0 x1 x2 x3 x4 x5 hy7 hy8 f7
          go_wp2_with fail
          subst hg1
          go_roundw
          case rel =>
            have r1 : Hid (UpS ws (rW (es.take (i + 1)))) := by unfold Hid; rw [HT.out, rW_skip HWB.out]; exact HUP.out
            have r2 : Hid (SmRow W2 (w.heap.size + 1) (es.take (i + 1)) (byO (es.take (i + 1))) (.slice A k c)) := by unfold Hid; rw [HT.out]; exact HM2.out
            have r3 : Hid (Rk W2 w.heap.size 61 2 (.slice A k c) k ((whyL ws (es.take (i + 1))).flatMap ctc)) := by unfold Hid; rw [HT.out, whyL_skip HWB.out]; exact HC2.out
            have r0 : k ≤ i + 1 := by omega
            have rn : i + 1 ≤ n := by omega
            first | exact ⟨i + 1, k, c, A, ws, by go_num, rn, r0, HWL, r1, r2, r3, HZ2, HB2⟩ | exact ⟨i + 1, by go_num, rn, k, r0, c, A, ws, HWL, r1, r2, r3, HZ2, HB2⟩ | exact ⟨i + 1, by go_num, rn, k, c, A, ws, r0, HWL, r1, r2, r3, HZ2, HB2⟩ | exact ⟨i + 1, by go_num, rn, k, r0, c, A, ws, HWL, r1, r2, r3⟩ | exact ⟨i + 1, k, c, A, ws, by go_num, rn, r0, HWL, r1, r2, r3⟩
          case measure => simp [intOf]; omega
        · have HK2 := Lib.hid h2
          have hk2 : ((kn : Int) == 2) = false := by simp; omega
          by_cases h3 : 4 ≤ e.k
          · have HWB : Hid (whyB e = true) := by unfold Hid whyB; simp; omega
            have hk3 : (kn : Int) > 3 := by omega
            have hk4 : (3 : Int) < (kn : Int) := by omega
            clear h2 hin hkn h3 hek
            go_upto_region 10 with (first | (refine wpList_store_ou rfl (.tmp 5) (.tmp 17) rfl _ _ HZ.out e rfl rfl ?_; intro w2 hF hB hO; have HBW := Lib.hid (hB wr.heap.size wr ((Below.refl _ _).alloc (Nat.le_refl _) _) (Nat.le_refl _)); have HOR := Lib.hid hF; clear d0 d1 d2 d3 d4 d5; obtain ⟨x0, x1, x2, x3, x4, x5⟩ := hF.cells; rw [HEK.out] at x0; have HS2 := Lib.hid (SmRow.below HSM.out HBW.out); have hck := HS2.out.kind hk7; have hfr := HS2.out.frozen kn; have HM := Lib.hid (HS2.out.more HKN.out); have hc30 := HCK.out; generalize kcO T kn = cc at hck HM hc30; clear hF hB hO))
            obtain ⟨W1, hW1⟩ : ∃ W1, w2.setCell ⟨g1, kn, none⟩ (.int .i64 ((cc : Int) + 1)) = W1 := ⟨_, rfl⟩
            rw [hW1] at HM ⊢
            have HO1 : Hid (OuRow W1 wr.heap.size e) := by unfold Hid; rw [← hW1]; exact HOR.out.keep (Below.heap_setCell _ _ _ _ hne2)
            have HB1 : Hid (Below w.heap.size w W1) := by unfold Hid; rw [← hW1]; exact (below_then HB.out (Nat.le_refl _) HBW.out).setCell (p := ⟨g1, kn, none⟩) (Nat.le_of_lt HGE.out.1) _
            have HC1 : Hid (Rk W1 w.heap.size 61 2 (.slice A k c) k ((whyL ws T).flatMap ctc)) := by unfold Hid; rw [← hW1]; exact (HC.out.below HBW.out (Nat.le_refl _)).setCell (rk_ne (HC.out.below HBW.out (Nat.le_refl _)) HS2.out (by decide)) _
            have HZ1 : Hid (SmRow W1 w.heap.size [] 0 (.slice none 0 0)) := by unfold Hid; rw [← hW1]; exact (Below.heap_setCell _ _ _ _ (by have := HGE.out; simp <;> omega)).trans ((HBW.out.block _ (blk_lt HZR.out)).trans HZR.out)
            clear hW1 hck hfr hc30 HS2 HOR HBW x0 x1 x2 x3 x4 x5
            obtain ⟨x0, x1, x2, x3, x4, x5⟩ := HO1.out.cells
            have hy7 := HM.out.bytes
            have f7 := HM.out.frozen 7
            have hy8 := HM.out.why
            go_upto_region 12 with fail
            have HM2 : Hid (SmRow W1 g1 (T ++ [e]) (byO (T ++ [e])) (.slice A k c)) := by unfold Hid; rw [byO_snoc, if_neg HK2.out, HBY.out]; exact HM.out
            have HB2 := HB1; have HC2 := HC1; have HZ2 := HZ1
            have HAD := Lib.hid (add_any (e := e) HC2.out HWL.out (by omega) HUP.out HWB.out (by have := HLT.out; omega))
            go_wp2_with (go_at_call 29; refine HAD.out.mono ?_; rintro o w5 ⟨A5, c5, ws5, rfl, hr5, hl5, hu5, hb5⟩; obtain ⟨m5, hm5⟩ : ∃ m, ws5.length = m := ⟨_, rfl⟩; rw [hm5] at hr5 hl5; rw [hm5]; have HM5 := Lib.hid hm5; have HR5 := Lib.hid hr5; have HU5 := Lib.hid hu5; have HB5 := Lib.hid hb5; have HS5 := Lib.hid (SmRow.below HM2.out hb5); have z8 := HS5.out.why; have f8 := HS5.out.frozen 8; clear hr5 hu5 hb5 hm5)
            subst hg1
            go_roundw
            case rel =>
              have hsz := HB2.out.size
              refine ⟨i + 1, m5, c5, A5, ws5, by go_num, by omega, by omega, HM5, ?_, ?_, ?_, ?_, Lib.hid ((below_then HB2.out (Nat.le_refl _) HB5.out).setCell (p := ⟨w.heap.size + 1, 8, none⟩) (Nat.le_succ _) _)⟩
              · unfold Hid; rw [HT.out]; exact HU5.out
              · unfold Hid; rw [HT.out]; exact HS5.out.setV _
              · unfold Hid; rw [HT.out]; exact (HR5.out.base hsz).setCell (rk_ne HR5.out HS5.out (by decide)) _
              · unfold Hid; exact (Below.heap_setCell _ _ _ _ (by simp)).trans (SmRow.below HZ2.out HB5.out)
            case measure => simp [intOf]; omega
          · have HWB : Hid (whyB e = false) := by unfold Hid whyB; simp; omega
            have hk3 : ¬ (kn : Int) > 3 := by omega
            have hk4 : ¬ (3 : Int) < (kn : Int) := by omega
            clear h2 hin hkn h3 hek
            go_upto_region 10 with (first | (refine wpList_store_ou rfl (.tmp 5) (.tmp 17) rfl _ _ HZ.out e rfl rfl ?_; intro w2 hF hB hO; have HBW := Lib.hid (hB wr.heap.size wr ((Below.refl _ _).alloc (Nat.le_refl _) _) (Nat.le_refl _)); have HOR := Lib.hid hF; clear d0 d1 d2 d3 d4 d5; obtain ⟨x0, x1, x2, x3, x4, x5⟩ := hF.cells; rw [HEK.out] at x0; have HS2 := Lib.hid (SmRow.below HSM.out HBW.out); have hck := HS2.out.kind hk7; have hfr := HS2.out.frozen kn; have HM := Lib.hid (HS2.out.more HKN.out); have hc30 := HCK.out; generalize kcO T kn = cc at hck HM hc30; clear hF hB hO))
            obtain ⟨W1, hW1⟩ : ∃ W1, w2.setCell ⟨g1, kn, none⟩ (.int .i64 ((cc : Int) + 1)) = W1 := ⟨_, rfl⟩
            rw [hW1] at HM ⊢
            have HO1 : Hid (OuRow W1 wr.heap.size e) := by unfold Hid; rw [← hW1]; exact HOR.out.keep (Below.heap_setCell _ _ _ _ hne2)
            have HB1 : Hid (Below w.heap.size w W1) := by unfold Hid; rw [← hW1]; exact (below_then HB.out (Nat.le_refl _) HBW.out).setCell (p := ⟨g1, kn, none⟩) (Nat.le_of_lt HGE.out.1) _
            have HC1 : Hid (Rk W1 w.heap.size 61 2 (.slice A k c) k ((whyL ws T).flatMap ctc)) := by unfold Hid; rw [← hW1]; exact (HC.out.below HBW.out (Nat.le_refl _)).setCell (rk_ne (HC.out.below HBW.out (Nat.le_refl _)) HS2.out (by decide)) _
            have HZ1 : Hid (SmRow W1 w.heap.size [] 0 (.slice none 0 0)) := by unfold Hid; rw [← hW1]; exact (Below.heap_setCell _ _ _ _ (by have := HGE.out; simp <;> omega)).trans ((HBW.out.block _ (blk_lt HZR.out)).trans HZR.out)
            clear hW1 hck hfr hc30 HS2 HOR HBW x0 x1 x2 x3 x4 x5
            obtain ⟨x0, x1, x2, x3, x4, x5⟩ := HO1.out.cells
            have hy7 := HM.out.bytes
            have f7 := HM.out.frozen 7
            have hy8 := HM.out.why
            go_upto_region 12 with fail
            have HM2 : Hid (SmRow W1 g1 (T ++ [e]) (byO (T ++ [e])) (.slice A k c)) := by unfold Hid; rw [byO_snoc, if_neg HK2.out, HBY.out]; exact HM.out
            have HB2 := HB1; have HC2 := HC1; have HZ2 := HZ1
            go_wp2_with fail
            subst hg1
            go_roundw
            case rel =>
              have r1 : Hid (UpS ws (rW (es.take (i + 1)))) := by unfold Hid; rw [HT.out, rW_skip HWB.out]; exact HUP.out
              have r2 : Hid (SmRow W1 (w.heap.size + 1) (es.take (i + 1)) (byO (es.take (i + 1))) (.slice A k c)) := by unfold Hid; rw [HT.out]; exact HM2.out
              have r3 : Hid (Rk W1 w.heap.size 61 2 (.slice A k c) k ((whyL ws (es.take (i + 1))).flatMap ctc)) := by unfold Hid; rw [HT.out, whyL_skip HWB.out]; exact HC2.out
              have r0 : k ≤ i + 1 := by omega
              have rn : i + 1 ≤ n := by omega
              first | exact ⟨i + 1, k, c, A, ws, by go_num, rn, r0, HWL, r1, r2, r3, HZ2, HB2⟩ | exact ⟨i + 1, by go_num, rn, k, r0, c, A, ws, HWL, r1, r2, r3, HZ2, HB2⟩ | exact ⟨i + 1, by go_num, rn, k, c, A, ws, r0, HWL, r1, r2, r3, HZ2, HB2⟩ | exact ⟨i + 1, by go_num, rn, k, r0, c, A, ws, HWL, r1, r2, r3⟩ | exact ⟨i + 1, k, c, A, ws, by go_num, rn, r0, HWL, r1, r2, r3⟩
            case measure => simp [intOf]; omega
      · have hk0 : kn = 0 := by
          rw [← hkn]
          unfold kdO
          rw [if_neg hin]
        subst hk0
        have HK2 : Hid (¬ e.k = 2) := by unfold Hid; omega
        have HWB : Hid (whyB e = false) := by unfold Hid whyB; simp; omega
        by_cases h1 : e.k < 0
        · clear hin hkn
          go_upto_region 10 with (first | (refine wpList_store_ou rfl (.tmp 5) (.tmp 17) rfl _ _ HZ.out e rfl rfl ?_; intro w2 hF hB hO; have HBW := Lib.hid (hB wr.heap.size wr ((Below.refl _ _).alloc (Nat.le_refl _) _) (Nat.le_refl _)); have HOR := Lib.hid hF; clear d0 d1 d2 d3 d4 d5; obtain ⟨x0, x1, x2, x3, x4, x5⟩ := hF.cells; have HS2 := Lib.hid (SmRow.below HSM.out HBW.out); have hck := HS2.out.kind hk7; have hfr := HS2.out.frozen 0; have HM := Lib.hid (HS2.out.more HKN.out); have hc30 := HCK.out; generalize kcO T 0 = cc at hck HM hc30; clear hF hB hO))
          obtain ⟨W1, hW1⟩ : ∃ W1, w2.setCell ⟨g1, 0, none⟩ (.int .i64 ((cc : Int) + 1)) = W1 := ⟨_, rfl⟩
          rw [hW1] at HM ⊢
          have HO1 : Hid (OuRow W1 wr.heap.size e) := by unfold Hid; rw [← hW1]; exact HOR.out.keep (Below.heap_setCell _ _ _ _ hne2)
          have HB1 : Hid (Below w.heap.size w W1) := by unfold Hid; rw [← hW1]; exact (below_then HB.out (Nat.le_refl _) HBW.out).setCell (p := ⟨g1, 0, none⟩) (Nat.le_of_lt HGE.out.1) _
          have HC1 : Hid (Rk W1 w.heap.size 61 2 (.slice A k c) k ((whyL ws T).flatMap ctc)) := by unfold Hid; rw [← hW1]; exact (HC.out.below HBW.out (Nat.le_refl _)).setCell (rk_ne (HC.out.below HBW.out (Nat.le_refl _)) HS2.out (by decide)) _
          have HZ1 : Hid (SmRow W1 w.heap.size [] 0 (.slice none 0 0)) := by unfold Hid; rw [← hW1]; exact (Below.heap_setCell _ _ _ _ (by have := HGE.out; simp <;> omega)).trans ((HBW.out.block _ (blk_lt HZR.out)).trans HZR.out)
          clear hW1 hck hfr hc30 HS2 HOR HBW x0 x1 x2 x3 x4 x5
          obtain ⟨x0, x1, x2, x3, x4, x5⟩ := HO1.out.cells
          have hy7 := HM.out.bytes
          have f7 := HM.out.frozen 7
          have hy8 := HM.out.why
          go_upto_region 12 with fail
          have HM2 : Hid (SmRow W1 g1 (T ++ [e]) (byO (T ++ [e])) (.slice A k c)) := by unfold Hid; rw [byO_snoc, if_neg HK2.out, HBY.out]; exact HM.out
          have HB2 := HB1; have HC2 := HC1; have HZ2 := HZ1
          go_wp2_with fail
          subst hg1
          go_roundw
          case rel =>
            have r1 : Hid (UpS ws (rW (es.take (i + 1)))) := by unfold Hid; rw [HT.out, rW_skip HWB.out]; exact HUP.out
            have r2 : Hid (SmRow W1 (w.heap.size + 1) (es.take (i + 1)) (byO (es.take (i + 1))) (.slice A k c)) := by unfold Hid; rw [HT.out]; exact HM2.out
            have r3 : Hid (Rk W1 w.heap.size 61 2 (.slice A k c) k ((whyL ws (es.take (i + 1))).flatMap ctc)) := by unfold Hid; rw [HT.out, whyL_skip HWB.out]; exact HC2.out
            have r0 : k ≤ i + 1 := by omega
            have rn : i + 1 ≤ n := by omega
            first | exact ⟨i + 1, k, c, A, ws, by go_num, rn, r0, HWL, r1, r2, r3, HZ2, HB2⟩ | exact ⟨i + 1, by go_num, rn, k, r0, c, A, ws, HWL, r1, r2, r3, HZ2, HB2⟩ | exact ⟨i + 1, by go_num, rn, k, c, A, ws, r0, HWL, r1, r2, r3, HZ2, HB2⟩ | exact ⟨i + 1, by go_num, rn, k, r0, c, A, ws, HWL, r1, r2, r3⟩ | exact ⟨i + 1, k, c, A, ws, by go_num, rn, r0, HWL, r1, r2, r3⟩
          case measure => simp [intOf]; omega
        · have h6 : e.k > 6 := by omega
          have h7 : (6 : Int) < e.k := by omega
          clear hin hkn
          go_upto_region 10 with (first | (refine wpList_store_ou rfl (.tmp 5) (.tmp 17) rfl _ _ HZ.out e rfl rfl ?_; intro w2 hF hB hO; have HBW := Lib.hid (hB wr.heap.size wr ((Below.refl _ _).alloc (Nat.le_refl _) _) (Nat.le_refl _)); have HOR := Lib.hid hF; clear d0 d1 d2 d3 d4 d5; obtain ⟨x0, x1, x2, x3, x4, x5⟩ := hF.cells; have HS2 := Lib.hid (SmRow.below HSM.out HBW.out); have hck := HS2.out.kind hk7; have hfr := HS2.out.frozen 0; have HM := Lib.hid (HS2.out.more HKN.out); have hc30 := HCK.out; generalize kcO T 0 = cc at hck HM hc30; clear hF hB hO))
          obtain ⟨W1, hW1⟩ : ∃ W1, w2.setCell ⟨g1, 0, none⟩ (.int .i64 ((cc : Int) + 1)) = W1 := ⟨_, rfl⟩
          rw [hW1] at HM ⊢
          have HO1 : Hid (OuRow W1 wr.heap.size e) := by unfold Hid; rw [← hW1]; exact HOR.out.keep (Below.heap_setCell _ _ _ _ hne2)
          have HB1 : Hid (Below w.heap.size w W1) := by unfold Hid; rw [← hW1]; exact (below_then HB.out (Nat.le_refl _) HBW.out).setCell (p := ⟨g1, 0, none⟩) (Nat.le_of_lt HGE.out.1) _
          have HC1 : Hid (Rk W1 w.heap.size 61 2 (.slice A k c) k ((whyL ws T).flatMap ctc)) := by unfold Hid; rw [← hW1]; exact (HC.out.below HBW.out (Nat.le_refl _)).setCell (rk_ne (HC.out.below HBW.out (Nat.le_refl _)) HS2.out (by decide)) _
          have HZ1 : Hid (SmRow W1 w.heap.size [] 0 (.slice none 0 0)) := by unfold Hid; rw [← hW1]; exact (Below.heap_setCell _ _ _ _ (by have := HGE.out; simp <;> omega)).trans ((HBW.out.block _ (blk_lt HZR.out)).trans HZR.out)
          clear hW1 hck hfr hc30 HS2 HOR HBW x0 x1 x2 x3 x4 x5
          obtain ⟨x0, x1, x2, x3, x4, x5⟩ := HO1.out.cells
          have hy7 := HM.out.bytes
          have f7 := HM.out.frozen 7
          have hy8 := HM.out.why
          go_upto_region 12 with fail
          have HM2 : Hid (SmRow W1 g1 (T ++ [e]) (byO (T ++ [e])) (.slice A k c)) := by unfold Hid; rw [byO_snoc, if_neg HK2.out, HBY.out]; exact HM.out
          have HB2 := HB1; have HC2 := HC1; have HZ2 := HZ1
          go_wp2_with fail
          subst hg1
          go_roundw
          case rel =>
            have r1 : Hid (UpS ws (rW (es.take (i + 1)))) := by unfold Hid; rw [HT.out, rW_skip HWB.out]; exact HUP.out
            have r2 : Hid (SmRow W1 (w.heap.size + 1) (es.take (i + 1)) (byO (es.take (i + 1))) (.slice A k c)) := by unfold Hid; rw [HT.out]; exact HM2.out
            have r3 : Hid (Rk W1 w.heap.size 61 2 (.slice A k c) k ((whyL ws (es.take (i + 1))).flatMap ctc)) := by unfold Hid; rw [HT.out, whyL_skip HWB.out]; exact HC2.out
            have r0 : k ≤ i + 1 := by omega
            have rn : i + 1 ≤ n := by omega
            first | exact ⟨i + 1, k, c, A, ws, by go_num, rn, r0, HWL, r1, r2, r3, HZ2, HB2⟩ | exact ⟨i + 1, by go_num, rn, k, r0, c, A, ws, HWL, r1, r2, r3, HZ2, HB2⟩ | exact ⟨i + 1, by go_num, rn, k, c, A, ws, r0, HWL, r1, r2, r3, HZ2, HB2⟩ | exact ⟨i + 1, by go_num, rn, k, r0, c, A, ws, HWL, r1, r2, r3⟩ | exact ⟨i + 1, k, c, A, ws, by go_num, rn, r0, HWL, r1, r2, r3⟩
          case measure => simp [intOf]; omega
    · obtain rfl : i = n := by omega
      have HE : Hid (es.take i = es) := by unfold Hid; rw [List.take_of_length_le (by rw [HN.out]; exact Nat.le_refl _)]
      rw [HE.out] at HSM HC HUP
      have y7 := HSM.out.bytes
      have y8 := HSM.out.why
      have y0 := HSM.out.kind (k := 0) (by omega)
      have y1 := HSM.out.kind (k := 1) (by omega)
      have y2 := HSM.out.kind (k := 2) (by omega)
      have y3 := HSM.out.kind (k := 3) (by omega)
      have y4 := HSM.out.kind (k := 4) (by omega)
      have y5 := HSM.out.kind (k := 5) (by omega)
      have y6 := HSM.out.kind (k := 6) (by omega)
      go_wp2_with (refine wpList_store_sm rfl (.tmp 2) (.tmp 50) rfl _ _ _ _ HZR.out es (byO es) (.slice A k c) rfl rfl rfl ?_; intro w6 hF hB hO; have HF := Lib.hid hF; have HB6 := Lib.hid (hB w.heap.size w HB.out (Nat.le_refl _)); have HO6 := Lib.hid hO; clear hF hB hO)
      clear y0 y1 y2 y3 y4 y5 y6 y7 y8
      have y7 := HF.out.bytes
      have y8 := HF.out.why
      have y0 := HF.out.kind (k := 0) (by omega)
      have y1 := HF.out.kind (k := 1) (by omega)
      have y2 := HF.out.kind (k := 2) (by omega)
      have y3 := HF.out.kind (k := 3) (by omega)
      have y4 := HF.out.kind (k := 4) (by omega)
      have y5 := HF.out.kind (k := 5) (by omega)
      have y6 := HF.out.kind (k := 6) (by omega)
      refine bodyPost_ret (v := .agg (sumc (kcO es 0) (kcO es 1) (kcO es 2) (kcO es 3) (kcO es 4) (kcO es 5) (kcO es 6) (byO es) (.slice A k c))) (by simp [results, Tryz.results8, go_sem, y0, y1, y2, y3, y4, y5, y6, y7, y8, sumc]) rfl ?_
      refine ⟨A, c, ws, by rw [HWL.out], ?_, by rw [HWL.out]; exact hk, HUP.out, HB6.out⟩
      rw [HWL.out]
      refine HC.out.keep fun j hj => HO6.out.2 j fun e => ?_
      exact rk_ne HC.out HZR.out (by decide) (by rw [hj, e])
end Go.Proofs.YtkihgbglodfkmaaGreat
