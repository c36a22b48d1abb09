/-
  Layer 41: how many bytes each that has a head was told, by the document. No condition but that the list is no longer than thirty, and the bodies are not long.
-/
import Derived.Test.YtkihgbglodfkmaaGreatKeys
namespace Go.Proofs.YtkihgbglodfkmaaGreat
open Go.RowKit
set_option linter.unusedVariables false
attribute [local go_sem ↓] Go.wp_at_zero Go.wp_at_succ

theorem ends_ids {wr w3 : World} {B n g off c k : Nat} {x : Int} {os : List Int} (h : Ends wr 3 1 n ((os.take k).map vi ++ [.int .i64 x] ++ (os.drop k).map vi) g off c w3) (hB : B ≤ wr.heap.size) : RkI w3 B (.slice (some ⟨g, off, none⟩) n c) n (os.take k ++ x :: os.drop k) := by
  have := h.1.base hB
  unfold RkI
  rw [List.map_append, List.map_cons]
  simpa using this

set_option maxRecDepth 100000 in
set_option maxHeartbeats 8000000 in
theorem rBodies_any {w : World} {lo n : Nat} {v : Value} {es : List Ou} (h : Os w lo v n es) (hn : n ≤ 30) (hbs : ∀ e ∈ es, e.body.size ≤ 40) :
    Calls Tryz.prog 9 #[v] w fun o w' => ∃ A c ks, o = .returned (.slice A (List.length ks) c) ∧ Row w' w.heap.size 40 (.slice A ks.length c) ks.length ((xsB ks es).map fl) ∧ ks.length ≤ n ∧ Up ks (idsH es) ∧ Below w.heap.size w w' := by
  have HH := Lib.hid (h.base (Nat.zero_le _))
  have HN := Lib.hid h.1
  have HBS := Lib.hid hbs
  obtain ⟨A0, c0, rfl⟩ := h.slice
  clear h hbs
  go_enter Tryz.func9, Tryz.ntmps9
  go_wp2
  go_loopw [3, 5] (fun o iv wr => ∃ (i j c g off : Nat) (os : List Int), o = .slice (some ⟨g, off, none⟩) j c ∧ iv = .int .i64 i ∧ i ≤ n ∧ j ≤ i ∧ Hid (RkI wr w.heap.size (.slice (some ⟨g, off, none⟩) j c) j os) ∧ Hid (Up os (idsH (es.take i))) ∧ Hid (Rk wr w.heap.size 40 1 (.slice (some ⟨w.heap.size + 1, 0, none⟩) 0 0) 0 []) ∧ Hid (Below w.heap.size w wr)) (fun _ iv _ => n - (intOf iv).toNat)
  case atStart =>
    refine ⟨0, 0, 0, w.heap.size, 0, [], rfl, rfl, Nat.zero_le _, Nat.le_refl _, Lib.hid ⟨rfl, .inr ⟨w.heap.size, 0, 0, #[], rfl, Nat.le_refl _, ?_, Nat.le_refl _, Nat.zero_le _, Nat.le_refl _, fun j u hj => by simp at hj⟩⟩, Lib.hid ⟨List.Pairwise.nil, fun x => by simp [idsH]⟩, Lib.hid ⟨rfl, .inr ⟨w.heap.size + 1, 0, 0, #[], rfl, by omega, ?_, Nat.le_refl _, Nat.zero_le _, Nat.le_refl _, fun j u hj => by simp at hj⟩⟩, Lib.hid (((Below.refl _ _).alloc (Nat.le_refl _) _).alloc (by simp) _)⟩
    · exact (Below.heap_alloc _ _ _ (by simp)).trans (heap_alloc_new w _)
    · have := heap_alloc_new (w.alloc (.cells #[] 3)) (.cells #[] 40)
      rwa [World.size_alloc] at this
  case round =>
    obtain ⟨i, j, c, g, off, os, rfl, rfl, hi, hj, HO, HU, HOUT, HB⟩ := hrel
    obtain ⟨wo, rfl⟩ : ∃ wo : World, wo = wr := ⟨_, rfl⟩
    have HL : Hid (os.length = j) := Lib.hid HO.out.len
    by_cases hin : i < n
    · obtain ⟨gx, ox, hix, rfl, hc1, hc2, _, he0⟩ := HH.out.get hin
      have he := OuAt.below he0 (HB.out.mono (Nat.le_refl _))
      clear he0
      unfold maxLen at hc2
      have HT := Lib.hid (idsH_more hix)
      generalize es[i]'hix = e at he HT
      have HEV := Lib.hid he
      obtain ⟨x, hx⟩ : ∃ x, e.id = x := ⟨_, rfl⟩
      clear hix he
      go_wp2
      go_loopw [6] (fun a wr2 => ∃ k q : Nat, a = .int .i64 k ∧ k ≤ j ∧ Hid (∀ y ∈ os.take k, y < x) ∧ Hid (wr2 = wo.drewN q)) (fun a _ => j - (intOf a).toNat)
      case atStart => exact ⟨0, 0, rfl, Nat.zero_le _, Lib.hid (fun y hy => by simp at hy), Lib.hid rfl⟩
      case round =>
        obtain ⟨k, q, rfl, hk, HSP, HW2⟩ := hrel
        have HBq : Hid (Below wo.heap.size wo wr) := by unfold Hid; rw [HW2.out]; exact below_drewN (Below.refl _ _) q
        have HBW := Lib.hid (below_then HB.out (Nat.le_refl _) HBq.out)
        have HO2 : Hid (RkI wr w.heap.size (.slice (some ⟨g, off, none⟩) j c) j os) := Lib.hid (Rk.below HO.out HBq.out (Nat.le_refl _))
        have HOUT2 := Lib.hid (HOUT.out.below HBq.out (Nat.le_refl _))
        have he2 := HEV.out.below HBq.out
        have d0 := he2.c0
        have d1 := he2.c1
        rw [hx] at d1
        have HC1 := Lib.hid d1
        clear he2
        obtain ⟨hd1, hd2⟩ := HO2.out.caps
        obtain ⟨b, hb⟩ : ∃ b, (e.k == 1) = b := ⟨_, rfl⟩
        have HBK : Hid (decide (e.k = 1) = b) := by unfold Hid; rw [← hb]; rfl
        have hdb : decide (e.k = 1) = b := HBK.out
        by_cases hk0 : k < j
        · obtain ⟨hmo, hcm'⟩ := HO2.out.get hk0
          by_cases hc : os[k] < x
          · have HS2 := Lib.hid (up_take HU.out.1 hmo HSP.out hc)
            have hcb : decide (os[k] < x) = true := decide_eq_true hc
            generalize os[k]'hmo = y at hcm' hcb
            clear hmo hc
            go_wp2
            go_quiet (fail)
            go_wp2
            go_roundw
            case rel => exact ⟨k + 1, _, by go_num, by omega, HS2, by unfold Hid; rw [HW2.out, World.drewN_drewN]⟩
            case measure => simp [intOf]; omega
          · have hcb : decide (os[k] < x) = false := decide_eq_false hc
            cases b
            · have HUP : Hid (Hid (Up os (idsH (es.take (i + 1))))) := Lib.hid (Lib.hid (by rw [HT.out, if_neg (of_decide_eq_false HBK.out), List.append_nil]; exact HU.out))
              generalize os[k]'hmo = y at hcm' hcb
              clear hmo hc
              go_wp2
              go_quiet (fail)
              go_wp2
              go_quiet (fail)
              go_wp2
              go_roundw
              case rel => exact ⟨i + 1, j, c, g, off, os, rfl, by go_num, by omega, by omega, Lib.hid (HO2.out.keep (fun k hk => rfl)), HUP.out, Lib.hid (HOUT2.out.keep (fun k hk => rfl)), Lib.hid (below_then HBW.out (Nat.le_refl _) (by first | exact Below.refl _ _ | exact below_drewN (Below.refl _ _) _ | exact below_drewN (below_drewN (Below.refl _ _) _) _))⟩
              case measure => simp [intOf]; omega
            · have HT2 : Hid (idsH (es.take (i + 1)) = idsH (es.take i) ++ [x]) := by unfold Hid; rw [HT.out, if_pos (of_decide_eq_true HBK.out), hx]
              by_cases hxy : os[k] = x
              · have HUP : Hid (Hid (Up os (idsH (es.take (i + 1))))) := Lib.hid (Lib.hid (by rw [HT2.out]; exact HU.out.keep (by rw [← hxy]; exact List.getElem_mem hmo)))
                have hxb : (os[k] == x) = true := by simpa using hxy
                have hxb2 : (os[k] != x) = false := by simp [hxy]
                have hxb3 : decide (os[k] = x) = true := by simp [hxy]
                have hkb : decide ((k : Int) = (j : Int)) = false := by simp; omega
                have hkb2 : ((k : Int) == (j : Int)) = false := by simp; omega
                have hkb3 : (k == j) = false := by simp; omega
                generalize os[k]'hmo = y at hcm' hcb hxb hxb2 hxb3
                clear hmo hc hxy
                go_wp2
                go_quiet (fail)
                go_wp2
                go_quiet (fail)
                go_wp2
                go_roundw
                case rel => exact ⟨i + 1, j, c, g, off, os, rfl, by go_num, by omega, by omega, Lib.hid (HO2.out.keep (fun k hk => rfl)), HUP.out, Lib.hid (HOUT2.out.keep (fun k hk => rfl)), Lib.hid (below_then HBW.out (Nat.le_refl _) (by first | exact Below.refl _ _ | exact below_drewN (Below.refl _ _) _ | exact below_drewN (below_drewN (Below.refl _ _) _) _))⟩
                case measure => simp [intOf]; omega
              · have HUP : Hid (Hid (Up (os.take k ++ x :: os.drop k) (idsH (es.take (i + 1))))) := Lib.hid (Lib.hid (by rw [HT2.out]; exact HU.out.put (by omega) HSP.out (up_drop HU.out.1 hmo (by omega))))
                have hxb : (os[k] == x) = false := by simpa using hxy
                have hxb2 : (os[k] != x) = true := by simp [hxy]
                have hxb3 : decide (os[k] = x) = false := by simp [hxy]
                have hkb : decide ((k : Int) = (j : Int)) = false := by simp; omega
                have hkb2 : ((k : Int) == (j : Int)) = false := by simp; omega
                have hkb3 : (k == j) = false := by simp; omega
                generalize os[k]'hmo = y at hcm' hcb hxb hxb2 hxb3
                clear hmo hc hxy
                go_wp2
                go_quiet (fail)
                go_wp2
                go_quiet (fail)
                go_wp2
                generalize hgq : World.drewN wr _ = wq
                obtain ⟨q2, rfl⟩ : ∃ q2, wq = wr.drewN q2 := ⟨_, hgq.symm⟩
                clear hgq
                generalize hgq : World.drewN (World.drewN wr q2) _ = wq
                obtain ⟨q2, rfl⟩ : ∃ q3, wq = wr.drewN q3 := ⟨_, by rw [← hgq, World.drewN_drewN]⟩
                clear hgq
                have HRD := Lib.hid (Rk.rd HO2.out (.inl (by omega)))
                have T1 := HRD.out.take (p := k) (by omega)
                have T3 := HRD.out.drop (p := k) (by omega)
                rw [Nat.mul_one, ← List.map_take] at T1
                rw [Nat.mul_one, ← List.map_drop] at T3
                have hkl : k + 1 + (j - k) = j + 1 := by omega
                obtain ⟨va1, wa1, va2, wa2, ga3, oa3, ca3, wa3, ra1, ra2, ra3, hxa, HEA⟩ := runs1 elI (xs := [.int .i64 x]) rfl T1 T3 vi_one (by simp [Value.oneCell']) vi_one (by omega) 53 (q2 + 1)
                rw [hkl] at ra3 HEA
                obtain ⟨vb1, wb1, vb2, wb2, gb3, ob3, cb3, wb3, rb1, rb2, rb3, HEB⟩ := runs2 elI (xs := [.int .i64 x]) rfl T1 T3 vi_one (by simp [Value.oneCell']) vi_one (by omega) 53 (q2 + 1)
                rw [hkl] at rb3 HEB
                obtain ⟨vc1, wc1, vc2, wc2, gc3, oc3, cc3, wc3, rc1, rc2, rc3, HEC⟩ := runs3 elI (xs := [.int .i64 x]) rfl T1 T3 vi_one (by simp [Value.oneCell']) vi_one (by omega) 53 (q2 + 1)
                rw [hkl] at rc3 HEC
                have HXA := Lib.hid ((hxa.out.cell (p := ⟨gx, ox + i * 6 + 1, none⟩) (lt_of_cell HC1.out)).trans HC1.out)
                have hXA := HXA.out
                clear hxa T1 T3 hkl
                have RA1 := Lib.hid ra1
                have RA2 := Lib.hid ra2
                have RB1 := Lib.hid rb1
                have RB2 := Lib.hid rb2
                have RC1 := Lib.hid rc1
                have RC2 := Lib.hid rc2
                have i1 : (0 : Int) ≤ (k : Int) := by omega
                have i2 : (k : Int) ≤ (j : Int) := by omega
                have i3 : (k : Int) ≤ (c : Int) := by omega
                have i4 : (j : Int) ≤ (c : Int) := by omega
                have i5 : (0 : Int) ≤ (i : Int) := by omega
                have i6 : (i : Int) < (n : Int) := by omega
                have hA0 : ((wr.drewN (q2 + 1)).alloc (.cells #[] 3)).cell? ⟨gx, ox + i * 6 + 1, none⟩ = some (.int .i64 x) := (World.cell?_alloc_lt (wr.drewN (q2 + 1)) (.cells #[] 3) ⟨gx, ox + i * 6 + 1, none⟩ (lt_of_cell (w := wr) HC1.out)).trans HC1.out
                clear ra1 ra2 rb1 rb2 rc1 rc2
                by_cases hcap : c = k
                · subst hcap
                  obtain rfl : j = c := by omega
                  rw [if_pos rfl, Nat.sub_self] at ra3 rb3 rc3
                  have RA3 := Lib.hid ra3
                  have RB3 := Lib.hid rb3
                  have RC3 := Lib.hid rc3
                  clear ra3 rb3 rc3
                  go_region_law (first | ((with_reducible refine step_run ?_ (.tmp 60) (.tmp 63) 53 ?_ _ _ _ _ ?_ ?_ RA1.out ?_); rfl; rfl; rfl; rfl) | ((with_reducible refine step_run ?_ (.tmp 60) (.tmp 63) 53 ?_ _ _ _ _ ?_ ?_ RB1.out ?_); rfl; rfl; rfl; rfl) | ((with_reducible refine step_run ?_ (.tmp 60) (.tmp 63) 53 ?_ _ _ _ _ ?_ ?_ RC1.out ?_); rfl; rfl; rfl; rfl) | ((with_reducible refine step_run ?_ (.tmp 64) (.tmp 70) 53 ?_ _ _ _ _ ?_ ?_ RA2.out ?_); rfl; rfl; rfl; rfl) | ((with_reducible refine step_run ?_ (.tmp 64) (.tmp 70) 53 ?_ _ _ _ _ ?_ ?_ RB2.out ?_); rfl; rfl; rfl; rfl) | ((with_reducible refine step_run ?_ (.tmp 64) (.tmp 70) 53 ?_ _ _ _ _ ?_ ?_ RC2.out ?_); rfl; rfl; rfl; rfl) | ((with_reducible refine step_run ?_ (.tmp 71) (.tmp 74) 53 ?_ _ _ _ _ ?_ ?_ RA3.out ?_); rfl; rfl; rfl; rfl) | ((with_reducible refine step_run ?_ (.tmp 71) (.tmp 74) 53 ?_ _ _ _ _ ?_ ?_ RB3.out ?_); rfl; rfl; rfl; rfl) | ((with_reducible refine step_run ?_ (.tmp 71) (.tmp 74) 53 ?_ _ _ _ _ ?_ ?_ RC3.out ?_); rfl; rfl; rfl; rfl))
                  all_goals go_wp2
                  all_goals (first | exact ⟨⟨i + 1, _, ca3, ga3, oa3, _, rfl, by go_num, by omega, by omega, Lib.hid (ends_ids HEA.out HBW.out.size), HUP.out, Lib.hid (HOUT2.out.below HEA.out.2 (Nat.le_refl _)), Lib.hid (below_then HBW.out (Nat.le_refl _) HEA.out.2)⟩, by simp [intOf]; omega⟩ | exact ⟨⟨i + 1, _, cb3, gb3, ob3, _, rfl, by go_num, by omega, by omega, Lib.hid (ends_ids HEB.out HBW.out.size), HUP.out, Lib.hid (HOUT2.out.below HEB.out.2 (Nat.le_refl _)), Lib.hid (below_then HBW.out (Nat.le_refl _) HEB.out.2)⟩, by simp [intOf]; omega⟩ | exact ⟨⟨i + 1, _, cc3, gc3, oc3, _, rfl, by go_num, by omega, by omega, Lib.hid (ends_ids HEC.out HBW.out.size), HUP.out, Lib.hid (HOUT2.out.below HEC.out.2 (Nat.le_refl _)), Lib.hid (below_then HBW.out (Nat.le_refl _) HEC.out.2)⟩, by simp [intOf]; omega⟩)
                · rw [if_neg hcap] at ra3 rb3 rc3
                  have RA3 := Lib.hid ra3
                  have RB3 := Lib.hid rb3
                  have RC3 := Lib.hid rc3
                  clear ra3 rb3 rc3
                  go_region_law (first | ((with_reducible refine step_run ?_ (.tmp 60) (.tmp 63) 53 ?_ _ _ _ _ ?_ ?_ RA1.out ?_); rfl; rfl; rfl; rfl) | ((with_reducible refine step_run ?_ (.tmp 60) (.tmp 63) 53 ?_ _ _ _ _ ?_ ?_ RB1.out ?_); rfl; rfl; rfl; rfl) | ((with_reducible refine step_run ?_ (.tmp 60) (.tmp 63) 53 ?_ _ _ _ _ ?_ ?_ RC1.out ?_); rfl; rfl; rfl; rfl) | ((with_reducible refine step_run ?_ (.tmp 64) (.tmp 70) 53 ?_ _ _ _ _ ?_ ?_ RA2.out ?_); rfl; rfl; rfl; rfl) | ((with_reducible refine step_run ?_ (.tmp 64) (.tmp 70) 53 ?_ _ _ _ _ ?_ ?_ RB2.out ?_); rfl; rfl; rfl; rfl) | ((with_reducible refine step_run ?_ (.tmp 64) (.tmp 70) 53 ?_ _ _ _ _ ?_ ?_ RC2.out ?_); rfl; rfl; rfl; rfl) | ((with_reducible refine step_run ?_ (.tmp 71) (.tmp 74) 53 ?_ _ _ _ _ ?_ ?_ RA3.out ?_); rfl; rfl; rfl; rfl) | ((with_reducible refine step_run ?_ (.tmp 71) (.tmp 74) 53 ?_ _ _ _ _ ?_ ?_ RB3.out ?_); rfl; rfl; rfl; rfl) | ((with_reducible refine step_run ?_ (.tmp 71) (.tmp 74) 53 ?_ _ _ _ _ ?_ ?_ RC3.out ?_); rfl; rfl; rfl; rfl))
                  all_goals go_wp2
                  all_goals (first | exact ⟨⟨i + 1, _, ca3, ga3, oa3, _, rfl, by go_num, by omega, by omega, Lib.hid (ends_ids HEA.out HBW.out.size), HUP.out, Lib.hid (HOUT2.out.below HEA.out.2 (Nat.le_refl _)), Lib.hid (below_then HBW.out (Nat.le_refl _) HEA.out.2)⟩, by simp [intOf]; omega⟩ | exact ⟨⟨i + 1, _, cb3, gb3, ob3, _, rfl, by go_num, by omega, by omega, Lib.hid (ends_ids HEB.out HBW.out.size), HUP.out, Lib.hid (HOUT2.out.below HEB.out.2 (Nat.le_refl _)), Lib.hid (below_then HBW.out (Nat.le_refl _) HEB.out.2)⟩, by simp [intOf]; omega⟩ | exact ⟨⟨i + 1, _, cc3, gc3, oc3, _, rfl, by go_num, by omega, by omega, Lib.hid (ends_ids HEC.out HBW.out.size), HUP.out, Lib.hid (HOUT2.out.below HEC.out.2 (Nat.le_refl _)), Lib.hid (below_then HBW.out (Nat.le_refl _) HEC.out.2)⟩, by simp [intOf]; omega⟩)
        · obtain rfl : k = j := by omega
          cases b
          · have HUP : Hid (Hid (Up os (idsH (es.take (i + 1))))) := Lib.hid (Lib.hid (by rw [HT.out, if_neg (of_decide_eq_false HBK.out), List.append_nil]; exact HU.out))
            go_wp2
            go_quiet (fail)
            go_wp2
            go_quiet (fail)
            go_wp2
            go_roundw
            case rel => exact ⟨i + 1, k, c, g, off, os, rfl, by go_num, by omega, by omega, Lib.hid (HO2.out.keep (fun k hk => rfl)), HUP.out, Lib.hid (HOUT2.out.keep (fun k hk => rfl)), Lib.hid (below_then HBW.out (Nat.le_refl _) (by first | exact Below.refl _ _ | exact below_drewN (Below.refl _ _) _ | exact below_drewN (below_drewN (Below.refl _ _) _) _))⟩
            case measure => simp [intOf]; omega
          · have HT2 : Hid (idsH (es.take (i + 1)) = idsH (es.take i) ++ [x]) := by unfold Hid; rw [HT.out, if_pos (of_decide_eq_true HBK.out), hx]
            have HUP : Hid (Hid (Up (os.take k ++ x :: os.drop k) (idsH (es.take (i + 1))))) := Lib.hid (Lib.hid (by rw [HT2.out]; exact HU.out.put (by rw [HL.out]; exact Nat.le_refl _) HSP.out (fun y hy => by rw [List.drop_of_length_le (by rw [HL.out]; exact Nat.le_refl _)] at hy; simp at hy)))
            go_wp2
            go_quiet (fail)
            go_wp2
            go_quiet (fail)
            go_wp2
            generalize hgq : World.drewN wr _ = wq
            obtain ⟨q2, rfl⟩ : ∃ q2, wq = wr.drewN q2 := ⟨_, hgq.symm⟩
            clear hgq
            generalize hgq : World.drewN (World.drewN wr q2) _ = wq
            obtain ⟨q2, rfl⟩ : ∃ q3, wq = wr.drewN q3 := ⟨_, by rw [← hgq, World.drewN_drewN]⟩
            clear hgq
            have HRD := Lib.hid (Rk.rd HO2.out (.inl (by omega)))
            have T1 := HRD.out.take (p := k) (by omega)
            have T3 := HRD.out.drop (p := k) (by omega)
            rw [Nat.mul_one, ← List.map_take] at T1
            rw [Nat.mul_one, ← List.map_drop] at T3
            have hkl : k + 1 + (k - k) = k + 1 := by omega
            obtain ⟨va1, wa1, va2, wa2, ga3, oa3, ca3, wa3, ra1, ra2, ra3, hxa, HEA⟩ := runs1 elI (xs := [.int .i64 x]) rfl T1 T3 vi_one (by simp [Value.oneCell']) vi_one (by omega) 53 (q2 + 1)
            rw [hkl] at ra3 HEA
            obtain ⟨vb1, wb1, vb2, wb2, gb3, ob3, cb3, wb3, rb1, rb2, rb3, HEB⟩ := runs2 elI (xs := [.int .i64 x]) rfl T1 T3 vi_one (by simp [Value.oneCell']) vi_one (by omega) 53 (q2 + 1)
            rw [hkl] at rb3 HEB
            obtain ⟨vc1, wc1, vc2, wc2, gc3, oc3, cc3, wc3, rc1, rc2, rc3, HEC⟩ := runs3 elI (xs := [.int .i64 x]) rfl T1 T3 vi_one (by simp [Value.oneCell']) vi_one (by omega) 53 (q2 + 1)
            rw [hkl] at rc3 HEC
            have HXA := Lib.hid ((hxa.out.cell (p := ⟨gx, ox + i * 6 + 1, none⟩) (lt_of_cell HC1.out)).trans HC1.out)
            have hXA := HXA.out
            clear hxa T1 T3 hkl
            have RA1 := Lib.hid ra1
            have RA2 := Lib.hid ra2
            have RB1 := Lib.hid rb1
            have RB2 := Lib.hid rb2
            have RC1 := Lib.hid rc1
            have RC2 := Lib.hid rc2
            have i1 : (0 : Int) ≤ (k : Int) := by omega
            have i2 : (k : Int) ≤ (k : Int) := by omega
            have i3 : (k : Int) ≤ (c : Int) := by omega
            have i4 : (k : Int) ≤ (c : Int) := by omega
            have i5 : (0 : Int) ≤ (i : Int) := by omega
            have i6 : (i : Int) < (n : Int) := by omega
            have hA0 : ((wr.drewN (q2 + 1)).alloc (.cells #[] 3)).cell? ⟨gx, ox + i * 6 + 1, none⟩ = some (.int .i64 x) := (World.cell?_alloc_lt (wr.drewN (q2 + 1)) (.cells #[] 3) ⟨gx, ox + i * 6 + 1, none⟩ (lt_of_cell (w := wr) HC1.out)).trans HC1.out
            clear ra1 ra2 rb1 rb2 rc1 rc2
            by_cases hcap : c = k
            · subst hcap
              skip
              rw [if_pos rfl, Nat.sub_self] at ra3 rb3 rc3
              have RA3 := Lib.hid ra3
              have RB3 := Lib.hid rb3
              have RC3 := Lib.hid rc3
              clear ra3 rb3 rc3
              go_region_law (first | ((with_reducible refine step_run ?_ (.tmp 60) (.tmp 63) 53 ?_ _ _ _ _ ?_ ?_ RA1.out ?_); rfl; rfl; rfl; rfl) | ((with_reducible refine step_run ?_ (.tmp 60) (.tmp 63) 53 ?_ _ _ _ _ ?_ ?_ RB1.out ?_); rfl; rfl; rfl; rfl) | ((with_reducible refine step_run ?_ (.tmp 60) (.tmp 63) 53 ?_ _ _ _ _ ?_ ?_ RC1.out ?_); rfl; rfl; rfl; rfl) | ((with_reducible refine step_run ?_ (.tmp 64) (.tmp 70) 53 ?_ _ _ _ _ ?_ ?_ RA2.out ?_); rfl; rfl; rfl; rfl) | ((with_reducible refine step_run ?_ (.tmp 64) (.tmp 70) 53 ?_ _ _ _ _ ?_ ?_ RB2.out ?_); rfl; rfl; rfl; rfl) | ((with_reducible refine step_run ?_ (.tmp 64) (.tmp 70) 53 ?_ _ _ _ _ ?_ ?_ RC2.out ?_); rfl; rfl; rfl; rfl) | ((with_reducible refine step_run ?_ (.tmp 71) (.tmp 74) 53 ?_ _ _ _ _ ?_ ?_ RA3.out ?_); rfl; rfl; rfl; rfl) | ((with_reducible refine step_run ?_ (.tmp 71) (.tmp 74) 53 ?_ _ _ _ _ ?_ ?_ RB3.out ?_); rfl; rfl; rfl; rfl) | ((with_reducible refine step_run ?_ (.tmp 71) (.tmp 74) 53 ?_ _ _ _ _ ?_ ?_ RC3.out ?_); rfl; rfl; rfl; rfl))
              all_goals go_wp2
              all_goals (first | exact ⟨⟨i + 1, _, ca3, ga3, oa3, _, rfl, by go_num, by omega, by omega, Lib.hid (ends_ids HEA.out HBW.out.size), HUP.out, Lib.hid (HOUT2.out.below HEA.out.2 (Nat.le_refl _)), Lib.hid (below_then HBW.out (Nat.le_refl _) HEA.out.2)⟩, by simp [intOf]; omega⟩ | exact ⟨⟨i + 1, _, cb3, gb3, ob3, _, rfl, by go_num, by omega, by omega, Lib.hid (ends_ids HEB.out HBW.out.size), HUP.out, Lib.hid (HOUT2.out.below HEB.out.2 (Nat.le_refl _)), Lib.hid (below_then HBW.out (Nat.le_refl _) HEB.out.2)⟩, by simp [intOf]; omega⟩ | exact ⟨⟨i + 1, _, cc3, gc3, oc3, _, rfl, by go_num, by omega, by omega, Lib.hid (ends_ids HEC.out HBW.out.size), HUP.out, Lib.hid (HOUT2.out.below HEC.out.2 (Nat.le_refl _)), Lib.hid (below_then HBW.out (Nat.le_refl _) HEC.out.2)⟩, by simp [intOf]; omega⟩)
            · rw [if_neg hcap, Nat.sub_self] at ra3 rb3 rc3
              have RA3 := Lib.hid ra3
              have RB3 := Lib.hid rb3
              have RC3 := Lib.hid rc3
              clear ra3 rb3 rc3
              go_region_law (first | ((with_reducible refine step_run ?_ (.tmp 60) (.tmp 63) 53 ?_ _ _ _ _ ?_ ?_ RA1.out ?_); rfl; rfl; rfl; rfl) | ((with_reducible refine step_run ?_ (.tmp 60) (.tmp 63) 53 ?_ _ _ _ _ ?_ ?_ RB1.out ?_); rfl; rfl; rfl; rfl) | ((with_reducible refine step_run ?_ (.tmp 60) (.tmp 63) 53 ?_ _ _ _ _ ?_ ?_ RC1.out ?_); rfl; rfl; rfl; rfl) | ((with_reducible refine step_run ?_ (.tmp 64) (.tmp 70) 53 ?_ _ _ _ _ ?_ ?_ RA2.out ?_); rfl; rfl; rfl; rfl) | ((with_reducible refine step_run ?_ (.tmp 64) (.tmp 70) 53 ?_ _ _ _ _ ?_ ?_ RB2.out ?_); rfl; rfl; rfl; rfl) | ((with_reducible refine step_run ?_ (.tmp 64) (.tmp 70) 53 ?_ _ _ _ _ ?_ ?_ RC2.out ?_); rfl; rfl; rfl; rfl) | ((with_reducible refine step_run ?_ (.tmp 71) (.tmp 74) 53 ?_ _ _ _ _ ?_ ?_ RA3.out ?_); rfl; rfl; rfl; rfl) | ((with_reducible refine step_run ?_ (.tmp 71) (.tmp 74) 53 ?_ _ _ _ _ ?_ ?_ RB3.out ?_); rfl; rfl; rfl; rfl) | ((with_reducible refine step_run ?_ (.tmp 71) (.tmp 74) 53 ?_ _ _ _ _ ?_ ?_ RC3.out ?_); rfl; rfl; rfl; rfl))
              all_goals go_wp2
              all_goals (first | exact ⟨⟨i + 1, _, ca3, ga3, oa3, _, rfl, by go_num, by omega, by omega, Lib.hid (ends_ids HEA.out HBW.out.size), HUP.out, Lib.hid (HOUT2.out.below HEA.out.2 (Nat.le_refl _)), Lib.hid (below_then HBW.out (Nat.le_refl _) HEA.out.2)⟩, by simp [intOf]; omega⟩ | exact ⟨⟨i + 1, _, cb3, gb3, ob3, _, rfl, by go_num, by omega, by omega, Lib.hid (ends_ids HEB.out HBW.out.size), HUP.out, Lib.hid (HOUT2.out.below HEB.out.2 (Nat.le_refl _)), Lib.hid (below_then HBW.out (Nat.le_refl _) HEB.out.2)⟩, by simp [intOf]; omega⟩ | exact ⟨⟨i + 1, _, cc3, gc3, oc3, _, rfl, by go_num, by omega, by omega, Lib.hid (ends_ids HEC.out HBW.out.size), HUP.out, Lib.hid (HOUT2.out.below HEC.out.2 (Nat.le_refl _)), Lib.hid (below_then HBW.out (Nat.le_refl _) HEC.out.2)⟩, by simp [intOf]; omega⟩)
    · obtain rfl : i = n := by omega
      have HE : Hid (idsH (es.take i) = idsH es) := by unfold Hid; rw [List.take_of_length_le (by rw [HN.out]; exact Nat.le_refl _)]
      rw [HE.out] at HU
      obtain ⟨hd1, hd2⟩ := HO.out.caps
      obtain ⟨i0, hi0, hz0, hz1, hz2⟩ := info_parts infoF
      have HI := Lib.hid hi0
      have HZ0 := Lib.hid hz0
      have HZ1 := Lib.hid hz1
      have HZ2 : Hid (i0.bytes ≤ 1000) := by unfold Hid; omega
      clear HE hi0 hz0 hz1 hz2
      go_wp2
      go_loopw [4, 7] (fun o kv wr => ∃ (k c2 : Nat) (A : Option Addr), o = .slice A k c2 ∧ kv = .int .i64 k ∧ k ≤ j ∧ Hid (RkI wr w.heap.size (.slice (some ⟨g, off, none⟩) j c) j os) ∧ Hid (Rk wr w.heap.size 40 1 (.slice A k c2) k ((xsB (os.take k) es).map fl)) ∧ Hid (Below w.heap.size w wr)) (fun _ kv _ => j - (intOf kv).toNat)
      case atStart => exact ⟨0, 0, _, rfl, rfl, Nat.zero_le _, HO, HOUT, HB⟩
      case round =>
        clear HO HOUT HB
        obtain ⟨k, c2, A, rfl, rfl, hk, HO, HOUT, HB⟩ := hrel
        obtain ⟨wo, rfl⟩ : ∃ wo : World, wo = wr := ⟨_, rfl⟩
        by_cases hkj : k < j
        · obtain ⟨hmo, hcm⟩ := HO.out.get hkj
          have HT := Lib.hid (xsB_more (es := es) hmo)
          have HS : Hid (sumOf os[k] es ≤ 1200) := by unfold Hid; have := sumOf_le os[k] es HBS.out; have := HN.out; omega
          generalize os[k]'hmo = x at hcm HT HS
          have HCM := Lib.hid hcm
          clear hmo hcm
          go_wp2
          go_loopw [8, 9] (fun nv iv wr2 => ∃ m q : Nat, nv = .int .i64 (sumOf x (es.take m)) ∧ iv = .int .i64 m ∧ m ≤ i ∧ Hid (wr2 = wo.drewN q)) (fun _ iv _ => i - (intOf iv).toNat)
          case atStart => exact ⟨0, 0, rfl, rfl, Nat.zero_le _, Lib.hid rfl⟩
          case round =>
            obtain ⟨m, q, rfl, rfl, hm, HW2⟩ := hrel
            have HBq : Hid (Below wo.heap.size wo wr) := by unfold Hid; rw [HW2.out]; exact below_drewN (Below.refl _ _) q
            have HBW := Lib.hid (below_then HB.out (Nat.le_refl _) HBq.out)
            by_cases hmi : m < i
            · obtain ⟨gx, ox, hix, rfl, hc1, hc2, _, he0⟩ := HH.out.get hmi
              have he := OuAt.below he0 (HBW.out.mono (Nat.le_refl _))
              clear he0
              unfold maxLen at hc2
              have hcm := (HBq.out.cell (p := ⟨g, off + k, none⟩) (lt_of_cell HCM.out)).trans HCM.out
              have HTM := Lib.hid (sumOf_more x hix)
              have hbe := HBS.out _ (List.getElem_mem hix)
              have hsl := sumOf_le x (es.take m) (fun e he => HBS.out e (List.mem_of_mem_take he))
              rw [List.length_take] at hsl
              generalize es[m]'hix = e at he HTM hbe
              obtain ⟨d0, d1, d2, d3, d4, d5⟩ := he
              obtain ⟨s, hs⟩ : ∃ s, sumOf x (es.take m) = s := ⟨_, rfl⟩
              rw [hs] at HTM hsl ⊢
              have hs2 : s ≤ 1200 := by omega
              obtain ⟨L, hL⟩ : ∃ L, e.body.size = L := ⟨_, rfl⟩
              rw [hL] at HTM hbe
              clear hix hs hsl
              obtain ⟨b, hb⟩ : ∃ b, (e.k == 2) = b := ⟨_, rfl⟩
              obtain ⟨b2, hb2⟩ : ∃ b, (e.id == x) = b := ⟨_, rfl⟩
              have HBK : Hid (decide (e.k = 2) = b) := by unfold Hid; rw [← hb]; rfl
              have HBI : Hid (decide (e.id = x) = b2) := by unfold Hid; rw [← hb2]; rfl
              have hnot : (b && b2) = false → Hid (sumOf x (es.take (m + 1)) = s) := fun hb => by
                unfold Hid
                rw [HTM.out, if_neg]
                rintro ⟨h1, h2⟩
                rw [← HBK.out, ← HBI.out] at hb
                simp [h1, h2] at hb
              have HNOT := Lib.hid hnot
              clear hnot
              cases b
              · go_wp2
                go_quiet (fail)
                go_wp2
                go_roundw
                case rel => exact ⟨m + 1, _, by rw [(HNOT.out rfl).out], by go_num, by omega, by unfold Hid; rw [HW2.out, World.drewN_drewN]⟩
                case measure => simp [intOf]; omega
              · cases b2
                · go_wp2
                  go_quiet (fail)
                  go_wp2
                  go_roundw
                  case rel => exact ⟨m + 1, _, by rw [(HNOT.out rfl).out], by go_num, by omega, by unfold Hid; rw [HW2.out, World.drewN_drewN]⟩
                  case measure => simp [intOf]; omega
                · have HYES : Hid (sumOf x (es.take (m + 1)) = s + L) := by unfold Hid; rw [HTM.out, if_pos ⟨of_decide_eq_true HBK.out, of_decide_eq_true HBI.out⟩]
                  go_wp2
                  go_quiet (fail)
                  go_wp2
                  go_roundw
                  case rel => exact ⟨m + 1, _, by rw [HYES.out]; go_num, by go_num, by omega, by unfold Hid; rw [HW2.out, World.drewN_drewN]⟩
                  case measure => simp [intOf]; omega
            · obtain rfl : m = i := by omega
              have HEA : Hid (sumOf x (es.take m) = sumOf x es) := by unfold Hid; rw [List.take_of_length_le (by rw [HN.out]; exact Nat.le_refl _)]
              rw [HEA.out]
              obtain ⟨s, hs⟩ : ∃ s, sumOf x es = s := ⟨_, rfl⟩
              rw [hs] at HT HS ⊢
              have hs2 := HS.out
              have HO2 : Hid (RkI wr w.heap.size (.slice (some ⟨g, off, none⟩) j c) j os) := Lib.hid (Rk.below HO.out HBq.out (Nat.le_refl _))
              have HOUT2 := Lib.hid (HOUT.out.below HBq.out (Nat.le_refl _))
              obtain ⟨f, hf⟩ : ∃ f, floatOfInt .f64 (s : Nat) = f := ⟨_, rfl⟩
              rw [hf] at HT
              have HBA : Hid (Below wr.heap.size wr (wr.alloc (.cells #[.float .f64 f] 40))) := (Below.refl _ _).alloc (Nat.le_refl _) _
              have HOUT3 := Lib.hid (HOUT2.out.below HBA.out (Nat.le_refl _))
              have HO3 : Hid (RkI (wr.alloc (.cells #[.float .f64 f] 40)) w.heap.size (.slice (some ⟨g, off, none⟩) j c) j os) := Lib.hid (Rk.below HO2.out HBA.out (Nat.le_refl _))
              have HSR : Hid (Src Tryz.prog 1 33 (.slice (some ⟨wr.heap.size, 0, none⟩) 1 1) 1 [.float .f64 f] (wr.alloc (.cells #[.float .f64 f] 40))) :=
                Src.lit (b := wr.heap.size) (cs := #[.float .f64 f]) (m := (0, 0)) Tryz.underlying33 (heap_alloc_new wr _) 1 1 rfl (fun u hu => by simp at hu; subst hu; rfl)
              have HLK : Hid (k + 1 ≤ 1000000000) := by unfold Hid; omega
              have HSZ : Hid (w.heap.size ≤ (wr.alloc (.cells #[.float .f64 f] 40)).heap.size) := Lib.hid (Nat.le_trans HBW.out.size HBA.out.size)
              clear hs
              go_wp2_with (at_builtin; refine wpList_append_rk rfl (.tmp 114) (.tmp 117) 33 rfl w.heap.size 40 i0 _ 1 Tryz.underlying33 HI.out HZ0.out HZ1.out HZ2.out rfl _ k _ rfl HOUT3.out _ 1 _ rfl HSR.out HLK.out HSZ.out ?_; intro A' c' w5 hr hg5 _; have HR := Lib.hid hr; have HG := Lib.hid hg5; clear hr hg5)
              go_roundw
              case rel =>
                refine ⟨k + 1, c', A', rfl, by go_num, by omega, Lib.hid (Rk.apart HO3.out HOUT3.out (by decide) HG.out), ?_, Lib.hid ((below_then HBW.out (Nat.le_refl _) HBA.out).grown HG.out HSZ.out fun b hb => (HOUT3.out.lt b hb).1)⟩
                unfold Hid
                rw [HT.out, List.map_append]
                exact HR.out
              case measure => simp [intOf]; omega
        · obtain rfl : k = j := by omega
          have HL := Lib.hid HO.out.len
          have HE : Hid (os.take k = os) := by unfold Hid; rw [List.take_of_length_le (by rw [HL.out]; exact Nat.le_refl _)]
          rw [HE.out] at HOUT
          go_wp2
          go_ret
          refine ⟨A, c2, os, by rw [HL.out]; rfl, ?_, by rw [HL.out]; omega, HU.out, HB.out⟩
          rw [HL.out]
          exact HOUT.out.row
end Go.Proofs.YtkihgbglodfkmaaGreat
