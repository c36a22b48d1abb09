/-
  Layer 43 (mix): the ids of a list of events, by the document: each is put where it belongs, if it is not there. No condition but that the list is no longer than a million.
-/
import Derived.Test.YtlalbfpdelfnfaaRIdsAid
namespace Go.Proofs.Ytlalbfpdelfnfaa
open Go.RowKit
set_option linter.unusedVariables false
attribute [local go_sem ↓] Go.wp_at_zero Go.wp_at_succ

theorem up_take {os : List Int} (h : os.Pairwise (· < ·)) {k : Nat} {x : Int} (hk : k < os.length) (hl : ∀ y ∈ os.take k, y < x) (h1 : os[k] < x) : ∀ y ∈ os.take (k + 1), y < x := by
  rw [List.take_succ_eq_append_getElem hk]
  intro y hy
  rcases List.mem_append.1 hy with hy | hy
  · exact hl y hy
  · rw [List.mem_singleton.1 hy]; exact h1
theorem up_drop {os : List Int} (h : os.Pairwise (· < ·)) {k : Nat} {x : Int} (hk : k < os.length) (h1 : x < os[k]) : ∀ y ∈ os.drop k, x < y := by
  intro y hy
  rw [List.drop_eq_getElem_cons hk] at hy
  have h0 := h
  rw [← List.take_append_drop k os, List.pairwise_append, List.drop_eq_getElem_cons hk] at h0
  rcases List.mem_cons.1 hy with rfl | hy
  · exact h1
  · have := (List.pairwise_cons.1 h0.2.1).1 y hy
    omega

set_option maxRecDepth 100000 in
set_option maxHeartbeats 4000000 in
theorem rIds_any {w : World} {lo n : Nat} {v : Value} {es : List Ev} (h : Evs w lo v n es) (hn : n ≤ 1000000) :
    Calls Try.prog 18 #[v] w fun o w' => ∃ A c os, o = .returned (.slice A (List.length os) c) ∧ Row w' w.heap.size 3 (.slice A os.length c) os.length (os.map vi) ∧ os.length ≤ n ∧ Up os (idsR es) ∧ Below w.heap.size w w' := by
  have HH := Lib.hid (h.base (Nat.zero_le _))
  have HN := Lib.hid h.len
  obtain ⟨A0, c0, rfl⟩ := h.slice
  clear h
  go_enter Try.func18, Try.ntmps18
  go_wp2
  go_loopw [3, 4] (fun o iv wr => ∃ (i j c g off : Nat) (os : List Int), o = .slice (some ⟨g, off, none⟩) j c ∧ iv = .int .i64 i ∧ i ≤ n ∧ j ≤ i ∧ Hid (Row wr w.heap.size 3 (.slice (some ⟨g, off, none⟩) j c) j (os.map vi)) ∧ Hid (Up os (idsR (es.take i))) ∧ Hid (Below w.heap.size w wr)) (fun _ iv _ => n - (intOf iv).toNat)
  case atStart => exact ⟨0, 0, 0, w.heap.size, 0, [], rfl, rfl, Nat.zero_le _, Nat.le_refl _, Lib.hid ⟨rfl, .inr ⟨w.heap.size, 0, 0, #[], rfl, Nat.le_refl _, heap_alloc_new w _, Nat.le_refl _, Nat.zero_le _, Nat.le_refl _, fun j u hj => by simp at hj⟩⟩, Lib.hid ⟨List.Pairwise.nil, fun x => by simp [idsR]⟩, Lib.hid ((Below.refl _ _).alloc (Nat.le_refl _) _)⟩
  case round =>
    obtain ⟨i, j, c, g, off, os, rfl, rfl, hi, hj, HO, HU, HB⟩ := hrel
    obtain ⟨wo, rfl⟩ : ∃ wo : World, wo = wr := ⟨_, rfl⟩
    have HL : Hid (os.length = j) := Lib.hid (by simpa using HO.out.1)
    by_cases hin : i < n
    · obtain ⟨gx, ox, A1, c1, hix, rfl, he, hh, ha⟩ := evs_at HH.out HB.out hin
      have HT := Lib.hid (idsR_more hix)
      generalize es[i]'hix = e at he HT
      have HEV := Lib.hid he
      obtain ⟨x, hx⟩ : ∃ x, e.id = x := ⟨_, rfl⟩
      obtain ⟨n1, hn1⟩ : ∃ n1, e.hs.length = n1 := ⟨_, rfl⟩
      clear hix hh ha hn1 he
      go_wp2
      go_loopw [5] (fun a wr2 => ∃ k q : Nat, a = .int .i64 k ∧ k ≤ j ∧ Hid (∀ y ∈ os.take k, y < x) ∧ Hid (wr2 = wo.drewN q)) (fun a _ => j - (intOf a).toNat)
      case atStart => exact ⟨0, 0, rfl, Nat.zero_le _, Lib.hid (fun y hy => by simp at hy), Lib.hid rfl⟩
      case round =>
        obtain ⟨k, q, rfl, hk, HSP, HW2⟩ := hrel
        have HBq : Hid (Below wo.heap.size wo wr) := by unfold Hid; rw [HW2.out]; exact below_drewN (Below.refl _ _) q
        have HBW := Lib.hid (below_then HB.out (Nat.le_refl _) HBq.out)
        have HO2 := Lib.hid (HO.out.below HBq.out (Nat.le_refl _))
        have he2 := HEV.out.below HBq.out
        have d0 := he2.c0
        have d1 := he2.c1
        rw [hx] at d1
        have HC1 := Lib.hid d1
        clear he2
        obtain ⟨hd1, hd2⟩ : j ≤ c ∧ c ≤ 4611686018427387904 * 2 := by
          rcases HO2.out.2 with ⟨h0, _⟩ | ⟨g', off', cap', cur', hv, _, _, hc1, hc2, _⟩
          · cases h0
          · injection hv with _ _ hv
            subst hv
            unfold maxLen at hc2
            omega
        obtain ⟨b, hb⟩ : ∃ b, (e.k == 6) = b := ⟨_, rfl⟩
        have HBK : Hid (decide (e.k = 6) = b) := by unfold Hid; rw [← hb]; rfl
        have hnb : (e.k != 6) = !b := by rw [← hb]; rfl
        have hdb : decide (e.k = 6) = b := HBK.out
        by_cases hk0 : k < j
        · have hmo : k < os.length := by rw [HL.out]; exact hk0
          obtain ⟨g', off', cap', hA, hcm, -, -⟩ := HO2.out.get (j := k) (by omega)
          injection hA with hA1 _ hA3
          injection hA1 with hA1
          injection hA1 with hA1 hA2
          subst hA1 hA2 hA3
          have hcm' : wr.cell? ⟨g, off + k, none⟩ = some (.int .i64 os[k]) := by simpa using hcm
          by_cases hc : os[k] < x
          · have HS2 := Lib.hid (up_take HU.out.1 hmo HSP.out hc)
            have hcb : decide (os[k] < x) = true := decide_eq_true hc
            generalize os[k]'hmo = y at hcm' hcb
            clear hcm hmo hc
            go_wp2
            go_quiet (fail)
            go_wp2
            go_roundw
            case rel => exact ⟨k + 1, _, by go_num, by omega, HS2, by unfold Hid; rw [HW2.out, World.drewN_drewN]⟩
            case measure => simp [intOf]; omega
          · have hcb : decide (os[k] < x) = false := decide_eq_false hc
            cases b
            · have HT2 : Hid (idsR (es.take (i + 1)) = idsR (es.take i) ++ [x]) := by unfold Hid; rw [HT.out, if_neg (of_decide_eq_false HBK.out), hx]
              by_cases hxy : os[k] = x
              · have HUP : Hid (Hid (Up os (idsR (es.take (i + 1))))) := Lib.hid (Lib.hid (by rw [HT2.out]; exact HU.out.keep (by rw [← hxy]; exact List.getElem_mem hmo)))
                have hxb : (os[k] == x) = true := by simpa using hxy
                have hxb2 : (os[k] != x) = false := by simp [hxy]
                have hxb3 : decide (os[k] = x) = true := by simp [hxy]
                have hkb : decide ((k : Int) = (j : Int)) = false := by simp; omega
                have hkb2 : ((k : Int) == (j : Int)) = false := by simp; omega
                have hkb3 : (k == j) = false := by simp; omega
                generalize os[k]'hmo = y at hcm' hcb hxb hxb2 hxb3
                clear hcm hmo hc hxy
                go_wp2
                go_quiet (fail)
                go_wp2
                go_quiet (fail)
                go_wp2
                go_roundw
                case rel => exact ⟨i + 1, j, c, g, off, os, rfl, by go_num, by omega, by omega, Lib.hid ((HO2.out.keep (fun k hk => rfl)).base (Nat.le_refl _)), HUP.out, Lib.hid (below_then HBW.out (Nat.le_refl _) (by first | exact Below.refl _ _ | exact below_drewN (Below.refl _ _) _ | exact below_drewN (below_drewN (Below.refl _ _) _) _))⟩
                case measure => simp [intOf]; omega
              · have HUP : Hid (Hid (Up (os.take k ++ x :: os.drop k) (idsR (es.take (i + 1))))) := Lib.hid (Lib.hid (by rw [HT2.out]; exact HU.out.put (by omega) HSP.out (up_drop HU.out.1 hmo (by omega))))
                have hxb : (os[k] == x) = false := by simpa using hxy
                have hxb2 : (os[k] != x) = true := by simp [hxy]
                have hxb3 : decide (os[k] = x) = false := by simp [hxy]
                have hkb : decide ((k : Int) = (j : Int)) = false := by simp; omega
                have hkb2 : ((k : Int) == (j : Int)) = false := by simp; omega
                have hkb3 : (k == j) = false := by simp; omega
                generalize os[k]'hmo = y at hcm' hcb hxb hxb2 hxb3
                clear hcm hmo hc hxy
                go_wp2
                go_quiet (fail)
                go_wp2
                go_quiet (fail)
                go_wp2
                generalize hgq : World.drewN wr _ = wq
                obtain ⟨q2, rfl⟩ : ∃ q2, wq = wr.drewN q2 := ⟨_, hgq.symm⟩
                clear hgq
                generalize hgq : World.drewN (World.drewN wr q2) _ = wq
                obtain ⟨q2, rfl⟩ : ∃ q3, wq = wr.drewN q3 := ⟨_, by rw [← hgq, World.drewN_drewN]⟩
                clear hgq
                obtain ⟨va1, wa1, va2, wa2, ga3, oa3, ca3, wa3, ra1, ra2, ra3, hxa, HEA⟩ := runs1 (p := k) HO2.out (by omega) (by omega) HC1.out (q2 + 1)
                obtain ⟨vb1, wb1, vb2, wb2, gb3, ob3, cb3, wb3, rb1, rb2, rb3, HEB⟩ := runs2 (p := k) (x := x) HO2.out (by omega) (by omega) (q2 + 1)
                obtain ⟨vc1, wc1, vc2, wc2, gc3, oc3, cc3, wc3, rc1, rc2, rc3, HEC⟩ := runs3 (p := k) (x := x) HO2.out (by omega) (by omega) (q2 + 1)
                have RA1 := Lib.hid ra1
                have RA2 := Lib.hid ra2
                have RB1 := Lib.hid rb1
                have RB2 := Lib.hid rb2
                have RC1 := Lib.hid rc1
                have RC2 := Lib.hid rc2
                have i1 : (0 : Int) ≤ (k : Int) := by omega
                have i2 : (k : Int) ≤ (j : Int) := by omega
                have i3 : (k : Int) ≤ (c : Int) := by omega
                have i4 : (j : Int) ≤ (c : Int) := by omega
                have i5 : (0 : Int) ≤ (i : Int) := by omega
                have i6 : (i : Int) < (n : Int) := by omega
                have hA0 : ((wr.drewN (q2 + 1)).alloc (.cells #[] 3)).cell? ⟨gx, ox + i * 9 + 1, none⟩ = some (.int .i64 x) := (World.cell?_alloc_lt (wr.drewN (q2 + 1)) (.cells #[] 3) ⟨gx, ox + i * 9 + 1, none⟩ (lt_of_cell (w := wr) HC1.out)).trans HC1.out
                clear ra1 ra2 rb1 rb2 rc1 rc2
                by_cases hcap : c = k
                · subst hcap
                  obtain rfl : j = c := by omega
                  rw [if_pos rfl, Nat.sub_self] at ra3 rb3 rc3
                  have RA3 := Lib.hid ra3
                  have RB3 := Lib.hid rb3
                  have RC3 := Lib.hid rc3
                  clear ra3 rb3 rc3
                  go_region_law (first | ((with_reducible refine step_append_run ?_ (.tmp 55) (.tmp 58) 37 ?_ _ _ _ _ ?_ ?_ RA1.out ?_); rfl; rfl; rfl; rfl) | ((with_reducible refine step_append_run ?_ (.tmp 55) (.tmp 58) 37 ?_ _ _ _ _ ?_ ?_ RB1.out ?_); rfl; rfl; rfl; rfl) | ((with_reducible refine step_append_run ?_ (.tmp 55) (.tmp 58) 37 ?_ _ _ _ _ ?_ ?_ RC1.out ?_); rfl; rfl; rfl; rfl) | ((with_reducible refine step_append_run ?_ (.tmp 59) (.tmp 65) 37 ?_ _ _ _ _ ?_ ?_ RA2.out ?_); rfl; rfl; rfl; rfl) | ((with_reducible refine step_append_run ?_ (.tmp 59) (.tmp 65) 37 ?_ _ _ _ _ ?_ ?_ RB2.out ?_); rfl; rfl; rfl; rfl) | ((with_reducible refine step_append_run ?_ (.tmp 59) (.tmp 65) 37 ?_ _ _ _ _ ?_ ?_ RC2.out ?_); rfl; rfl; rfl; rfl) | ((with_reducible refine step_append_run ?_ (.tmp 66) (.tmp 69) 37 ?_ _ _ _ _ ?_ ?_ RA3.out ?_); rfl; rfl; rfl; rfl) | ((with_reducible refine step_append_run ?_ (.tmp 66) (.tmp 69) 37 ?_ _ _ _ _ ?_ ?_ RB3.out ?_); rfl; rfl; rfl; rfl) | ((with_reducible refine step_append_run ?_ (.tmp 66) (.tmp 69) 37 ?_ _ _ _ _ ?_ ?_ RC3.out ?_); rfl; rfl; rfl; rfl))
                  all_goals go_wp2
                  all_goals (first | exact ⟨⟨i + 1, _, ca3, ga3, oa3, _, rfl, by go_num, by omega, by omega, Lib.hid (HEA.out.1.base HBW.out.size), HUP.out, Lib.hid (below_then HBW.out (Nat.le_refl _) HEA.out.2)⟩, by simp [intOf]; omega⟩ | exact ⟨⟨i + 1, _, cb3, gb3, ob3, _, rfl, by go_num, by omega, by omega, Lib.hid (HEB.out.1.base HBW.out.size), HUP.out, Lib.hid (below_then HBW.out (Nat.le_refl _) HEB.out.2)⟩, by simp [intOf]; omega⟩ | exact ⟨⟨i + 1, _, cc3, gc3, oc3, _, rfl, by go_num, by omega, by omega, Lib.hid (HEC.out.1.base HBW.out.size), HUP.out, Lib.hid (below_then HBW.out (Nat.le_refl _) HEC.out.2)⟩, by simp [intOf]; omega⟩)
                · rw [if_neg hcap] at ra3 rb3 rc3
                  have RA3 := Lib.hid ra3
                  have RB3 := Lib.hid rb3
                  have RC3 := Lib.hid rc3
                  clear ra3 rb3 rc3
                  go_region_law (first | ((with_reducible refine step_append_run ?_ (.tmp 55) (.tmp 58) 37 ?_ _ _ _ _ ?_ ?_ RA1.out ?_); rfl; rfl; rfl; rfl) | ((with_reducible refine step_append_run ?_ (.tmp 55) (.tmp 58) 37 ?_ _ _ _ _ ?_ ?_ RB1.out ?_); rfl; rfl; rfl; rfl) | ((with_reducible refine step_append_run ?_ (.tmp 55) (.tmp 58) 37 ?_ _ _ _ _ ?_ ?_ RC1.out ?_); rfl; rfl; rfl; rfl) | ((with_reducible refine step_append_run ?_ (.tmp 59) (.tmp 65) 37 ?_ _ _ _ _ ?_ ?_ RA2.out ?_); rfl; rfl; rfl; rfl) | ((with_reducible refine step_append_run ?_ (.tmp 59) (.tmp 65) 37 ?_ _ _ _ _ ?_ ?_ RB2.out ?_); rfl; rfl; rfl; rfl) | ((with_reducible refine step_append_run ?_ (.tmp 59) (.tmp 65) 37 ?_ _ _ _ _ ?_ ?_ RC2.out ?_); rfl; rfl; rfl; rfl) | ((with_reducible refine step_append_run ?_ (.tmp 66) (.tmp 69) 37 ?_ _ _ _ _ ?_ ?_ RA3.out ?_); rfl; rfl; rfl; rfl) | ((with_reducible refine step_append_run ?_ (.tmp 66) (.tmp 69) 37 ?_ _ _ _ _ ?_ ?_ RB3.out ?_); rfl; rfl; rfl; rfl) | ((with_reducible refine step_append_run ?_ (.tmp 66) (.tmp 69) 37 ?_ _ _ _ _ ?_ ?_ RC3.out ?_); rfl; rfl; rfl; rfl))
                  all_goals go_wp2
                  all_goals (first | exact ⟨⟨i + 1, _, ca3, ga3, oa3, _, rfl, by go_num, by omega, by omega, Lib.hid (HEA.out.1.base HBW.out.size), HUP.out, Lib.hid (below_then HBW.out (Nat.le_refl _) HEA.out.2)⟩, by simp [intOf]; omega⟩ | exact ⟨⟨i + 1, _, cb3, gb3, ob3, _, rfl, by go_num, by omega, by omega, Lib.hid (HEB.out.1.base HBW.out.size), HUP.out, Lib.hid (below_then HBW.out (Nat.le_refl _) HEB.out.2)⟩, by simp [intOf]; omega⟩ | exact ⟨⟨i + 1, _, cc3, gc3, oc3, _, rfl, by go_num, by omega, by omega, Lib.hid (HEC.out.1.base HBW.out.size), HUP.out, Lib.hid (below_then HBW.out (Nat.le_refl _) HEC.out.2)⟩, by simp [intOf]; omega⟩)
            · have HUP : Hid (Hid (Up os (idsR (es.take (i + 1))))) := Lib.hid (Lib.hid (by rw [HT.out, if_pos (of_decide_eq_true HBK.out), List.append_nil]; exact HU.out))
              generalize os[k]'hmo = y at hcm' hcb
              clear hcm hmo hc
              go_wp2
              go_quiet (fail)
              go_wp2
              go_quiet (fail)
              go_wp2
              go_roundw
              case rel => exact ⟨i + 1, j, c, g, off, os, rfl, by go_num, by omega, by omega, Lib.hid ((HO2.out.keep (fun k hk => rfl)).base (Nat.le_refl _)), HUP.out, Lib.hid (below_then HBW.out (Nat.le_refl _) (by first | exact Below.refl _ _ | exact below_drewN (Below.refl _ _) _ | exact below_drewN (below_drewN (Below.refl _ _) _) _))⟩
              case measure => simp [intOf]; omega
        · obtain rfl : k = j := by omega
          cases b
          · have HT2 : Hid (idsR (es.take (i + 1)) = idsR (es.take i) ++ [x]) := by unfold Hid; rw [HT.out, if_neg (of_decide_eq_false HBK.out), hx]
            have HUP : Hid (Hid (Up (os.take k ++ x :: os.drop k) (idsR (es.take (i + 1))))) := Lib.hid (Lib.hid (by rw [HT2.out]; exact HU.out.put (by rw [HL.out]; exact Nat.le_refl _) HSP.out (fun y hy => by rw [List.drop_of_length_le (by rw [HL.out]; exact Nat.le_refl _)] at hy; simp at hy)))
            go_wp2
            go_quiet (fail)
            go_wp2
            go_quiet (fail)
            go_wp2
            generalize hgq : World.drewN wr _ = wq
            obtain ⟨q2, rfl⟩ : ∃ q2, wq = wr.drewN q2 := ⟨_, hgq.symm⟩
            clear hgq
            generalize hgq : World.drewN (World.drewN wr q2) _ = wq
            obtain ⟨q2, rfl⟩ : ∃ q3, wq = wr.drewN q3 := ⟨_, by rw [← hgq, World.drewN_drewN]⟩
            clear hgq
            obtain ⟨va1, wa1, va2, wa2, ga3, oa3, ca3, wa3, ra1, ra2, ra3, hxa, HEA⟩ := runs1 (p := k) HO2.out (by omega) (by omega) HC1.out (q2 + 1)
            obtain ⟨vb1, wb1, vb2, wb2, gb3, ob3, cb3, wb3, rb1, rb2, rb3, HEB⟩ := runs2 (p := k) (x := x) HO2.out (by omega) (by omega) (q2 + 1)
            obtain ⟨vc1, wc1, vc2, wc2, gc3, oc3, cc3, wc3, rc1, rc2, rc3, HEC⟩ := runs3 (p := k) (x := x) HO2.out (by omega) (by omega) (q2 + 1)
            have RA1 := Lib.hid ra1
            have RA2 := Lib.hid ra2
            have RB1 := Lib.hid rb1
            have RB2 := Lib.hid rb2
            have RC1 := Lib.hid rc1
            have RC2 := Lib.hid rc2
            have i1 : (0 : Int) ≤ (k : Int) := by omega
            have i2 : (k : Int) ≤ (k : Int) := by omega
            have i3 : (k : Int) ≤ (c : Int) := by omega
            have i4 : (k : Int) ≤ (c : Int) := by omega
            have i5 : (0 : Int) ≤ (i : Int) := by omega
            have i6 : (i : Int) < (n : Int) := by omega
            have hA0 : ((wr.drewN (q2 + 1)).alloc (.cells #[] 3)).cell? ⟨gx, ox + i * 9 + 1, none⟩ = some (.int .i64 x) := (World.cell?_alloc_lt (wr.drewN (q2 + 1)) (.cells #[] 3) ⟨gx, ox + i * 9 + 1, none⟩ (lt_of_cell (w := wr) HC1.out)).trans HC1.out
            clear ra1 ra2 rb1 rb2 rc1 rc2
            by_cases hcap : c = k
            · subst hcap
              skip
              rw [if_pos rfl, Nat.sub_self] at ra3 rb3 rc3
              have RA3 := Lib.hid ra3
              have RB3 := Lib.hid rb3
              have RC3 := Lib.hid rc3
              clear ra3 rb3 rc3
              go_region_law (first | ((with_reducible refine step_append_run ?_ (.tmp 55) (.tmp 58) 37 ?_ _ _ _ _ ?_ ?_ RA1.out ?_); rfl; rfl; rfl; rfl) | ((with_reducible refine step_append_run ?_ (.tmp 55) (.tmp 58) 37 ?_ _ _ _ _ ?_ ?_ RB1.out ?_); rfl; rfl; rfl; rfl) | ((with_reducible refine step_append_run ?_ (.tmp 55) (.tmp 58) 37 ?_ _ _ _ _ ?_ ?_ RC1.out ?_); rfl; rfl; rfl; rfl) | ((with_reducible refine step_append_run ?_ (.tmp 59) (.tmp 65) 37 ?_ _ _ _ _ ?_ ?_ RA2.out ?_); rfl; rfl; rfl; rfl) | ((with_reducible refine step_append_run ?_ (.tmp 59) (.tmp 65) 37 ?_ _ _ _ _ ?_ ?_ RB2.out ?_); rfl; rfl; rfl; rfl) | ((with_reducible refine step_append_run ?_ (.tmp 59) (.tmp 65) 37 ?_ _ _ _ _ ?_ ?_ RC2.out ?_); rfl; rfl; rfl; rfl) | ((with_reducible refine step_append_run ?_ (.tmp 66) (.tmp 69) 37 ?_ _ _ _ _ ?_ ?_ RA3.out ?_); rfl; rfl; rfl; rfl) | ((with_reducible refine step_append_run ?_ (.tmp 66) (.tmp 69) 37 ?_ _ _ _ _ ?_ ?_ RB3.out ?_); rfl; rfl; rfl; rfl) | ((with_reducible refine step_append_run ?_ (.tmp 66) (.tmp 69) 37 ?_ _ _ _ _ ?_ ?_ RC3.out ?_); rfl; rfl; rfl; rfl))
              all_goals go_wp2
              all_goals (first | exact ⟨⟨i + 1, _, ca3, ga3, oa3, _, rfl, by go_num, by omega, by omega, Lib.hid (HEA.out.1.base HBW.out.size), HUP.out, Lib.hid (below_then HBW.out (Nat.le_refl _) HEA.out.2)⟩, by simp [intOf]; omega⟩ | exact ⟨⟨i + 1, _, cb3, gb3, ob3, _, rfl, by go_num, by omega, by omega, Lib.hid (HEB.out.1.base HBW.out.size), HUP.out, Lib.hid (below_then HBW.out (Nat.le_refl _) HEB.out.2)⟩, by simp [intOf]; omega⟩ | exact ⟨⟨i + 1, _, cc3, gc3, oc3, _, rfl, by go_num, by omega, by omega, Lib.hid (HEC.out.1.base HBW.out.size), HUP.out, Lib.hid (below_then HBW.out (Nat.le_refl _) HEC.out.2)⟩, by simp [intOf]; omega⟩)
            · rw [if_neg hcap, Nat.sub_self] at ra3 rb3 rc3
              have RA3 := Lib.hid ra3
              have RB3 := Lib.hid rb3
              have RC3 := Lib.hid rc3
              clear ra3 rb3 rc3
              go_region_law (first | ((with_reducible refine step_append_run ?_ (.tmp 55) (.tmp 58) 37 ?_ _ _ _ _ ?_ ?_ RA1.out ?_); rfl; rfl; rfl; rfl) | ((with_reducible refine step_append_run ?_ (.tmp 55) (.tmp 58) 37 ?_ _ _ _ _ ?_ ?_ RB1.out ?_); rfl; rfl; rfl; rfl) | ((with_reducible refine step_append_run ?_ (.tmp 55) (.tmp 58) 37 ?_ _ _ _ _ ?_ ?_ RC1.out ?_); rfl; rfl; rfl; rfl) | ((with_reducible refine step_append_run ?_ (.tmp 59) (.tmp 65) 37 ?_ _ _ _ _ ?_ ?_ RA2.out ?_); rfl; rfl; rfl; rfl) | ((with_reducible refine step_append_run ?_ (.tmp 59) (.tmp 65) 37 ?_ _ _ _ _ ?_ ?_ RB2.out ?_); rfl; rfl; rfl; rfl) | ((with_reducible refine step_append_run ?_ (.tmp 59) (.tmp 65) 37 ?_ _ _ _ _ ?_ ?_ RC2.out ?_); rfl; rfl; rfl; rfl) | ((with_reducible refine step_append_run ?_ (.tmp 66) (.tmp 69) 37 ?_ _ _ _ _ ?_ ?_ RA3.out ?_); rfl; rfl; rfl; rfl) | ((with_reducible refine step_append_run ?_ (.tmp 66) (.tmp 69) 37 ?_ _ _ _ _ ?_ ?_ RB3.out ?_); rfl; rfl; rfl; rfl) | ((with_reducible refine step_append_run ?_ (.tmp 66) (.tmp 69) 37 ?_ _ _ _ _ ?_ ?_ RC3.out ?_); rfl; rfl; rfl; rfl))
              all_goals go_wp2
              all_goals (first | exact ⟨⟨i + 1, _, ca3, ga3, oa3, _, rfl, by go_num, by omega, by omega, Lib.hid (HEA.out.1.base HBW.out.size), HUP.out, Lib.hid (below_then HBW.out (Nat.le_refl _) HEA.out.2)⟩, by simp [intOf]; omega⟩ | exact ⟨⟨i + 1, _, cb3, gb3, ob3, _, rfl, by go_num, by omega, by omega, Lib.hid (HEB.out.1.base HBW.out.size), HUP.out, Lib.hid (below_then HBW.out (Nat.le_refl _) HEB.out.2)⟩, by simp [intOf]; omega⟩ | exact ⟨⟨i + 1, _, cc3, gc3, oc3, _, rfl, by go_num, by omega, by omega, Lib.hid (HEC.out.1.base HBW.out.size), HUP.out, Lib.hid (below_then HBW.out (Nat.le_refl _) HEC.out.2)⟩, by simp [intOf]; omega⟩)
          · have HUP : Hid (Hid (Up os (idsR (es.take (i + 1))))) := Lib.hid (Lib.hid (by rw [HT.out, if_pos (of_decide_eq_true HBK.out), List.append_nil]; exact HU.out))
            go_wp2
            go_quiet (fail)
            go_wp2
            go_quiet (fail)
            go_wp2
            go_roundw
            case rel => exact ⟨i + 1, k, c, g, off, os, rfl, by go_num, by omega, by omega, Lib.hid ((HO2.out.keep (fun k hk => rfl)).base (Nat.le_refl _)), HUP.out, Lib.hid (below_then HBW.out (Nat.le_refl _) (by first | exact Below.refl _ _ | exact below_drewN (Below.refl _ _) _ | exact below_drewN (below_drewN (Below.refl _ _) _) _))⟩
            case measure => simp [intOf]; omega
    · obtain rfl : i = n := by omega
      go_wp2
      go_ret
      have HE : Hid (idsR (es.take i) = idsR es) := by unfold Hid; rw [List.take_of_length_le (by rw [HN.out]; exact Nat.le_refl _)]
      refine ⟨some ⟨g, off, none⟩, c, os, by rw [HL.out]; rfl, by rw [HL.out]; exact HO.out, by rw [HL.out]; exact hj, by rw [← HE.out]; exact HU.out, HB.out⟩
end Go.Proofs.Ytlalbfpdelfnfaa
