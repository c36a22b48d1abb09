/-
  Layer 41: how many bytes each that has a head was told, by the program. No condition but that the list is no longer than thirty, and the bodies are not long.
-/
import Derived.Test.YtkihgbglodfkmaaGreatMaps
namespace Go.Proofs.YtkihgbglodfkmaaGreat
open Go.RowKit Go.Maps Go.Sort
set_option linter.unusedVariables false

theorem own_rkI {w : World} {B n : Nat} {v : Value} {ks : List Int} (h : w.ownsRow B 3 1 v n (ks.map encZ)) : RkI w B v n ks := by
  refine ⟨by simpa using h.1, ?_⟩
  rcases h.2 with ⟨rfl, h0⟩ | ⟨g, cap, cur, rfl, hg, hb, hc1, hc2, hc3, hcur⟩
  · exact .inl ⟨rfl, h0⟩
  · refine .inr ⟨g, 0, cap, cur, rfl, hg, hb, hc1, hc2, by omega, fun j u hj => ?_⟩
    have hl : (ks.map encZ).length = n := by simpa using h.1
    have hjn : j < n := by
      rcases Nat.lt_or_ge j n with h | h
      · exact h
      · rw [List.getElem?_eq_none (show (ks.map vi).length ≤ j by rw [List.length_map]; rw [List.length_map] at hl; omega)] at hj
        cases hj
    rw [Nat.zero_add]
    have e : (ks.map encZ)[j]? = (cur.toList.take (n * 1))[j]? := congrArg (fun l => l[j]?) (show ks.map encZ = cur.toList.take (n * 1) from hcur.symm)
    rw [List.getElem?_take, if_pos (by omega)] at e
    rw [show (cur[j]? : Option Value) = cur.toList[j]? by simp, ← e]
    exact hj
theorem row_base2 {w : World} {B B' n : Nat} {e : TypeId} {v : Value} {xs : List Value} (h : Row w B e v n xs) (hb : B' ≤ B) : Row w B' e v n xs :=
  ⟨h.1, h.2.imp id fun ⟨g, off, cap, cur, hv, h1, rest⟩ => ⟨g, off, cap, cur, hv, Nat.le_trans hb h1, rest⟩⟩
theorem atKey_nil (k : Lit) (z : DataW Unit) : (DataW.map []).atKey k z = z := rfl

set_option maxRecDepth 100000 in
set_option maxHeartbeats 4000000 in
theorem Bodies_any {w : World} {lo n : Nat} {v : Value} {es : List Ou} (h : Os w lo v n es) (hn : n ≤ 30) (hbs : ∀ e ∈ es, e.body.size ≤ 40) (hw : ∀ e ∈ es, WfI e.id) :
    Calls Tryz.prog 5 #[v] w fun o w' => ∃ g ks, o = .returned (.pointer (some ⟨g, 0, none⟩)) ∧ Ser w' w.heap.size g (xsB ks es) ∧ ks.length ≤ n ∧ Up ks (idsH es) ∧ Below w.heap.size w w' := by
  have HH := Lib.hid (h.base (Nat.zero_le _))
  have HN := Lib.hid h.1
  have HBS := Lib.hid hbs
  have HWF := Lib.hid hw
  obtain ⟨A0, c0, rfl⟩ := h.slice
  have hmm := @run_makeMap Tryz.prog
  clear h hbs hw
  go_enter Tryz.func5, Tryz.ntmps5
  go_wp2
  clear hmm
  go_loopw [14] (fun iv wr => ∃ i : Nat, iv = .int .i64 i ∧ i ≤ n ∧ Hid (NMap wr w.heap.size i (es.take i)) ∧ Hid (HMap wr (w.heap.size + 1) i (es.take i)) ∧ Hid (Below w.heap.size w wr)) (fun iv _ => n - (intOf iv).toNat)
  case atStart =>
    refine ⟨0, rfl, Nat.zero_le _, Lib.hid ⟨.map [], (World.ownsMap_made w Tryz.prog 3 _).alloc _, fun id _ => rfl⟩, Lib.hid ⟨.map [], ?_, fun id _ => ?_⟩, Lib.hid (((Below.refl _ _).alloc (Nat.le_refl _) _).alloc (by simp) _)⟩
    · have := World.ownsMap_made (w.alloc (.map #[] 0)) Tryz.prog 3 (plainElem (H := Unit) Tryz.prog 4)
      rwa [World.size_alloc] at this
    · rfl
  case round =>
    obtain ⟨i, rfl, hi, HNM, HHM, HB⟩ := hrel
    by_cases hl : i < n
    · obtain ⟨g, off, hix, rfl, hc1, hc2, hg, he0⟩ := HH.out.get hl
      have he := OuAt.below he0 (HB.out.mono (Nat.le_refl _))
      clear he0
      unfold maxLen at hc2
      have HT : Hid (es.take (i + 1) = es.take i ++ [es[i]]) := List.take_succ_eq_append_getElem hix
      have HWE := Lib.hid (HWF.out _ (List.getElem_mem hix))
      have hbe := HBS.out _ (List.getElem_mem hix)
      have HSL := Lib.hid (fun id => sumOf_le id (es.take i) (fun e he => HBS.out e (List.mem_of_mem_take he)))
      generalize es[i]'hix = e at he HT hbe HWE
      have HZ := Lib.hid (OuRow.zero wr)
      obtain ⟨d0, d1, d2, d3, d4, d5⟩ := he
      have HLT : Hid (i ≤ 30 ∧ (es.take i).length ≤ 30) := by unfold Hid; rw [List.length_take]; omega
      clear hix hg
      obtain ⟨b1, hb1⟩ : ∃ b, (e.k == 1) = b := ⟨_, rfl⟩
      have HB1 : Hid (decide (e.k = 1) = b1) := by unfold Hid; rw [← hb1]; rfl
      cases b1
      · obtain ⟨b2, hb2⟩ : ∃ b, (e.k == 2) = b := ⟨_, rfl⟩
        have HB2 : Hid (decide (e.k = 2) = b2) := by unfold Hid; rw [← hb2]; rfl
        cases b2
        · go_wp2_with (first
            | (refine wpList_store_ou rfl (.tmp 6) (.tmp 17) rfl _ _ HZ.out e rfl rfl ?_; intro w2 hF hB hO; have HBW := Lib.hid (hB wr.heap.size wr ((Below.refl _ _).alloc (Nat.le_refl _) _) (Nat.le_refl _)); clear d0 d1 d2 d3 d4 d5; obtain ⟨x0, x1, x2, x3, x4, x5⟩ := hF.cells; clear hF hB hO))
          go_roundw
          case rel =>
            refine ⟨i + 1, by go_num, by omega, ?_, ?_, Lib.hid (below_then HB.out (Nat.le_refl _) HBW.out)⟩
            · unfold Hid
              rw [HT.out]
              exact ((HNM.out.keep (HBW.out.block _ HNM.out.lt)).skip (of_decide_eq_false HB2.out)).mono
            · unfold Hid
              rw [HT.out]
              exact ((HHM.out.keep (HBW.out.block _ HHM.out.lt)).skip (of_decide_eq_false HB1.out)).mono
          case measure => simp [intOf]; omega
        · go_wp2_with (first
            | (refine wpList_store_ou rfl (.tmp 6) (.tmp 17) rfl _ _ HZ.out e rfl rfl ?_; intro w2 hF hB hO; have HBW := Lib.hid (hB wr.heap.size wr ((Below.refl _ _).alloc (Nat.le_refl _) _) (Nat.le_refl _)); clear d0 d1 d2 d3 d4 d5; obtain ⟨x0, x1, x2, x3, x4, x5⟩ := hF.cells; clear hF hB hO
               have hN2 := HNM.out.keep (HBW.out.block _ HNM.out.lt)
               have hlook := hN2.look HWE.out
               have hsl := HSL.out e.id
               obtain ⟨w3, hrun, hN3, hg3⟩ := hN2.put (e := e) (by have := HLT.out; omega) (of_decide_eq_true HB2.out) HWE.out (by have := HLT.out; omega)
               have HN3 := Lib.hid hN3
               have HG3 := Lib.hid hg3
               have hs3 : sumOf e.id (es.take i) ≤ 1200 := by have := HLT.out; omega
               generalize sumOf e.id (es.take i) = s at hlook hrun hs3
               obtain ⟨L, hL⟩ : ∃ L, e.body.size = L := ⟨_, rfl⟩
               rw [hL] at hrun hbe
               clear hN2 hN3 hg3 hsl))
          go_roundw
          case rel =>
            refine ⟨i + 1, by go_num, by omega, ?_, ?_, Lib.hid ((below_then HB.out (Nat.le_refl _) HBW.out).grown HG3.out (Nat.le_trans HB.out.size HBW.out.size) fun b hb => by cases hb; exact Nat.le_refl _)⟩
            · unfold Hid
              rw [HT.out]
              exact HN3.out
            · unfold Hid
              rw [HT.out]
              refine ((HHM.out.keep ?_).skip (of_decide_eq_false HB1.out)).mono
              have hlt := HHM.out.lt
              exact (HG3.out.block _ (Nat.lt_of_lt_of_le hlt HBW.out.size) (by simp)).trans (HBW.out.block _ hlt)
          case measure => simp [intOf]; omega
      · have hk2 : (e.k == 2) = false := by
          have := of_decide_eq_true HB1.out
          rw [this]
          rfl
        have HB2 : Hid (¬ e.k = 2) := by unfold Hid; rw [of_decide_eq_true HB1.out]; decide
        go_wp2_with (first
            | (refine wpList_store_ou rfl (.tmp 6) (.tmp 17) rfl _ _ HZ.out e rfl rfl ?_; intro w2 hF hB hO; have HBW := Lib.hid (hB wr.heap.size wr ((Below.refl _ _).alloc (Nat.le_refl _) _) (Nat.le_refl _)); clear d0 d1 d2 d3 d4 d5; obtain ⟨x0, x1, x2, x3, x4, x5⟩ := hF.cells; clear hF hB hO
               obtain ⟨w3, hrun, hN3, hg3⟩ := (HHM.out.keep (HBW.out.block _ HHM.out.lt)).put (e := e) (by have := HLT.out; omega) (of_decide_eq_true HB1.out) HWE.out
               have HN3 := Lib.hid hN3
               have HG3 := Lib.hid hg3
               clear hN3 hg3))
        go_roundw
        case rel =>
          refine ⟨i + 1, by go_num, by omega, ?_, ?_, Lib.hid ((below_then HB.out (Nat.le_refl _) HBW.out).grown HG3.out (Nat.le_trans HB.out.size HBW.out.size) fun b hb => by cases hb; exact Nat.le_succ _)⟩
          · unfold Hid
            rw [HT.out]
            refine ((HNM.out.keep ?_).skip HB2.out).mono
            have hlt := HNM.out.lt
            exact (HG3.out.block _ (Nat.lt_of_lt_of_le hlt HBW.out.size) (by simp)).trans (HBW.out.block _ hlt)
          · unfold Hid
            rw [HT.out]
            exact HN3.out
        case measure => simp [intOf]; omega
    · obtain rfl : i = n := by omega
      have HE : Hid (es.take i = es) := by unfold Hid; rw [List.take_of_length_le (by rw [HN.out]; exact Nat.le_refl _)]
      rw [HE.out] at HNM HHM
      have H1 := Lib.hid (New_any wr)
      go_wp2_with fail
      refine H1.out.mono ?_
      rintro o w1 ⟨rfl, hs, hb⟩
      have HS1 := Lib.hid hs
      have HB1 := Lib.hid hb
      have HN1 := Lib.hid (HNM.out.keep (hb.block _ HNM.out.lt))
      have hH1 := HHM.out.keep (hb.block _ HHM.out.lt)
      obtain ⟨D, ho, ha⟩ := hH1.ex
      have HHAS := Lib.hid (fun (ss : List Int) (hp : ss.Perm (intKeys D)) => HMap.sorted ho ha HWF.out hp)
      have hsz := ho.size_le
      have HKL := Lib.hid (fun (ss : List Int) (hp : ss.Perm (intKeys D)) => show ss.length ≤ i by
        rw [hp.length_eq]
        obtain ⟨es1, rfl, _⟩ := ho.keysOf
        rw [Maps.size_eq] at hsz
        show (es1.map _).length ≤ i
        rw [List.length_map]
        exact hsz)
      have HK := Lib.hid (callsIn_wide.1 (Tryz.keysI_in 6 (some (w.heap.size + 1)) w1))
      have HSO := Lib.hid (callsIn_wide.1 (Tryz.sortedI_keys (w.heap.size + 1) i D (plainElem Tryz.prog 4) w1 ho (by unfold maxLen; omega) (by omega)))
      clear hs hb hH1 ho ha hsz
      go_wp2_with (first
        | (go_at_call 23; refine HK.out.mono ?_; rintro o w2 ⟨rfl, rfl⟩)
        | (go_at_call 22; refine HSO.out.mono ?_; rintro o w3 ⟨vv, ss, rfl, hp, hrow, hnil, hb⟩; obtain ⟨ks, hks⟩ : ∃ ks, (ss.mergeSort fun x y => decide (x ≤ y)) = ks := ⟨_, rfl⟩; have hup := HHAS.out _ hp; have hkl := HKL.out _ hp; rw [hks] at hup hrow; obtain ⟨m, hm⟩ : ∃ m, ss.length = m := ⟨_, rfl⟩; rw [hm] at hrow hkl; have HRK := Lib.hid (own_rkI hrow); have HUP := Lib.hid hup; obtain ⟨A2, c2, rfl⟩ := HRK.out.slice; have HB3 := Lib.hid (((Below.refl w1.heap.size w1).alloc (Nat.le_refl _) _).trans (hb.mono (by simp))); clear hp hrow hnil hb hks hup hm))
      have HML : Hid (ks.length = m) := Lib.hid HRK.out.len
      have HBW : Hid (Below w.heap.size w w3) := Lib.hid (below_then (below_then HB.out (Nat.le_refl _) HB1.out) (Nat.le_refl _) HB3.out)
      have HN3 := Lib.hid (HN1.out.keep (HB3.out.block _ HN1.out.lt))
      have HS3 := Lib.hid (HS1.out.below HB3.out)
      have HWZ : Hid (w.heap.size ≤ wr.heap.size ∧ wr.heap.size ≤ w3.heap.size ∧ w.heap.size < wr.heap.size) := by unfold Hid; have := HB1.out.size; have := HB3.out.size; have := HB.out.size; have := HNM.out.lt; omega
      have HRK' : Hid (RkI w3 0 (.slice A2 m c2) m ks) := Lib.hid (HRK.out.base (Nat.zero_le _))
      have HKW : Hid (∀ x ∈ ks, WfI x) := by
        unfold Hid
        intro x hx
        have := (HUP.out.2 x).1 hx
        unfold idsH at this
        obtain ⟨e, he, rfl⟩ := List.mem_map.1 this
        exact HWF.out e (List.mem_filter.1 he).1
      have hm30 : m ≤ 30 := by omega
      have HMI : Hid (m ≤ i) := hkl
      obtain ⟨sg, hsg⟩ : ∃ sg, wr.heap.size = sg := ⟨_, rfl⟩
      rw [hsg] at HS3 HWZ ⊢
      clear HK HSO HHAS HKL HRK H1 HS1 HB1 HB3 HN1 HNM HHM HB hkl hsg
      go_loopw [41] (fun iv wx => ∃ k : Nat, iv = .int .i64 k ∧ k ≤ m ∧ Hid (Ser wx sg sg (xsB (ks.take k) es)) ∧ Hid (RkI wx 0 (.slice A2 m c2) m ks) ∧ Hid (NMap wx w.heap.size i es) ∧ Hid (Below w.heap.size w wx) ∧ Hid (sg ≤ wx.heap.size)) (fun iv _ => m - (intOf iv).toNat)
      case atStart => exact ⟨0, rfl, Nat.zero_le _, HS3, HRK', HN3, HBW, HWZ.out.2.1⟩
      case round =>
        clear HS3 HRK' HN3 HBW
        obtain ⟨k, rfl, hk, HS, HRK, HNM, HB, HSG⟩ := hrel
        by_cases hkm : k < m
        · obtain ⟨g, off, rfl⟩ := Rk.addr HRK.out (by omega)
          obtain ⟨hc1, hc2⟩ := HRK.out.caps
          obtain ⟨hmo, hcm⟩ := HRK.out.get hkm
          have HT := Lib.hid (xsB_more (es := es) hmo)
          have hlook := HNM.out.look (HKW.out _ (List.getElem_mem hmo))
          have HSL : Hid (sumOf ks[k] es ≤ 1200) := by unfold Hid; have := sumOf_le ks[k] es HBS.out; have := HN.out; omega
          generalize ks[k]'hmo = x at hcm HT hlook HSL
          obtain ⟨s, hs⟩ : ∃ s, sumOf x es = s := ⟨_, rfl⟩
          rw [hs] at HT hlook HSL
          obtain ⟨f, hf⟩ : ∃ f, floatOfInt .f64 (s : Nat) = f := ⟨_, rfl⟩
          rw [hf] at HT
          have HA := Lib.hid (Add_room2 HS.out f (by rw [xsB_len, List.length_take]; omega) HSG.out)
          clear hmo hs
          go_wp2_with (go_at_call 24; refine HA.out.mono ?_; rintro o w2 ⟨rfl, hs2, hb2, hk2⟩; have HS2 := Lib.hid hs2; have HB2 := Lib.hid hb2; have HK2 := Lib.hid hk2; clear hs2 hb2 hk2)
          go_roundw
          case rel =>
            refine ⟨k + 1, by go_num, by omega, ?_, ?_, ?_, Lib.hid (HB.out.trans (HB2.out.mono HWZ.out.1)), Nat.le_trans HSG.out HB2.out.size⟩
            · unfold Hid
              rw [HT.out]
              exact HS2.out
            · refine Rk.keep HRK.out fun j hj => ?_
              obtain ⟨_, cs, mm, hc⟩ : 0 ≤ j ∧ ∃ cs mm, wr.heap[j]? = some (.cells cs 3 mm) := by
                rcases HRK.out.2 with ⟨h0, _⟩ | ⟨g1, o1, cap1, cur1, hv, _, hb, _⟩
                · cases h0
                · cases hv
                  simp [Value.ownBlock] at hj
                  subst hj
                  exact ⟨Nat.zero_le _, _, _, hb⟩
              rw [hc]
              exact HK2.out j _ hc (fun cs m h => by cases h) (fun cs m h => by cases h)
            · refine HNM.out.keep ?_
              exact HB2.out.block _ HWZ.out.2.2
          case measure => simp [intOf]; omega
        · obtain rfl : k = m := by omega
          have HE2 : Hid (ks.take k = ks) := by unfold Hid; rw [List.take_of_length_le (by rw [HML.out]; exact Nat.le_refl _)]
          rw [HE2.out] at HS
          go_wp2
          go_ret
          exact ⟨sg, ks, rfl, ⟨HWZ.out.1, HS.out.few, by obtain ⟨_, _, A, cap, h1, h2⟩ := HS.out; exact ⟨A, cap, h1, row_base2 h2 HWZ.out.1⟩⟩, by rw [HML.out]; exact HMI.out, HUP.out, HB.out⟩
end Go.Proofs.YtkihgbglodfkmaaGreat
