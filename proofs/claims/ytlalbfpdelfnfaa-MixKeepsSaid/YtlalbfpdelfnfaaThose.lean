/-
  Layer 43 (mix): what of any events is told of, by the program: Part, Without, Shift. No condition but that what comes in lies in memory.
-/
import Derived.Test.YtlalbfpdelfnfaaPush
namespace Go.Proofs.Ytlalbfpdelfnfaa
open Go.RowKit
set_option linter.unusedVariables false

theorem below_of {w w' : World} {B : Nat} (h : Below B w w') : (∀ b o, b < B → w'.cell? ⟨b, o, none⟩ = w.cell? ⟨b, o, none⟩) := fun b o hb => h.cell (p := ⟨b, o, none⟩) hb
theorem part1_any {w : World} {e : Ev} {A : Option Addr} {n c g : Nat} {id : Int} (h : w.cell? ⟨g, 0, none⟩ = some (.int .i64 id)) :
    Calls Try.prog 29 #[evv e (.slice A n c), .pointer (some ⟨g, 0, none⟩)] w fun o w' => o = .returned (.bool (decide (e.id = id) || decide (e.k = 6))) ∧ Below w.heap.size w w' := by
  have hg := lt_of_cell h
  change Calls Try.prog 29 #[.agg #[.int .i64 e.k, .int .i64 e.id, .string e.url, .string e.frm, .string e.mode, .int .i64 e.med, .int .i64 e.st, .slice A n c, .string e.body], .pointer (some ⟨g, 0, none⟩)] w _
  have h' : (w.alloc (.cells #[.int .i64 e.k, .int .i64 e.id, .string e.url, .string e.frm, .string e.mode, .int .i64 e.med, .int .i64 e.st, .slice A n c, .string e.body] 32)).cell? ⟨g, 0, none⟩ = some (.int .i64 id) := (((Below.refl _ w).alloc (Nat.le_refl _) _).cell (p := ⟨g, 0, none⟩) hg).trans h
  by_cases hid : e.id = id
  · have HID := Lib.hid hid
    have hid' : (e.id == id) = true := by simpa using hid
    clear hid hg h
    go_enter Try.func29, Try.ntmps29
    go_wp2
    go_ret
    exact ⟨ret_bool (by simp [HID.out]), (Below.refl _ _).alloc (Nat.le_refl _) _⟩
  · have HID := Lib.hid hid
    have hid' : (e.id == id) = false := by simpa using hid
    clear hid hg h
    obtain ⟨b, hb⟩ : ∃ b, (e.k == 6) = b := ⟨_, rfl⟩
    have HBK : Hid (decide (e.k = 6) = b) := by unfold Hid; rw [← hb]; rfl
    cases b
    all_goals
      go_enter Try.func29, Try.ntmps29
      go_wp2
      go_ret
      exact ⟨ret_bool (by rw [HBK.out]; simp [HID.out]), (Below.refl _ _).alloc (Nat.le_refl _) _⟩
theorem without1_any {w : World} {e : Ev} {A : Option Addr} {n c g : Nat} {k : Int} (h : w.cell? ⟨g, 0, none⟩ = some (.int .i64 k)) :
    Calls Try.prog 39 #[evv e (.slice A n c), .pointer (some ⟨g, 0, none⟩)] w fun o w' => o = .returned (.bool (!decide (e.k = k))) ∧ Below w.heap.size w w' := by
  have hg := lt_of_cell h
  change Calls Try.prog 39 #[.agg #[.int .i64 e.k, .int .i64 e.id, .string e.url, .string e.frm, .string e.mode, .int .i64 e.med, .int .i64 e.st, .slice A n c, .string e.body], .pointer (some ⟨g, 0, none⟩)] w _
  have h' : (w.alloc (.cells #[.int .i64 e.k, .int .i64 e.id, .string e.url, .string e.frm, .string e.mode, .int .i64 e.med, .int .i64 e.st, .slice A n c, .string e.body] 32)).cell? ⟨g, 0, none⟩ = some (.int .i64 k) := (((Below.refl _ w).alloc (Nat.le_refl _) _).cell (p := ⟨g, 0, none⟩) hg).trans h
  obtain ⟨b, hb⟩ : ∃ b, (e.k == k) = b := ⟨_, rfl⟩
  have HBK : Hid (decide (e.k = k) = b) := by unfold Hid; rw [← hb]; rfl
  have hn : (e.k != k) = !b := by rw [← hb]; rfl
  clear hg h
  cases b
  all_goals
    go_enter Try.func39, Try.ntmps39
    go_wp2
    go_ret
    exact ⟨ret_bool (by rw [HBK.out]; simp), (Below.refl _ _).alloc (Nat.le_refl _) _⟩
/-- What stands between two rounds. -/
theorem hds_more {w w' : World} {lo n1 c1 : Nat} {A1 : Option Addr} {hs : List (ByteArray × ByteArray)} (h : Hds w lo (.slice A1 n1 c1) hs) (hb : Below w.heap.size w w') : Hdr w' lo (.slice A1 n1 c1) hs := (h.below hb).1

set_option maxRecDepth 100000 in
set_option maxHeartbeats 2000000 in
theorem those29_any {w : World} {lo n : Nat} {v cap : Value} {es : List Ev} (pd : Ev → Bool) (h : Evs w lo v n es) (hn : n ≤ 1000000) (hfew : ∀ e ∈ es, e.hs.length ≤ 1000000)
    (hP : ∀ W (e : Ev) A n c, Below w.heap.size w W → Calls Try.prog 29 #[evv e (.slice A n c), cap] W fun o w' => o = .returned (.bool (pd e)) ∧ Below W.heap.size W w') :
    Calls Try.prog 28 #[v, .func (.func 29) #[] #[cap]] w (Made_ w w.heap.size (es.filter pd)) := by
  have HH := Lib.hid (h.base (Nat.zero_le _))
  have HN := Lib.hid h.len
  have HF := Lib.hid hfew
  have HPD := Lib.hid hP
  obtain ⟨A0, c0, rfl⟩ := h.slice
  clear h hfew hP
  go_enter Try.func28, Try.ntmps28
  go_wp2
  go_loopw [5, 10] (fun o iv wr => ∃ (i j c : Nat) (A : Option Addr), o = .slice A j c ∧ iv = .int .i64 i ∧ i ≤ n ∧ j ≤ i ∧ Hid (Outs wr w.heap.size w.heap.size (.slice A j c) j ((es.take i).filter pd)) ∧ Hid (Below w.heap.size w wr)) (fun _ iv _ => n - (intOf iv).toNat)
  case atStart => exact ⟨0, 0, 0, none, rfl, rfl, Nat.zero_le _, Nat.le_refl _, Lib.hid (Outs.nil_ w _ _), Lib.hid (Below.refl _ _)⟩
  case round =>
    obtain ⟨i, j, c, A, rfl, rfl, hi, hj, HO, HB⟩ := hrel
    by_cases hl : i < n
    · obtain ⟨g, off, A1, c1, hix, rfl, he, hh, ha⟩ := evs_at HH.out HB.out hl
      have HT : Hid ((es.take (i + 1)).filter pd = (es.take i).filter pd ++ if pd es[i] = true then [es[i]] else []) := by
        unfold Hid
        rw [List.take_succ_eq_append_getElem hix, List.filter_append]
        by_cases h : pd es[i] = true <;> simp [h]
      have HFE := Lib.hid (HF.out _ (List.getElem_mem hix))
      have HHD := Lib.hid hh
      have hj1 : j + 1 ≤ 1000000000 := by omega
      have HJ := Lib.hid hj1
      generalize es[i]'hix = e at he HT HFE HHD
      have HZ := Lib.hid (EvRow.zero wr)
      obtain ⟨d0, d1, d2, d3, d4, d5, d6, d7, d8⟩ := he
      obtain ⟨n1, hn1⟩ : ∃ n1, e.hs.length = n1 := ⟨_, rfl⟩
      rw [hn1] at d7 HHD
      clear hix hh ha hn1 hj1
      obtain ⟨b, hb⟩ : ∃ b, pd e = b := ⟨_, rfl⟩
      have HB0 := Lib.hid hb
      clear hb
      cases b
      · go_wp2_with (first
          | (refine wpList_store_ev rfl (.tmp 7) (.tmp 13) rfl _ _ _ HZ.out e _ rfl rfl rfl ?_; intro w2 hF hB hO; have HR := Lib.hid hF; have HB2 := Lib.hid (hB wr.heap.size wr ((Below.refl _ _).alloc (Nat.le_refl _) _) (Nat.le_refl _)); clear d0 d1 d2 d3 d4 d5 d6 d7 d8; obtain ⟨x0, x1, x2, x3, x4, x5, x6, x7, x8⟩ := hF.cells; clear hF hB hO)
          | (go_at_call 29; refine (HPD.out _ e _ _ _ (HB.out.trans (HB2.out.mono HB.out.size))).mono ?_; rintro o w3 ⟨rfl, hb3⟩; rw [HB0.out]; have HB3 := Lib.hid hb3; clear hb3 x0 x1 x2 x3 x4 x5 x6 x7 x8))
        go_roundw
        case rel =>
          have hbb : Below wr.heap.size wr w3 := HB2.out.trans (HB3.out.mono HB2.out.size)
          refine ⟨i + 1, j, c, A, rfl, by go_num, by omega, by omega, ?_, Lib.hid (below_then HB.out (Nat.le_refl _) (hbb.mono (Nat.le_refl _)))⟩
          unfold Hid
          rw [HT.out, HB0.out, if_neg (by decide), List.append_nil]
          exact HO.out.below hbb
        case measure => simp [intOf]; omega
      · go_wp2_with (first
          | (refine wpList_store_ev rfl (.tmp 7) (.tmp 13) rfl _ _ _ HZ.out e _ rfl rfl rfl ?_; intro w2 hF hB hO; have HR := Lib.hid hF; have HB2 := Lib.hid (hB wr.heap.size wr ((Below.refl _ _).alloc (Nat.le_refl _) _) (Nat.le_refl _)); clear d0 d1 d2 d3 d4 d5 d6 d7 d8; obtain ⟨x0, x1, x2, x3, x4, x5, x6, x7, x8⟩ := hF.cells; clear hF hB hO)
          | (go_at_call 29; refine (HPD.out _ e _ _ _ (HB.out.trans (HB2.out.mono HB.out.size))).mono ?_; rintro o w3 ⟨rfl, hb3⟩; rw [HB0.out]; have HR3 := Lib.hid (HR.out.below hb3); have HB3 := Lib.hid (HB2.out.trans (hb3.mono HB2.out.size)); clear hb3 x0 x1 x2 x3 x4 x5 x6 x7 x8; obtain ⟨x0, x1, x2, x3, x4, x5, x6, x7, x8⟩ := HR3.out.cells)
          | (go_at_call 26; refine (own_any (hds_more HHD.out HB3.out) HFE.out).mono ?_; rintro o w4 ⟨hv', rfl, hh, hb4⟩; obtain ⟨A2, c2, rfl⟩ := hh.slice; have HB4 := Lib.hid (HB3.out.trans (hb4.mono HB3.out.size)); have HW4 := Lib.hid (Nat.le_trans HB.out.size HB4.out.size); have HP := Lib.hid (Pushing.mk' (HO.out.below HB4.out) (hh.base (Nat.le_trans HB.out.size HB3.out.size)).hds (hh.apart _) HW4.out HJ.out); clear hh hb4 x0 x1 x2 x3 x4 x5 x6 x7 x8)
          | (at_builtin; refine wpList_push rfl (.tmp 17) (.tmp 20) rfl HP.out rfl rfl ?_; intro A' c' w5 ho hb; have HO5 := Lib.hid ho; have HB5 := Lib.hid hb; clear ho hb))
        go_roundw
        case rel =>
          refine ⟨i + 1, j + 1, c', A', rfl, by go_num, by omega, by omega, ?_, Lib.hid ((HB.out.trans (HB4.out.mono HB.out.size)).trans HB5.out)⟩
          unfold Hid
          rw [HT.out, HB0.out, if_pos rfl]
          exact HO5.out
        case measure => simp [intOf]; omega
    · obtain rfl : i = n := by omega
      have HE : Hid ((es.take i).filter pd = es.filter pd) := by unfold Hid; rw [List.take_of_length_le (by rw [HN.out]; exact Nat.le_refl _)]
      rw [HE.out] at HO
      go_wp2
      go_ret
      exact Made_.mk' HO.out (Nat.le_refl _) HB.out

set_option maxRecDepth 100000 in
set_option maxHeartbeats 2000000 in
theorem those39_any {w : World} {lo n : Nat} {v cap : Value} {es : List Ev} (pd : Ev → Bool) (h : Evs w lo v n es) (hn : n ≤ 1000000) (hfew : ∀ e ∈ es, e.hs.length ≤ 1000000)
    (hP : ∀ W (e : Ev) A n c, Below w.heap.size w W → Calls Try.prog 39 #[evv e (.slice A n c), cap] W fun o w' => o = .returned (.bool (pd e)) ∧ Below W.heap.size W w') :
    Calls Try.prog 28 #[v, .func (.func 39) #[] #[cap]] w (Made_ w w.heap.size (es.filter pd)) := by
  have HH := Lib.hid (h.base (Nat.zero_le _))
  have HN := Lib.hid h.len
  have HF := Lib.hid hfew
  have HPD := Lib.hid hP
  obtain ⟨A0, c0, rfl⟩ := h.slice
  clear h hfew hP
  go_enter Try.func28, Try.ntmps28
  go_wp2
  go_loopw [5, 10] (fun o iv wr => ∃ (i j c : Nat) (A : Option Addr), o = .slice A j c ∧ iv = .int .i64 i ∧ i ≤ n ∧ j ≤ i ∧ Hid (Outs wr w.heap.size w.heap.size (.slice A j c) j ((es.take i).filter pd)) ∧ Hid (Below w.heap.size w wr)) (fun _ iv _ => n - (intOf iv).toNat)
  case atStart => exact ⟨0, 0, 0, none, rfl, rfl, Nat.zero_le _, Nat.le_refl _, Lib.hid (Outs.nil_ w _ _), Lib.hid (Below.refl _ _)⟩
  case round =>
    obtain ⟨i, j, c, A, rfl, rfl, hi, hj, HO, HB⟩ := hrel
    by_cases hl : i < n
    · obtain ⟨g, off, A1, c1, hix, rfl, he, hh, ha⟩ := evs_at HH.out HB.out hl
      have HT : Hid ((es.take (i + 1)).filter pd = (es.take i).filter pd ++ if pd es[i] = true then [es[i]] else []) := by
        unfold Hid
        rw [List.take_succ_eq_append_getElem hix, List.filter_append]
        by_cases h : pd es[i] = true <;> simp [h]
      have HFE := Lib.hid (HF.out _ (List.getElem_mem hix))
      have HHD := Lib.hid hh
      have hj1 : j + 1 ≤ 1000000000 := by omega
      have HJ := Lib.hid hj1
      generalize es[i]'hix = e at he HT HFE HHD
      have HZ := Lib.hid (EvRow.zero wr)
      obtain ⟨d0, d1, d2, d3, d4, d5, d6, d7, d8⟩ := he
      obtain ⟨n1, hn1⟩ : ∃ n1, e.hs.length = n1 := ⟨_, rfl⟩
      rw [hn1] at d7 HHD
      clear hix hh ha hn1 hj1
      obtain ⟨b, hb⟩ : ∃ b, pd e = b := ⟨_, rfl⟩
      have HB0 := Lib.hid hb
      clear hb
      cases b
      · go_wp2_with (first
          | (refine wpList_store_ev rfl (.tmp 7) (.tmp 13) rfl _ _ _ HZ.out e _ rfl rfl rfl ?_; intro w2 hF hB hO; have HR := Lib.hid hF; have HB2 := Lib.hid (hB wr.heap.size wr ((Below.refl _ _).alloc (Nat.le_refl _) _) (Nat.le_refl _)); clear d0 d1 d2 d3 d4 d5 d6 d7 d8; obtain ⟨x0, x1, x2, x3, x4, x5, x6, x7, x8⟩ := hF.cells; clear hF hB hO)
          | (go_at_call 39; refine (HPD.out _ e _ _ _ (HB.out.trans (HB2.out.mono HB.out.size))).mono ?_; rintro o w3 ⟨rfl, hb3⟩; rw [HB0.out]; have HB3 := Lib.hid hb3; clear hb3 x0 x1 x2 x3 x4 x5 x6 x7 x8))
        go_roundw
        case rel =>
          have hbb : Below wr.heap.size wr w3 := HB2.out.trans (HB3.out.mono HB2.out.size)
          refine ⟨i + 1, j, c, A, rfl, by go_num, by omega, by omega, ?_, Lib.hid (below_then HB.out (Nat.le_refl _) (hbb.mono (Nat.le_refl _)))⟩
          unfold Hid
          rw [HT.out, HB0.out, if_neg (by decide), List.append_nil]
          exact HO.out.below hbb
        case measure => simp [intOf]; omega
      · go_wp2_with (first
          | (refine wpList_store_ev rfl (.tmp 7) (.tmp 13) rfl _ _ _ HZ.out e _ rfl rfl rfl ?_; intro w2 hF hB hO; have HR := Lib.hid hF; have HB2 := Lib.hid (hB wr.heap.size wr ((Below.refl _ _).alloc (Nat.le_refl _) _) (Nat.le_refl _)); clear d0 d1 d2 d3 d4 d5 d6 d7 d8; obtain ⟨x0, x1, x2, x3, x4, x5, x6, x7, x8⟩ := hF.cells; clear hF hB hO)
          | (go_at_call 39; refine (HPD.out _ e _ _ _ (HB.out.trans (HB2.out.mono HB.out.size))).mono ?_; rintro o w3 ⟨rfl, hb3⟩; rw [HB0.out]; have HR3 := Lib.hid (HR.out.below hb3); have HB3 := Lib.hid (HB2.out.trans (hb3.mono HB2.out.size)); clear hb3 x0 x1 x2 x3 x4 x5 x6 x7 x8; obtain ⟨x0, x1, x2, x3, x4, x5, x6, x7, x8⟩ := HR3.out.cells)
          | (go_at_call 26; refine (own_any (hds_more HHD.out HB3.out) HFE.out).mono ?_; rintro o w4 ⟨hv', rfl, hh, hb4⟩; obtain ⟨A2, c2, rfl⟩ := hh.slice; have HB4 := Lib.hid (HB3.out.trans (hb4.mono HB3.out.size)); have HW4 := Lib.hid (Nat.le_trans HB.out.size HB4.out.size); have HP := Lib.hid (Pushing.mk' (HO.out.below HB4.out) (hh.base (Nat.le_trans HB.out.size HB3.out.size)).hds (hh.apart _) HW4.out HJ.out); clear hh hb4 x0 x1 x2 x3 x4 x5 x6 x7 x8)
          | (at_builtin; refine wpList_push rfl (.tmp 17) (.tmp 20) rfl HP.out rfl rfl ?_; intro A' c' w5 ho hb; have HO5 := Lib.hid ho; have HB5 := Lib.hid hb; clear ho hb))
        go_roundw
        case rel =>
          refine ⟨i + 1, j + 1, c', A', rfl, by go_num, by omega, by omega, ?_, Lib.hid ((HB.out.trans (HB4.out.mono HB.out.size)).trans HB5.out)⟩
          unfold Hid
          rw [HT.out, HB0.out, if_pos rfl]
          exact HO5.out
        case measure => simp [intOf]; omega
    · obtain rfl : i = n := by omega
      have HE : Hid ((es.take i).filter pd = es.filter pd) := by unfold Hid; rw [List.take_of_length_le (by rw [HN.out]; exact Nat.le_refl _)]
      rw [HE.out] at HO
      go_wp2
      go_ret
      exact Made_.mk' HO.out (Nat.le_refl _) HB.out

/-- The program's Part. -/
theorem part_any {w : World} {lo n : Nat} {v : Value} {es : List Ev} (id : Int) (h : Evs w lo v n es) (hn : n ≤ 1000000) (hfew : ∀ e ∈ es, e.hs.length ≤ 1000000) :
    Calls Try.prog 9 #[.int .i64 id, v] w (Made_ w w.heap.size (partL id es)) := by
  have hb0 : Below w.heap.size w (w.alloc (.cells #[.int .i64 id] 3)) := (Below.refl _ _).alloc (Nat.le_refl _) _
  have H := Lib.hid (those29_any (w := w.alloc (.cells #[.int .i64 id] 3)) (cap := .pointer (some ⟨w.heap.size, 0, none⟩)) (fun e => decide (e.id = id) || decide (e.k = 6)) (h.below hb0) hn hfew
    fun W e A n c hW => part1_any ((hW.cell (p := ⟨w.heap.size, 0, none⟩) (by simp)).trans (cell_of_row _ _ 0 _ 3 (0, 0) (heap_alloc_new w _))))
  have HB := Lib.hid hb0
  obtain ⟨A0, c0, rfl⟩ := h.slice
  clear h hfew hb0
  go_enter Try.func9, Try.ntmps9
  go_wp2_with (go_at_call 28; refine H.out.mono ?_; rintro o w1 hm; obtain ⟨A, c, rfl, h1, h2⟩ := Made_.later HB.out hm; have H1 := Lib.hid h1; have H2 := Lib.hid h2; clear hm h1 h2)
  go_ret
  exact ⟨A, c, rfl, H1.out, H2.out⟩
theorem without_any {w : World} {lo n : Nat} {v : Value} {es : List Ev} (k : Int) (h : Evs w lo v n es) (hn : n ≤ 1000000) (hfew : ∀ e ∈ es, e.hs.length ≤ 1000000) :
    Calls Try.prog 24 #[.int .i64 k, v] w (Made_ w w.heap.size (es.filter fun e => !decide (e.k = k))) := by
  have hb0 : Below w.heap.size w (w.alloc (.cells #[.int .i64 k] 3)) := (Below.refl _ _).alloc (Nat.le_refl _) _
  have H := Lib.hid (those39_any (w := w.alloc (.cells #[.int .i64 k] 3)) (cap := .pointer (some ⟨w.heap.size, 0, none⟩)) (fun e => !decide (e.k = k)) (h.below hb0) hn hfew
    fun W e A n c hW => without1_any ((hW.cell (p := ⟨w.heap.size, 0, none⟩) (by simp)).trans (cell_of_row _ _ 0 _ 3 (0, 0) (heap_alloc_new w _))))
  have HB := Lib.hid hb0
  obtain ⟨A0, c0, rfl⟩ := h.slice
  clear h hfew hb0
  go_enter Try.func24, Try.ntmps24
  go_wp2_with (go_at_call 28; refine H.out.mono ?_; rintro o w1 hm; obtain ⟨A, c, rfl, h1, h2⟩ := Made_.later HB.out hm; have H1 := Lib.hid h1; have H2 := Lib.hid h2; clear hm h1 h2)
  go_ret
  exact ⟨A, c, rfl, H1.out, H2.out⟩
end Go.Proofs.Ytlalbfpdelfnfaa

