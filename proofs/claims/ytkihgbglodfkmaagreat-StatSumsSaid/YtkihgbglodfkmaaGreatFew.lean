/-
  Layer 41: what is told, in memory of its own, somewhat cut. No condition but that what comes in lies in memory.
-/
import Derived.Test.YtkihgbglodfkmaaGreatOut
namespace Go.Proofs.YtkihgbglodfkmaaGreat
open Go.RowKit
set_option linter.unusedVariables false

theorem cut_any (s : ByteArray) (m : Nat) (hm : m ≤ 1000) (hs : s.size ≤ maxLen) (w : World) : Calls Tryz.prog 20 #[.string s, .int .i64 m] w fun e w' => e = .returned (.string (s.extract 0 m)) ∧ w = w' := by
  unfold maxLen at hs
  obtain ⟨x, hx⟩ : ∃ x, s.extract 0 m = x := ⟨_, rfl⟩
  have HX := Lib.hid hx
  rw [hx]
  clear hx
  by_cases h : m < s.size
  · go_enter Tryz.func20, Tryz.ntmps20
    go_wp2
    go_ret
    exact ⟨ret_string (by rw [← HX.out]), rfl⟩
  · have HE := Lib.hid (extract_all s m (by omega))
    go_enter Tryz.func20, Tryz.ntmps20
    go_wp2
    go_ret
    exact ⟨ret_string (by rw [← HX.out, HE.out]), rfl⟩
def cutO (e : Ou) : Ou := { e with body := e.body.extract 0 40, rs := e.rs.extract 0 20 }
def fewO (es : List Ou) : List Ou := (es.take 30).map cutO
structure FineO (e : Ou) : Prop where
  body : e.body.size ≤ maxLen
  rs : e.rs.size ≤ maxLen
theorem ext_le (s : ByteArray) (m : Nat) : (s.extract 0 m).size ≤ m := by
  rw [ByteArray.size_extract]
  omega
theorem ext_twice (s : ByteArray) (m : Nat) : (s.extract 0 m).extract 0 m = s.extract 0 m := extract_all _ _ (ext_le s m)
/-- A list that was cut, to so many. -/
structure CutO (es : List Ou) : Prop where
  twice : fewO es = es
  len : es.length ≤ 30
  body : ∀ e ∈ es, e.body.size ≤ 40
  rs : ∀ e ∈ es, e.rs.size ≤ 20
theorem CutO.fine {es : List Ou} (h : CutO es) : ∀ e ∈ es, FineO e := fun e he => ⟨Nat.le_trans (h.body e he) (by decide +kernel), Nat.le_trans (h.rs e he) (by decide +kernel)⟩
theorem fewO_len (es : List Ou) : ((es.take 30).map cutO).length ≤ 30 := by
  rw [List.length_map, List.length_take]
  exact Nat.min_le_left _ _
theorem fewO_twice (es : List Ou) : fewO (fewO es) = fewO es := by
  have h1 : ((es.take 30).map cutO).take 30 = (es.take 30).map cutO := List.take_of_length_le (fewO_len es)
  show (((es.take 30).map cutO).take 30).map cutO = (es.take 30).map cutO
  rw [h1, List.map_map]
  refine List.map_congr_left fun e _ => ?_
  show cutO (cutO e) = cutO e
  unfold cutO
  rw [ext_twice, ext_twice]
theorem fewO_body (es : List Ou) : ∀ e ∈ fewO es, e.body.size ≤ 40 ∧ e.rs.size ≤ 20 := fun e he => by
  obtain ⟨x, _, rfl⟩ := List.mem_map.1 he
  exact ⟨ext_le x.body 40, ext_le x.rs 20⟩
theorem fewO_cut (es : List Ou) : CutO (fewO es) := ⟨fewO_twice es, fewO_len es, fun e he => (fewO_body es e he).1, fun e he => (fewO_body es e he).2⟩
theorem Oo.snoc {w' : World} {B n : Nat} {A : Option Addr} {c : Nat} {es : List Ou} {e : Ou} (h : es.length = n) (hr : Rk w' B 48 6 (.slice A (n + 1) c) (n + 1) (es.flatMap ouc ++ ouc e)) : Oo w' B (.slice A (n + 1) c) (n + 1) (es ++ [e]) := by
  refine ⟨by simp [h], ?_⟩
  rw [List.flatMap_append]
  simpa using hr

set_option maxRecDepth 100000 in
set_option maxHeartbeats 2000000 in
theorem few_any {w : World} {lo n : Nat} {v : Value} {es : List Ou} (h : Os w lo v n es) (hf : ∀ e ∈ es, FineO e) :
    Calls Tryz.prog 4 #[v] w fun o w' => ∃ A c, o = .returned (.slice A (fewO es).length c) ∧ Oo w' w.heap.size (.slice A (fewO es).length c) (fewO es).length (fewO es) ∧ Below w.heap.size w w' := by
  obtain ⟨i0, hi, hz0, hz1, hz2⟩ := info_parts infoO
  have HI := Lib.hid hi
  have HZ0 := Lib.hid hz0
  have HZ1 := Lib.hid hz1
  have HZ2 : Hid (i0.bytes ≤ 1000) := by unfold Hid; omega
  have HH := Lib.hid h
  have HF := Lib.hid hf
  have hlen := h.few
  unfold maxLen at hlen
  have HN := Lib.hid h.1
  obtain ⟨A0, c0, rfl⟩ := h.slice
  clear hi hz0 hz1 hz2 h hf
  go_enter Tryz.func4, Tryz.ntmps4
  go_wp2
  go_loopw [3, 4] (fun o iv wr => ∃ (i c : Nat) (A : Option Addr), o = .slice A i c ∧ iv = .int .i64 i ∧ i ≤ n ∧ i ≤ 30 ∧ Hid (Oo wr w.heap.size (.slice A i c) i ((es.take i).map cutO)) ∧ Hid (Below w.heap.size w wr)) (fun _ iv _ => n - (intOf iv).toNat)
  case atStart => exact ⟨0, 0, some ⟨w.heap.size, 0, none⟩, rfl, rfl, Nat.zero_le _, Nat.zero_le _, ⟨rfl, Rk.fresh w 48 6⟩, Lib.hid ((Below.refl _ _).alloc (Nat.le_refl _) _)⟩
  case round =>
    obtain ⟨i, c, A, rfl, rfl, hi, him, HO, HB⟩ := hrel
    by_cases hin : i < n ∧ i < 30
    · obtain ⟨hl, hlm⟩ := hin
      obtain ⟨g, off, hix, rfl, hc1, hc2, hg, he0⟩ := HH.out.get hl
      have he := OuAt.below he0 (HB.out.mono (Nat.le_refl _))
      clear he0
      have HT : Hid ((es.take (i + 1)).map cutO = (es.take i).map cutO ++ [cutO es[i]]) := by unfold Hid; rw [List.take_succ_eq_append_getElem hix, List.map_append]; rfl
      have hfe := HF.out _ (List.getElem_mem hix)
      generalize es[i]'hix = e at he HT hfe
      have HZ := Lib.hid (OuRow.zero wr)
      obtain ⟨d0, d1, d2, d3, d4, d5⟩ := he
      obtain ⟨y, hy⟩ : ∃ y, e.body.extract 0 40 = y := ⟨_, rfl⟩
      obtain ⟨z, hz⟩ : ∃ z, e.rs.extract 0 20 = z := ⟨_, rfl⟩
      have HX : Hid (cutO e = { e with body := y, rs := z }) := by unfold Hid cutO; rw [← hy, ← hz]
      have HC : Hid (∀ x m u w, (x = e.body ∧ m = 40 ∧ u = y ∨ x = e.rs ∧ m = 20 ∧ u = z) → Calls Tryz.prog 20 #[.string x, .int .i64 m] w fun e w' => e = .returned (.string u) ∧ w = w') := by
        intro x m u w h
        rcases h with ⟨rfl, rfl, rfl⟩ | ⟨rfl, rfl, rfl⟩
        · rw [← hy]
          exact cut_any _ 40 (by decide) hfe.1 w
        · rw [← hz]
          exact cut_any _ 20 (by decide) hfe.2 w
      clear hix hfe hy hz hg
      go_wp2_with (first
        | (refine wpList_store_ou rfl (.tmp 5) (.tmp 20) rfl _ _ HZ.out e rfl rfl ?_; intro w2 hF hB hO; have HR := Lib.hid hF; have HB2 := Lib.hid (hB wr.heap.size wr ((Below.refl _ _).alloc (Nat.le_refl _) _) (Nat.le_refl _)); clear d0 d1 d2 d3 d4 d5; obtain ⟨x0, x1, x2, x3, x4, x5⟩ := hF.cells; have f4 := hF.frozen 4; have f5 := hF.frozen 5; clear hF hB hO))
      go_region_with (go_at_call 20; (with_reducible refine (HC.out _ _ _ _ (by first | exact .inl ⟨rfl, rfl, rfl⟩ | exact .inr ⟨rfl, rfl, rfl⟩)).mono ?_); rintro o wn ⟨rfl, rfl⟩)
      all_goals
        obtain ⟨W, hW⟩ : ∃ W, ((w2.setCell ⟨wr.heap.size, 4, none⟩ (.string y)).setCell ⟨wr.heap.size, 5, none⟩ (.string z)).drew = W := ⟨_, rfl⟩
        have HRW : Hid (OuRow W wr.heap.size { e with body := y, rs := z }) := by
          unfold Hid OuRow
          rw [← hW]
          exact (blk_set (blk_set HR.out 4 _) 5 _).trans rfl
        have HBW : Hid (Below wr.heap.size wr W) := by
          unfold Hid
          rw [← hW]
          exact ((HB2.out.setCell (p := ⟨wr.heap.size, 4, none⟩) (Nat.le_refl _) _).setCell (p := ⟨wr.heap.size, 5, none⟩) (Nat.le_refl _) _).drew
        clear x0 x1 x2 x3 x4 x5 f4 f5
        obtain ⟨x0, x1, x2, x3, x4, x5⟩ := HRW.out.cells
        have HR2 := Lib.hid ((HO.out.2.below HBW.out (Nat.le_refl _)).alloc (.cells #[.int .i64 e.k, .int .i64 e.id, .int .i64 e.st, .slice e.ha e.hn e.hc, .string y, .string z] 48))
        have HS := Lib.hid (ou_src W { e with body := y, rs := z })
        have HL : Hid (i + 1 ≤ 1000000000) := by unfold Hid; omega
        have HBA : Hid (Below wr.heap.size wr (W.alloc (.cells #[.int .i64 e.k, .int .i64 e.id, .int .i64 e.st, .slice e.ha e.hn e.hc, .string y, .string z] 48))) := Lib.hid (HBW.out.alloc HBW.out.size _)
        have HSZ : Hid (w.heap.size ≤ (W.alloc (.cells #[.int .i64 e.k, .int .i64 e.id, .int .i64 e.st, .slice e.ha e.hn e.hc, .string y, .string z] 48)).heap.size) := Lib.hid (Nat.le_trans HB.out.size HBA.out.size)
        rw [hW]
        clear hW HRW
        go_wp2_with (at_builtin; refine wpList_append_rk rfl (.tmp 29) (.tmp 31) 22 rfl w.heap.size 48 i0 _ 6 Tryz.underlying22 HI.out HZ0.out HZ1.out HZ2.out rfl _ i _ rfl HR2.out _ 1 _ rfl HS.out HL.out HSZ.out ?_; intro A' c' w5 hr hg5 _; have HR := Lib.hid hr; have HG := Lib.hid hg5; clear hr hg5)
        go_roundw
        case rel =>
          refine ⟨i + 1, c', A', rfl, by go_num, by omega, by omega, ?_, ?_⟩
          · unfold Hid
            rw [HT.out, HX.out]
            exact Oo.snoc HO.out.1 HR.out
          · exact Lib.hid ((below_then HB.out (Nat.le_refl _) HBA.out).grown HG.out HSZ.out fun b hb => (HR2.out.lt b hb).1)
        case measure => simp [intOf]; omega
    · have HL8 : Hid ((fewO es).length = i) := by
        unfold Hid fewO
        rw [List.length_map, List.length_take, HN.out]
        omega
      have HE : Hid (fewO es = (es.take i).map cutO) := by
        unfold Hid fewO
        by_cases h8 : i = 30
        · rw [h8]
        · rw [List.take_of_length_le (by rw [HN.out]; omega), List.take_of_length_le (by rw [HN.out]; omega)]
      by_cases hl : i < n
      · have h8 : ¬ ((i : Int) < 30) := by omega
        clear hin
        go_wp2
        go_ret
        refine ⟨A, c, (by rw [HL8.out]; rfl), ?_, HB.out⟩
        rw [HL8.out, HE.out]
        exact HO.out
      · clear hin
        go_wp2
        go_ret
        refine ⟨A, c, (by rw [HL8.out]; rfl), ?_, HB.out⟩
        rw [HL8.out, HE.out]
        exact HO.out
end Go.Proofs.YtkihgbglodfkmaaGreat
