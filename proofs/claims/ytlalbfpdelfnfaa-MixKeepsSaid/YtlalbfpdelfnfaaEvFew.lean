/-
  Layer 43 (mix): an event, and a list of events, in memory of their own, somewhat cut. No condition but that what comes in lies in memory.
-/
import Derived.Test.YtlalbfpdelfnfaaFew
import Derived.Test.YtlalbfpdelfnfaaHeadP
namespace Go.Proofs.Ytlalbfpdelfnfaa
open Go.RowKit
set_option linter.unusedVariables false

/-- An event, somewhat cut. -/
def fewE (e : Ev) : Ev := ⟨e.k, e.id, e.url.extract 0 60, e.frm.extract 0 60, e.mode.extract 0 20, e.med, e.st, fewH e.hs, e.body.extract 0 80⟩
/-- What comes in: texts are no longer than any. -/
structure FineE (e : Ev) : Prop where
  url : e.url.size ≤ maxLen
  frm : e.frm.size ≤ maxLen
  mode : e.mode.size ≤ maxLen
  body : e.body.size ≤ maxLen
  hs : ∀ x ∈ e.hs, FineH x

theorem info30 : (Try.prog.info? 30).map (·.size) = some 2 := by kernel_rfl
set_option maxRecDepth 100000 in
theorem rfew_any {w : World} {lo : Nat} {hv : Value} {hs : List (ByteArray × ByteArray)} (st : Int) (h : Hdr w lo hv hs) (hf : ∀ x ∈ hs, FineH x) :
    Calls Try.prog 41 #[.agg #[.int .i64 st, hv]] w fun o w' => ∃ hv', o = .returned (.agg #[.int .i64 st, hv']) ∧ Hdo w' w.heap.size hv' (fewH hs) ∧ Below w.heap.size w w' := by
  have hb0 : Below w.heap.size w ((w.alloc (.cells #[.int .i64 st, hv] 30)).alloc (.cells #[.int .i64 0, .slice none 0 0] 30)) := ((Below.refl _ _).alloc (Nat.le_refl _) _).alloc (by simp) _
  have HC := Lib.hid (hfew_any (h.below hb0) hf)
  have HB0 := Lib.hid hb0
  have d0 := fun w1 (hb : Below ((w.alloc (.cells #[.int .i64 st, hv] 30)).alloc (.cells #[.int .i64 0, .slice none 0 0] 30)).heap.size ((w.alloc (.cells #[.int .i64 st, hv] 30)).alloc (.cells #[.int .i64 0, .slice none 0 0] 30)) w1) =>
    (show w1.heap[w.heap.size]? = some (.cells #[.int .i64 st, hv] 30 (0, 0)) from (hb.block _ (by simp; omega)).trans ((Below.heap_alloc _ _ _ (by simp)).trans (heap_alloc_new w _)))
  have z0 := fun w1 (hb : Below ((w.alloc (.cells #[.int .i64 st, hv] 30)).alloc (.cells #[.int .i64 0, .slice none 0 0] 30)).heap.size ((w.alloc (.cells #[.int .i64 st, hv] 30)).alloc (.cells #[.int .i64 0, .slice none 0 0] 30)) w1) =>
    (show w1.heap[w.heap.size + 1]? = some (.cells #[.int .i64 0, .slice none 0 0] 30 (0, 0)) from (hb.block _ (by simp)).trans (by have := heap_alloc_new (w.alloc (.cells #[.int .i64 st, hv] 30)) (.cells #[.int .i64 0, .slice none 0 0] 30); rwa [World.size_alloc] at this))
  have D0 := Lib.hid d0
  have Z0 := Lib.hid z0
  obtain ⟨n, hn⟩ : ∃ n, (fewH hs).length = n := ⟨_, rfl⟩
  have HN := Lib.hid hn
  rw [hn] at HC
  clear h hf d0 z0 hb0 hn
  go_enter Try.func41, Try.ntmps41
  go_wp2_with fail
  refine HC.out.mono ?_
  rintro o w1 ⟨A, c, rfl, hr, hb⟩
  have HR := Lib.hid hr
  have HB := Lib.hid hb
  have D1 := D0.out _ hb
  have Z1 := Z0.out _ hb
  have c0 : w1.cell? ⟨w.heap.size, 0, none⟩ = some (.int .i64 st) := cell_of_row w1 _ 0 _ _ _ D1
  have c1 : w1.cell? ⟨w.heap.size, 1, none⟩ = some hv := cell_of_row w1 _ 1 _ _ _ D1
  have f1 := blk_frozen D1 1
  have e0 : w1.cell? ⟨w.heap.size + 1, 0, none⟩ = some (.int .i64 0) := cell_of_row w1 _ 0 _ _ _ Z1
  have e1 : w1.cell? ⟨w.heap.size + 1, 1, none⟩ = some (.slice none 0 0) := cell_of_row w1 _ 1 _ _ _ Z1
  have g0 := blk_frozen Z1 0
  have g1 := blk_frozen Z1 1
  clear hr hb D1 Z1
  go_wp2_with fail
  refine bodyPost_ret (v := .agg #[.int .i64 st, .slice A n c]) (by simp [results, Try.results41, go_sem, e0, e1]) rfl ⟨_, rfl, ?_, ?_⟩
  · have h1 := HR.out
    rw [World.size_alloc, World.size_alloc] at h1
    have h2 := h1.keep (w' := ((w1.setCell ⟨w.heap.size, 1, none⟩ (.slice A n c)).setCell ⟨w.heap.size + 1, 0, none⟩ (.int .i64 st)).setCell ⟨w.heap.size + 1, 1, none⟩ (.slice A n c)) fun j hj => by
      have := (h1.lt j hj).1
      exact (Below.heap_setCell _ _ _ _ (by simp; omega)).trans ((Below.heap_setCell _ _ _ _ (by simp; omega)).trans (Below.heap_setCell _ _ _ _ (by simp; omega)))
    rw [← HN.out] at h2 ⊢
    exact Hdo.base (Hdo.up h2) (by omega)
  · exact (((below_then HB0.out (Nat.le_refl _) HB.out).setCell (p := ⟨w.heap.size, 1, none⟩) (by simp) _).setCell (p := ⟨w.heap.size + 1, 0, none⟩) (by simp) _).setCell (p := ⟨w.heap.size + 1, 1, none⟩) (by simp) _

set_option maxRecDepth 100000 in
set_option maxHeartbeats 1000000 in
theorem efew_any {w : World} {lo : Nat} {hv : Value} {e : Ev} (h : Hdr w lo hv e.hs) (hf : FineE e) :
    Calls Try.prog 25 #[evv e hv] w fun o w' => ∃ hv', o = .returned (evv (fewE e) hv') ∧ Hdo w' w.heap.size hv' (fewE e).hs ∧ Below w.heap.size w w' := by
  have hb0 : Below w.heap.size w ((w.alloc (.cells #[.int .i64 e.k, .int .i64 e.id, .string e.url, .string e.frm, .string e.mode, .int .i64 e.med, .int .i64 e.st, hv, .string e.body] 32)).alloc (.cells #[.int .i64 0, .int .i64 0, .string ⟨#[]⟩, .string ⟨#[]⟩, .string ⟨#[]⟩, .int .i64 0, .int .i64 0, .slice none 0 0, .string ⟨#[]⟩] 32)) := ((Below.refl _ _).alloc (Nat.le_refl _) _).alloc (by simp) _
  have HR1 := Lib.hid ((EvRow.new w e hv).alloc (.cells #[.int .i64 0, .int .i64 0, .string ⟨#[]⟩, .string ⟨#[]⟩, .string ⟨#[]⟩, .int .i64 0, .int .i64 0, .slice none 0 0, .string ⟨#[]⟩] 32))
  have hz := EvRow.zero (w.alloc (.cells #[.int .i64 e.k, .int .i64 e.id, .string e.url, .string e.frm, .string e.mode, .int .i64 e.med, .int .i64 e.st, hv, .string e.body] 32))
  rw [World.size_alloc] at hz
  have HZ := Lib.hid hz
  have HB0 := Lib.hid hb0
  change Calls Try.prog 25 #[.agg #[.int .i64 e.k, .int .i64 e.id, .string e.url, .string e.frm, .string e.mode, .int .i64 e.med, .int .i64 e.st, hv, .string e.body]] w _
  clear hz
  go_enter Try.func25, Try.ntmps25
  go_wp2_with fail
  refine wp_region_headP 14 15 _ (.pointer (some ⟨w.heap.size, 2, none⟩)) (by kernel_rfl) (by kernel_rfl) rfl (fun _ _ _ h => h) (.inl ⟨by rfl, ?yields⟩) (fun wd hwd => ?_)
  case yields => intro w'; go_simp
  have HBD : Hid (Below w.heap.size w wd) := by rw [hwd]; exact HB0.out.drew
  have HR2 : Hid (EvRow wd w.heap.size e hv) := by rw [hwd]; exact HR1.out
  have HZ2 : Hid (EvRow wd (w.heap.size + 1) ev0 (.slice none 0 0)) := by rw [hwd]; exact HZ.out
  have HH : Hid (Hdr wd lo hv e.hs) := h.below HBD.out
  have HWS : Hid (wd.heap.size = w.heap.size + 1 + 1) := by unfold Hid; rw [hwd]; simp
  clear hwd h HR1 HZ HB0 hb0
  obtain ⟨d0, d1, d2, d3, d4, d5, d6, d7, d8⟩ := HR2.out.cells
  have HC : Hid (∀ x m y w, (x = e.url ∧ m = 60 ∧ y = (fewE e).url ∨ x = e.frm ∧ m = 60 ∧ y = (fewE e).frm ∨ x = e.mode ∧ m = 20 ∧ y = (fewE e).mode ∨ x = e.body ∧ m = 80 ∧ y = (fewE e).body) → Calls Try.prog 40 #[.string x, .int .i64 m] w fun o w' => o = .returned (.string y) ∧ w' = w) := by
    intro x m y w h
    rcases h with ⟨rfl, rfl, rfl⟩ | ⟨rfl, rfl, rfl⟩ | ⟨rfl, rfl, rfl⟩ | ⟨rfl, rfl, rfl⟩
    · exact still_of (cut_any e.url 60 (by decide) hf.url w)
    · exact still_of (cut_any e.frm 60 (by decide) hf.frm w)
    · exact still_of (cut_any e.mode 20 (by decide) hf.mode w)
    · exact still_of (cut_any e.body 80 (by decide) hf.body w)
  have H41 := Lib.hid (rfew_any e.st HH.out hf.hs)
  clear hf
  simp only [List.take_succ_cons, List.take_zero]
  repeat still_step
  still_call (HC.out _ _ _ _ (.inl ⟨rfl, rfl, rfl⟩))
  repeat still_step
  still_call (HC.out _ _ _ _ (.inr (.inl ⟨rfl, rfl, rfl⟩)))
  repeat still_step
  still_call (HC.out _ _ _ _ (.inr (.inr (.inl ⟨rfl, rfl, rfl⟩))))
  repeat still_step
  still_call (HC.out _ _ _ _ (.inr (.inr (.inr ⟨rfl, rfl, rfl⟩))))
  repeat still_step
  refine wpStill_nil ?_
  clear d0 d1 d2 d3 d4 d5 d6 d7 d8
  refine wpAny_ready (rs := [14]) (by kernel_rfl) (by simp) ?_
  refine AllReady.cons rfl (fun K hK => ?_) AllReady.nil
  go_simp
  go_wp2_with (go_at_call 41; refine H41.out.mono ?_; rintro o w3 ⟨hv', rfl, hh, hb⟩)
  obtain ⟨A', c', rfl⟩ := hh.slice
  have HR3 := Lib.hid (HR2.out.below hb)
  have HZ3 := Lib.hid (HZ2.out.below hb)
  have HH3 := Lib.hid hh
  have HB3 := Lib.hid hb
  obtain ⟨d0, d1, d2, d3, d4, d5, d6, d7, d8⟩ := HR3.out.cells
  have f2 := HR3.out.frozen 2
  have f3 := HR3.out.frozen 3
  have f4 := HR3.out.frozen 4
  have f6 := HR3.out.frozen 6
  have f7 := HR3.out.frozen 7
  have f8 := HR3.out.frozen 8
  have i30 := info30
  clear hh hb
  refine wpAny_ready (rs := [16]) (by kernel_rfl) (by simp) ?_
  refine AllReady.cons rfl (fun K hK => ?_) AllReady.nil
  go_simp
  refine hK _ _ ?_
  clear hK K
  refine wpAny_ready (rs := [17]) (by kernel_rfl) (by simp) ?_
  refine AllReady.cons rfl (fun K hK => ?_) AllReady.nil
  go_simp
  refine hK _ _ ?_
  clear hK K
  refine wpAny_ready (rs := [18]) (by kernel_rfl) (by simp) ?_
  refine AllReady.cons rfl (fun K hK => ?_) AllReady.nil
  go_simp
  refine hK _ _ ?_
  clear hK K
  refine wpAny_ready (rs := [19]) (by kernel_rfl) (by simp) ?_
  refine AllReady.cons rfl (fun K hK => ?_) AllReady.nil
  go_simp
  refine hK _ _ ?_
  clear hK K
  refine wpAny_ready (rs := [20]) (by kernel_rfl) (by simp) ?_
  refine AllReady.cons rfl (fun K hK => ?_) AllReady.nil
  go_simp
  refine hK _ _ ?_
  clear hK K
  refine wpAny_ready (rs := [21]) (by kernel_rfl) (by simp) ?_
  refine AllReady.cons rfl (fun K hK => ?_) AllReady.nil
  go_simp
  refine hK _ _ ?_
  clear hK K
  refine wpAny_ready (rs := [22]) (by kernel_rfl) (by simp) ?_
  refine AllReady.cons rfl (fun K hK => ?_) AllReady.nil
  go_simp
  refine hK _ _ ?_
  clear hK K
  refine wpAny_ready (rs := [23]) (by kernel_rfl) (by simp) ?_
  refine AllReady.cons rfl (fun K hK => ?_) AllReady.nil
  go_simp
  refine hK _ _ ?_
  clear hK K
  refine wpAny_ready (rs := [24]) (by kernel_rfl) (by simp) ?_
  refine AllReady.cons rfl (fun K hK => ?_) AllReady.nil
  go_simp
  refine hK _ _ ?_
  clear hK K
  refine wpAny_done (by kernel_rfl) ?_ _
  have hs1 : fewH e.hs = (fewE e).hs := rfl
  rw [hs1] at HH3 ⊢
  clear f2 f3 f4 f6 f7 f8 d0 d1 d2 d3 d4 d5 d6 d7 d8 hs1 i30
  obtain ⟨W, hW⟩ : ∃ W, ((((((w3.setCell ⟨w.heap.size, 2, none⟩ (.string (fewE e).url)).setCell ⟨w.heap.size, 3, none⟩ (.string (fewE e).frm)).setCell ⟨w.heap.size, 4, none⟩ (.string (fewE e).mode)).setCell ⟨w.heap.size, 8, none⟩ (.string (fewE e).body)).setCell
      ⟨w.heap.size, 6, none⟩ (.int .i64 e.st)).setCell ⟨w.heap.size, 7, none⟩ (.slice A' (fewE e).hs.length c')) = W := ⟨_, rfl⟩
  have hRW : EvRow W w.heap.size (fewE e) (.slice A' (fewE e).hs.length c') := by
    rw [← hW]
    unfold EvRow
    rw [blk_set (blk_set (blk_set (blk_set (blk_set (blk_set HR3.out 2 _) 3 _) 4 _) 8 _) 6 _) 7 _]
    rfl
  have hother : ∀ j, j ≠ w.heap.size → W.heap[j]? = w3.heap[j]? := fun j hj => by
    rw [← hW]
    exact (Below.heap_setCell _ _ _ _ hj).trans ((Below.heap_setCell _ _ _ _ hj).trans ((Below.heap_setCell _ _ _ _ hj).trans ((Below.heap_setCell _ _ _ _ hj).trans ((Below.heap_setCell _ _ _ _ hj).trans (Below.heap_setCell _ _ _ _ hj)))))
  have hsz : W.heap.size = w3.heap.size := by
    rw [← hW]
    simp [World.setCell]
  have hbw : Below w.heap.size w W := by
    rw [← hW]
    exact (((((((HBD.out.trans (HB3.out.mono HBD.out.size)).setCell (p := ⟨w.heap.size, 2, none⟩) (Nat.le_refl _) _).setCell (p := ⟨w.heap.size, 3, none⟩) (Nat.le_refl _) _).setCell (p := ⟨w.heap.size, 4, none⟩) (Nat.le_refl _) _).setCell (p := ⟨w.heap.size, 8, none⟩) (Nat.le_refl _) _).setCell (p := ⟨w.heap.size, 6, none⟩) (Nat.le_refl _) _).setCell (p := ⟨w.heap.size, 7, none⟩) (Nat.le_refl _) _)
  rw [hW]
  clear hW
  have HRW := Lib.hid hRW
  have HO := Lib.hid hother
  have HSZ := Lib.hid hsz
  have HBW := Lib.hid hbw
  have HZW : Hid (EvRow W (w.heap.size + 1) ev0 (.slice none 0 0)) := HZ3.out.keep (hother _ (by omega))
  clear hRW hother hsz hbw HC H41
  obtain ⟨d0, d1, d2, d3, d4, d5, d6, d7, d8⟩ := HRW.out.cells
  go_wp2_with (first | (refine wpList_store_ev rfl (.tmp 2) (.tmp 23) rfl _ _ _ HZW.out (fewE e) _ rfl rfl rfl ?_; intro w2 hF hB hO; have HF := Lib.hid hF; have HB2 := Lib.hid hB; have HO2 := Lib.hid hO; clear hF hB hO))
  clear d0 d1 d2 d3 d4 d5 d6 d7 d8
  obtain ⟨c0, c1, c2, c3, c4, c5, c6, c7, c8⟩ := HF.out.cells
  refine bodyPost_ret (v := evv (fewE e) (.slice A' (fewE e).hs.length c')) (by simp [results, Try.results25, go_sem, c0, c1, c2, c3, c4, c5, c6, c7, c8]) rfl ⟨_, rfl, ?_, ?_⟩
  · have h2 := HH3.out
    rw [HWS.out] at h2
    exact h2.keepLo (by rw [HO2.out.1, HSZ.out]; exact Nat.le_refl _) (by omega) fun j hj => by
      rw [HO2.out.2 _ (by omega), HO.out _ (by omega)]
  · exact HB2.out _ _ HBW.out (by omega)
end Go.Proofs.Ytlalbfpdelfnfaa
