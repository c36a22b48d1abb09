/-
  Layer 43 (mix): whether two events are one, by the reference and by the program. No condition but that both lie in memory.
-/
import Derived.Test.YtlalbfpdelfnfaaSameH
namespace Go.Proofs.Ytlalbfpdelfnfaa
open Go.RowKit
set_option linter.unusedVariables false

/-- Whether two events are one. -/
def evB (e f : Ev) : Bool := decide (e.k = f.k) && decide (e.id = f.id) && decide (e.url = f.url) && decide (e.frm = f.frm) && decide (e.mode = f.mode) && decide (e.med = f.med) && decide (e.st = f.st) && decide (e.hs = f.hs) && decide (e.body = f.body)
theorem evB_iff (e f : Ev) : evB e f = true ↔ e = f := by
  obtain ⟨a0, a1, a2, a3, a4, a5, a6, a7, a8⟩ := e
  obtain ⟨b0, b1, b2, b3, b4, b5, b6, b7, b8⟩ := f
  simp [evB, and_assoc]
theorem beq_dec (a b : Int) : (a == b) = decide (a = b) := rfl
/-- The events' differences, as the walk asks for them. -/
theorem evB_parts (e f : Ev) (F : Bool → Bool → Bool → Bool → Bool → Bool → Bool → Bool → Bool → Prop)
    (h : ∀ b0 b1 b2 b3 b4 b5 b6 b7 b8, (e.k == f.k) = b0 → (e.id == f.id) = b1 → (e.url.toList == f.url.toList) = b2 → (e.frm.toList == f.frm.toList) = b3 → (e.mode.toList == f.mode.toList) = b4 → (e.med == f.med) = b5 → (e.st == f.st) = b6 → Hid (decide (e.hs = f.hs) = b7) → (e.body.toList == f.body.toList) = b8 →
      Hid (evB e f = (b0 && b1 && b2 && b3 && b4 && b5 && b6 && b7 && b8)) → F b0 b1 b2 b3 b4 b5 b6 b7 b8) : ∃ b0 b1 b2 b3 b4 b5 b6 b7 b8, F b0 b1 b2 b3 b4 b5 b6 b7 b8 :=
  ⟨_, _, _, _, _, _, _, _, _, h _ _ _ _ _ _ _ _ _ rfl rfl rfl rfl rfl rfl rfl rfl rfl (by unfold Hid evB; rw [toList_beq, toList_beq, toList_beq, toList_beq]; rfl)⟩

set_option maxRecDepth 100000 in
set_option maxHeartbeats 2000000 in
theorem rSameE_any {w : World} {lo lo2 : Nat} {hv hv2 : Value} (e f : Ev) (h : Hdr w lo hv e.hs) (h2 : Hdr w lo2 hv2 f.hs) (hn : e.hs.length ≤ 1000000) :
    Calls Try.prog 31 #[evv e hv, evv f hv2] w fun o w' => o = .returned (.bool (evB e f)) ∧ Below w.heap.size w w' := by
  have hb2 : Below w.heap.size w ((w.alloc (.cells #[.int .i64 e.k, .int .i64 e.id, .string e.url, .string e.frm, .string e.mode, .int .i64 e.med, .int .i64 e.st, hv, .string e.body] 32)).alloc (.cells #[.int .i64 f.k, .int .i64 f.id, .string f.url, .string f.frm, .string f.mode, .int .i64 f.med, .int .i64 f.st, hv2, .string f.body] 32)) := ((Below.refl _ _).alloc (Nat.le_refl _) _).alloc (by simp) _
  have HS := Lib.hid (rHSame_any (h.below hb2) (h2.below hb2) hn)
  have HB := Lib.hid hb2
  obtain ⟨A1, c1, rfl⟩ := h.slice
  obtain ⟨A2, c2, rfl⟩ := h2.slice
  obtain ⟨n1, hn1⟩ : ∃ n1, e.hs.length = n1 := ⟨_, rfl⟩
  obtain ⟨n2, hn2⟩ : ∃ n2, f.hs.length = n2 := ⟨_, rfl⟩
  rw [hn1] at HB HS ⊢
  rw [hn2] at HB HS ⊢
  clear h h2 hn hn1 hn2 hb2
  obtain ⟨b0, h0⟩ : ∃ b, (e.k == f.k) = b := ⟨_, rfl⟩
  obtain ⟨b1, h1⟩ : ∃ b, (e.id == f.id) = b := ⟨_, rfl⟩
  obtain ⟨b2, h2⟩ : ∃ b, (e.url.toList == f.url.toList) = b := ⟨_, rfl⟩
  obtain ⟨b3, h3⟩ : ∃ b, (e.frm.toList == f.frm.toList) = b := ⟨_, rfl⟩
  obtain ⟨b4, h4⟩ : ∃ b, (e.mode.toList == f.mode.toList) = b := ⟨_, rfl⟩
  obtain ⟨b5, h5⟩ : ∃ b, (e.med == f.med) = b := ⟨_, rfl⟩
  obtain ⟨b6, h6⟩ : ∃ b, (e.st == f.st) = b := ⟨_, rfl⟩
  obtain ⟨b7, h7⟩ : ∃ b, decide (e.hs = f.hs) = b := ⟨_, rfl⟩
  obtain ⟨b8, h8⟩ : ∃ b, (e.body.toList == f.body.toList) = b := ⟨_, rfl⟩
  have HE : Hid (evB e f = (b0 && b1 && b2 && b3 && b4 && b5 && b6 && b7 && b8)) := by
    unfold Hid evB
    rw [← h0, ← h1, ← h2, ← h3, ← h4, ← h5, ← h6, ← h7, ← h8, toList_beq, toList_beq, toList_beq, toList_beq]
    rfl
  rw [h7] at HS
  clear h7
  have HQ : Hid (((w.alloc (.cells #[.int .i64 e.k, .int .i64 e.id, .string e.url, .string e.frm, .string e.mode, .int .i64 e.med, .int .i64 e.st, .slice A1 n1 c1, .string e.body] 32)).alloc (.cells #[.int .i64 f.k, .int .i64 f.id, .string f.url, .string f.frm, .string f.mode, .int .i64 f.med, .int .i64 f.st, .slice A2 n2 c2, .string f.body] 32)).cell? ⟨w.heap.size, 8, none⟩ = some (.string e.body) ∧ ((w.alloc (.cells #[.int .i64 e.k, .int .i64 e.id, .string e.url, .string e.frm, .string e.mode, .int .i64 e.med, .int .i64 e.st, .slice A1 n1 c1, .string e.body] 32)).alloc (.cells #[.int .i64 f.k, .int .i64 f.id, .string f.url, .string f.frm, .string f.mode, .int .i64 f.med, .int .i64 f.st, .slice A2 n2 c2, .string f.body] 32)).cell? ⟨w.heap.size + 1, 8, none⟩ = some (.string f.body)) := by
    refine ⟨(((Below.refl _ _).alloc (Nat.le_refl _) _).cell (p := ⟨w.heap.size, 8, none⟩) (by simp)).trans (cell_of_row _ _ 8 _ 32 (0, 0) (heap_alloc_new w _)), ?_⟩
    have := cell_of_row _ _ 8 _ 32 (0, 0) (heap_alloc_new (w.alloc (.cells #[.int .i64 e.k, .int .i64 e.id, .string e.url, .string e.frm, .string e.mode, .int .i64 e.med, .int .i64 e.st, .slice A1 n1 c1, .string e.body] 32)) (.cells #[.int .i64 f.k, .int .i64 f.id, .string f.url, .string f.frm, .string f.mode, .int .i64 f.med, .int .i64 f.st, .slice A2 n2 c2, .string f.body] 32))
    rw [World.size_alloc] at this
    exact this
  change Calls Try.prog 31 #[.agg #[.int .i64 e.k, .int .i64 e.id, .string e.url, .string e.frm, .string e.mode, .int .i64 e.med, .int .i64 e.st, .slice A1 n1 c1, .string e.body], .agg #[.int .i64 f.k, .int .i64 f.id, .string f.url, .string f.frm, .string f.mode, .int .i64 f.med, .int .i64 f.st, .slice A2 n2 c2, .string f.body]] w _
  cases b0
  · go_enter Try.func31, Try.ntmps31
    go_wp2_with (go_at_call 46; refine HS.out.mono ?_; rintro o w3 ⟨rfl, hb⟩; have q8 := (hb.cell (p := ⟨w.heap.size, 8, none⟩) (by simp; omega)).trans HQ.out.1; have r8 := (hb.cell (p := ⟨w.heap.size + 1, 8, none⟩) (by simp)).trans HQ.out.2; have HB := Lib.hid (below_then HB.out (Nat.le_refl _) hb); clear hb)
    go_ret
    exact ⟨ret_bool (by rw [HE.out]; simp), HB.out⟩
  · skip
    cases b1
    · go_enter Try.func31, Try.ntmps31
      go_wp2_with (go_at_call 46; refine HS.out.mono ?_; rintro o w3 ⟨rfl, hb⟩; have q8 := (hb.cell (p := ⟨w.heap.size, 8, none⟩) (by simp; omega)).trans HQ.out.1; have r8 := (hb.cell (p := ⟨w.heap.size + 1, 8, none⟩) (by simp)).trans HQ.out.2; have HB := Lib.hid (below_then HB.out (Nat.le_refl _) hb); clear hb)
      go_ret
      exact ⟨ret_bool (by rw [HE.out]; simp), HB.out⟩
    · skip
      cases b2
      · go_enter Try.func31, Try.ntmps31
        go_wp2_with (go_at_call 46; refine HS.out.mono ?_; rintro o w3 ⟨rfl, hb⟩; have q8 := (hb.cell (p := ⟨w.heap.size, 8, none⟩) (by simp; omega)).trans HQ.out.1; have r8 := (hb.cell (p := ⟨w.heap.size + 1, 8, none⟩) (by simp)).trans HQ.out.2; have HB := Lib.hid (below_then HB.out (Nat.le_refl _) hb); clear hb)
        go_ret
        exact ⟨ret_bool (by rw [HE.out]; simp), HB.out⟩
      · skip
        cases b3
        · go_enter Try.func31, Try.ntmps31
          go_wp2_with (go_at_call 46; refine HS.out.mono ?_; rintro o w3 ⟨rfl, hb⟩; have q8 := (hb.cell (p := ⟨w.heap.size, 8, none⟩) (by simp; omega)).trans HQ.out.1; have r8 := (hb.cell (p := ⟨w.heap.size + 1, 8, none⟩) (by simp)).trans HQ.out.2; have HB := Lib.hid (below_then HB.out (Nat.le_refl _) hb); clear hb)
          go_ret
          exact ⟨ret_bool (by rw [HE.out]; simp), HB.out⟩
        · skip
          cases b4
          · go_enter Try.func31, Try.ntmps31
            go_wp2_with (go_at_call 46; refine HS.out.mono ?_; rintro o w3 ⟨rfl, hb⟩; have q8 := (hb.cell (p := ⟨w.heap.size, 8, none⟩) (by simp; omega)).trans HQ.out.1; have r8 := (hb.cell (p := ⟨w.heap.size + 1, 8, none⟩) (by simp)).trans HQ.out.2; have HB := Lib.hid (below_then HB.out (Nat.le_refl _) hb); clear hb)
            go_ret
            exact ⟨ret_bool (by rw [HE.out]; simp), HB.out⟩
          · skip
            cases b5
            · go_enter Try.func31, Try.ntmps31
              go_wp2_with (go_at_call 46; refine HS.out.mono ?_; rintro o w3 ⟨rfl, hb⟩; have q8 := (hb.cell (p := ⟨w.heap.size, 8, none⟩) (by simp; omega)).trans HQ.out.1; have r8 := (hb.cell (p := ⟨w.heap.size + 1, 8, none⟩) (by simp)).trans HQ.out.2; have HB := Lib.hid (below_then HB.out (Nat.le_refl _) hb); clear hb)
              go_ret
              exact ⟨ret_bool (by rw [HE.out]; simp), HB.out⟩
            · skip
              cases b6
              · go_enter Try.func31, Try.ntmps31
                go_wp2_with (go_at_call 46; refine HS.out.mono ?_; rintro o w3 ⟨rfl, hb⟩; have q8 := (hb.cell (p := ⟨w.heap.size, 8, none⟩) (by simp; omega)).trans HQ.out.1; have r8 := (hb.cell (p := ⟨w.heap.size + 1, 8, none⟩) (by simp)).trans HQ.out.2; have HB := Lib.hid (below_then HB.out (Nat.le_refl _) hb); clear hb)
                go_ret
                exact ⟨ret_bool (by rw [HE.out]; simp), HB.out⟩
              · skip
                cases b7
                · go_enter Try.func31, Try.ntmps31
                  go_wp2_with (go_at_call 46; refine HS.out.mono ?_; rintro o w3 ⟨rfl, hb⟩; have q8 := (hb.cell (p := ⟨w.heap.size, 8, none⟩) (by simp; omega)).trans HQ.out.1; have r8 := (hb.cell (p := ⟨w.heap.size + 1, 8, none⟩) (by simp)).trans HQ.out.2; have HB := Lib.hid (below_then HB.out (Nat.le_refl _) hb); clear hb)
                  go_ret
                  exact ⟨ret_bool (by rw [HE.out]; simp), HB.out⟩
                · skip
                  cases b8
                  · go_enter Try.func31, Try.ntmps31
                    go_wp2_with (go_at_call 46; refine HS.out.mono ?_; rintro o w3 ⟨rfl, hb⟩; have q8 := (hb.cell (p := ⟨w.heap.size, 8, none⟩) (by simp; omega)).trans HQ.out.1; have r8 := (hb.cell (p := ⟨w.heap.size + 1, 8, none⟩) (by simp)).trans HQ.out.2; have HB := Lib.hid (below_then HB.out (Nat.le_refl _) hb); clear hb)
                    go_ret
                    exact ⟨ret_bool (by rw [HE.out]; simp), HB.out⟩
                  · skip
                    go_enter Try.func31, Try.ntmps31
                    go_wp2_with (go_at_call 46; refine HS.out.mono ?_; rintro o w3 ⟨rfl, hb⟩; have q8 := (hb.cell (p := ⟨w.heap.size, 8, none⟩) (by simp; omega)).trans HQ.out.1; have r8 := (hb.cell (p := ⟨w.heap.size + 1, 8, none⟩) (by simp)).trans HQ.out.2; have HB := Lib.hid (below_then HB.out (Nat.le_refl _) hb); clear hb)
                    go_ret
                    exact ⟨ret_bool (by rw [HE.out]; simp), HB.out⟩
end Go.Proofs.Ytlalbfpdelfnfaa
