/-
  Layer 43 (mix): whether two events are one, by the program. No condition but that both lie in memory.
-/
import Derived.Test.YtlalbfpdelfnfaaSameE
import Derived.Deep.CutBlock
namespace Go.Proofs.Ytlalbfpdelfnfaa
open Go.RowKit
set_option linter.unusedVariables false

/-- What is read of two events' cells at the end. -/
structure Six (n : Nat) (e f : Ev) (W : World) : Prop where
  e8 : W.cell? ⟨n, 8, none⟩ = some (.string e.body)
  f8 : W.cell? ⟨n + 1, 8, none⟩ = some (.string f.body)
  e0 : W.cell? ⟨n, 0, none⟩ = some (.int .i64 e.k)
  f0 : W.cell? ⟨n + 1, 0, none⟩ = some (.int .i64 f.k)
  e1 : W.cell? ⟨n, 1, none⟩ = some (.int .i64 e.id)
  f1 : W.cell? ⟨n + 1, 1, none⟩ = some (.int .i64 f.id)
theorem Six.below {n : Nat} {e f : Ev} {W W' : World} (h : Six n e f W) (hb : Below W.heap.size W W') : Six n e f W' :=
  have k : ∀ {p : Addr} {v : Value}, W.cell? p = some v → W'.cell? p = some v := fun h => (hb.cell (lt_of_cell h)).trans h
  ⟨k h.e8, k h.f8, k h.e0, k h.f0, k h.e1, k h.f1⟩

set_option maxRecDepth 100000 in
set_option maxHeartbeats 4000000 in
theorem same_any {w : World} {lo lo2 : Nat} {hv hv2 : Value} (e f : Ev) (h : Hdr w lo hv e.hs) (h2 : Hdr w lo2 hv2 f.hs) (hn : e.hs.length ≤ 1000000) :
    Calls Try.prog 47 #[evv e hv, evv f hv2] w fun o w' => o = .returned (.bool (evB e f)) ∧ Below w.heap.size w w' := by
  have hb2 : Below w.heap.size w ((w.alloc (.cells #[.int .i64 e.k, .int .i64 e.id, .string e.url, .string e.frm, .string e.mode, .int .i64 e.med, .int .i64 e.st, hv, .string e.body] 32)).alloc (.cells #[.int .i64 f.k, .int .i64 f.id, .string f.url, .string f.frm, .string f.mode, .int .i64 f.med, .int .i64 f.st, hv2, .string f.body] 32)) := ((Below.refl _ _).alloc (Nat.le_refl _) _).alloc (by simp) _
  have HS := Lib.hid (hEqual_any (h.below hb2) (h2.below hb2) hn)
  have HB := Lib.hid hb2
  obtain ⟨A1, c1, rfl⟩ := h.slice
  obtain ⟨A2, c2, rfl⟩ := h2.slice
  obtain ⟨n1, hn1⟩ : ∃ n1, e.hs.length = n1 := ⟨_, rfl⟩
  obtain ⟨n2, hn2⟩ : ∃ n2, f.hs.length = n2 := ⟨_, rfl⟩
  rw [hn1] at HB HS ⊢
  rw [hn2] at HB HS ⊢
  clear h h2 hn hn1 hn2 hb2
  obtain ⟨b0, h0⟩ : ∃ b, (e.k == f.k) = b := ⟨_, rfl⟩
  obtain ⟨b1, h1⟩ : ∃ b, (e.id == f.id) = b := ⟨_, rfl⟩
  obtain ⟨b2, h2⟩ : ∃ b, (e.url.toList == f.url.toList) = b := ⟨_, rfl⟩
  obtain ⟨b3, h3⟩ : ∃ b, (e.frm.toList == f.frm.toList) = b := ⟨_, rfl⟩
  obtain ⟨b4, h4⟩ : ∃ b, (e.mode.toList == f.mode.toList) = b := ⟨_, rfl⟩
  obtain ⟨b5, h5⟩ : ∃ b, (e.med == f.med) = b := ⟨_, rfl⟩
  obtain ⟨b6, h6⟩ : ∃ b, (e.st == f.st) = b := ⟨_, rfl⟩
  obtain ⟨b7, h7⟩ : ∃ b, decide (e.hs = f.hs) = b := ⟨_, rfl⟩
  obtain ⟨b8, h8⟩ : ∃ b, (e.body.toList == f.body.toList) = b := ⟨_, rfl⟩
  have HE : Hid (evB e f = (b0 && b1 && b2 && b3 && b4 && b5 && b6 && b7 && b8)) := by
    unfold Hid evB
    rw [← h0, ← h1, ← h2, ← h3, ← h4, ← h5, ← h6, ← h7, ← h8, toList_beq, toList_beq, toList_beq, toList_beq]
    rfl
  rw [h7] at HS
  clear h7
  have HQ : Hid (Six w.heap.size e f (((w.alloc (.cells #[.int .i64 e.k, .int .i64 e.id, .string e.url, .string e.frm, .string e.mode, .int .i64 e.med, .int .i64 e.st, .slice A1 n1 c1, .string e.body] 32)).alloc (.cells #[.int .i64 f.k, .int .i64 f.id, .string f.url, .string f.frm, .string f.mode, .int .i64 f.med, .int .i64 f.st, .slice A2 n2 c2, .string f.body] 32)))) := by
    have ea : ∀ i u, (#[.int .i64 e.k, .int .i64 e.id, .string e.url, .string e.frm, .string e.mode, .int .i64 e.med, .int .i64 e.st, .slice A1 n1 c1, .string e.body])[i]? = some u → (((w.alloc (.cells #[.int .i64 e.k, .int .i64 e.id, .string e.url, .string e.frm, .string e.mode, .int .i64 e.med, .int .i64 e.st, .slice A1 n1 c1, .string e.body] 32)).alloc (.cells #[.int .i64 f.k, .int .i64 f.id, .string f.url, .string f.frm, .string f.mode, .int .i64 f.med, .int .i64 f.st, .slice A2 n2 c2, .string f.body] 32))).cell? ⟨w.heap.size, i, none⟩ = some u := fun i u hu => (((Below.refl _ _).alloc (Nat.le_refl _) _).cell (p := ⟨w.heap.size, i, none⟩) (by simp)).trans ((cell_of_row _ _ i _ 32 (0, 0) (heap_alloc_new w _)).trans hu)
    have fa : ∀ i u, (#[.int .i64 f.k, .int .i64 f.id, .string f.url, .string f.frm, .string f.mode, .int .i64 f.med, .int .i64 f.st, .slice A2 n2 c2, .string f.body])[i]? = some u → (((w.alloc (.cells #[.int .i64 e.k, .int .i64 e.id, .string e.url, .string e.frm, .string e.mode, .int .i64 e.med, .int .i64 e.st, .slice A1 n1 c1, .string e.body] 32)).alloc (.cells #[.int .i64 f.k, .int .i64 f.id, .string f.url, .string f.frm, .string f.mode, .int .i64 f.med, .int .i64 f.st, .slice A2 n2 c2, .string f.body] 32))).cell? ⟨w.heap.size + 1, i, none⟩ = some u := fun i u hu => by
      have := cell_of_row _ _ i _ 32 (0, 0) (heap_alloc_new ((w.alloc (.cells #[.int .i64 e.k, .int .i64 e.id, .string e.url, .string e.frm, .string e.mode, .int .i64 e.med, .int .i64 e.st, .slice A1 n1 c1, .string e.body] 32))) (.cells #[.int .i64 f.k, .int .i64 f.id, .string f.url, .string f.frm, .string f.mode, .int .i64 f.med, .int .i64 f.st, .slice A2 n2 c2, .string f.body] 32))
      rw [World.size_alloc] at this
      exact this.trans hu
    exact ⟨ea 8 _ rfl, fa 8 _ rfl, ea 0 _ rfl, fa 0 _ rfl, ea 1 _ rfl, fa 1 _ rfl⟩
  change Calls Try.prog 47 #[.agg #[.int .i64 e.k, .int .i64 e.id, .string e.url, .string e.frm, .string e.mode, .int .i64 e.med, .int .i64 e.st, .slice A1 n1 c1, .string e.body], .agg #[.int .i64 f.k, .int .i64 f.id, .string f.url, .string f.frm, .string f.mode, .int .i64 f.med, .int .i64 f.st, .slice A2 n2 c2, .string f.body]] w _
  go_enter Try.func47, Try.ntmps47
  go_upto_region 1 with fail
  go_cut [5] from 7 to 32 (fun c wx => c = .bool (b2 && b3 && b4 && b5) ∧ wx = ((w.alloc (.cells #[.int .i64 e.k, .int .i64 e.id, .string e.url, .string e.frm, .string e.mode, .int .i64 e.med, .int .i64 e.st, .slice A1 n1 c1, .string e.body] 32)).alloc (.cells #[.int .i64 f.k, .int .i64 f.id, .string f.url, .string f.frm, .string f.mode, .int .i64 f.med, .int .i64 f.st, .slice A2 n2 c2, .string f.body] 32)))
  case first =>
    cases b2
    · go_wp2
      go_meet
      exact ⟨rfl, rfl⟩
    · cases b3
      · go_wp2
        go_meet
        exact ⟨rfl, rfl⟩
      · cases b4
        · go_wp2
          go_meet
          exact ⟨rfl, rfl⟩
        · cases b5
          · go_wp2
            go_meet
            exact ⟨rfl, rfl⟩
          · go_wp2
            go_meet
            exact ⟨rfl, rfl⟩
  case rest =>
    obtain ⟨rfl, rfl⟩ := hcut
    obtain ⟨c5, hc5⟩ : ∃ c, (b2 && b3 && b4 && b5) = c := ⟨_, rfl⟩
    have HC5 := Lib.hid hc5
    rw [hc5]
    have HEE : Hid (evB e f = (b0 && b1 && c5 && (b6 && b7) && b8)) := by
      unfold Hid
      rw [HE.out, ← hc5]
      cases b0 <;> cases b1 <;> cases b2 <;> cases b3 <;> cases b4 <;> cases b5 <;> rfl
    clear hc5 h2 h3 h4 h5
    go_upto_region 2 with fail
    go_cut [6] from 33 to 48 (fun c wx => c = .bool (b6 && b7) ∧ Hid (Six w.heap.size e f wx) ∧ Hid (Below w.heap.size w wx))
    case first =>
      cases b6
      · go_wp2
        go_meet
        exact ⟨rfl, HQ, HB⟩
      · go_wp2_with (go_at_call 53; refine HS.out.mono ?_; rintro o w3 ⟨rfl, hb⟩; have HQ3 := Lib.hid (HQ.out.below hb); have HB3 := Lib.hid (below_then HB.out (Nat.le_refl _) hb); clear hb)
        go_meet
        exact ⟨by simp, HQ3, HB3⟩
    case rest =>
      obtain ⟨rfl, HQ4, HB4⟩ := hcut
      obtain ⟨c6, hc6⟩ : ∃ c, (b6 && b7) = c := ⟨_, rfl⟩
      rw [hc6] at HEE ⊢
      obtain ⟨q1, q2, q3, q4, q5, q6⟩ := HQ4.out
      clear hc6 h6 HS HQ
      cases b0
      · go_wp2
        go_ret
        exact ⟨ret_bool (by rw [HEE.out]; simp), HB4.out⟩
      · cases b1
        · go_wp2
          go_ret
          exact ⟨ret_bool (by rw [HEE.out]; simp), HB4.out⟩
        · cases c5
          · go_wp2
            go_ret
            exact ⟨ret_bool (by rw [HEE.out]; simp), HB4.out⟩
          · cases c6
            · go_wp2
              go_ret
              exact ⟨ret_bool (by rw [HEE.out]; simp), HB4.out⟩
            · go_wp2
              go_ret
              exact ⟨ret_bool (by rw [HEE.out]; simp), HB4.out⟩
end Go.Proofs.Ytlalbfpdelfnfaa

