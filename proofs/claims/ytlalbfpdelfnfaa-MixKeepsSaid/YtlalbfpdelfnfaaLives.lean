/-
  Layer 43 (mix): a chunk is cut, and its bytes are found. No condition.
-/
import Derived.Test.YtlalbfpdelfnfaaCut
import Derived.Test.YtlalbfpdelfnfaaBodies
import Derived.Test.YtlalbfpdelfnfaaSameL
namespace Go.Proofs.Ytlalbfpdelfnfaa
open Go.RowKit
set_option linter.unusedVariables false

def abc : ByteArray := ⟨#[97, 98, 99]⟩
def liveE : Ev := ⟨3, 1, ⟨#[]⟩, ⟨#[]⟩, ⟨#[]⟩, 0, 0, [], abc⟩
def liveL : List Ev := [{ liveE with body := ⟨#[97]⟩ }, { liveE with body := ⟨#[98]⟩ }, { liveE with body := ⟨#[99]⟩ }]
theorem live_pieces : pieces 1 abc = [⟨#[97]⟩, ⟨#[98]⟩, ⟨#[99]⟩] := by decide +kernel
theorem live_cut : cutL 1 [liveE] = liveL := by
  have : cutE 1 liveE = (pieces 1 abc).map fun s => { liveE with body := s } := by unfold cutE; rw [if_pos (show liveE.k = 3 from rfl)]; rfl
  unfold cutL
  rw [List.flatMap_cons, List.flatMap_nil, List.append_nil, this, live_pieces]
  rfl
theorem live_body : bodyL 1 liveL = abc := by decide +kernel
theorem live_evs (w : World) : Evs (w.alloc (.cells #[.int .i64 3, .int .i64 1, .string ⟨#[]⟩, .string ⟨#[]⟩, .string ⟨#[]⟩, .int .i64 0, .int .i64 0, .slice none 0 0, .string ⟨#[97, 98, 99]⟩] 32)) 0 (.slice (some ⟨w.heap.size, 0, none⟩) 1 1) 1 [liveE] := by
  refine ⟨[(liveE, .slice none 0 0)], rfl, rfl, ?_, fun p hp => ?_⟩
  · refine Rd.base (lo := w.heap.size) (Rk.rd (e := 32) ⟨rfl, .inr ⟨w.heap.size, 0, 1, _, rfl, Nat.le_refl _, heap_alloc_new w _, Nat.le_refl _, by decide, by decide, fun j u hj => ?_⟩⟩ (.inl (by decide))) (Nat.zero_le _)
    rw [Nat.zero_add]
    match j with
    | 0 => exact hj
    | 1 => exact hj
    | 2 => exact hj
    | 3 => exact hj
    | 4 => exact hj
    | 5 => exact hj
    | 6 => exact hj
    | 7 => exact hj
    | 8 => exact hj
    | j + 9 => simp [evp, evc] at hj
  · obtain rfl : p = (liveE, .slice none 0 0) := by simpa using hp
    exact ⟨⟨rfl, Nat.zero_le _, .inl ⟨rfl, none, 0, rfl, fun _ => rfl⟩⟩, fun j hj => by simp [Value.ownBlock] at hj⟩

set_option maxRecDepth 100000 in
set_option maxHeartbeats 2000000 in
theorem lives_any (w : World) : Calls Try.prog 16 #[] w fun e w' => e = .returned (.bool true) ∧ Below w.heap.size w w' := by
  have hb1 : Below w.heap.size w (w.alloc (.cells #[.int .i64 3, .int .i64 1, .string ⟨#[]⟩, .string ⟨#[]⟩, .string ⟨#[]⟩, .int .i64 0, .int .i64 0, .slice none 0 0, .string ⟨#[97, 98, 99]⟩] 32)) := (Below.refl _ _).alloc (Nat.le_refl _) _
  have hb2 : Below (w.heap.size + 1) (w.alloc (.cells #[.int .i64 3, .int .i64 1, .string ⟨#[]⟩, .string ⟨#[]⟩, .string ⟨#[]⟩, .int .i64 0, .int .i64 0, .slice none 0 0, .string ⟨#[97, 98, 99]⟩] 32)) ((w.alloc (.cells #[.int .i64 3, .int .i64 1, .string ⟨#[]⟩, .string ⟨#[]⟩, .string ⟨#[]⟩, .int .i64 0, .int .i64 0, .slice none 0 0, .string ⟨#[97, 98, 99]⟩] 32)).alloc (.cells #[.int .i64 1] 3)) := (Below.refl _ _).alloc (by simp) _
  have HB := Lib.hid (hb1.trans (hb2.mono (by omega)))
  have h := cut_walk (z := 1) (sb := w.heap.size + 1) (so := 0) (cap := 1) ((live_evs w).below (hb2.mono (by simp))) (by decide) (fun e he => by simp at he; subst he; decide) (fun e he => by simp at he; subst he; decide +kernel) (by decide) (by simp)
    (by have := cell_of_row _ _ 0 _ _ _ (heap_alloc_new (w.alloc (.cells #[.int .i64 3, .int .i64 1, .string ⟨#[]⟩, .string ⟨#[]⟩, .string ⟨#[]⟩, .int .i64 0, .int .i64 0, .slice none 0 0, .string ⟨#[97, 98, 99]⟩] 32)) (.cells #[.int .i64 1] 3)); rw [World.size_alloc] at this; exact this)
  rw [live_cut] at h
  have HC := Lib.hid h
  clear hb1 hb2 h
  go_enter Try.func16, Try.ntmps16
  go_wp2_with fail
  refine HC.out.mono ?_
  rintro o w3 ⟨A, c, rfl, hE, hb3⟩
  have HE := Lib.hid hE
  have HB3 := Lib.hid hb3
  obtain ⟨g, off, A1, c1, _, rfl, he, _, _⟩ := evs_at (i := 0) hE (Below.refl _ _) (by decide)
  obtain ⟨g2, off2, A2, c2, _, hA, he2, _, _⟩ := evs_at (i := 2) hE (Below.refl _ _) (by decide)
  cases hA
  have q0 := he.c8
  have q2 := he2.c8
  clear he he2 hE hb3
  simp only [liveL, List.getElem_cons_zero, List.getElem_cons_succ] at q0 q2
  have HBO := Lib.hid (body_any 1 HE.out (by decide) (fun e he => by simp [liveL] at he; rcases he with rfl | rfl | rfl <;> decide +kernel))
  have HLB := Lib.hid live_body
  rw [HLB.out] at HBO
  go_wp2_with (go_at_call 19; refine HBO.out.mono ?_; rintro o w4 ⟨rfl, hb4⟩; have HB4 := Lib.hid hb4; clear hb4)
  go_ret
  exact ⟨ret_bool (by decide +kernel), below_then (HB.out.trans (HB3.out.mono HB.out.size)) (Nat.le_refl _) (HB4.out.mono (Nat.le_refl _))⟩
end Go.Proofs.Ytlalbfpdelfnfaa
