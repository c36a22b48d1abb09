/-
  Layer 41: a series in memory: a new one, its numbers, how many, one more. No condition but that the series is one.
-/
import Derived.Test.YtkihgbglodfkmaaGreatRows
import Derived.Test.YtkihgbglodfkmaaGreatMany
namespace Go.Proofs.YtkihgbglodfkmaaGreat
open Go.RowKit
set_option linter.unusedVariables false

def fl (b : Nat) : Value := .float .f64 b
/-- The series whose block is g holds the numbers xs. -/
structure Ser (w : World) (B g : Nat) (xs : List Nat) : Prop where
  low : B ≤ g
  few : xs.length ≤ 10000
  ex : ∃ A cap, w.heap[g]? = some (.cells #[.slice A xs.length cap] 77 (0, 0)) ∧ Row w B 40 (.slice A xs.length cap) xs.length (xs.map fl)
theorem Ser.below {w w' : World} {B g : Nat} {xs : List Nat} (h : Ser w B g xs) (hb : Below w.heap.size w w') : Ser w' B g xs := by
  obtain ⟨h1, h2, A, cap, hg, hr⟩ := h
  exact ⟨h1, h2, A, cap, (hb.block g (blk_lt hg)).trans hg, hr.below hb (Nat.le_refl _)⟩

theorem New_any (w : World) : Calls Tryz.prog 21 #[] w fun e w' => e = .returned (.pointer (some ⟨w.heap.size, 0, none⟩)) ∧ Ser w' w.heap.size w.heap.size [] ∧ Below w.heap.size w w' := by
  go_enter Tryz.func21, Tryz.ntmps21
  go_wp2
  go_ret
  exact ⟨rfl, ⟨Nat.le_refl _, Nat.zero_le _, none, 0, heap_alloc_new w _, Row.nil_ _ _ _⟩, (Below.refl _ _).alloc (Nat.le_refl _) _⟩
theorem all_nil (w : World) : Calls Tryz.prog 30 #[.pointer none] w fun e w' => e = .returned (.slice none 0 0) ∧ w = w' := by
  go_enter Tryz.func30, Tryz.ntmps30
  go_wp2
  go_ret
  exact ⟨rfl, rfl⟩
theorem all_any {w : World} {B g : Nat} {xs : List Nat} (h : Ser w B g xs) : ∃ A cap, Row w B 40 (.slice A xs.length cap) xs.length (xs.map fl) ∧
    Calls Tryz.prog 30 #[.pointer (some ⟨g, 0, none⟩)] w fun e w' => e = .returned (.slice A xs.length cap) ∧ w = w' := by
  obtain ⟨h1, h2, A, cap, hg, hr⟩ := h
  refine ⟨A, cap, hr, ?_⟩
  have c0 : w.cell? ⟨g, 0, none⟩ = some (.slice A xs.length cap) := cell_of_row w g 0 _ _ _ hg
  clear hg hr h2
  go_enter Tryz.func30, Tryz.ntmps30
  go_wp2
  go_ret
  exact ⟨rfl, rfl⟩
theorem Len_nil (w : World) : Calls Tryz.prog 10 #[.pointer none] w fun e w' => e = .returned (.int .i64 0) ∧ w = w' := by
  have H1 := Lib.hid (all_nil w)
  go_enter Tryz.func10, Tryz.ntmps10
  go_wp2_with (go_at_call 30; refine H1.out.mono ?_; rintro e w1 ⟨rfl, rfl⟩)
  go_ret
  exact ⟨rfl, rfl⟩
theorem Len_any {w : World} {B g : Nat} {xs : List Nat} (h : Ser w B g xs) : Calls Tryz.prog 10 #[.pointer (some ⟨g, 0, none⟩)] w fun e w' => e = .returned (.int .i64 xs.length) ∧ w = w' := by
  obtain ⟨A, cap, _, hc⟩ := all_any h
  have H1 := Lib.hid hc
  clear hc h
  go_enter Tryz.func10, Tryz.ntmps10
  go_wp2_with (go_at_call 30; refine H1.out.mono ?_; rintro e w1 ⟨rfl, rfl⟩)
  go_ret
  exact ⟨rfl, rfl⟩

theorem infoF : (Tryz.prog.info? 40).map (fun i => (i.zero, i.size, i.bytes)) = some (some (.float .f64 0), 1, 8) := by kernel_rfl

theorem Add_nil (b : Nat) (w : World) : Calls Tryz.prog 24 #[.pointer none, fl b] w fun e w' => e = .returned (.int .i64 1) ∧ w = w' := by
  unfold fl
  go_enter Tryz.func24, Tryz.ntmps24
  go_wp2
  go_ret
  exact ⟨rfl, rfl⟩

theorem grown_blk {w w1 : World} {o : Obj} {row : Option Nat} (h : (w.alloc o).grownBy w1 row) {g : Nat} (hg : g < w.heap.size) (hne : row ≠ some g) : w1.heap[g]? = w.heap[g]? :=
  (h.block g (by simp; omega) (fun e => hne e.symm)).trans (Below.heap_alloc w o g hg)

set_option maxHeartbeats 1000000 in
theorem Add_room2 {w : World} {B g : Nat} {xs : List Nat} (h : Ser w B g xs) (b : Nat) (hr : xs.length < 10000) (hB : B ≤ w.heap.size) :
    Calls Tryz.prog 24 #[.pointer (some ⟨g, 0, none⟩), fl b] w fun e w' => e = .returned (.int .i64 0) ∧ Ser w' B g (xs ++ [b]) ∧ Below B w w' ∧ (∀ (k : Nat) (o : Obj), w.heap[k]? = some o → (∀ cs m, o ≠ Obj.cells cs 40 m) → (∀ cs m, o ≠ Obj.cells cs 77 m) → w'.heap[k]? = some o) := by
  obtain ⟨h1, h2, A, cap, hg, hrow⟩ := h
  unfold fl at hrow ⊢
  have hlt := blk_lt hg
  have hap := hrow.apart hg (by decide)
  have c0 : w.cell? ⟨g, 0, none⟩ = some (.slice A xs.length cap) := cell_of_row w g 0 _ _ _ hg
  have HR := Lib.hid (hrow.alloc (.cells #[.float .f64 b] 40))
  have HA := Lib.hid hap
  have HG := Lib.hid hg
  have HB := Lib.hid hB
  have HCN : Hid ((w.alloc (.cells #[.float .f64 b] 40)).cell? ⟨w.heap.size, 0, none⟩ = some (.float .f64 b)) := by unfold Hid; rw [World.cell?_alloc_new]; rfl
  obtain ⟨i, hi, hz0, hz1, hz2⟩ := info_parts infoF
  have HI := Lib.hid hi
  have HZ := Lib.hid hz0
  have HZ1 := Lib.hid hz1
  have HZ2 : Hid (i.bytes ≤ 1000) := by unfold Hid; omega
  have HL : Hid (xs.length ≤ 1000000000) := by unfold Hid; omega
  have HB2 : Hid (B ≤ (w.alloc (.cells #[.float .f64 b] 40)).heap.size) := by unfold Hid; simp; omega
  have hr' : ((xs.length : Nat) : Int) < 10000 := by omega
  have hr2 : ¬ (10000 : Int) ≤ ((xs.length : Nat) : Int) := by omega
  clear hrow hg hi hz0 hz1 hz2 hap hB
  go_enter Tryz.func24, Tryz.ntmps24
  go_wp2_with (first
    | (at_builtin; refine wpList_append_row rfl (.tmp 19) (.tmp 21) 33 rfl B 40 i (.float .f64 0) Tryz.underlying33 HI.out HZ.out HZ1.out HZ2.out rfl _ _ _ rfl HR.out _ _ _ rfl HCN.out rfl HL.out HB2.out ?_; intro A1 e1 w1 hr1 hgr1; have hg1 := (grown_blk hgr1 hlt HA.out).trans HG.out; have d0 := cell_of_row w1 g 0 _ _ _ hg1; have f0' := blk_frozen hg1 0; have HG1 := Lib.hid hg1; have HR1 := Lib.hid hr1; have HGR := Lib.hid hgr1; clear hr1 hgr1 hg1)
    | go_in)
  go_ret
  have hb1 : Below B w w1 := ((Below.refl B w).alloc HB.out _).grown HGR.out HB2.out (fun b hb => (HR.out.lt b hb).1)
  have hap1 := HR1.out.apart HG1.out (by decide)
  refine ⟨rfl, ⟨h1, by simp; omega, A1, e1, ?_, ?_⟩, hb1.setCell (p := ⟨g, 0, none⟩) h1 _, fun k o hk n40 n77 => ?_⟩
  · rw [blk_set HG1.out 0]
    simp
  · have := HR1.out.setCell (p := ⟨g, 0, none⟩) hap1 (.slice A1 (xs.length + 1) e1)
    have e : (xs ++ [b]).map fl = xs.map (fun b => Value.float .f64 b) ++ [.float .f64 b] := by rw [List.map_append]; rfl
    rw [e, show (xs ++ [b]).length = xs.length + 1 by simp]
    exact this
  · have hkg : k ≠ g := fun e => by
      subst e
      rw [HG.out] at hk
      exact n77 _ _ _ (Option.some.inj hk).symm
    refine (Below.heap_setCell _ _ _ _ hkg).trans ?_
    have ha : (w.alloc (.cells #[.float .f64 b] 40)).heap[k]? = some o := (Below.heap_alloc _ _ _ (blk_lt hk)).trans hk
    refine (HGR.out.block k (blk_lt ha) fun e0 => ?_).trans ha
    have e : some k = (Value.slice A xs.length cap).ownBlock := e0
    clear e0
    rcases HR.out.2 with ⟨h0, _⟩ | ⟨g2, off, cap2, cur, hv, _, hg2, _⟩
    · rw [h0] at e
      simp [Value.ownBlock] at e
    · rw [hv] at e
      simp [Value.ownBlock] at e
      subst e
      rw [ha] at hg2
      exact n40 _ _ _ (Option.some.inj hg2)
theorem Add_room {w : World} {B g : Nat} {xs : List Nat} (h : Ser w B g xs) (b : Nat) (hr : xs.length < 10000) (hB : B ≤ w.heap.size) :
    Calls Tryz.prog 24 #[.pointer (some ⟨g, 0, none⟩), fl b] w fun e w' => e = .returned (.int .i64 0) ∧ Ser w' B g (xs ++ [b]) ∧ Below B w w' :=
  (Add_room2 h b hr hB).mono fun e w' h => ⟨h.1, h.2.1, h.2.2.1⟩

end Go.Proofs.YtkihgbglodfkmaaGreat
