/-
  Layer 18 (mp3): how many bytes a frame has by the reference; the small living call; the law on any frames, walked. No condition but that a rate is a number of 64 bits.
-/
import Derived.Test.YtfjfccomcmmfoaaSize
namespace Go.Proofs.Ytfjfccomcmmfoaa
open Go.RowKit
set_option linter.unusedVariables false
attribute [local go_sem] plus_cell

theorem Size_any (v l r q : Int) (p : Bool) (w : World) (hw : IntKind.i64.wrap (r.tdiv 1000) = r.tdiv 1000) :
    Calls Try.prog 11 #[.agg #[.int .i64 v, .int .i64 l, .int .i64 r, .int .i64 q, .bool p]] w fun e w' => e = .returned (.int .i64 (sizeI v l r q p)) ∧ Below w.heap.size w w' := by
  have HO := Lib.hid (fun w => size_any v l r q p w hw)
  clear hw
  go_enter Try.func11, Try.ntmps11
  go_wp2_with (go_at_call 27; (with_reducible refine (HO.out _).mono ?_); rintro e w1 ⟨rfl, hb1⟩; have HB1 := Lib.hid hb1; clear hb1)
  go_ret
  exact ⟨rfl, below_then ((Below.refl _ _).alloc (Nat.le_refl _) _) (Nat.le_refl _) HB1.out⟩

set_option maxHeartbeats 1000000 in
theorem refSize_any (v l r q : Int) (p : Bool) (w : World) :
    Calls Try.prog 12 #[.agg #[.int .i64 v, .int .i64 l, .int .i64 r, .int .i64 q, .bool p]] w fun e w' => e = .returned (.int .i64 (sizeI v l r q p)) ∧ Below w.heap.size w w' := by
  have hRG := fun w => good_agree v l r q ▸ refGood_any v l r q p w
  cases hg : goodB v l r q
  · have HO := Lib.hid (fun w => hg ▸ hRG w)
    have HS : Hid (sizeI v l r q p = 0) := by unfold sizeI; rw [hg]; exact rfl
    clear hRG hg
    go_enter Try.func12, Try.ntmps12
    go_wp2_with (go_at_call 14; (with_reducible refine (HO.out _).mono ?_); rintro e w1 ⟨rfl, hb1⟩; have HB1 := Lib.hid hb1; clear hb1)
    go_ret
    exact ⟨ret_int HS.out.symm, below_then ((Below.refl _ _).alloc (Nat.le_refl _) _) (Nat.le_refl _) HB1.out⟩
  · have HO := Lib.hid (fun w => hg ▸ hRG w)
    obtain ⟨⟨hv0, hv1⟩, ⟨hr0, hr1⟩, ⟨hq0, hq1⟩⟩ := good_bounds v l r q hg
    have HS : Hid (sizeI v l r q p = r * (if oddB v = true then 144 else 72) / q + (if p = true then 1 else 0)) := by unfold sizeI; rw [hg]; exact rfl
    have HV : Hid (oddB v = (v % 2 == 1)) := rfl
    clear hRG hg
    have hd := IntWalk.tdiv_le (r * 144) q (by omega) (by omega)
    have hd' := IntWalk.tdiv_le (r * 72) q (by omega) (by omega)
    cases p
    all_goals
      cases hb : (v % 2 == 1)
      all_goals
        rw [hb] at HV
        go_enter Try.func12, Try.ntmps12
        go_wp2_with fail
        (with_reducible refine (HO.out _).mono ?_)
        rintro e w1 ⟨rfl, hb1⟩
        obtain ⟨c0, c1, c2, c3, c4⟩ := ((Fr.new w v l r q _).below hb1 (by simp)).cells
        have HB1 := Lib.hid hb1
        clear hb1
        go_wp2
        go_ret
        exact ⟨ret_int (by rw [HS.out, HV.out]; simp), below_then ((Below.refl _ _).alloc (Nat.le_refl _) _) (Nat.le_refl _) HB1.out⟩

end Go.Proofs.Ytfjfccomcmmfoaa
