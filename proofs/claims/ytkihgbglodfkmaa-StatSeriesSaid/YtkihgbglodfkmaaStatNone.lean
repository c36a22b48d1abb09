/-
  Layer 41: the law on what is told of no series, walked. No condition.
-/
import Derived.Test.YtkihgbglodfkmaaJoin
namespace Go.Proofs.Ytkihgbglodfkmaa
open Go.RowKit
set_option linter.unusedVariables false

theorem kind_sum {y : Nat} (h : Sum_ y none) (w : World) : Calls Try.prog 13 #[.float .f64 y] w fun e w' => e = .returned (.int .i64 0) ∧ w = w' :=
  (rKind_any y w).mono fun e w' ⟨he, hw⟩ => ⟨by
    have hn : nanB y = true := h.2
    rw [he]
    unfold kindI
    rw [hn]
    rfl, hw⟩
theorem mean_empty : meanO [] = none := rfl
theorem var_empty : varO [] = none := rfl
theorem at_empty (i : Int) : atB [] i = NN := atB_out (by simp)
theorem share_empty (num den : Int) : shareB [] num den = NN := by
  unfold shareB
  rw [if_neg (fun h => h.1 rfl)]
/-- Five numbers and themselves. -/
theorem eq47 (a b c d e : Int) (w : World) : (Op.equalIn 10000 47 (.agg #[.int .i64 a, .int .i64 b, .int .i64 c, .int .i64 d, .int .i64 e]) (.agg #[.int .i64 a, .int .i64 b, .int .i64 c, .int .i64 d, .int .i64 e])).run Try.prog w = .ok true w := by
  have u3 := Try.underlying3
  have a3 := Try.isAgg3
  have z3 := Try.sizeOf3
  rw [show (10000 : Nat) = 9999 + 1 from rfl, Op.equalIn]
  simp only [Sem.run_bind, run_underlying Try.underlying47, Result.andThen_ok]
  simp only [Std.Legacy.Range.forIn_eq_forIn_range', Std.Legacy.Range.size, Nat.sub_zero, Nat.add_sub_cancel, Nat.div_one, List.range'_succ, List.range'_zero, List.forIn_cons, List.forIn_nil]
  go_simp
theorem Kinds_nil (w : World) : Calls Try.prog 29 #[.pointer none] w fun e w' => e = .returned (.agg #[.int .i64 0, .int .i64 0, .int .i64 0, .int .i64 0, .int .i64 0]) ∧ Below w.heap.size w w' :=
  (Kinds_any (Has.nil w) (fun x hx => by simp at hx)).mono fun e w' h => h
theorem none_lt : ∀ x ∈ ([] : List Nat), x < W64 := fun x hx => by simp at hx

set_option maxRecDepth 100000 in
set_option maxHeartbeats 4000000 in
/-- The law. -/
theorem StatNone_walk (a0 a1 a2 : Int) (W : World) (w0 : (Lit.int .u64 a0).wf = true) (w1 : (Lit.int .i64 a1).wf = true) (w2 : (Lit.int .i64 a2).wf = true) :
    Calls Try.prog 7 #[.int .u64 a0, .int .i64 a1, .int .i64 a2] W fun e w' => e = .returned (.bool true) ∧ Below W.heap.size W w' := by
  obtain ⟨b, rfl, hb⟩ := u64_of a0 w0
  have HL := Lib.hid lives_any
  have heq := eq47 0 0 0 0 0
  have HB : Hid (Below W.heap.size W W) := Below.refl _ _
  clear w0 w1 w2 hb
  go_enter Try.func7, Try.ntmps7
  go_wp2_with fail
  refine (Of_any b _).mono ?_
  rintro e wn ⟨rfl, rfl⟩
  go_wp2_with fail
  refine (Add_nil b _).mono ?_
  rintro e wn ⟨rfl, rfl⟩
  go_wp2_with fail
  refine (New_any _).mono ?_
  rintro e wn ⟨rfl, _, hb⟩
  have HB := Lib.hid (below_then HB.out (Nat.le_refl _) hb)
  clear hb
  go_wp2_with fail
  refine (Join_nil _ _).mono ?_
  rintro e wn ⟨rfl, rfl⟩
  go_wp2_with fail
  refine (Len_nil _).mono ?_
  rintro e wn ⟨rfl, rfl⟩
  go_wp2_with fail
  refine (Mean_nil _).mono ?_
  rintro e wn ⟨y1, rfl, hs, hb⟩
  have HS := Lib.hid hs
  clear hs
  have HB := Lib.hid (below_then HB.out (Nat.le_refl _) hb)
  clear hb
  go_wp2_with fail
  refine (kind_sum HS.out _).mono ?_
  rintro e wn ⟨rfl, rfl⟩
  go_wp2_with fail
  refine (Var_any (Has.nil _) none_lt).mono ?_
  rintro e wn ⟨y2, rfl, hs, hb⟩
  have HS := Lib.hid hs
  clear hs
  have HB := Lib.hid (below_then HB.out (Nat.le_refl _) hb)
  clear hb
  go_wp2_with fail
  refine (kind_sum HS.out _).mono ?_
  rintro e wn ⟨rfl, rfl⟩
  go_wp2_with fail
  refine (Least_any (Has.nil _) none_lt).mono ?_
  rintro e wn ⟨y3, rfl, hy, hb⟩
  have HY : Hid (bitsN y3 = NN) := by first | exact hy.1.trans (at_empty _) | exact hy.1.trans (share_empty _ _)
  clear hy
  have HB := Lib.hid (below_then HB.out (Nat.le_refl _) hb)
  clear hb
  go_wp2_with fail
  refine (kind_nn HY.out _).mono ?_
  rintro e wn ⟨rfl, rfl⟩
  go_wp2_with fail
  refine (Most_any (Has.nil _) none_lt).mono ?_
  rintro e wn ⟨y3, rfl, hy, hb⟩
  have HY : Hid (bitsN y3 = NN) := by first | exact hy.1.trans (at_empty _) | exact hy.1.trans (share_empty _ _)
  clear hy
  have HB := Lib.hid (below_then HB.out (Nat.le_refl _) hb)
  clear hb
  go_wp2_with fail
  refine (kind_nn HY.out _).mono ?_
  rintro e wn ⟨rfl, rfl⟩
  go_wp2_with fail
  refine (At_any (Has.nil _) none_lt a1 a2).mono ?_
  rintro e wn ⟨y3, rfl, hy, hb⟩
  have HY : Hid (bitsN y3 = NN) := by first | exact hy.1.trans (at_empty _) | exact hy.1.trans (share_empty _ _)
  clear hy
  have HB := Lib.hid (below_then HB.out (Nat.le_refl _) hb)
  clear hb
  go_wp2_with fail
  refine (kind_nn HY.out _).mono ?_
  rintro e wn ⟨rfl, rfl⟩
  go_wp2_with fail
  refine (Kinds_nil _).mono ?_
  rintro e wn ⟨rfl, hb⟩
  have HB := Lib.hid (below_then HB.out (Nat.le_refl _) hb)
  clear hb
  go_wp2_with fail
  refine (Sorted_any (Has.nil _) none_lt).mono ?_
  rintro e wn ⟨A, c, ys, rfl, hs, _, hb⟩
  have HB := Lib.hid (below_then HB.out (Nat.le_refl _) hb)
  clear hb
  obtain rfl : ys = [] := List.eq_nil_of_length_eq_zero hs.len
  clear hs
  go_wp2_with fail
  refine (HL.out _).mono ?_
  rintro e wn ⟨rfl, hb⟩
  have HB := Lib.hid (below_then HB.out (Nat.le_refl _) hb)
  clear hb
  go_wp2_with fail
  go_ret
  exact ⟨rfl, HB.out⟩
end Go.Proofs.Ytkihgbglodfkmaa
