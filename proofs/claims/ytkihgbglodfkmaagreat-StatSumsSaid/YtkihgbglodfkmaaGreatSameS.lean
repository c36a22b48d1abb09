/-
  Layer 41: what was told in all is told to be the same, where it is. No condition.
-/
import Derived.Test.YtkihgbglodfkmaaGreatRSums
namespace Go.Proofs.YtkihgbglodfkmaaGreat
open Go.RowKit Go.Maps Go.Sort
set_option linter.unusedVariables false
attribute [local go_sem ↓] Go.wp_at_zero Go.wp_at_succ

theorem ints_same (d : Nat) (xs : List Int) (w : World) (hx : xs.length = 7) : (Op.equalIn (d + 2) 27 (.agg (xs.map fun x => Value.int .i64 x).toArray) (.agg (xs.map fun x => Value.int .i64 x).toArray)).run Tryz.prog w = .ok true w := by
  have hs3 : ∀ w, (sizeOf 3).run Tryz.prog w = .ok 1 w := fun w => by
    simp [sizeOf, go_sem]
    rfl
  rw [Op.equalIn]
  simp only [Sem.run_bind, run_underlying Tryz.underlying27, Result.andThen_ok, hs3, Std.Legacy.Range.forIn_eq_forIn_range', Std.Legacy.Range.size, Nat.sub_zero, Nat.add_sub_cancel, Nat.div_one]
  have hl : ∀ i ∈ List.range' 0 7 1, i < 7 := fun i hi => by simpa using (List.mem_range'_1.1 hi).2
  generalize List.range' 0 7 1 = l at hl ⊢
  induction l with
  | nil => simp
  | cons i l ih =>
    have hi : i < 7 := hl i (by simp)
    have px : (part 3 (xs.map fun x => Value.int .i64 x).toArray (i * 1)).run Tryz.prog w = .ok (.int .i64 (xs.getD i 0)) w := by
      simp [part, isAgg, run_underlying Tryz.underlying3, List.getD, List.getElem?_eq_getElem (show i < xs.length by omega)]
    simp only [List.forIn_cons, Sem.run_bind, px, run_equalIn_int (P := Tryz.prog) w d 3 .i64 .i64 _ _ Tryz.underlying3, Result.andThen_ok]
    simp only [beq_self_eq_true, Bool.not_true, Bool.false_eq_true, if_false, Sem.run_pure, Result.andThen_ok]
    exact ih fun j hj => hl j (by simp [hj])
theorem kinds_same (a b c d e f g : Int) (w : World) : (binOp .neq 27 (.agg #[.int .i64 a, .int .i64 b, .int .i64 c, .int .i64 d, .int .i64 e, .int .i64 f, .int .i64 g]) (.agg #[.int .i64 a, .int .i64 b, .int .i64 c, .int .i64 d, .int .i64 e, .int .i64 f, .int .i64 g])).run Tryz.prog w = .ok (.bool false) w := by
  rw [run_neq_struct]
  have h := ints_same 9998 [a, b, c, d, e, f, g] w rfl
  simp only [List.map_cons, List.map_nil] at h
  rw [h]
  rfl
theorem count_same (x : ByteArray) (n : Int) (w : World) : (binOp .neq 61 (.agg #[.string x, .int .i64 n]) (.agg #[.string x, .int .i64 n])).run Tryz.prog w = .ok (.bool false) w := by
  rw [run_neq_struct]
  have h : (Op.equalIn 10000 61 (.agg #[.string x, .int .i64 n]) (.agg #[.string x, .int .i64 n])).run Tryz.prog w = .ok true w := by
    rw [run_equalIn_struct (P := Tryz.prog) w 9999 61 _ _ (by kernel_rfl) (by kernel_rfl)]
    have hf : ((Tryz.prog.fieldsOf 61).toList.map fun f => (f.name, f.type, f.offset)) = [("Word", 9, 0), ("N", 3, 1)] := by kernel_rfl
    generalize (Tryz.prog.fieldsOf 61).toList = fs at hf
    obtain ⟨f1, f2, rfl⟩ : ∃ f1 f2, fs = [f1, f2] := by
      rcases fs with _ | ⟨f1, _ | ⟨f2, _ | ⟨f3, fs⟩⟩⟩
      · simp at hf
      · simp at hf
      · exact ⟨f1, f2, rfl⟩
      · simp at hf
    simp only [List.map_cons, List.map_nil, List.cons.injEq, Prod.mk.injEq, and_true] at hf
    obtain ⟨⟨n1, t1, o1⟩, n2, t2, o2⟩ := hf
    have e3 := fun a => run_equalIn_int (P := Tryz.prog) w 9998 3 .i64 .i64 a a Tryz.underlying3
    have e9 := fun a => run_equalIn_string (P := Tryz.prog) w 9998 9 a a Tryz.underlying9
    simp only [Op.eqFields, n1, t1, o1, n2, t2, o2]
    simp [part, isAgg, run_underlying Tryz.underlying3, run_underlying Tryz.underlying9, e3, e9]
  rw [h]
  rfl

/-- An element: its word, its count. -/
theorem get2s {w : World} {lo n : Nat} {v : Value} {ps : List (Bs × Nat)} (h : Rd w lo 2 v n (ps.flatMap ctc)) (hl : ps.length = n) {j : Nat} (hj : j < n) (hjp : j < ps.length) :
    ∃ g off cap, v = .slice (some ⟨g, off, none⟩) n cap ∧ w.cell? ⟨g, off + j * 2, none⟩ = some (.string ⟨ps[j].1.toArray⟩) ∧ w.cell? ⟨g, off + j * 2 + 1, none⟩ = some (.int .i64 (ps[j].2 : Nat)) ∧ n ≤ cap ∧ cap ≤ maxLen := by
  obtain ⟨g, off, cap, hv, _, _, hx, h1, h2⟩ := h.get hj
  refine ⟨g, off, cap, hv, ?_, ?_, h1, h2⟩
  · obtain ⟨u, hu, hc⟩ := hx 0 (by omega)
    rw [flat_get ctc_len ps j hjp 0 (by omega)] at hu
    cases hu
    exact hc
  · obtain ⟨u, hu, hc⟩ := hx 1 (by omega)
    rw [flat_get ctc_len ps j hjp 1 (by omega)] at hu
    cases hu
    exact hc

set_option maxRecDepth 100000 in
set_option maxHeartbeats 8000000 in
theorem SameSums_any {w : World} {B1 B2 n c1 c2 : Nat} {A1 A2 : Option Addr} {ps : List (Bs × Nat)} {a b c d e f g m : Int}
    (h1 : Rk w B1 61 2 (.slice A1 n c1) n (ps.flatMap ctc)) (h2 : Rk w B2 61 2 (.slice A2 n c2) n (ps.flatMap ctc)) (hl : ps.length = n) (hn : n ≤ 30) :
    Calls Tryz.prog 6 #[.agg #[.int .i64 a, .int .i64 b, .int .i64 c, .int .i64 d, .int .i64 e, .int .i64 f, .int .i64 g, .int .i64 m, .slice A1 n c1], .agg #[.int .i64 a, .int .i64 b, .int .i64 c, .int .i64 d, .int .i64 e, .int .i64 f, .int .i64 g, .int .i64 m, .slice A2 n c2]] w fun o w' => o = .returned (.bool true) ∧ Below w.heap.size w w' := by
  obtain ⟨Wb, hWb⟩ : ∃ W, (w.alloc (.cells #[.int .i64 a, .int .i64 b, .int .i64 c, .int .i64 d, .int .i64 e, .int .i64 f, .int .i64 g, .int .i64 m, .slice A1 n c1] 30)).alloc (.cells #[.int .i64 a, .int .i64 b, .int .i64 c, .int .i64 d, .int .i64 e, .int .i64 f, .int .i64 g, .int .i64 m, .slice A2 n c2] 30) = W := ⟨_, rfl⟩
  have hB : Below w.heap.size w Wb := by rw [← hWb]; exact ((Below.refl _ _).alloc (Nat.le_refl _) _).alloc (by simp) _
  have H1 := Lib.hid ((h1.rd (.inl (by omega))).below hB (Nat.le_refl _))
  have H2 := Lib.hid ((h2.rd (.inl (by omega))).below hB (Nat.le_refl _))
  have z1 : Wb.cell? ⟨w.heap.size, 8, none⟩ = some (.slice A1 n c1) := by
    rw [← hWb]
    exact cell_of_row _ _ _ _ _ _ ((Below.heap_alloc _ _ _ (by simp)).trans (heap_alloc_new w _))
  have z2 : Wb.cell? ⟨w.heap.size + 1, 8, none⟩ = some (.slice A2 n c2) := by
    rw [← hWb]
    have := heap_alloc_new (w.alloc (.cells #[.int .i64 a, .int .i64 b, .int .i64 c, .int .i64 d, .int .i64 e, .int .i64 f, .int .i64 g, .int .i64 m, .slice A1 n c1] 30)) (.cells #[.int .i64 a, .int .i64 b, .int .i64 c, .int .i64 d, .int .i64 e, .int .i64 f, .int .i64 g, .int .i64 m, .slice A2 n c2] 30)
    rw [World.size_alloc] at this
    exact cell_of_row _ _ _ _ _ _ this
  have HB := Lib.hid hB
  have HL := Lib.hid hl
  have HW := Lib.hid hWb
  have hk := fun w => ints_same 9998 [a, b, c, d, e, f, g] w rfl
  simp only [List.map_cons, List.map_nil] at hk
  clear h1 h2 hl hB
  go_enter Tryz.func6, Tryz.ntmps6
  clear hWb
  go_wp2
  rw [HW.out]
  clear hk HW
  go_loopw [5] (fun iv wr => ∃ i q, iv = .int .i64 (i : Nat) ∧ i ≤ n ∧ Hid (wr = Wb.drewN q)) (fun iv _ => n - (intOf iv).toNat)
  case atStart => exact ⟨0, 0, rfl, Nat.zero_le _, Lib.hid rfl⟩
  case round =>
    obtain ⟨i, q, rfl, hi, HQ⟩ := hrel
    have hQ := HQ.out
    subst hQ
    by_cases hin : i < n
    · have hip : i < ps.length := by rw [HL.out]; exact hin
      obtain ⟨g1, o1, p1, hv1, x1, y1, b1, b2⟩ := get2s H1.out HL.out hin hip
      obtain ⟨g2, o2, p2, hv2, x2, y2, b3, b4⟩ := get2s H2.out HL.out hin hip
      cases hv1
      cases hv2
      unfold maxLen at b2 b4
      generalize ps[i]'hip = pr at x1 x2 y1 y2
      have hk := fun w => count_same ⟨pr.1.toArray⟩ (pr.2 : Nat) w
      go_wp2
      go_quiet (fail)
      go_wp2
      go_roundw
      case rel => exact ⟨i + 1, _, by go_num, by omega, Lib.hid rfl⟩
      case measure => simp [intOf]; omega
    · obtain rfl : i = n := by omega
      go_wp2
      refine bodyPost_ret (v := .bool true) (by simp [results, Tryz.results6, go_sem]) rfl ⟨rfl, below_drewN HB.out _⟩
end Go.Proofs.YtkihgbglodfkmaaGreat
