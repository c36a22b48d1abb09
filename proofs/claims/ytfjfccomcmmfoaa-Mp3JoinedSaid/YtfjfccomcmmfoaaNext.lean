/-
  Layer 18 (mp3): the first frame of some bytes, and how many bytes it has, by the program and by the reference.
-/
import Derived.Test.YtfjfccomcmmfoaaLaws
import Derived.Laws.CopyOwn
namespace Go.Proofs.Ytfjfccomcmmfoaa
open Go.RowKit
set_option linter.unusedVariables false
attribute [local go_sem] plus_cell set_cell

/-- How many bytes the first frame has; whether it is whole. -/
def nS (l : List UInt8) : Int := sizeI (hV l) (hL l) (hR l) (hQ l) (hP l)
def nOk (l : List UInt8) : Bool := decide (4 ≤ nS l) && decide (nS l ≤ l.length)
def nN (l : List UInt8) : Nat := if nOk l = true then (nS l).toNat else 0
theorem nS_not {l : List UInt8} (h : hOk l = false) : nS l = 0 := by
  have := (hGood l).1
  rw [h] at this
  unfold nS sizeI
  rw [this]
  rfl

theorem Fr.frozen {w : World} {n : Nat} {v l r q : Int} {p : Bool} (h : Fr w n v l r q p) (j : Nat) : w.frozen? ⟨n, j, none⟩ = false := by
  unfold Fr at h
  simp [World.frozen?, h]

theorem Try.info24 : (Try.prog.info? 24).map (·.size) = some 5 := by kernel_rfl
/-- A frame, stored whole over another one. -/
theorem wpList_store_frame {ops : Array Oper} {rest : List Oper} {o : Oper} {a : Act} {w : World} {Q : Exit → Act → World → Prop} (hgd : o.guard = none) (x y : Operand) (ho : o.op = .store 24 x y)
    (g : Nat) (v0 l0 r0 q0 : Int) (p0 : Bool) (hF : Fr w g v0 l0 r0 q0 p0) (v l r q : Int) (p : Bool) (hx : a.eval x = .pointer (some ⟨g, 0, none⟩))
    (hy : a.eval y = .agg #[.int .i64 v, .int .i64 l, .int .i64 r, .int .i64 q, .bool p])
    (h : ∀ w2, Fr w2 g v l r q p → (∀ B a, Below B a w → B ≤ g → Below B a w2) → wpList Try.prog ops Q rest (a.put o.dst undef) w2) : wpList Try.prog ops Q (o :: rest) a w :=
  wpList_store_row hgd 24 x y ho g _ hx hy 24 _ hF Try.info24 rfl (by simp [Value.oneCell']) (h _ (setRow_heap w g _ _ 24 (0, 0) hF) fun B a hb hg => below_setRow hb hg _)

theorem next_no (s : ByteArray) (h : ∀ w, Calls Try.prog 23 #[.string s] w fun e w' => e = .returned (.tuple #[.agg #[.int .i64 0, .int .i64 0, .int .i64 0, .int .i64 0, .bool false], .bool false]) ∧ Below w.heap.size w w') (w : World) :
    Calls Try.prog 28 #[.string s] w fun e w' => e = .returned (.tuple #[.agg #[.int .i64 0, .int .i64 0, .int .i64 0, .int .i64 0, .bool false], .int .i64 0, .bool false]) ∧ Below w.heap.size w w' := by
  have H := Lib.hid h
  clear h
  go_enter Try.func28, Try.ntmps28
  go_wp2_with fail
  (with_reducible refine (H.out _).mono ?_)
  rintro e w1 ⟨rfl, hb1⟩
  have HF1 := Lib.hid ((Fr.new w 0 0 0 0 false).below hb1 (by simp))
  have HB1 := Lib.hid hb1
  clear hb1
  go_wp2_with (first
    | (refine wpList_store_frame rfl (.tmp 2) (.tmp 8) rfl _ _ _ _ _ _ HF1.out 0 0 0 0 false rfl rfl ?_; intro w2 hF2 hB2; have HF2 := Lib.hid hF2; have HB2 := Lib.hid hB2; clear hB2; obtain ⟨c0, c1, c2, c3, c4⟩ := hF2.cells; have hz2 := hF2.lt; clear hF2)
    | (refine wpList_store_frame rfl (.tmp 2) (.tmp 12) rfl _ _ _ _ _ _ HF2.out 0 0 0 0 false rfl rfl ?_; intro w3 hF3 hB3; have HB3 := Lib.hid hB3; clear hB3; obtain ⟨d0, d1, d2, d3, d4⟩ := hF3.cells; clear hF3))
  refine bodyPost_ret (v := .tuple #[.agg #[.int .i64 0, .int .i64 0, .int .i64 0, .int .i64 0, .bool false], .int .i64 0, .bool false]) (by simp [results, Try.results28, go_sem, d0, d1, d2, d3, d4]) rfl ⟨rfl, ?_⟩
  exact HB3.out _ _ (HB2.out w.heap.size w (below_then ((Below.refl _ _).alloc (Nat.le_refl _) _) (Nat.le_refl _) HB1.out) (Nat.le_refl _)) (Nat.le_refl _)

theorem next_yes (s : ByteArray) (v l r q z : Int) (p ok : Bool) (hs : s.size ≤ maxLen) (hok : (decide (4 ≤ z) && decide (z ≤ s.size)) = ok)
    (h : ∀ w, Calls Try.prog 23 #[.string s] w fun e w' => e = .returned (.tuple #[.agg #[.int .i64 v, .int .i64 l, .int .i64 r, .int .i64 q, .bool p], .bool true]) ∧ Below w.heap.size w w')
    (h27 : ∀ w, Calls Try.prog 27 #[.agg #[.int .i64 v, .int .i64 l, .int .i64 r, .int .i64 q, .bool p]] w fun e w' => e = .returned (.int .i64 z) ∧ Below w.heap.size w w') (w : World) :
    Calls Try.prog 28 #[.string s] w fun e w' => e = .returned (.tuple #[.agg #[.int .i64 v, .int .i64 l, .int .i64 r, .int .i64 q, .bool p], .int .i64 z, .bool ok]) ∧ Below w.heap.size w w' := by
  unfold maxLen at hs
  have H := Lib.hid h
  have H27 := Lib.hid h27
  have HOK := Lib.hid hok
  clear h h27 hok
  by_cases h4 : 4 ≤ z
  all_goals
    go_enter Try.func28, Try.ntmps28
    go_wp2_with fail
    (with_reducible refine (H.out _).mono ?_)
    rintro e w1 ⟨rfl, hb1⟩
    have HF1 := Lib.hid ((Fr.new w 0 0 0 0 false).below hb1 (by simp))
    have HB1 := Lib.hid hb1
    clear hb1
    go_wp2_with (first
      | (refine wpList_store_frame rfl (.tmp 2) (.tmp 8) rfl _ _ _ _ _ _ HF1.out v l r q p rfl rfl ?_; intro w2 hF2 hB2; have HF2 := Lib.hid hF2; have HB2 := Lib.hid hB2; clear hB2; obtain ⟨c0, c1, c2, c3, c4⟩ := hF2.cells; have hz2 := hF2.lt; clear hF2)
      | (go_at_call 27; (with_reducible refine (H27.out _).mono ?_); rintro e w3 ⟨rfl, hb3⟩; have HF3 := Lib.hid (HF2.out.below hb3 hz2); have HB3 := Lib.hid hb3; clear hb3; obtain ⟨d0, d1, d2, d3, d4⟩ := HF3.out.cells)
      | (refine wpList_store_frame rfl (.tmp 2) (.tmp 15) rfl _ _ _ _ _ _ HF3.out v l r q p rfl rfl ?_; intro w4 hF4 hB4; have HB4 := Lib.hid hB4; clear hB4; obtain ⟨e0, e1, e2, e3, e4⟩ := hF4.cells; clear hF4))
    refine bodyPost_ret (v := .tuple #[.agg #[.int .i64 v, .int .i64 l, .int .i64 r, .int .i64 q, .bool p], .int .i64 z, .bool ok]) (by first | (simp [results, Try.results28, go_sem, e0, e1, e2, e3, e4, ← HOK.out, h4]; done) | (simp [results, Try.results28, go_sem, e0, e1, e2, e3, e4, ← HOK.out]; omega)) rfl ⟨rfl, ?_⟩
    have hb2 := HB2.out w.heap.size w (below_then ((Below.refl _ _).alloc (Nat.le_refl _) _) (Nat.le_refl _) HB1.out) (Nat.le_refl _)
    exact HB4.out _ _ (hb2.trans (HB3.out.mono hb2.size)) (Nat.le_refl _)

theorem next_any (s : ByteArray) (hs : s.size ≤ maxLen) (w : World) :
    Calls Try.prog 28 #[.string s] w fun e w' => e = .returned (.tuple #[hF s.data.toList, .int .i64 (nS s.data.toList), .bool (nOk s.data.toList)]) ∧ Below w.heap.size w w' := by
  have h23 := (heads_both s hs).1
  cases h : hOk s.data.toList
  · rw [h, hF_not h] at h23
    have e2 : nOk s.data.toList = false := by
      unfold nOk
      rw [nS_not h]
      rfl
    rw [hF_not h, nS_not h, e2]
    exact next_no s h23 w
  · rw [h] at h23
    obtain ⟨hg, hq, hr0, hr1⟩ := hGood s.data.toList
    have hw : IntKind.i64.wrap ((hR s.data.toList).tdiv 1000) = (hR s.data.toList).tdiv 1000 := IntWalk.i64_quo' _ _ ⟨by omega, by omega, by omega⟩
    exact next_yes s _ _ _ _ (nS s.data.toList) _ _ hs (by unfold nOk; rw [Lib.size_eq]) h23 (fun w => size_any _ _ _ _ _ w hw) w

theorem refNext_any (s : ByteArray) (hs : s.size ≤ maxLen) (w : World) :
    Calls Try.prog 18 #[.string s] w fun e w' => e = .returned (.int .i64 (nN s.data.toList)) ∧ Below w.heap.size w w' := by
  have h9 := (heads_both s hs).2
  have h12 := fun w => refSize_any (hV s.data.toList) (hL s.data.toList) (hR s.data.toList) (hQ s.data.toList) (hP s.data.toList) w
  change ∀ w, Calls Try.prog 12 #[hF s.data.toList] w fun e w' => e = .returned (.int .i64 (nS s.data.toList)) ∧ Below w.heap.size w w' at h12
  have HN : Hid (((nN s.data.toList : Nat) : Int) = if 4 ≤ nS s.data.toList ∧ nS s.data.toList ≤ s.size then nS s.data.toList else 0) := by
    unfold Hid nN nOk
    rw [Lib.size_eq]
    by_cases c : 4 ≤ nS s.data.toList ∧ nS s.data.toList ≤ s.data.toList.length
    · rw [if_pos c, if_pos (by simpa using c)]
      omega
    · rw [if_neg c, if_neg (by simpa using c)]
      rfl
  obtain ⟨z, hz⟩ : ∃ z, nS s.data.toList = z := ⟨_, rfl⟩
  obtain ⟨n, hn⟩ : ∃ n : Int, ((nN s.data.toList : Nat) : Int) = n := ⟨_, rfl⟩
  obtain ⟨f, hf⟩ : ∃ f, hF s.data.toList = f := ⟨_, rfl⟩
  rw [hz] at h12 HN
  rw [hn] at HN ⊢
  rw [hf] at h12 h9
  unfold maxLen at hs
  have H9 := Lib.hid h9
  have H12 := Lib.hid h12
  clear h9 h12 hz hn hf
  by_cases c4 : 4 ≤ z
  · by_cases c5 : z ≤ s.size
    · go_enter Try.func18, Try.ntmps18
      go_wp2_with (first
        | (go_at_call 9; (refine (H9.out _).mono ?_); rintro e w1 ⟨rfl, hb1⟩; have HB1 := Lib.hid hb1; clear hb1)
        | (go_at_call 12; (refine (H12.out _).mono ?_); rintro e w2 ⟨rfl, hb2⟩; have HB2 := Lib.hid hb2; clear hb2))
      go_ret
      exact ⟨ret_int (by rw [HN.out, if_pos ⟨c4, c5⟩]), HB1.out.trans (HB2.out.mono HB1.out.size)⟩
    · go_enter Try.func18, Try.ntmps18
      go_wp2_with (first
        | (go_at_call 9; (refine (H9.out _).mono ?_); rintro e w1 ⟨rfl, hb1⟩; have HB1 := Lib.hid hb1; clear hb1)
        | (go_at_call 12; (refine (H12.out _).mono ?_); rintro e w2 ⟨rfl, hb2⟩; have HB2 := Lib.hid hb2; clear hb2))
      go_ret
      exact ⟨ret_int (by rw [HN.out, if_neg (by omega)]), HB1.out.trans (HB2.out.mono HB1.out.size)⟩
  · go_enter Try.func18, Try.ntmps18
    go_wp2_with (first
      | (go_at_call 9; (refine (H9.out _).mono ?_); rintro e w1 ⟨rfl, hb1⟩; have HB1 := Lib.hid hb1; clear hb1)
      | (go_at_call 12; (refine (H12.out _).mono ?_); rintro e w2 ⟨rfl, hb2⟩; have HB2 := Lib.hid hb2; clear hb2))
    go_ret
    exact ⟨ret_int (by rw [HN.out, if_neg (by omega)]), HB1.out.trans (HB2.out.mono HB1.out.size)⟩
end Go.Proofs.Ytfjfccomcmmfoaa
