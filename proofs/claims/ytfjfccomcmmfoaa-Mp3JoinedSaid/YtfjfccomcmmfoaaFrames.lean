/-
  Layer 18 (mp3): how many frames lie in some bytes, and how many bytes these have; whether some bytes are a sound.
-/
import Derived.Test.YtfjfccomcmmfoaaNext
namespace Go.Proofs.Ytfjfccomcmmfoaa
open Go.RowKit
set_option linter.unusedVariables false
attribute [local go_sem] plus_cell set_cell

theorem drop_data (s : ByteArray) (k : Nat) : (s.extract k s.size).data.toList = s.data.toList.drop k := by
  rw [Lib.extract_data]
  apply List.take_of_length_le
  rw [List.length_drop, ← Lib.size_eq]
  omega
theorem nOk_is {l : List UInt8} (h : nOk l = true) : (nS l = (nN l : Int)) ∧ 4 ≤ nN l ∧ nN l ≤ l.length := by
  have h' := h
  simp only [nOk, Bool.and_eq_true, decide_eq_true_eq] at h'
  unfold nN
  rw [if_pos h]
  omega

/-- How many frames lie in some bytes, and how many bytes these have: so far, and from there on. -/
def fr : Nat → List UInt8 → Nat → Nat → Nat × Nat
  | 0, _, c, a => (c, a)
  | f + 1, l, c, a => if nOk l = true then fr f (l.drop (nN l)) (c + 1) (a + nN l) else (c, a)

theorem frames_any (s : ByteArray) (hs : s.size ≤ 100000) (w : World) :
    Calls Try.prog 16 #[.string s] w fun e w' => e = .returned (.tuple #[.int .i64 (fr (s.size + 1) s.data.toList 0 0).1, .int .i64 (fr (s.size + 1) s.data.toList 0 0).2]) ∧ Below w.heap.size w w' := by
  obtain ⟨R, hR⟩ : ∃ R, fr (s.size + 1) s.data.toList 0 0 = R := ⟨_, rfl⟩
  have HR := Lib.hid hR
  rw [hR]
  clear hR
  go_enter Try.func16, Try.ntmps16
  go_wp2
  go_loopw [4, 5] (fun i j wr => ∃ c a f : Nat, a ≤ s.size ∧ i = .int .i64 c ∧ j = .int .i64 a ∧ c ≤ a ∧ s.size < f + a ∧ Hid (fr f (s.data.toList.drop a) c a = R) ∧ Below w.heap.size w wr) (fun _ j _ => s.size - (intOf j).toNat)
  case atStart => exact ⟨0, 0, s.size + 1, Nat.zero_le _, rfl, rfl, Nat.le_refl _, by omega, HR, Below.refl _ _⟩
  case round =>
    obtain ⟨c, a, f, ha, rfl, rfl, hca, hf, HI, hb⟩ := hrel
    have HB := Lib.hid hb
    clear hb
    obtain ⟨d, hd⟩ : ∃ d, s.extract a s.size = d := ⟨_, rfl⟩
    have hdl : d.data.toList = s.data.toList.drop a := by rw [← hd]; exact drop_data s a
    have hds : d.size = s.size - a := by rw [← hd]; exact extract_size s a s.size (Nat.le_refl _)
    have hN := fun w => next_any d (by unfold maxLen; omega) w
    obtain ⟨v, l, r, q, p, hv⟩ : ∃ v l r q p, hF d.data.toList = .agg #[.int .i64 v, .int .i64 l, .int .i64 r, .int .i64 q, .bool p] := ⟨_, _, _, _, _, rfl⟩
    rw [hv] at hN
    rw [← hdl] at HI
    obtain ⟨f', rfl⟩ : ∃ f', f = f' + 1 := ⟨f - 1, by omega⟩
    cases ho : nOk d.data.toList
    · rw [ho] at hN
      have HI' : R = (c, a) := by
        have := HI.out
        rw [fr, ho] at this
        exact this.symm
      subst HI'
      obtain ⟨z, hz⟩ : ∃ z, nS d.data.toList = z := ⟨_, rfl⟩
      rw [hz] at hN
      have H28 := Lib.hid hN
      clear hN hv hdl HI ho hz
      go_wp2_with fail
      (with_reducible refine (H28.out _).mono ?_)
      rintro e w1 ⟨rfl, hb1⟩
      have HB1 := Lib.hid hb1
      clear hb1
      go_wp2_with fail
      go_ret2
      refine ⟨rfl, ?_⟩
      have h1 := HB.out.trans (HB1.out.mono HB.out.size)
      exact h1.alloc h1.size _
    · rw [ho] at hN
      obtain ⟨e1, e2, e3⟩ := nOk_is ho
      rw [e1] at hN
      have HI' : Hid (fr f' (s.data.toList.drop (a + nN d.data.toList)) (c + 1) (a + nN d.data.toList) = R) := by
        have := HI.out
        rw [fr, ho] at this
        rw [← List.drop_drop, ← hdl]
        exact this
      rw [← Lib.size_eq] at e3
      obtain ⟨k, hk⟩ : ∃ k, nN d.data.toList = k := ⟨_, rfl⟩
      rw [hk] at hN HI' e2 e3
      have H28 := Lib.hid hN
      clear hN hv hdl HI ho hk e1
      go_wp2_with fail
      (with_reducible refine (H28.out _).mono ?_)
      rintro e w1 ⟨rfl, hb1⟩
      have HB1 := Lib.hid hb1
      clear hb1
      go_wp2_with fail
      go_roundw
      case rel =>
        refine ⟨c + 1, a + k, f', by omega, by go_num, by go_num, by omega, by omega, HI', ?_⟩
        have h1 := HB.out.trans (HB1.out.mono HB.out.size)
        exact h1.alloc h1.size _
      case measure => simp [intOf]; omega

/-- Whether some bytes are a sound: a frame, and the head of another one behind it. -/
def isB (l : List UInt8) : Bool := nOk l && hOk (l.drop (nN l))

theorem is_any (s : ByteArray) (hs : s.size ≤ 100000) (w : World) :
    Calls Try.prog 17 #[.string s] w fun e w' => e = .returned (.bool (isB s.data.toList)) ∧ Below w.heap.size w w' := by
  have hN := fun w => next_any s (by unfold maxLen; omega) w
  obtain ⟨v, l, r, q, p, hv⟩ : ∃ v l r q p, hF s.data.toList = .agg #[.int .i64 v, .int .i64 l, .int .i64 r, .int .i64 q, .bool p] := ⟨_, _, _, _, _, rfl⟩
  rw [hv] at hN
  clear hv
  cases ho : nOk s.data.toList
  · rw [ho] at hN
    have hB : isB s.data.toList = false := by unfold isB; rw [ho]; rfl
    rw [hB]
    obtain ⟨z, hz⟩ : ∃ z, nS s.data.toList = z := ⟨_, rfl⟩
    rw [hz] at hN
    have H28 := Lib.hid hN
    clear hN ho hz hB
    go_enter Try.func17, Try.ntmps17
    go_wp2_with fail
    (with_reducible refine (H28.out _).mono ?_)
    rintro e w1 ⟨rfl, hb1⟩
    have HB1 := Lib.hid hb1
    clear hb1
    go_wp2_with fail
    go_ret
    exact ⟨rfl, HB1.out.alloc HB1.out.size _⟩
  · rw [ho] at hN
    obtain ⟨e1, e2, e3⟩ := nOk_is ho
    have hB : isB s.data.toList = hOk (s.data.toList.drop (nN s.data.toList)) := by unfold isB; rw [ho]; rfl
    rw [hB]
    rw [e1] at hN
    rw [← Lib.size_eq] at e3
    obtain ⟨k, hk⟩ : ∃ k, nN s.data.toList = k := ⟨_, rfl⟩
    rw [hk] at hN e2 e3 ⊢
    obtain ⟨d, hd⟩ : ∃ d, s.extract k s.size = d := ⟨_, rfl⟩
    have hdl : d.data.toList = s.data.toList.drop k := by rw [← hd]; exact drop_data s k
    have hds : d.size = s.size - k := by rw [← hd]; exact extract_size s k s.size (Nat.le_refl _)
    have h23 := (heads_both d (by unfold maxLen; omega)).1
    rw [hdl] at h23
    obtain ⟨f, hf⟩ : ∃ f, hF (s.data.toList.drop k) = f := ⟨_, rfl⟩
    obtain ⟨ok, hok⟩ : ∃ ok, hOk (s.data.toList.drop k) = ok := ⟨_, rfl⟩
    rw [hf, hok] at h23
    rw [hok]
    have H28 := Lib.hid hN
    have H23 := Lib.hid h23
    clear hN ho hk e1 hB h23 hf hok hdl
    go_enter Try.func17, Try.ntmps17
    go_wp2_with fail
    (with_reducible refine (H28.out _).mono ?_)
    rintro e w1 ⟨rfl, hb1⟩
    have HB1 := Lib.hid hb1
    clear hb1
    go_wp2_with fail
    (with_reducible refine (H23.out _).mono ?_)
    rintro e w2 ⟨rfl, hb2⟩
    have HB2 := Lib.hid hb2
    clear hb2
    go_wp2_with fail
    go_ret
    refine ⟨rfl, ?_⟩
    have h1 : Below w.heap.size w w1 := HB1.out
    exact below_then (h1.alloc h1.size _) (Nat.le_refl _) HB2.out

theorem refIs_any (s : ByteArray) (hs : s.size ≤ 100000) (w : World) :
    Calls Try.prog 20 #[.string s] w fun e w' => e = .returned (.bool (isB s.data.toList)) ∧ Below w.heap.size w w' := by
  have hN := fun w => refNext_any s (by unfold maxLen; omega) w
  cases ho : nOk s.data.toList
  · have e0 : nN s.data.toList = 0 := by unfold nN; rw [ho]; rfl
    have hB : isB s.data.toList = false := by unfold isB; rw [ho]; rfl
    rw [hB]
    rw [e0] at hN
    have H18 : Hid (∀ w, Calls Try.prog 18 #[.string s] w fun e w' => e = .returned (.int .i64 0) ∧ Below w.heap.size w w') := hN
    clear hN ho e0 hB
    go_enter Try.func20, Try.ntmps20
    go_wp2_with (go_at_call 18; (refine (H18.out _).mono ?_); rintro e w1 ⟨rfl, hb1⟩; have HB1 := Lib.hid hb1; clear hb1)
    go_ret
    exact ⟨rfl, HB1.out⟩
  · obtain ⟨e1, e2, e3⟩ := nOk_is ho
    have hB : isB s.data.toList = hOk (s.data.toList.drop (nN s.data.toList)) := by unfold isB; rw [ho]; rfl
    rw [hB]
    rw [← Lib.size_eq] at e3
    obtain ⟨k, hk⟩ : ∃ k, nN s.data.toList = k := ⟨_, rfl⟩
    rw [hk] at hN e2 e3 ⊢
    obtain ⟨d, hd⟩ : ∃ d, s.extract k s.size = d := ⟨_, rfl⟩
    have hdl : d.data.toList = s.data.toList.drop k := by rw [← hd]; exact drop_data s k
    have hds : d.size = s.size - k := by rw [← hd]; exact extract_size s k s.size (Nat.le_refl _)
    have h9 := (heads_both d (by unfold maxLen; omega)).2
    rw [hdl] at h9
    have hq := (hGood (s.data.toList.drop k)).2.1
    obtain ⟨v, l, r, q, p, hv, hq'⟩ : ∃ v l r q p, hF (s.data.toList.drop k) = .agg #[.int .i64 v, .int .i64 l, .int .i64 r, .int .i64 q, .bool p] ∧ hQ (s.data.toList.drop k) = q := ⟨_, _, _, _, _, rfl, rfl⟩
    rw [hv] at h9
    rw [hq'] at hq
    rw [← hq]
    have hfld : ∀ w, (Instr.field 24 (.agg #[.int .i64 v, .int .i64 l, .int .i64 r, .int .i64 q, .bool p]) 3).run Try.prog w = .ok (.int .i64 q) w := fun w => by kernel_rfl
    have H18 := Lib.hid hN
    have H9 := Lib.hid h9
    clear hN ho hk e1 hB h9 hv hq' hdl hq
    go_enter Try.func20, Try.ntmps20
    go_wp2_with (first
      | (go_at_call 18; (refine (H18.out _).mono ?_); rintro e w1 ⟨rfl, hb1⟩; have HB1 := Lib.hid hb1; clear hb1)
      | (go_at_call 9; (refine (H9.out _).mono ?_); rintro e w2 ⟨rfl, hb2⟩; have HB2 := Lib.hid hb2; clear hb2))
    go_ret
    exact ⟨rfl, HB1.out.trans (HB2.out.mono HB1.out.size)⟩
end Go.Proofs.Ytfjfccomcmmfoaa
