/-
  Layer 18 (mp3): whether a frame is some bytes' by the reference, walked: two loops, one in the other. No condition.
-/
import Derived.Test.YtfjfccomcmmfoaaRef
namespace Go.Proofs.Ytfjfccomcmmfoaa
open Go.RowKit
set_option linter.unusedVariables false

attribute [local go_sem] plus_cell

theorem getD3 (k : Nat) (q : Int) (h : k < 3) (he : (q == freqsL.getD k 0) = true) : freqsL.contains q = true := by
  rcases (by omega : k = 0 ∨ k = 1 ∨ k = 2) with rfl | rfl | rfl
  all_goals
    have e := eq_of_beq he
    rw [e]
    rfl
theorem none3 (q : Int) (h : ∀ k, k < 3 → (q == freqsL.getD k 0) = false) : freqsL.contains q = false := by
  have h0 := h 0 (by omega)
  have h1 := h 1 (by omega)
  have h2 := h 2 (by omega)
  simp [freqsL] at h0 h1 h2 ⊢
  omega
theorem getD15 (b : Bool) (i : Nat) (r : Int) (h : i < 15) (he : (r == (refRatesL b).getD i 0) = true) : (refRatesL b).contains r = true := by
  have hl : i < (refRatesL b).length := by cases b <;> exact h
  have e : r = (refRatesL b)[i] := by simpa [List.getD_eq_getElem?_getD, List.getElem?_eq_getElem hl] using he
  rw [List.contains_iff_mem, e]
  exact List.getElem_mem hl
theorem none15 (b : Bool) (r : Int) (h : ∀ i, i < 15 → (r == (refRatesL b).getD i 0) = false) : (refRatesL b).contains r = false := by
  rw [List.contains_eq_any_beq, List.any_eq_false]
  intro z hz
  obtain ⟨i, hi, rfl⟩ := List.getElem_of_mem hz
  have hl : (refRatesL b).length = 15 := by cases b <;> rfl
  have := h i (by omega)
  rw [List.getD_eq_getElem?_getD, List.getElem?_eq_getElem hi] at this
  simpa using this
theorem below2 {B : Nat} {w wr : World} (h : Below B w wr) (hB : B ≤ w.heap.size) (o o' : Obj) : Below B w ((wr.alloc o).alloc o') :=
  (h.alloc (Nat.le_trans hB h.size) o).alloc (by have := h.size; simp; omega) o'

set_option maxHeartbeats 2000000 in
theorem refGood_any (v l r q : Int) (p : Bool) (w : World) :
    Calls Try.prog 14 #[.agg #[.int .i64 v, .int .i64 l, .int .i64 r, .int .i64 q, .bool p]] w fun e w' => e = .returned (.bool (refGoodB v l r q)) ∧ Below w.heap.size w w' := by
  have HG : Hid (refGoodB v l r q = (decide (0 ≤ v) && decide (v ≤ 3) && l == 3 && (refRatesL (oddB v)).contains r && freqsL.contains q)) := by unfold refGoodB; exact rfl
  by_cases hB : v < 0
  · go_enter Try.func14, Try.ntmps14
    go_wp2
    go_ret
    exact ⟨ret_bool (by rw [HG.out]; simp; omega), (Below.refl _ _).alloc (Nat.le_refl _) _⟩
  by_cases hC : 3 < v
  · go_enter Try.func14, Try.ntmps14
    go_wp2
    go_ret
    exact ⟨ret_bool (by rw [HG.out]; simp; omega), (Below.refl _ _).alloc (Nat.le_refl _) _⟩
  cases hD : (l == 3)
  · have hD' : (l != 3) = true := by simp [bne, hD]
    go_enter Try.func14, Try.ntmps14
    go_wp2
    go_ret
    exact ⟨ret_bool (by rw [HG.out, hD]; simp), (Below.refl _ _).alloc (Nat.le_refl _) _⟩
  have hD' : (l != 3) = false := by simp [bne, hD]
  obtain ⟨X, hX⟩ : ∃ X, (refRatesL (oddB v)) = X := ⟨_, rfl⟩
  obtain ⟨b, hb⟩ : ∃ b, oddB v = b := ⟨_, rfl⟩
  have HG' : Hid (refGoodB v l r q = ((refRatesL b).contains r && freqsL.contains q)) := by
    have := HG.out
    rw [hD, hb] at this
    rw [this]
    have h1 : decide (0 ≤ v) = true := by simp; omega
    have h2 : decide (v ≤ 3) = true := by simp; omega
    simp [h1, h2, Hid]
  have hr24 : ∀ n : Nat, n < 15 → ∀ w, Calls Try.prog 24 #[.int .i64 v, .int .i64 n] w fun e w' => e = .returned (.int .i64 ((refRatesL b).getD n 0)) ∧ Below w.heap.size w w' :=
    fun n hn w => hb ▸ (refRate_any v n (by omega) hn w).mono fun _ _ h => ⟨h.1, h.2 ▸ below2 (Below.refl _ _) (Nat.le_refl _) _ _⟩
  have HR := Lib.hid hr24
  clear hr24 hb hX HG X
  go_enter Try.func14, Try.ntmps14
  go_wp2
  go_loopw [3] (fun i wr => ∃ k : Nat, k ≤ 15 ∧ i = .int .i64 k ∧ Fr wr w.heap.size v l r q p ∧ Below w.heap.size w wr ∧ ∀ j, j < k → (r == (refRatesL b).getD j 0) = true → freqsL.contains q = false)
    (fun i _ => 15 - (intOf i).toNat)
  case atStart => exact ⟨0, Nat.zero_le _, rfl, Fr.new w v l r q p, (Below.refl _ _).alloc (Nat.le_refl _) _, fun j h => absurd h (by omega)⟩
  case round =>
    obtain ⟨k, hk, rfl, hfr, hbel, hno⟩ := hrel
    have HF := Lib.hid hfr
    have HB := Lib.hid hbel
    have HN := Lib.hid hno
    clear hfr hbel hno
    by_cases hlt : k < 15
    · cases hr : (r == (refRatesL b).getD k 0)
      · have HE := Lib.hid hr
        obtain ⟨x, hx⟩ : ∃ x, x = (refRatesL b).getD k 0 := ⟨_, rfl⟩
        have HR' := Lib.hid (fun w => hx ▸ HR.out k hlt w)
        rw [← hx] at hr
        clear hx
        go_wp2_with fail
        go_loopw [4] (fun i wr => ∃ m : Nat, m ≤ 3 ∧ i = .int .i64 m ∧ Fr wr w.heap.size v l r q p ∧ Below w.heap.size w wr ∧ ∀ j, j < m → (r == x) = true → (q == freqsL.getD j 0) = false)
          (fun i _ => 3 - (intOf i).toNat)
        case atStart => exact ⟨0, Nat.zero_le _, rfl, HF.out, HB.out, fun j h => absurd h (by omega)⟩
        case round =>
          obtain ⟨m, hm, rfl, hfr, hbel, hno⟩ := hrel
          obtain ⟨c0, c1, c2, c3, c4⟩ := hfr.cells
          have hlt' := hfr.lt
          have HF1 := Lib.hid hfr
          have HB1 := Lib.hid hbel
          have HN1 := Lib.hid hno
          clear hfr hbel hno
          by_cases hm3 : m < 3
          · skip
            go_wp2_with fail
            refine wp_region_plus (by kernel_rfl) (by kernel_rfl) ?_
            repeat (first | go_big_quiet_skip | (go_big_quiet_want; go_big_quiet_op; first | go_big_quiet_on | (apply Exists.intro; refine ⟨fun _ => ?_, ?_⟩; (focus (go_at_call 24; with_reducible exact plus_call (HR'.out _))); go_big_quiet_on)))
            refine wpQuiet_nil ?_
            rintro _ ⟨X, rfl⟩
            have HP := Lib.hid (plus_below wr X)
            go_wp2_with fail
            go_roundw
            case rel => exact ⟨m + 1, by omega, by go_num, HF1.out.below HP.out hlt', HB1.out.trans (HP.out.mono HB1.out.size), fun j _ he => absurd he (by simp [hr])⟩
            case measure => simp [intOf]; omega
          · go_wp2_with fail
            go_roundw
            case rel =>
              refine ⟨k + 1, by omega, by go_num, HF1.out, HB1.out, fun j hj he => ?_⟩
              by_cases e : j = k
              · subst e
                rw [HE.out] at he; cases he
              · exact HN.out j (by omega) he
            case measure => simp [intOf]; omega
      · have HE := Lib.hid hr
        obtain ⟨x, hx⟩ : ∃ x, x = (refRatesL b).getD k 0 := ⟨_, rfl⟩
        have HR' := Lib.hid (fun w => hx ▸ HR.out k hlt w)
        rw [← hx] at hr
        clear hx
        go_wp2_with fail
        go_loopw [4] (fun i wr => ∃ m : Nat, m ≤ 3 ∧ i = .int .i64 m ∧ Fr wr w.heap.size v l r q p ∧ Below w.heap.size w wr ∧ ∀ j, j < m → (r == x) = true → (q == freqsL.getD j 0) = false)
          (fun i _ => 3 - (intOf i).toNat)
        case atStart => exact ⟨0, Nat.zero_le _, rfl, HF.out, HB.out, fun j h => absurd h (by omega)⟩
        case round =>
          obtain ⟨m, hm, rfl, hfr, hbel, hno⟩ := hrel
          obtain ⟨c0, c1, c2, c3, c4⟩ := hfr.cells
          have hlt' := hfr.lt
          have HF1 := Lib.hid hfr
          have HB1 := Lib.hid hbel
          have HN1 := Lib.hid hno
          clear hfr hbel hno
          by_cases hm3 : m < 3
          · cases hq : (q == freqsL.getD m 0)
            all_goals
              have HQE := Lib.hid hq
              obtain ⟨y, hy⟩ : ∃ y, y = freqsL.getD m 0 := ⟨_, rfl⟩
              have HQ := Lib.hid (fun w => hy ▸ refFreq_any m hm3 w)
              rw [← hy] at hq
              clear hy
              go_wp2_with fail
              refine wp_region_plus (by kernel_rfl) (by kernel_rfl) ?_
              repeat (first | go_big_quiet_skip | (go_big_quiet_want; go_big_quiet_op; first | go_big_quiet_on | (apply Exists.intro; refine ⟨fun _ => ?_, ?_⟩; (focus (first | (go_at_call 24; with_reducible exact plus_call (HR'.out _)) | (go_at_call 25; with_reducible exact plus_same (HQ.out _)))); go_big_quiet_on)))
              refine wpQuiet_nil ?_
              rintro _ ⟨X, rfl⟩
              have HP := Lib.hid (plus_below wr X)
              go_wp2_with fail
            · go_roundw
              case rel =>
                refine ⟨m + 1, by omega, by go_num, HF1.out.below HP.out hlt', HB1.out.trans (HP.out.mono HB1.out.size), fun j hj he => ?_⟩
                by_cases e : j = m
                · subst e; exact HQE.out
                · exact HN1.out j (by omega) he
              case measure => simp [intOf]; omega
            · go_ret
              exact ⟨ret_bool (by rw [HG'.out, getD15 b k r hlt HE.out, getD3 m q hm3 HQE.out]; rfl), HB1.out.trans (HP.out.mono HB1.out.size)⟩
          · go_wp2_with fail
            go_roundw
            case rel =>
              refine ⟨k + 1, by omega, by go_num, HF1.out, HB1.out, fun j hj he => ?_⟩
              by_cases e : j = k
              · subst e
                exact none3 q (fun k' hk' => HN1.out k' (by omega) hr)
              · exact HN.out j (by omega) he
            case measure => simp [intOf]; omega
    · go_wp2_with fail
      go_ret
      refine ⟨ret_bool ?_, HB.out⟩
      rw [HG'.out]
      cases hc : freqsL.contains q
      · simp
      · rw [none15 b r (fun i hi => ?_)]
        · simp
        · cases e : (r == (refRatesL b).getD i 0)
          · rfl
          · rw [HN.out i (by omega) e] at hc
            cases hc
end Go.Proofs.Ytfjfccomcmmfoaa
