/-
  Layer 18 (mp3): the law on sounds: whether some bytes are one, how many frames lie in them, how long these are.
-/
import Derived.Test.YtfjfccomcmmfoaaSeconds
namespace Go.Proofs.Ytfjfccomcmmfoaa
open Go.RowKit
set_option linter.unusedVariables false
attribute [local go_sem] plus_cell set_cell

theorem fr_ge : ∀ (f : Nat) (l : List UInt8) (c a : Nat), c ≤ (fr f l c a).1
  | 0, _, _, _ => Nat.le_refl _
  | f + 1, l, c, a => by
    unfold fr
    split
    · exact Nat.le_trans (Nat.le_succ c) (fr_ge f _ _ _)
    · exact Nat.le_refl _
theorem is_some_frame (f : Nat) (l : List UInt8) (h : isB l = true) : 1 ≤ (fr (f + 1) l 0 0).1 := by
  simp only [isB, Bool.and_eq_true] at h
  unfold fr
  rw [if_pos h.1]
  exact fr_ge f _ 1 _

set_option maxHeartbeats 1000000 in
theorem tells_walk (s0 : ByteArray) (w : World) (hs0 : s0.size ≤ maxLen) :
    Calls Try.prog 6 #[.string s0] w fun e w' => e = .returned (.bool true) ∧ Below w.heap.size w w' := by
  obtain ⟨s, hs'⟩ : ∃ s, s0.extract 0 3000 = s := ⟨_, rfl⟩
  have hs : s.size ≤ 3000 := by rw [← hs']; exact (extract_cut_le s0 3000).1
  have H7 := Lib.hid (fun w => hs' ▸ cut_any s0 3000 hs0 w)
  have c16 := fun w => frames_any s (by omega) w
  have c17 := fun w => is_any s (by omega) w
  have c20 := fun w => refIs_any s (by omega) w
  have c22 := fun w => seconds_any s (by omega) w
  have c18 := fun w => refNext_any s (by unfold maxLen; omega) w
  have hsome := is_some_frame s.size s.data.toList
  obtain ⟨R1, hR1⟩ : ∃ n, (fr (s.size + 1) s.data.toList 0 0).1 = n := ⟨_, rfl⟩
  obtain ⟨R2, hR2⟩ : ∃ n, (fr (s.size + 1) s.data.toList 0 0).2 = n := ⟨_, rfl⟩
  have HR : Hid (fr (s.size + 1) s.data.toList 0 0 = (R1, R2)) := by unfold Hid; rw [← hR1, ← hR2]
  obtain ⟨S, hS⟩ : ∃ S, sm (s.size + 1) s.data.toList 0 = S := ⟨_, rfl⟩
  have HS := Lib.hid hS
  obtain ⟨is, his⟩ : ∃ is, isB s.data.toList = is := ⟨_, rfl⟩
  rw [hR1, hR2] at c16
  rw [hR1, his] at hsome
  rw [hS] at c22
  rw [his] at c17 c20
  obtain ⟨k0, hk0⟩ : ∃ k, nN s.data.toList = k := ⟨_, rfl⟩
  have HK0 := Lib.hid hk0
  rw [hk0] at c18
  obtain ⟨N, c21⟩ := Bits_any S
  have H16 := Lib.hid c16
  have H17 := Lib.hid c17
  have H18 := Lib.hid c18
  have H20 := Lib.hid c20
  have H21 := Lib.hid c21
  have H22 := Lib.hid c22
  have H13 := Lib.hid lives_any
  clear c16 c17 c18 c20 c21 c22 hR1 hR2 hS his hk0 hs' hs0
  go_enter Try.func6, Try.ntmps6
  go_wp2_with (first
    | (go_at_call 7; (refine (H7.out _).mono ?_); rintro e w1 ⟨rfl, rfl⟩)
    | (go_at_call 18; (with_reducible refine (H18.out _).mono ?_); rintro e w1 ⟨rfl, hb0⟩; have HB0 := Lib.hid hb0; clear hb0))
  go_loopw [3, 4, 5, 6] (fun i j g h wr => ∃ (c a x k f : Nat), i = .int .i64 c ∧ j = .int .i64 a ∧ g = .float .f64 x ∧ h = .int .i64 k ∧ a ≤ s.size ∧ c ≤ a ∧ s.size < f + a ∧ x ≤ infR ∧ Hid (nN (s.data.toList.drop a) = k) ∧ Hid (fr f (s.data.toList.drop a) c a = (R1, R2)) ∧ Hid (sm f (s.data.toList.drop a) x = S) ∧ Below w.heap.size w wr) (fun _ j _ _ _ => s.size - (intOf j).toNat)
  case atStart => exact ⟨0, 0, 0, k0, s.size + 1, rfl, rfl, rfl, rfl, Nat.zero_le _, Nat.le_refl _, by omega, Nat.zero_le _, HK0, HR, HS, HB0.out⟩
  case round =>
    obtain ⟨c, a, x, k, f, rfl, rfl, rfl, rfl, ha, hca, hf, hx, HK, HF, HM, hb⟩ := hrel
    have HB := Lib.hid hb
    clear hb
    obtain ⟨f', rfl⟩ : ∃ f', f = f' + 1 := ⟨f - 1, by omega⟩
    obtain ⟨d, hd⟩ : ∃ d, s.extract a s.size = d := ⟨_, rfl⟩
    have hdl : d.data.toList = s.data.toList.drop a := by rw [← hd]; exact drop_data s a
    have hds : d.size = s.size - a := by rw [← hd]; exact extract_size s a s.size (Nat.le_refl _)
    rw [← hdl] at HK HF HM
    cases ho : nOk d.data.toList
    · have hk0 : k = 0 := by
        rw [← HK.out]
        unfold nN
        rw [ho]
        rfl
      subst hk0
      have e1 := HF.out
      rw [fr, ho] at e1
      have e2 := HM.out
      rw [sm, ho] at e2
      simp only [Bool.false_eq_true, if_false, Prod.mk.injEq] at e1 e2
      obtain ⟨rfl, rfl⟩ := e1
      subst e2
      clear ho hdl HK HF HM
      cases is
      all_goals
        first
          | (have h1 : ¬ (c : Int) ≤ 0 := by have := hsome rfl; omega)
          | skip
        clear hsome
        go_wp2_with (first
          | (go_at_call 16; (with_reducible refine (H16.out _).mono ?_); rintro e w1 ⟨rfl, hb1⟩; have HB1 := Lib.hid hb1; clear hb1)
          | (go_at_call 17; (with_reducible refine (H17.out _).mono ?_); rintro e w2 ⟨rfl, hb2⟩; have HB2 := Lib.hid hb2; clear hb2)
          | (go_at_call 20; (with_reducible refine (H20.out _).mono ?_); rintro e w3 ⟨rfl, hb3⟩; have HB3 := Lib.hid hb3; clear hb3)
          | (go_at_call 22; (with_reducible refine (H22.out _).mono ?_); rintro e w4 ⟨rfl, hb4⟩; have HB4 := Lib.hid hb4; clear hb4)
          | (go_at_call 21; (with_reducible refine (H21.out _).mono ?_); rintro e w' ⟨rfl, rfl⟩)
          | (go_at_call 13; (with_reducible refine (H13.out _).mono ?_); rintro e w5 ⟨rfl, hb5⟩; have HB5 := Lib.hid hb5; clear hb5))
        go_ret
        refine ⟨rfl, ?_⟩
        have h1 := HB.out.trans (HB1.out.mono HB.out.size)
        have h2 := h1.trans (HB2.out.mono h1.size)
        have h3 := h2.trans (HB3.out.mono h2.size)
        have h4 := h3.trans (HB4.out.mono h3.size)
        exact h4.trans (HB5.out.mono h4.size)
    · obtain ⟨e1, e2, e3⟩ := nOk_is ho
      obtain ⟨hv3, hq⟩ := head_tells _ ho
      obtain ⟨q1, q2⟩ := qF_is (oddB (hV d.data.toList)) _ hq
      obtain ⟨a1, a2⟩ := addF_is x _ hx q2
      have HF' := HF.out
      rw [fr, ho] at HF'
      have HM' := HM.out
      rw [sm, ho] at HM'
      simp only [if_true] at HF' HM'
      rw [HK.out] at e2 e3 HF' HM'
      rw [← Lib.size_eq] at e3
      have h9 := (heads_both d (by unfold maxLen; omega)).2
      obtain ⟨v, l, r, q, p, hv, hv1, hv2⟩ : ∃ v l r q p, hF d.data.toList = .agg #[.int .i64 v, .int .i64 l, .int .i64 r, .int .i64 q, .bool p] ∧ hV d.data.toList = v ∧ hQ d.data.toList = q := ⟨_, _, _, _, _, rfl, rfl, rfl⟩
      rw [hv1, hv2] at q1 q2 a1 a2 HM'
      rw [hv1] at hv3
      rw [hv] at h9
      have H9 := Lib.hid h9
      have h19 := fun w => Length_any v l r q p hv3 w
      obtain ⟨y, hy⟩ : ∃ y, qF (oddB v) q = y := ⟨_, rfl⟩
      obtain ⟨x', hx'⟩ : ∃ x', addF x y = x' := ⟨_, rfl⟩
      rw [hy] at q1 a1 a2 HM'
      rw [hx'] at a1 a2 HM'
      obtain ⟨n, hn⟩ : ∃ n, lenI (oddB v) = n := ⟨_, rfl⟩
      rw [hn] at q1 h19
      have H19 := Lib.hid h19
      have hr1 := fun w => run_float_arith (P := Try.prog) w .quo 38 .f64 _ _ _ q1
      have hr2 := fun w => run_float_arith (P := Try.prog) w .add 38 .f64 _ _ _ a1
      rw [hdl, List.drop_drop] at HF' HM'
      obtain ⟨d2, hd2⟩ : ∃ d2, s.extract (a + k) s.size = d2 := ⟨_, rfl⟩
      have hd2l : d2.data.toList = s.data.toList.drop (a + k) := by rw [← hd2]; exact drop_data s (a + k)
      have hd2s : d2.size = s.size - (a + k) := by rw [← hd2]; exact extract_size s (a + k) s.size (Nat.le_refl _)
      have h18 := fun w => refNext_any d2 (by unfold maxLen; omega) w
      rw [hd2l] at h18
      obtain ⟨k2, hk2⟩ : ∃ k2, nN (s.data.toList.drop (a + k)) = k2 := ⟨_, rfl⟩
      rw [hk2] at h18
      have H18b := Lib.hid h18
      have HF2 := Lib.hid HF'
      have HM2 := Lib.hid HM'
      have HK2 := Lib.hid hk2
      clear HF HM HF' HM' HK hv ho e1 q1 a1 hy hx' hn hdl hd2l hv1 hv2 hq hv3 q2 h9 h19 h18 hk2 hsome
      go_wp2_with fail
      (with_reducible refine (H9.out _).mono ?_)
      rintro e w1 ⟨rfl, hb1⟩
      have HB1 := Lib.hid hb1
      clear hb1
      obtain ⟨c0, c1, c2, c3, c4⟩ := (Fr.new w1 v l r q p).cells
      go_wp2_with fail
      refine wp_region_plus (by kernel_rfl) (by kernel_rfl) ?_
      repeat (first | go_big_quiet_skip | (go_big_quiet_want; go_big_quiet_op; first | go_big_quiet_on | (apply Exists.intro; refine ⟨fun _ => ?_, ?_⟩; (focus (go_at_call 19; with_reducible exact plus_call (H19.out _))); go_big_quiet_on)))
      refine wpQuiet_nil ?_
      rintro _ ⟨X, rfl⟩
      go_wp2_with (go_at_call 18; (with_reducible refine (H18b.out _).mono ?_); rintro e w2 ⟨rfl, hb2⟩; have HB2 := Lib.hid hb2; clear hb2)
      go_roundw
      case rel =>
        refine ⟨c + 1, a + k, x', k2, f', by go_num, by go_num, rfl, rfl, by omega, by omega, by omega, a2, HK2, HF2, HM2, ?_⟩
        have h1 := HB.out.trans (HB1.out.mono HB.out.size)
        have h2 := below_then (h1.alloc h1.size (.cells #[.int .i64 v, .int .i64 l, .int .i64 r, .int .i64 q, .bool p] 24)) (Nat.le_refl _) (plus_below _ X)
        exact h2.trans (HB2.out.mono h2.size)
      case measure => simp [intOf]; omega
end Go.Proofs.Ytfjfccomcmmfoaa
