/-
  Layer 18 (mp3): how long the frames of some bytes are, by the program.
-/
import Derived.Test.YtfjfccomcmmfoaaSecs
namespace Go.Proofs.Ytfjfccomcmmfoaa
open Go.RowKit
set_option linter.unusedVariables false
attribute [local go_sem] plus_cell set_cell

theorem seconds_any (s : ByteArray) (hs : s.size ≤ 100000) (w : World) :
    Calls Try.prog 22 #[.string s] w fun e w' => e = .returned (.float .f64 (sm (s.size + 1) s.data.toList 0)) ∧ Below w.heap.size w w' := by
  obtain ⟨S, hS⟩ : ∃ S, sm (s.size + 1) s.data.toList 0 = S := ⟨_, rfl⟩
  have HS := Lib.hid hS
  rw [hS]
  clear hS
  go_enter Try.func22, Try.ntmps22
  go_wp2
  go_loopw [0, 3] (fun i j wr => ∃ (t : ByteArray) (x f : Nat), i = .string t ∧ j = .float .f64 x ∧ t.size ≤ s.size ∧ t.size < f ∧ x ≤ infR ∧ Hid (sm f t.data.toList x = S) ∧ Below w.heap.size w wr) (fun i _ _ => match i with | .string t => t.size | _ => 0)
  case atStart => exact ⟨s, 0, s.size + 1, rfl, rfl, Nat.le_refl _, by omega, Nat.zero_le _, HS, Below.refl _ _⟩
  case round =>
    obtain ⟨t, x, f, rfl, rfl, hts, hf, hx, HI, hb⟩ := hrel
    have HB := Lib.hid hb
    clear hb
    have hN := fun w => next_any t (by unfold maxLen; omega) w
    obtain ⟨f', rfl⟩ : ∃ f', f = f' + 1 := ⟨f - 1, by omega⟩
    cases ho : nOk t.data.toList
    · rw [ho] at hN
      have HI' : S = x := by
        have := HI.out
        rw [sm, ho] at this
        exact this.symm
      subst HI'
      obtain ⟨v, l, r, q, p, hv⟩ : ∃ v l r q p, hF t.data.toList = .agg #[.int .i64 v, .int .i64 l, .int .i64 r, .int .i64 q, .bool p] := ⟨_, _, _, _, _, rfl⟩
      obtain ⟨z, hz⟩ : ∃ z, nS t.data.toList = z := ⟨_, rfl⟩
      rw [hz, hv] at hN
      have H28 := Lib.hid hN
      clear hN hv HI ho hz
      go_wp2_with fail
      (with_reducible refine (H28.out _).mono ?_)
      rintro e w1 ⟨rfl, hb1⟩
      have HB1 := Lib.hid hb1
      clear hb1
      go_wp2_with fail
      go_ret
      refine ⟨rfl, ?_⟩
      have h1 := HB.out.trans (HB1.out.mono HB.out.size)
      exact h1.alloc h1.size _
    · rw [ho] at hN
      obtain ⟨e1, e2, e3⟩ := nOk_is ho
      obtain ⟨hv3, hq⟩ := head_tells _ ho
      obtain ⟨q1, q2⟩ := qF_is (oddB (hV t.data.toList)) _ hq
      obtain ⟨a1, a2⟩ := addF_is x _ hx q2
      have HI' := HI.out
      rw [sm, ho] at HI'
      simp only [if_true] at HI'
      rw [e1] at hN
      rw [← Lib.size_eq] at e3
      obtain ⟨v, l, r, q, p, hv, hv1, hv2⟩ : ∃ v l r q p, hF t.data.toList = .agg #[.int .i64 v, .int .i64 l, .int .i64 r, .int .i64 q, .bool p] ∧ hV t.data.toList = v ∧ hQ t.data.toList = q := ⟨_, _, _, _, _, rfl, rfl, rfl⟩
      rw [hv1, hv2] at q1 q2 a1 a2 HI'
      rw [hv] at hN
      obtain ⟨k, hk⟩ : ∃ k, nN t.data.toList = k := ⟨_, rfl⟩
      rw [hk] at hN HI' e2 e3
      have H28 := Lib.hid hN
      have H30 := Lib.hid (fun w => twice_len v l r q p w)
      obtain ⟨y, hy⟩ : ∃ y, qF (oddB v) q = y := ⟨_, rfl⟩
      obtain ⟨x', hx'⟩ : ∃ x', addF x y = x' := ⟨_, rfl⟩
      rw [hy] at q1 a1 a2 HI'
      rw [hx'] at a1 a2 HI'
      obtain ⟨n, hn⟩ : ∃ n, lenI (oddB v) = n := ⟨_, rfl⟩
      rw [hn] at q1 H30
      have hr1 := fun w => run_float_arith (P := Try.prog) w .quo 38 .f64 _ _ _ q1
      have hr2 := fun w => run_float_arith (P := Try.prog) w .add 38 .f64 _ _ _ a1
      obtain ⟨d, hd⟩ : ∃ d, t.extract k t.size = d := ⟨_, rfl⟩
      have hdl : d.data.toList = t.data.toList.drop k := by rw [← hd]; exact drop_data t k
      have hds : d.size = t.size - k := by rw [← hd]; exact extract_size t k t.size (Nat.le_refl _)
      rw [← hdl] at HI'
      have HI2 := Lib.hid HI'
      clear hN hv HI HI' ho hk e1 q1 a1 hy hx' hn hdl hv1 hv2 hq hv3 q2
      go_wp2_with fail
      (with_reducible refine (H28.out _).mono ?_)
      rintro e w1 ⟨rfl, hb1⟩
      have HB1 := Lib.hid hb1
      clear hb1
      obtain ⟨c0, c1, c2, c3, c4⟩ := (Fr.new w1 v l r q p).cells
      go_wp2_with fail
      refine wp_region_plus (by kernel_rfl) (by kernel_rfl) ?_
      repeat (first | go_big_quiet_skip | (go_big_quiet_want; go_big_quiet_op; first | go_big_quiet_on | (apply Exists.intro; refine ⟨fun _ => ?_, ?_⟩; (focus (go_at_call 30; with_reducible exact plus_call (H30.out _))); go_big_quiet_on)))
      refine wpQuiet_nil ?_
      rintro _ ⟨X, rfl⟩
      go_wp2
      go_roundw
      case rel =>
        refine ⟨d, x', f', rfl, rfl, by omega, by omega, a2, HI2, ?_⟩
        have h1 := HB.out.trans (HB1.out.mono HB.out.size)
        exact below_then (h1.alloc h1.size _) (Nat.le_refl _) (plus_below _ X)
      case measure => simp; omega
end Go.Proofs.Ytfjfccomcmmfoaa
