/-
  Layer 34: the law on what a set tells of any calls: the loop. No condition but that the number is one.
-/
import Derived.Test.YtnamakimmlnleaaPlays
import Derived.Deep.CutBlock
import Derived.Deep.DeepCutAuto
namespace Go.Proofs.Ytnamakimmlnleaa
open Go.RowKit
set_option linter.unusedVariables false

set_option maxRecDepth 100000 in
set_option maxHeartbeats 4000000 in
theorem plays_yes (most : Nat) (hm : most ≤ 10000) (a : Option Addr) (len acap : Nat) (ask : ByteArray) (hask : ask.size ≤ maxLen) (w : World) (hA : Acts w a len) :
    Calls Try.prog 4 #[.int .i64 most, .slice a len acap, .string ask] w fun e w' => e = .returned (.bool true) ∧ Below w.heap.size w w' := by
  have H5 := Lib.hid (New_yes most hm w.heap.size w (Nat.le_refl _))
  have H6 := Lib.hid lives_any
  have H7 := Lib.hid (fun s hs w => cut_any s 20 hs w)
  have HA := Lib.hid hA
  have hlen := hA.le
  unfold maxLen at hlen
  have hd0 : decide ((most : Int) < 0) = false := by simp
  have hd1 : decide ((10000 : Int) < (most : Int)) = false := by simp; omega
  have HASK := Lib.hid hask
  clear hA hask
  go_enter Try.func4, Try.ntmps4
  go_wp2_with (go_at_call 6; refine H5.out.mono ?_; rintro e w1 ⟨g, rfl, hq1, hg1, hb1⟩; have HQ1 := Lib.hid hq1; have HB1 := Lib.hid hb1; clear hq1 hb1 hg1)
  go_loopw [9, 10, 11] (fun x y i wr => ∃ (L : List (ByteArray × Nat)) (next gn : Nat) (A : Option Addr) (cap k : Nat), x = .slice A L.length cap ∧ y = .int .i64 gn ∧ i = .int .i64 k ∧ k ≤ len ∧ Hid (Behind w wr g most L next gn A cap k)) (fun _ _ i _ => len - (intOf i).toNat)
  case atStart =>
    exact ⟨[], 0, 0, some ⟨w1.heap.size, 0, none⟩, 0, 0, rfl, rfl, rfl, Nat.zero_le _, Lib.hid ⟨HQ1.out.below ((Below.refl _ _).alloc (Nat.le_refl _) _), (row_new w1 0).from_ HB1.out.size, Nat.zero_le _, Nat.le_refl _, Nat.le_refl _, by omega, HB1.out.alloc HB1.out.size _⟩⟩
  case round =>
    obtain ⟨L, next, gn, A, cap, i, rfl, rfl, rfl, hi, HR⟩ := hrel
    have hi60 := HR.out.i60
    have hfew := HR.out.few
    have hgn : gn ≤ 100000 := by have := HR.out.set.gone_le; have := HR.out.nexti; omega
    by_cases h60 : i < len ∧ i < 60
    · obtain ⟨hl, h60⟩ := h60
      obtain ⟨b, off, k, t0, rfl, hblt, k0, k1, ht0⟩ := HA.out.at_ i hl
      obtain ⟨t, ht⟩ : ∃ t, t0.extract 0 20 = t := ⟨_, rfl⟩
      have hts : t.size ≤ 20 := by rw [← ht]; exact (extract_cut_le t0 20).1
      have H7' := Lib.hid (fun w => ht ▸ H7.out t0 ht0 w)
      obtain ⟨d0, d1⟩ : wr.cell? ⟨b, off + i * 2, none⟩ = some (.int .i64 k) ∧ wr.cell? ⟨b, off + i * 2 + 1, none⟩ = some (.string t0) :=
        ⟨(HR.out.below.cell (p := ⟨b, _, none⟩) hblt).trans k0, (HR.out.below.cell (p := ⟨b, _, none⟩) hblt).trans k1⟩
      clear ht k0 k1 HB1 HQ1 H5 H7
      go_upto_block 2 with (go_at_call 12; refine (H7'.out _).mono ?_; rintro e w1 ⟨rfl, rfl⟩)
      go_cut [9, 10] (fun x y wx => ∃ (L' : List (ByteArray × Nat)) (next' gn' : Nat) (A' : Option Addr) (cap' : Nat), x = .slice A' L'.length cap' ∧ y = .int .i64 gn' ∧ Hid (Behind w wx g most L' next' gn' A' cap' (i + 1)))
      case first =>
        by_cases h1 : k = 1
        · have b1 : (k == 1) = true := beq_iff_eq.2 h1
          clear h1
          obtain ⟨bb, hbb⟩ : ∃ bb, (L.any fun p => decide (p.1 = t)) = bb := ⟨_, rfl⟩
          have H13 := Lib.hid (HR.out.cut t (by unfold maxLen; omega) bb hbb h60)
          clear hbb
          cases bb
          · go_wp2_with (first
              | (go_at_call 13; (with_reducible refine H13.out.mono ?_); rintro e w2 ⟨rfl, H14⟩)
              | (go_at_call 14; (with_reducible refine H14.out.mono ?_); rintro e w3 ⟨v, rfl, hv, H15⟩)
              | (go_at_call 15; (with_reducible refine H15.out.mono ?_); rintro e w4 ⟨A', c', L', rfl, HH⟩))
            go_meet
            exact ⟨L', next, gn, A', c', rfl, rfl, HH⟩
          · go_wp2_with (first
              | (go_at_call 13; (with_reducible refine H13.out.mono ?_); rintro e w2 ⟨rfl, H14⟩)
              | (go_at_call 14; (with_reducible refine H14.out.mono ?_); rintro e w3 ⟨v, rfl, hv, H15⟩)
              | (go_at_call 15; (with_reducible refine H15.out.mono ?_); rintro e w4 ⟨A', c', L', rfl, HH⟩))
            go_meet
            exact ⟨L', next, gn, A', c', rfl, rfl, HH⟩
        · have b1 : (k == 1) = false := beq_eq_false_iff_ne.2 h1
          by_cases h2 : k = 2
          · have b2 : (k == 2) = true := beq_iff_eq.2 h2
            clear h1 h2
            have H16 := Lib.hid (HR.out.clear h60)
            go_wp2_with (go_at_call 16; (with_reducible refine H16.out.mono ?_); rintro e w2 ⟨rfl, HH⟩)
            go_meet
            exact ⟨[], next, gn, none, 0, rfl, rfl, HH⟩
          · have b2 : (k == 2) = false := beq_eq_false_iff_ne.2 h2
            clear h1 h2
            obtain ⟨L', next', old, went, hc⟩ := came L next most gn t (by omega) HR.out.len (by omega) (by have := HR.out.nexti; omega)
            have H17 := Lib.hid (HR.out.add_list hc h60)
            clear hc
            cases went
            · go_wp2_with (first
                | (go_at_call 17; (with_reducible refine H17.out.mono ?_); rintro e w2 ⟨A', c', rfl, H8⟩)
                | (go_at_call 7; (with_reducible refine H8.out.mono ?_); rintro e w3 ⟨rfl, HH⟩))
              go_meet
              exact ⟨L', next', gn, A', c', rfl, rfl, HH⟩
            · go_wp2_with (first
                | (go_at_call 17; (with_reducible refine H17.out.mono ?_); rintro e w2 ⟨A', c', rfl, H8⟩)
                | (go_at_call 7; (with_reducible refine H8.out.mono ?_); rintro e w3 ⟨rfl, HH⟩))
              go_meet
              exact ⟨L', next', gn + 1, A', c', rfl, rfl, HH⟩
      case rest =>
        obtain ⟨L', next', gn', A', cap', rfl, rfl, HW⟩ := hcut
        obtain ⟨bb, hbb⟩ : ∃ bb, (L'.any fun p => decide (p.1 = ask)) = bb := ⟨_, rfl⟩
        have hlm := HW.out.len
        have hff := HW.out.few
        have H9 := Lib.hid HW.out.list
        have H19 : ∀ W, Hid (Behind w W g most L' next' gn' A' cap' (i + 1)) → Calls Try.prog 19 #[.pointer (some ⟨g, 0, none⟩)] W fun e w' => e = .returned (.int .i64 L'.length) ∧ W = w' := fun W h => Len_any h.out.set
        have H10 : ∀ W, Hid (Behind w W g most L' next' gn' A' cap' (i + 1)) → Calls Try.prog 10 #[.pointer (some ⟨g, 0, none⟩)] W fun e w' => e = .returned (.int .i64 gn') ∧ W = w' := fun W h => Gone_any h.out.set
        have H20 : ∀ W, Hid (Behind w W g most L' next' gn' A' cap' (i + 1)) → Calls Try.prog 20 #[.pointer (some ⟨g, 0, none⟩), .string ask] W fun e w' => e = .returned (.bool bb) ∧ W = w' := fun W h => hbb ▸ Has_any h.out.set ask HASK.out
        have H14 : ∀ W, Hid (Behind w W g most L' next' gn' A' cap' (i + 1)) → Calls Try.prog 14 #[.slice A' L'.length cap', .string ask] W fun e w' => ∃ v : Int, e = .returned (.int .i64 v) ∧ decide (0 ≤ v) = bb ∧ Hid (Behind w w' g most L' next' gn' A' cap' (i + 1)) := fun W h => by
          refine (at_ref h.out.row ask (by omega) bb hbb).mono ?_
          rintro e w' ⟨v, rfl, hv, q, rfl⟩
          exact ⟨v, rfl, hv, Lib.hid (h.out.on (below_drewN (Below.refl _ _) q))⟩
        clear hbb
        cases bb
        · go_wp2_with (first
            | (go_at_call 9; (with_reducible refine H9.out.mono ?_); rintro e w2 ⟨A2, c2, rfl, H18⟩)
            | (go_at_call 18; (with_reducible refine H18.out.mono ?_); rintro e w3 ⟨rfl, HW3⟩)
            | (go_at_call 19; (with_reducible refine (H19 _ (by assumption)).mono ?_); rintro e w4 ⟨rfl, rfl⟩)
            | (go_at_call 20; (with_reducible refine (H20 _ (by assumption)).mono ?_); rintro e w4 ⟨rfl, rfl⟩)
            | (go_at_call 14; (with_reducible refine (H14 _ (by assumption)).mono ?_); rintro e w5 ⟨v, rfl, hv, HW5⟩)
            | (go_at_call 10; (with_reducible refine (H10 _ (by assumption)).mono ?_); rintro e w4 ⟨rfl, rfl⟩))
          go_roundw
          case rel => exact ⟨L', next', gn', A', cap', i + 1, rfl, rfl, rfl, by omega, HW5⟩
          case measure => simp [intOf]; omega
        · go_wp2_with (first
            | (go_at_call 9; (with_reducible refine H9.out.mono ?_); rintro e w2 ⟨A2, c2, rfl, H18⟩)
            | (go_at_call 18; (with_reducible refine H18.out.mono ?_); rintro e w3 ⟨rfl, HW3⟩)
            | (go_at_call 19; (with_reducible refine (H19 _ (by assumption)).mono ?_); rintro e w4 ⟨rfl, rfl⟩)
            | (go_at_call 20; (with_reducible refine (H20 _ (by assumption)).mono ?_); rintro e w4 ⟨rfl, rfl⟩)
            | (go_at_call 14; (with_reducible refine (H14 _ (by assumption)).mono ?_); rintro e w5 ⟨v, rfl, hv, HW5⟩)
            | (go_at_call 10; (with_reducible refine (H10 _ (by assumption)).mono ?_); rintro e w4 ⟨rfl, rfl⟩))
          go_roundw
          case rel => exact ⟨L', next', gn', A', cap', i + 1, rfl, rfl, rfl, by omega, HW5⟩
          case measure => simp [intOf]; omega
    · have HBB := Lib.hid HR.out.below
      have H11 := Lib.hid (lives_any wr)
      by_cases hl : i < len
      · have hi6 : i = 60 := by omega
        go_wp2_with (go_at_call 11; (with_reducible refine H11.out.mono ?_); rintro e w5 ⟨rfl, hb5⟩; have HB5 := Lib.hid hb5; clear hb5)
        go_ret
        exact ⟨rfl, below_then HBB.out (Nat.le_refl _) HB5.out⟩
      · go_wp2_with (go_at_call 11; (with_reducible refine H11.out.mono ?_); rintro e w5 ⟨rfl, hb5⟩; have HB5 := Lib.hid hb5; clear hb5)
        go_ret
        exact ⟨rfl, below_then HBB.out (Nat.le_refl _) HB5.out⟩

end Go.Proofs.Ytnamakimmlnleaa
