/-
  Layer 07 (queue): the law on what a queue tells of any calls: its acts in memory, what is asked behind each of them.
-/
import Derived.Test.YtbjjolmnfklihaaLives
import Derived.Outline
import Derived.Deep.CutBlock
import Derived.Deep.RegionWith
namespace Go.Proofs.Ytbjjolmnfklihaa
open Go.RowKit
set_option linter.unusedVariables false

/-- The acts, as they lie in memory. -/
structure Acts (w : World) (a : Option Addr) (len : Nat) : Prop where
  le : len ≤ maxLen
  at_ : ∀ j, j < len → ∃ b off k n s, a = some ⟨b, off, none⟩ ∧ b < w.heap.size ∧ w.cell? ⟨b, off + j * 3, none⟩ = some (.int .i64 k) ∧ w.cell? ⟨b, off + j * 3 + 1, none⟩ = some (.int .i64 n) ∧
    w.cell? ⟨b, off + j * 3 + 2, none⟩ = some (.string s) ∧ s.size ≤ maxLen
theorem Acts.below {w w' : World} {a : Option Addr} {len : Nat} (h : Acts w a len) (hb : Below w.heap.size w w') : Acts w' a len :=
  ⟨h.le, fun j hj => by
    obtain ⟨b, off, k, n, s, e, hlt, h1, h2, h3, h4⟩ := h.at_ j hj
    exact ⟨b, off, k, n, s, e, Nat.lt_of_lt_of_le hlt hb.size, (hb.cell (p := ⟨b, _, none⟩) hlt).trans h1, (hb.cell (p := ⟨b, _, none⟩) hlt).trans h2, (hb.cell (p := ⟨b, _, none⟩) hlt).trans h3, h4⟩⟩

/-- What the queue is behind some acts. -/
structure Behind (w wr : World) (g most : Nat) (s : ByteArray) (out i : Nat) : Prop where
  que : Que wr w.heap.size g s.data.toList most out
  few : out + s.size ≤ 50 * i
  i60 : i ≤ 60
  below : Below w.heap.size w wr

theorem ret_val {a b : Int} (h : a = b) : Value.int .i64 a = .int .i64 b := by rw [h]
theorem mk_data' (s : ByteArray) : (⟨s.data.toList.toArray⟩ : ByteArray) = s := Lib.mk_data s
theorem fill_law {W : World} {B g most out : Nat} {s : ByteArray} (hq : Que W B g s.data.toList most out) (t : ByteArray) (ht : t.size ≤ 50) (K : Nat) (hK : min t.size (most - s.size) = K) (hB : B ≤ W.heap.size) :
    Calls Try.prog 9 #[.pointer (some ⟨g, 0, none⟩), .string t] W fun e w' => e = .returned (.string (t.extract K t.size)) ∧ Que w' B g (s ++ t.extract 0 K).data.toList most out ∧ Below B W w' := by
  have h := Fill_any hq t (by unfold maxLen; omega) hB
  rw [← Lib.size_eq, hK] at h
  refine h.mono fun e w' hw => ⟨hw.1, ?_, hw.2.2⟩
  have := hw.2.1
  simpa using this
theorem take_law {W : World} {B g most out : Nat} {s : ByteArray} (hq : Que W B g s.data.toList most out) (n : Int) (c : Nat) (hc : cntN n s.size = c) (hB : B ≤ W.heap.size) (ho : out + s.size ≤ 1000000000) :
    Calls Try.prog 10 #[.pointer (some ⟨g, 0, none⟩), .int .i64 n] W fun e w' => e = .returned (.string (s.extract 0 c)) ∧ Que w' B g (s.extract c s.size).data.toList most (out + c) ∧ Below B W w' := by
  have h := Take_any hq n hB (by rw [← Lib.size_eq]; exact ho)
  rw [← Lib.size_eq, hc] at h
  refine h.mono fun e w' hw => ⟨?_, ?_, hw.2.2⟩
  · rw [hw.1]
    exact ret_string (ext_data (by rw [take_bytes]))
  · rw [drop_bytes]
    exact hw.2.1
theorem peek_law {W : World} {B g most out : Nat} {s : ByteArray} (hq : Que W B g s.data.toList most out) (n : Int) (c : Nat) (hc : cntN n s.size = c) :
    Calls Try.prog 11 #[.pointer (some ⟨g, 0, none⟩), .int .i64 n] W fun e w' => e = .returned (.string (s.extract 0 c)) ∧ Below W.heap.size W w' := by
  have h := Peek_any hq n
  rw [← Lib.size_eq, hc] at h
  refine h.mono fun e w' hw => ⟨?_, hw.2⟩
  rw [hw.1]
  exact ret_string (ext_data (by rw [take_bytes]))
theorem peek_all {W : World} {B g most out : Nat} {s : ByteArray} (hq : Que W B g s.data.toList most out) :
    Calls Try.prog 11 #[.pointer (some ⟨g, 0, none⟩), .int .i64 s.size] W fun e w' => e = .returned (.string s) ∧ Below W.heap.size W w' := by
  have h := peek_law hq s.size s.size (by unfold cntN; omega)
  rwa [extract_all s s.size (Nat.le_refl _)] at h
theorem drain_law {W : World} {B g most out : Nat} {s : ByteArray} (hq : Que W B g s.data.toList most out) (hB : B ≤ W.heap.size) (ho : out + s.size ≤ 1000000000) :
    Calls Try.prog 12 #[.pointer (some ⟨g, 0, none⟩)] W fun e w' => e = .returned (.string s) ∧ Que w' B g (⟨#[]⟩ : ByteArray).data.toList most (out + s.size) ∧ Below B W w' := by
  have h := Drain_any hq hB (by rw [← Lib.size_eq]; exact ho)
  rw [← Lib.size_eq, mk_data'] at h
  exact h
theorem push_law {W : World} {B g most out : Nat} {s : ByteArray} (hq : Que W B g s.data.toList most out) (t : ByteArray) (ht : t.size ≤ most - s.size) (hB : B ≤ W.heap.size) :
    Calls Try.prog 13 #[.pointer (some ⟨g, 0, none⟩), .string t] W fun e w' => e = .returned (.int .i64 0) ∧ Que w' B g (s ++ t).data.toList most out ∧ Below B W w' := by
  have h := Push_ok hq t (by rw [← Lib.size_eq]; exact ht) hB
  refine h.mono fun e w' hw => ⟨hw.1, ?_, hw.2.2⟩
  have := hw.2.1
  simpa using this
theorem full_law {W : World} {B g most out : Nat} {s : ByteArray} (hq : Que W B g s.data.toList most out) (t : ByteArray) (ht : most - s.size < t.size) :
    Calls Try.prog 13 #[.pointer (some ⟨g, 0, none⟩), .string t] W fun e w' => e = .returned (.int .i64 3) ∧ Below W.heap.size W w' :=
  Push_full hq t (by rw [← Lib.size_eq]; exact ht)

set_option maxRecDepth 100000 in
set_option maxHeartbeats 4000000 in
theorem plays_yes (most : Nat) (hm : most ≤ 1048576) (a : Option Addr) (len cap : Nat) (w : World) (hA : Acts w a len) :
    Calls Try.prog 3 #[.int .i64 most, .slice a len cap] w fun e w' => e = .returned (.bool true) ∧ Below w.heap.size w w' := by
  have H5 : Hid (Calls Try.prog 5 #[.int .i64 most] w fun e w' => e = .returned (.tuple #[.pointer (some ⟨w.heap.size, 0, none⟩), .int .i64 0]) ∧ Que w' w.heap.size w.heap.size [] most 0 ∧ Below w.heap.size w w') := New_yes most hm w.heap.size w (Nat.le_refl _)
  have H6 := Lib.hid lives_any
  have H7 := Lib.hid (fun s hs w => cut_any s 50 hs w)
  have H8 := Lib.hid (fun n m w => many_any n m w)
  have HA := Lib.hid hA
  have hlen := hA.le
  unfold maxLen at hlen
  clear hA
  go_enter Try.func3, Try.ntmps3
  go_wp2_with (go_at_call 5; refine H5.out.mono ?_; rintro e w1 ⟨rfl, hq1, hb1⟩; have HQ1 := Lib.hid hq1; have HB1 := Lib.hid hb1; clear hq1 hb1)
  go_loopw [7, 8, 9, 10] (fun x y z i wr => ∃ (s : ByteArray) (out k : Nat), x = .string s ∧ y = .int .i64 ((out : Int) + s.size) ∧ z = .int .i64 out ∧ i = .int .i64 k ∧ k ≤ len ∧ Hid (Behind w wr w.heap.size most s out k)) (fun _ _ _ i _ => len - (intOf i).toNat)
  case atStart => exact ⟨⟨#[]⟩, 0, 0, rfl, rfl, rfl, rfl, Nat.zero_le _, ⟨HQ1.out, Nat.le_refl _, by omega, HB1.out⟩⟩
  case round =>
    obtain ⟨s, out, i, rfl, rfl, rfl, rfl, hi, HR⟩ := hrel
    have hi60 := HR.out.i60
    have hfew := HR.out.few
    by_cases h60 : i < len ∧ i < 60
    · obtain ⟨hl, h60⟩ := h60
      obtain ⟨b, off, k, n, t0, rfl, hblt, k0, k1, k2, ht0⟩ := HA.out.at_ i hl
      obtain ⟨t, ht⟩ : ∃ t, t0.extract 0 50 = t := ⟨_, rfl⟩
      have hts : t.size ≤ 50 := by rw [← ht]; exact (extract_cut_le t0 50).1
      have H7' := Lib.hid (fun w => ht ▸ H7.out t0 ht0 w)
      have hsz : s.size ≤ most := by have := HR.out.que.fits; rw [← Lib.size_eq] at this; exact this
      obtain ⟨d0, d1, d2⟩ : wr.cell? ⟨b, off + i * 3, none⟩ = some (.int .i64 k) ∧ wr.cell? ⟨b, off + i * 3 + 1, none⟩ = some (.int .i64 n) ∧ wr.cell? ⟨b, off + i * 3 + 2, none⟩ = some (.string t0) :=
        ⟨(HR.out.below.cell (p := ⟨b, _, none⟩) hblt).trans k0, (HR.out.below.cell (p := ⟨b, _, none⟩) hblt).trans k1, (HR.out.below.cell (p := ⟨b, _, none⟩) hblt).trans k2⟩
      obtain ⟨c, hc⟩ : ∃ c, cntN n s.size = c := ⟨_, rfl⟩
      have hcle : c ≤ s.size := by rw [← hc]; exact cntN_le _ _
      have H8' := Lib.hid (fun w => hc ▸ H8.out n s.size w)
      have HCN := Lib.hid hc
      have n0 := World.new_ne wr ⟨b, off + i * 3, none⟩ d0
      have n1 := World.new_ne wr ⟨b, off + i * 3 + 1, none⟩ d1
      have n2 := World.new_ne wr ⟨b, off + i * 3 + 2, none⟩ d2
      clear ht hc k0 k1 k2
      go_upto_region 10 with fail
      go_cut [11, 12] (fun x y wx => ∃ g1 : Nat, x = .pointer (some ⟨g1, 0, none⟩) ∧ y = .string t ∧ wx.cell? ⟨g1, 0, none⟩ = some (.int .i64 k) ∧ wx.cell? ⟨g1, 1, none⟩ = some (.int .i64 n) ∧ Hid (Behind w wx w.heap.size most s out i))
      case first =>
        go_region_held3 (fun w' => w'.cell? ⟨b, off + i * 3, none⟩ = some (.int .i64 k) ∧ w'.cell? ⟨b, off + i * 3 + 1, none⟩ = some (.int .i64 n) ∧ w'.cell? ⟨b, off + i * 3 + 2, none⟩ = some (.string t0)) (go_keep)
          (first | (go_at_call 7; refine (still_of (H7'.out _)).mono ?_; rintro e w' ⟨rfl, rfl⟩))
        all_goals
          go_wp2_with fail
          go_meet
          refine ⟨wr.heap.size, rfl, rfl, ?_, ?_, ⟨HR.out.que.below (((Below.refl _ _).alloc (Nat.le_refl _) _).drew), hfew, hi60, (HR.out.below.alloc HR.out.below.size _).drew⟩⟩
          · exact World.cell?_alloc_new ..
          · exact World.cell?_alloc_new ..
      case rest =>
      obtain ⟨g1, rfl, rfl, m0, m1, HD⟩ := hcut
      clear d0 d1 d2 n0 n1 n2
      obtain ⟨K, hK⟩ : ∃ K, min t.size (most - s.size) = K := ⟨_, rfl⟩
      have hK1 : K ≤ t.size := by omega
      have hcut2 : (s ++ t.extract 0 K).size = s.size + K := by rw [ByteArray.size_append, ByteArray.size_extract]; omega
      have hext : (s.extract c s.size).size = s.size - c := by rw [ByteArray.size_extract]; omega
      have happ : (s ++ t).size = s.size + t.size := ByteArray.size_append
      have hbel : ∀ W, Below wc.heap.size wc W → Behind w W w.heap.size most s out i := fun W hb => ⟨HD.out.que.below hb, hfew, hi60, HD.out.below.trans (hb.mono HD.out.below.size)⟩
      have H9 : Hid (∀ W, Below wc.heap.size wc W → Calls Try.prog 9 #[.pointer (some ⟨w.heap.size, 0, none⟩), .string t] W fun e w' => e = .returned (.string (t.extract K t.size)) ∧ Behind w w' w.heap.size most (s ++ t.extract 0 K) out (i + 1)) := fun W hb =>
        (fill_law (hbel W hb).que t hts K hK (hbel W hb).below.size).mono fun e w' hw => ⟨hw.1, hw.2.1, by omega, by omega, (hbel W hb).below.trans hw.2.2⟩
      have H10 : Hid (∀ W, Below wc.heap.size wc W → Calls Try.prog 10 #[.pointer (some ⟨w.heap.size, 0, none⟩), .int .i64 n] W fun e w' => e = .returned (.string (s.extract 0 c)) ∧ Behind w w' w.heap.size most (s.extract c s.size) (out + c) (i + 1)) := fun W hb =>
        (take_law (hbel W hb).que n c HCN.out (hbel W hb).below.size (by omega)).mono fun e w' hw => ⟨hw.1, hw.2.1, by omega, by omega, (hbel W hb).below.trans hw.2.2⟩
      have H11 : Hid (∀ W, Below wc.heap.size wc W → Calls Try.prog 11 #[.pointer (some ⟨w.heap.size, 0, none⟩), .int .i64 n] W fun e w' => e = .returned (.string (s.extract 0 c)) ∧ Behind w w' w.heap.size most s out (i + 1)) := fun W hb =>
        (peek_law (hbel W hb).que n c HCN.out).mono fun e w' hw => ⟨hw.1, (hbel W hb).que.below hw.2, by omega, by omega, (hbel W hb).below.trans (hw.2.mono (hbel W hb).below.size)⟩
      have H12 : Hid (∀ W, Below wc.heap.size wc W → Calls Try.prog 12 #[.pointer (some ⟨w.heap.size, 0, none⟩)] W fun e w' => e = .returned (.string s) ∧ Behind w w' w.heap.size most ⟨#[]⟩ (out + s.size) (i + 1)) := fun W hb =>
        (drain_law (hbel W hb).que (hbel W hb).below.size (by omega)).mono fun e w' hw => ⟨hw.1, hw.2.1, (by show out + s.size + 0 ≤ _; omega), by omega, (hbel W hb).below.trans hw.2.2⟩
      have H13 : t.size ≤ most - s.size → Hid (∀ W, Below wc.heap.size wc W → Calls Try.prog 13 #[.pointer (some ⟨w.heap.size, 0, none⟩), .string t] W fun e w' => e = .returned (.int .i64 0) ∧ Behind w w' w.heap.size most (s ++ t) out (i + 1)) := fun hle W hb =>
        (push_law (hbel W hb).que t hle (hbel W hb).below.size).mono fun e w' hw => ⟨hw.1, hw.2.1, by omega, by omega, (hbel W hb).below.trans hw.2.2⟩
      have H13f : most - s.size < t.size → Hid (∀ W, Below wc.heap.size wc W → Calls Try.prog 13 #[.pointer (some ⟨w.heap.size, 0, none⟩), .string t] W fun e w' => e = .returned (.int .i64 3) ∧ Behind w w' w.heap.size most s out (i + 1)) := fun hlt W hb =>
        (full_law (hbel W hb).que t hlt).mono fun e w' hw => ⟨hw.1, (hbel W hb).que.below hw.2, by omega, by omega, (hbel W hb).below.trans (hw.2.mono (hbel W hb).below.size)⟩
      have H8k : Hid (∀ W, Calls Try.prog 8 #[.int .i64 t.size, .int .i64 ((most : Int) - s.size)] W fun e w' => e = .returned (.int .i64 K) ∧ W = w') := fun W => by
        have h := many_any t.size (most - s.size) W
        have e1 : cntN t.size (most - s.size) = K := by unfold cntN; omega
        have e2 : ((most - s.size : Nat) : Int) = (most : Int) - s.size := by omega
        rw [e1, e2] at h
        exact h
      have HX2 := Lib.hid hcut2
      have HX3 := Lib.hid hext
      have HX4 := Lib.hid happ
      have hKl : K ≤ most - s.size := by omega
      clear hK hcut2 hext happ hbel HB1 HQ1 H5 H7 H7' H8
      go_upto_block 2 with (go_at_call 8; refine (H8'.out _).mono ?_; rintro e w1 ⟨rfl, rfl⟩)
      go_cut [7, 8, 9] (fun x y z wx => ∃ (s' : ByteArray) (out' : Nat), x = .string s' ∧ y = .int .i64 ((out' : Int) + s'.size) ∧ z = .int .i64 out' ∧ Hid (Behind w wx w.heap.size most s' out' (i + 1)))
      case first =>
        by_cases h1 : k = 1
        · have b1 : (k == 1) = true := beq_iff_eq.2 h1
          clear h1
          go_wp2_with (go_at_call 8; refine (H8k.out _).mono ?_; rintro e w1 ⟨rfl, rfl⟩)
          go_region_with (go_at_call 9; (with_reducible refine (H9.out _ ?_).mono ?_); (focus (first | exact (Below.refl _ _).drew | exact Below.refl _ _)); rintro e w2 ⟨rfl, hq2⟩; have HQ2 := Lib.hid hq2; clear hq2)
          all_goals
            go_wp2_with fail
            go_meet
            exact ⟨_, out, rfl, ret_val (by rw [HX2.out]; omega), rfl, HQ2.out⟩
        · have b1 : (k == 1) = false := beq_eq_false_iff_ne.2 h1
          by_cases h2 : k = 2
          · have b2 : (k == 2) = true := beq_iff_eq.2 h2
            clear h1 h2
            go_wp2_with fail
            go_region_with (go_at_call 10; (with_reducible refine (H10.out _ ?_).mono ?_); (focus (first | exact (Below.refl _ _).drew | exact Below.refl _ _)); rintro e w2 ⟨rfl, hq2⟩; have HQ2 := Lib.hid hq2; clear hq2)
            all_goals
              go_wp2_with fail
              go_meet
              exact ⟨_, out + c, rfl, ret_val (by rw [HX3.out]; omega), ret_val (by omega), HQ2.out⟩
          · have b2 : (k == 2) = false := beq_eq_false_iff_ne.2 h2
            by_cases h3 : k = 3
            · have b3 : (k == 3) = true := beq_iff_eq.2 h3
              clear h1 h2 h3
              go_wp2_with fail
              go_region_with (go_at_call 11; (with_reducible refine (H11.out _ ?_).mono ?_); (focus (first | exact (Below.refl _ _).drew | exact Below.refl _ _)); rintro e w2 ⟨rfl, hq2⟩; have HQ2 := Lib.hid hq2; clear hq2)
              all_goals
                go_wp2_with fail
                go_meet
                exact ⟨_, out, rfl, rfl, rfl, HQ2.out⟩
            · have b3 : (k == 3) = false := beq_eq_false_iff_ne.2 h3
              by_cases h4 : k = 4
              · have b4 : (k == 4) = true := beq_iff_eq.2 h4
                clear h1 h2 h3 h4
                go_wp2_with (go_at_call 12; (with_reducible refine (H12.out _ ?_).mono ?_); (focus (first | exact (Below.refl _ _).drew | exact Below.refl _ _)); rintro e w2 ⟨rfl, hq2⟩; have HQ2 := Lib.hid hq2; clear hq2)
                go_meet
                exact ⟨_, out + s.size, rfl, ret_val (by show _ = ((out + s.size : Nat) : Int) + ((0 : Nat) : Int); omega), ret_val (by omega), HQ2.out⟩
              · have b4 : (k == 4) = false := beq_eq_false_iff_ne.2 h4
                clear h1 h2 h3 h4
                by_cases hf : t.size ≤ most - s.size
                · have H13' := H13 hf
                  clear H13 H13f
                  go_wp2_with (go_at_call 13; (with_reducible refine (H13'.out _ ?_).mono ?_); (focus (first | exact (Below.refl _ _).drew | exact Below.refl _ _)); rintro e w2 ⟨rfl, hq2⟩; have HQ2 := Lib.hid hq2; clear hq2)
                  go_meet
                  exact ⟨_, out, rfl, ret_val (by rw [HX4.out]; omega), rfl, HQ2.out⟩
                · have H13' := H13f (by omega)
                  clear H13 H13f
                  go_wp2_with (go_at_call 13; (with_reducible refine (H13'.out _ ?_).mono ?_); (focus (first | exact (Below.refl _ _).drew | exact Below.refl _ _)); rintro e w2 ⟨rfl, hq2⟩; have HQ2 := Lib.hid hq2; clear hq2)
                  go_meet
                  exact ⟨_, out, rfl, rfl, rfl, HQ2.out⟩
      case rest =>
        obtain ⟨s', out', rfl, rfl, rfl, HW⟩ := hcut
        have hsz' : s'.size ≤ most := by have := HW.out.que.fits; rw [← Lib.size_eq] at this; exact this
        have hout' := HW.out.que.outs
        have H14 : Hid (Calls Try.prog 14 #[.pointer (some ⟨w.heap.size, 0, none⟩)] wc fun e w' => e = .returned (.tuple #[.int .i64 ((out' : Int) + s'.size), .int .i64 out']) ∧ Below wc.heap.size wc w') := by
          have h := Passed_any HW.out.que
          rw [← Lib.size_eq] at h
          have e : ((out' + s'.size : Nat) : Int) = (out' : Int) + s'.size := by omega
          rw [e] at h
          exact h
        have H15 : Hid (∀ W, Below wc.heap.size wc W → Calls Try.prog 15 #[.pointer (some ⟨w.heap.size, 0, none⟩)] W fun e w' => e = .returned (.int .i64 s'.size) ∧ W = w') := fun W hb => by
          have h := Len_any (HW.out.que.below hb)
          rw [← Lib.size_eq] at h
          exact h
        have H16 : Hid (∀ W, Below wc.heap.size wc W → Calls Try.prog 16 #[.pointer (some ⟨w.heap.size, 0, none⟩)] W fun e w' => e = .returned (.int .i64 ((most : Int) - s'.size)) ∧ Below wc.heap.size wc w') := fun W hb => by
          have h := Room_any (HW.out.que.below hb)
          rw [← Lib.size_eq] at h
          have e : ((most - s'.size : Nat) : Int) = (most : Int) - s'.size := by omega
          rw [e] at h
          exact h.mono fun e w' hw => ⟨hw.1, hb.trans (hw.2.mono hb.size)⟩
        have H17 : Hid (∀ W, Below wc.heap.size wc W → Calls Try.prog 17 #[.pointer (some ⟨w.heap.size, 0, none⟩)] W fun e w' => e = .returned (.bool ((most : Int) == s'.size)) ∧ Below wc.heap.size wc w') := fun W hb => by
          have h := Full_any (HW.out.que.below hb)
          rw [← Lib.size_eq] at h
          exact h.mono fun e w' hw => ⟨hw.1, hb.trans (hw.2.mono hb.size)⟩
        have H11' : Hid (∀ W, Below wc.heap.size wc W → Calls Try.prog 11 #[.pointer (some ⟨w.heap.size, 0, none⟩), .int .i64 s'.size] W fun e w' => e = .returned (.string s') ∧ Below wc.heap.size wc w') := fun W hb =>
          (peek_all (HW.out.que.below hb)).mono fun e w' hw => ⟨hw.1, hb.trans (hw.2.mono hb.size)⟩
        clear H9 H10 H11 H12 H13 H13f H8k H8'
        go_wp2_with (first
          | (go_at_call 14; (with_reducible refine H14.out.mono ?_); rintro e w3 ⟨rfl, hb⟩; have HB3 := Lib.hid hb; clear hb)
          | (go_at_call 15; (with_reducible refine (H15.out _ HB3.out).mono ?_); rintro e w4 ⟨rfl, rfl⟩)
          | (go_at_call 16; (with_reducible refine (H16.out _ HB3.out).mono ?_); rintro e w5 ⟨rfl, hb⟩; have HB5 := Lib.hid hb; clear hb)
          | (go_at_call 17; (with_reducible refine (H17.out _ HB5.out).mono ?_); rintro e w6 ⟨rfl, hb⟩; have HB6 := Lib.hid hb; clear hb)
          | (go_at_call 11; (with_reducible refine (H11'.out _ HB6.out).mono ?_); rintro e w7 ⟨rfl, hb⟩; have HB7 := Lib.hid hb; clear hb))
        go_roundw
        case rel =>
          have hfin : Behind w w7 w.heap.size most s' out' (i + 1) := ⟨HW.out.que.below HB7.out, HW.out.few, HW.out.i60, HW.out.below.trans (HB7.out.mono HW.out.below.size)⟩
          first
            | exact ⟨s', out', i + 1, rfl, rfl, rfl, by go_num, by omega, hfin⟩
            | ((repeat apply Exists.intro); exact ⟨⟨s', out', i + 1, rfl, rfl, rfl, by go_num, by omega, hfin⟩, rfl⟩)
        case measure => simp [intOf]; omega
    · have HB := HR.out.below
      have HBB := Lib.hid HB
      clear HB
      by_cases hl : i < len
      · have h60' : ¬ i < 60 := fun h => h60 ⟨hl, h⟩
        clear h60
        go_wp2_with (go_at_call 6; (with_reducible refine (H6.out _).mono ?_); rintro e w3 ⟨rfl, hb⟩; have HB3 := Lib.hid hb; clear hb)
        go_ret
        exact ⟨rfl, HBB.out.trans (HB3.out.mono HBB.out.size)⟩
      · clear h60
        go_wp2_with (go_at_call 6; (with_reducible refine (H6.out _).mono ?_); rintro e w3 ⟨rfl, hb⟩; have HB3 := Lib.hid hb; clear hb)
        go_ret
        exact ⟨rfl, HBB.out.trans (HB3.out.mono HBB.out.size)⟩
end Go.Proofs.Ytbjjolmnfklihaa
