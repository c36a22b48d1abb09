/-
  Layer 37 (hold): the law on what a hold tells of any calls, walked. No condition but that the number is one.
-/
import Derived.Test.YtamfkiimppfoaaaPlays
namespace Go.Proofs.Ytamfkiimppfoaaa
open Go.RowKit
set_option linter.unusedVariables false

/-- The acts, as they lie in memory. -/
structure Acts (w : World) (a : Option Addr) (len : Nat) : Prop where
  le : len ≤ maxLen
  at_ : ∀ j, j < len → ∃ b off k s, a = some ⟨b, off, none⟩ ∧ b < w.heap.size ∧ w.cell? ⟨b, off + j * 2, none⟩ = some (.int .i64 k) ∧ w.cell? ⟨b, off + j * 2 + 1, none⟩ = some (.string s) ∧ s.size ≤ maxLen

theorem ret_val {a b : Int} (h : a = b) : Value.int .i64 a = .int .i64 b := by rw [h]
theorem ret_str {a b : ByteArray} (h : a = b) : Value.string a = .string b := by rw [h]
theorem mk_data' (s : ByteArray) : (⟨s.data.toList.toArray⟩ : ByteArray) = s := Lib.mk_data s
theorem app_nil (s : ByteArray) : s ++ (⟨#[]⟩ : ByteArray) = s := ext_data (by simp)

/-- What the hold is behind some acts. -/
structure Behind (w wr : World) (most : Nat) (held came went : ByteArray) (st i : Nat) : Prop where
  hol : Hol wr w.heap.size (w.heap.size + 1) w.heap.size held.data.toList most st came.size went.size
  few : came.size ≤ 40 * i
  i50 : i ≤ 50
  s0 : st = 0 → went = ⟨#[]⟩ ∧ held = came
  s1 : st = 1 → went = came
  s12 : st ≠ 0 → held = ⟨#[]⟩
  pre : ∃ l, came.data.toList = went.data.toList ++ l
  below : Below w.heap.size w wr

section
variable {w wr W : World} {most st i : Nat} {held came went : ByteArray}
theorem Behind.more (h : Behind w wr most held came went st i) (hb : Below wr.heap.size wr W) : Behind w W most held came went st i :=
  ⟨h.hol.below hb, h.few, h.i50, h.s0, h.s1, h.s12, h.pre, h.below.trans (hb.mono h.below.size)⟩
theorem Behind.next (h : Behind w wr most held came went st i) (hi : i < 50) : Behind w wr most held came went st (i + 1) :=
  ⟨h.hol, by have := h.few; omega, by omega, h.s0, h.s1, h.s12, h.pre, h.below⟩
theorem Behind.heldle (h : Behind w wr most held came went st i) : held.size ≤ most ∧ most ≤ 1048576 := by
  obtain ⟨out, hq, _⟩ := h.hol.que
  have := hq.fits
  rw [← Lib.size_eq] at this
  exact ⟨this, hq.small⟩
theorem Behind.cut (h : Behind w wr most held came went st i) : came.extract 0 went.size = went := by
  obtain ⟨l, hl⟩ := h.pre
  apply ext_data
  rw [Lib.extract_data, List.drop_zero, Nat.sub_zero, hl, Lib.size_eq, List.take_left]

theorem open_law (h : Behind w wr most held came went 0 i) (hi : i < 50) :
    Calls Try.prog 8 #[.pointer (some ⟨w.heap.size + 1, 0, none⟩)] wr fun e w' => e = .returned (.string held) ∧ Behind w w' most ⟨#[]⟩ came (went ++ held) 1 (i + 1) := by
  obtain ⟨e1, e2⟩ := h.s0 rfl
  have hsz : held.data.toList.length = held.size := (Lib.size_eq held).symm
  have hw0 : went.size = 0 := by rw [e1]; rfl
  have hwh : went ++ held = came := by rw [e1, e2]; exact ext_data (by simp)
  have hh := Open_yes h.hol (by rw [hsz, hw0, e2]; omega) h.below.size
  rw [mk_data'] at hh
  refine hh.mono fun e w' hw => ⟨hw.1, ?_⟩
  have hol := hw.2.1
  rw [hsz, hw0, e2] at hol
  have hol' : Hol w' w.heap.size (w.heap.size + 1) w.heap.size (⟨#[]⟩ : ByteArray).data.toList most 1 came.size (went ++ held).size := by
    rw [hwh]
    simpa using hol
  exact ⟨hol', by have := h.few; omega, by omega, (fun e => by cases e), fun _ => hwh, fun _ => rfl, ⟨[], by rw [hwh]; simp⟩, h.below.trans hw.2.2⟩
theorem open_no (h : Behind w wr most held came went st i) (hs : ((st : Int) == 0) = false) (hi : i < 50) :
    Calls Try.prog 8 #[.pointer (some ⟨w.heap.size + 1, 0, none⟩)] wr fun e w' => e = .returned (.string ⟨#[]⟩) ∧ Behind w w' most held came went st (i + 1) :=
  (Open_no h.hol (by simpa [bne] using hs)).mono fun e w' hw => by
    obtain ⟨he, rfl⟩ := hw
    exact ⟨he, h.next hi⟩
theorem shut_law (h : Behind w wr most held came went st i) (hi : i < 50) :
    Calls Try.prog 9 #[.pointer (some ⟨w.heap.size + 1, 0, none⟩)] wr fun e w' => e = .returned (.int .i64 held.size) ∧ Behind w w' most ⟨#[]⟩ came went 2 (i + 1) := by
  have hsz : held.data.toList.length = held.size := (Lib.size_eq held).symm
  by_cases hs : st = 2
  · subst hs
    have e1 := h.s12 (by omega)
    subst e1
    refine (Shut_no h.hol).mono fun e w' hw => ?_
    obtain ⟨he, rfl⟩ := hw
    exact ⟨he, h.next hi⟩
  · have hh := Shut_yes h.hol (by rw [beq_eq_false_iff_ne]; omega) h.below.size
    rw [hsz] at hh
    refine hh.mono fun e w' hw => ⟨hw.1, ?_⟩
    exact ⟨by simpa using hw.2.1, by have := h.few; omega, by omega, (fun e => by cases e), (fun e => by cases e), fun _ => rfl, h.pre, h.below.trans hw.2.2⟩
theorem pre_more {a b : ByteArray} (t : ByteArray) (h : ∃ l, a.data.toList = b.data.toList ++ l) : ∃ l, (a ++ t).data.toList = b.data.toList ++ l := by
  obtain ⟨l, hl⟩ := h
  exact ⟨l ++ t.data.toList, by simp [hl]⟩
theorem add_full (h : Behind w wr most held came went 0 i) (t : ByteArray) (ht : most < held.size + t.size) (hi : i < 50) :
    Calls Try.prog 10 #[.pointer (some ⟨w.heap.size + 1, 0, none⟩), .string t] wr fun e w' => e = .returned (.tuple #[.string ⟨#[]⟩, .int .i64 3]) ∧ Behind w w' most held came went 0 (i + 1) := by
  have hsz : held.data.toList.length = held.size := (Lib.size_eq held).symm
  have := h.heldle
  exact (Add_full h.hol t (by rw [hsz]; omega)).mono fun e w' hw => ⟨hw.1, (h.more hw.2).next hi⟩
theorem add_hold (h : Behind w wr most held came went 0 i) (t : ByteArray) (ht : held.size + t.size ≤ most) (h40 : t.size ≤ 40) (hi : i < 50) :
    Calls Try.prog 10 #[.pointer (some ⟨w.heap.size + 1, 0, none⟩), .string t] wr fun e w' => e = .returned (.tuple #[.string ⟨#[]⟩, .int .i64 0]) ∧ Behind w w' most (held ++ t) (came ++ t) went 0 (i + 1) := by
  have hsz : held.data.toList.length = held.size := (Lib.size_eq held).symm
  have hf := h.few
  have hca : (came ++ t).size = came.size + t.size := ByteArray.size_append
  refine (Add_hold h.hol t (by rw [hsz]; omega) (by omega) h.below.size).mono fun e w' hw => ⟨hw.1, ?_⟩
  have hol := hw.2.1
  rw [← hca] at hol
  exact ⟨by simpa using hol, by omega, by omega, fun _ => ⟨(h.s0 rfl).1, by rw [(h.s0 rfl).2]⟩, (fun e => by cases e), (fun e => absurd rfl e), pre_more t h.pre, h.below.trans hw.2.2⟩
theorem add_open (h : Behind w wr most held came went 1 i) (t : ByteArray) (h40 : t.size ≤ 40) (hi : i < 50) :
    Calls Try.prog 10 #[.pointer (some ⟨w.heap.size + 1, 0, none⟩), .string t] wr fun e w' => e = .returned (.tuple #[.string t, .int .i64 0]) ∧ Behind w w' most held (came ++ t) (went ++ t) 1 (i + 1) := by
  have hf := h.few
  have hca : (came ++ t).size = came.size + t.size := ByteArray.size_append
  have hcw : (went ++ t).size = went.size + t.size := ByteArray.size_append
  refine (Add_open h.hol t (by omega)).mono fun e w' hw => ⟨hw.1, ?_⟩
  have hol := hw.2.1
  rw [← hca, ← hcw] at hol
  exact ⟨hol, by omega, by omega, (fun e => by cases e), fun _ => by rw [h.s1 rfl], fun _ => h.s12 (by omega), ⟨[], by rw [h.s1 rfl]; simp⟩, h.below.trans hw.2.2⟩
theorem add_shut (h : Behind w wr most held came went 2 i) (t : ByteArray) (h40 : t.size ≤ 40) (hi : i < 50) :
    Calls Try.prog 10 #[.pointer (some ⟨w.heap.size + 1, 0, none⟩), .string t] wr fun e w' => e = .returned (.tuple #[.string ⟨#[]⟩, .int .i64 0]) ∧ Behind w w' most held (came ++ t) went 2 (i + 1) := by
  have hf := h.few
  have hca : (came ++ t).size = came.size + t.size := ByteArray.size_append
  refine (Add_shut h.hol t (by omega)).mono fun e w' hw => ⟨hw.1, ?_⟩
  have hol := hw.2.1
  rw [← hca] at hol
  exact ⟨hol, by omega, by omega, (fun e => by cases e), (fun e => by cases e), fun _ => h.s12 (by omega), pre_more t h.pre, h.below.trans hw.2.2⟩
end

set_option maxRecDepth 100000 in
set_option maxHeartbeats 4000000 in
theorem plays_yes (most : Nat) (hm : most ≤ 1048576) (a : Option Addr) (len cap : Nat) (w : World) (hA : Acts w a len) :
    Calls Try.prog 3 #[.int .i64 most, .slice a len cap] w fun e w' => e = .returned (.bool true) ∧ Below w.heap.size w w' := by
  have H5 := Lib.hid (hNew_yes most hm w.heap.size w (Nat.le_refl _))
  have H6 := Lib.hid lives_any
  have H7 := Lib.hid (fun s hs w => cut_any s 40 hs w)
  have HA := Lib.hid hA
  have hlen := hA.le
  unfold maxLen at hlen
  have hd0 : decide ((most : Int) < 0) = false := by simp
  have hd1 : decide ((1048576 : Int) < (most : Int)) = false := by simp; omega
  clear hA
  go_enter Try.func3, Try.ntmps3
  go_wp2_with (go_at_call 5; refine H5.out.mono ?_; rintro e w1 ⟨rfl, hq1, hb1⟩; have HQ1 := Lib.hid hq1; have HB1 := Lib.hid hb1; clear hq1 hb1)
  go_loopw [7, 8, 9, 10, 11] (fun x y z u i wr => ∃ (held came went : ByteArray) (st k : Nat), x = .string held ∧ y = .string came ∧ z = .string went ∧ u = .int .i64 st ∧ i = .int .i64 k ∧ k ≤ len ∧ Hid (Behind w wr most held came went st k)) (fun _ _ _ _ i _ => len - (intOf i).toNat)
  case atStart => exact ⟨⟨#[]⟩, ⟨#[]⟩, ⟨#[]⟩, 0, 0, rfl, rfl, rfl, rfl, rfl, Nat.zero_le _, ⟨HQ1.out, Nat.le_refl _, by omega, fun _ => ⟨rfl, rfl⟩, (fun e => by cases e), (fun e => absurd rfl e), ⟨[], rfl⟩, HB1.out⟩⟩
  case round =>
    obtain ⟨held, came, went, st, i, rfl, rfl, rfl, rfl, rfl, hi, HR⟩ := hrel
    have hi50 := HR.out.i50
    have hfew := HR.out.few
    have hcs : came.size ≤ 1000000 := HR.out.hol.came_
    have hws : went.size ≤ came.size := HR.out.hol.went_
    by_cases h50 : i < len ∧ i < 50
    · obtain ⟨hl, h50⟩ := h50
      obtain ⟨b, off, k, t0, rfl, hblt, k0, k1, ht0⟩ := HA.out.at_ i hl
      obtain ⟨t, ht⟩ : ∃ t, t0.extract 0 40 = t := ⟨_, rfl⟩
      have hts : t.size ≤ 40 := by rw [← ht]; exact (extract_cut_le t0 40).1
      have H7' := Lib.hid (fun w => ht ▸ H7.out t0 ht0 w)
      obtain ⟨hsz, hsm⟩ := HR.out.heldle
      obtain ⟨d0, d1⟩ : wr.cell? ⟨b, off + i * 2, none⟩ = some (.int .i64 k) ∧ wr.cell? ⟨b, off + i * 2 + 1, none⟩ = some (.string t0) :=
        ⟨(HR.out.below.cell (p := ⟨b, _, none⟩) hblt).trans k0, (HR.out.below.cell (p := ⟨b, _, none⟩) hblt).trans k1⟩
      clear ht k0 k1 HB1 HQ1 H5 H7
      go_upto_block 2 with (go_at_call 7; refine (H7'.out _).mono ?_; rintro e w1 ⟨rfl, rfl⟩)
      go_cut [7, 8, 9, 10] (fun x y z u wx => ∃ (held' came' went' : ByteArray) (st' : Nat), x = .string held' ∧ y = .string came' ∧ z = .string went' ∧ u = .int .i64 st' ∧ Hid (Behind w wx most held' came' went' st' (i + 1)))
      case first =>
        by_cases h1 : k = 1
        · have b1 : (k == 1) = true := beq_iff_eq.2 h1
          clear h1
          by_cases hs : st = 0
          · have H8 := Lib.hid (open_law (hs ▸ HR.out) h50)
            have q0 : ((st : Int) == 0) = true := by rw [beq_iff_eq]; omega
            clear hs
            go_wp2_with (go_at_call 8; (with_reducible refine H8.out.mono ?_); rintro e w2 ⟨rfl, hh⟩; have HH := Lib.hid hh; clear hh)
            go_meet
            exact ⟨_, _, _, 1, rfl, rfl, rfl, rfl, HH.out⟩
          · have q0 : ((st : Int) == 0) = false := by rw [beq_eq_false_iff_ne]; omega
            have H8 := Lib.hid (open_no HR.out q0 h50)
            clear hs
            go_wp2_with (go_at_call 8; (with_reducible refine H8.out.mono ?_); rintro e w2 ⟨rfl, hh⟩; have HH := Lib.hid hh; clear hh)
            go_meet
            exact ⟨held, came, went, st, rfl, rfl, (by first | rfl | exact ret_str (app_nil _)), rfl, HH.out⟩
        · have b1 : (k == 1) = false := beq_eq_false_iff_ne.2 h1
          by_cases h2 : k = 2
          · have b2 : (k == 2) = true := beq_iff_eq.2 h2
            clear h1 h2
            have H9 := Lib.hid (shut_law HR.out h50)
            go_wp2_with (go_at_call 9; (with_reducible refine H9.out.mono ?_); rintro e w2 ⟨rfl, hh⟩; have HH := Lib.hid hh; clear hh)
            go_meet
            exact ⟨_, _, _, 2, rfl, rfl, rfl, rfl, HH.out⟩
          · have b2 : (k == 2) = false := beq_eq_false_iff_ne.2 h2
            clear h1 h2
            rcases (show st = 0 ∨ st = 1 ∨ st = 2 by have := HR.out.hol.st; omega) with hs | hs | hs
            · have q0 : ((st : Int) == 0) = true := by rw [beq_iff_eq]; omega
              have q1 : ((st : Int) == 1) = false := by rw [beq_eq_false_iff_ne]; omega
              by_cases hf : held.size + t.size ≤ most
              · have H10 := Lib.hid (add_hold (hs ▸ HR.out) t hf hts h50)
                have hf' : ¬ (most : Int) < (held.size : Int) + t.size := by omega
                have HS := Lib.hid hs
                clear hf hs
                go_wp2_with (go_at_call 10; (with_reducible refine H10.out.mono ?_); rintro e w2 ⟨rfl, hh⟩; have HH := Lib.hid hh; clear hh)
                go_meet
                exact ⟨held ++ t, came ++ t, went, 0, rfl, rfl, (by first | rfl | exact ret_str (app_nil _)), ret_val (by rw [HS.out]), HH.out⟩
              · have H10 := Lib.hid (add_full (hs ▸ HR.out) t (by omega) h50)
                have hf' : (most : Int) < (held.size : Int) + t.size := by omega
                have HS := Lib.hid hs
                clear hf hs
                go_wp2_with (go_at_call 10; (with_reducible refine H10.out.mono ?_); rintro e w2 ⟨rfl, hh⟩; have HH := Lib.hid hh; clear hh)
                go_meet
                exact ⟨held, came, went, 0, rfl, rfl, (by first | rfl | exact ret_str (app_nil _)), ret_val (by rw [HS.out]), HH.out⟩
            · have q0 : ((st : Int) == 0) = false := by rw [beq_eq_false_iff_ne]; omega
              have q1 : ((st : Int) == 1) = true := by rw [beq_iff_eq]; omega
              have H10 := Lib.hid (add_open (hs ▸ HR.out) t hts h50)
              have HS := Lib.hid hs
              clear hs
              go_wp2_with (go_at_call 10; (with_reducible refine H10.out.mono ?_); rintro e w2 ⟨rfl, hh⟩; have HH := Lib.hid hh; clear hh)
              go_meet
              exact ⟨held, came ++ t, went ++ t, 1, rfl, rfl, rfl, ret_val (by rw [HS.out]), HH.out⟩
            · have q0 : ((st : Int) == 0) = false := by rw [beq_eq_false_iff_ne]; omega
              have q1 : ((st : Int) == 1) = false := by rw [beq_eq_false_iff_ne]; omega
              have H10 := Lib.hid (add_shut (hs ▸ HR.out) t hts h50)
              have HS := Lib.hid hs
              clear hs
              go_wp2_with (go_at_call 10; (with_reducible refine H10.out.mono ?_); rintro e w2 ⟨rfl, hh⟩; have HH := Lib.hid hh; clear hh)
              go_meet
              exact ⟨held, came ++ t, went, 2, rfl, rfl, (by first | rfl | exact ret_str (app_nil _)), ret_val (by rw [HS.out]), HH.out⟩
      case rest =>
        obtain ⟨held', came', went', st', rfl, rfl, rfl, rfl, HW⟩ := hcut
        have hwl := HW.out.hol.went_
        have hcl : came'.size ≤ 1000000 := HW.out.hol.came_
        have hcut := HW.out.cut
        have H11 : Hid (Calls Try.prog 11 #[.pointer (some ⟨w.heap.size + 1, 0, none⟩)] wc fun e w' => e = .returned (.string held') ∧ Behind w w' most held' came' went' st' (i + 1)) := by
          have h := All_any HW.out.hol
          rw [mk_data'] at h
          exact h.mono fun e w' hw => ⟨hw.1, HW.out.more hw.2⟩
        have H12 : Hid (∀ W, Behind w W most held' came' went' st' (i + 1) → Calls Try.prog 12 #[.pointer (some ⟨w.heap.size + 1, 0, none⟩)] W fun e w' => e = .returned (.int .i64 held'.size) ∧ W = w') := fun W hW => by
          have h := hLen_any hW.hol
          rw [← Lib.size_eq] at h
          exact h
        have H13 : Hid (∀ W, Behind w W most held' came' went' st' (i + 1) → Calls Try.prog 13 #[.pointer (some ⟨w.heap.size + 1, 0, none⟩)] W fun e w' => e = .returned (.int .i64 st') ∧ W = w') := fun W hW => State_any hW.hol
        have H14 : Hid (∀ W, Behind w W most held' came' went' st' (i + 1) → Calls Try.prog 14 #[.pointer (some ⟨w.heap.size + 1, 0, none⟩)] W fun e w' => e = .returned (.int .i64 came'.size) ∧ W = w') := fun W hW => Came_any hW.hol
        have H15 : Hid (∀ W, Behind w W most held' came' went' st' (i + 1) → Calls Try.prog 15 #[.pointer (some ⟨w.heap.size + 1, 0, none⟩)] W fun e w' => e = .returned (.int .i64 went'.size) ∧ W = w') := fun W hW => Went_any hW.hol
        clear H7' d0 d1
        by_cases hs : st' = 1
        · have q1 : ((st' : Int) == 1) = true := by rw [beq_iff_eq]; omega
          obtain rfl := HW.out.s1 hs
          clear hs
          go_wp2_with (first
            | (go_at_call 11; (with_reducible refine H11.out.mono ?_); rintro e w3 ⟨rfl, hb⟩; have HB3 := Lib.hid hb; clear hb)
            | (go_at_call 12; (with_reducible refine (H12.out _ HB3.out).mono ?_); rintro e w4 ⟨rfl, rfl⟩)
            | (go_at_call 13; (with_reducible refine (H13.out _ HB3.out).mono ?_); rintro e w4 ⟨rfl, rfl⟩)
            | (go_at_call 14; (with_reducible refine (H14.out _ HB3.out).mono ?_); rintro e w4 ⟨rfl, rfl⟩)
            | (go_at_call 15; (with_reducible refine (H15.out _ HB3.out).mono ?_); rintro e w4 ⟨rfl, rfl⟩))
          go_roundw
          case rel =>
            first
              | exact ⟨held', _, _, st', i + 1, rfl, rfl, rfl, rfl, by go_num, by omega, HB3.out⟩
              | ((repeat apply Exists.intro); exact ⟨⟨held', _, _, st', i + 1, rfl, rfl, rfl, rfl, by go_num, by omega, HB3.out⟩, rfl⟩)
          case measure => simp [intOf]; omega
        · have q1 : ((st' : Int) == 1) = false := by rw [beq_eq_false_iff_ne]; omega
          clear hs
          go_wp2_with (first
            | (go_at_call 11; (with_reducible refine H11.out.mono ?_); rintro e w3 ⟨rfl, hb⟩; have HB3 := Lib.hid hb; clear hb)
            | (go_at_call 12; (with_reducible refine (H12.out _ HB3.out).mono ?_); rintro e w4 ⟨rfl, rfl⟩)
            | (go_at_call 13; (with_reducible refine (H13.out _ HB3.out).mono ?_); rintro e w4 ⟨rfl, rfl⟩)
            | (go_at_call 14; (with_reducible refine (H14.out _ HB3.out).mono ?_); rintro e w4 ⟨rfl, rfl⟩)
            | (go_at_call 15; (with_reducible refine (H15.out _ HB3.out).mono ?_); rintro e w4 ⟨rfl, rfl⟩))
          go_roundw
          case rel =>
            first
              | exact ⟨held', came', went', st', i + 1, rfl, rfl, rfl, rfl, by go_num, by omega, HB3.out⟩
              | ((repeat apply Exists.intro); exact ⟨⟨held', came', went', st', i + 1, rfl, rfl, rfl, rfl, by go_num, by omega, HB3.out⟩, rfl⟩)
          case measure => simp [intOf]; omega
    · have HBB := Lib.hid HR.out.below
      by_cases hl : i < len
      · have h60' : ¬ i < 50 := fun h => h50 ⟨hl, h⟩
        clear h50
        go_wp2_with (go_at_call 6; (with_reducible refine (H6.out _).mono ?_); rintro e w3 ⟨rfl, hb⟩; have HB3 := Lib.hid hb; clear hb)
        go_ret
        exact ⟨rfl, HBB.out.trans (HB3.out.mono HBB.out.size)⟩
      · clear h50
        go_wp2_with (go_at_call 6; (with_reducible refine (H6.out _).mono ?_); rintro e w3 ⟨rfl, hb⟩; have HB3 := Lib.hid hb; clear hb)
        go_ret
        exact ⟨rfl, HBB.out.trans (HB3.out.mono HBB.out.size)⟩
end Go.Proofs.Ytamfkiimppfoaaa
