/-
  Layer 6 (mask): how far a text has a pattern; whether it has it. No condition but that the text is not too long.
-/
import Derived.Test.YtlhaaokldjdnnaaGreatDoorMaskAll
import Derived.Laws.BitsAllLaws
namespace Go.Proofs.YtlhaaokldjdnnaaGreatDoor
open Go.RowKit
set_option linter.unusedVariables false
set_option linter.unusedSimpArgs false

/-- Whether bytes are those of a pattern, as far as both go. -/
def fitB : List UInt8 → List UInt8 → List UInt8 → Bool
  | c :: t, x :: b, y :: m => (c &&& y == x) && fitB t b m
  | _, _, _ => true
theorem fit_at (T b m : ByteArray) (n : Nat) (h1 : n < T.size) (h2 : n < b.size) (h3 : n < m.size) : fitB (T.data.toList.drop n) (b.data.toList.drop n) (m.data.toList.drop n) = ((T[n] &&& m[n] == b[n]) && fitB (T.data.toList.drop (n + 1)) (b.data.toList.drop (n + 1)) (m.data.toList.drop (n + 1))) := by
  rw [List.drop_eq_getElem_cons (l := T.data.toList) (by rw [← Lib.size_eq]; exact h1), List.drop_eq_getElem_cons (l := b.data.toList) (by rw [← Lib.size_eq]; exact h2), List.drop_eq_getElem_cons (l := m.data.toList) (by rw [← Lib.size_eq]; exact h3), byte_at T n h1, byte_at b n h2, byte_at m n h3]
  rfl
theorem and_byte (x y z : UInt8) : (bits BinOp.and IntKind.u8 (x.toNat : Int) (y.toNat : Int) != (z.toNat : Int)) = !(x &&& y == z) := by
  rw [u8_and_nat _ _ (UInt8.toNat_lt x) (UInt8.toNat_lt y), ← UInt8.toNat_and]
  rw [bne, cast_beq]
  congr 1
  rw [Bool.eq_iff_iff]
  rw [beq_iff_eq, beq_iff_eq, UInt8.toNat_inj]
set_option maxRecDepth 100000 in
set_option maxHeartbeats 1000000 in
theorem fits_is (s b m k t : ByteArray) (w : World) (hs : s.size ≤ 1000000) (hb : b.size ≤ 64) (hm : m.size = b.size) :
    Calls Tryz.prog 392 #[.string s, patV b m k t] w fun e w' => (∃ n : Nat, e = .returned (.tuple #[.int .i64 n, .bool (fitB (s.data.toList.drop (padN s.data.toList k.data.toList)) b.data.toList m.data.toList)]) ∧
      (fitB (s.data.toList.drop (padN s.data.toList k.data.toList)) b.data.toList m.data.toList = true → n = min (s.size - padN s.data.toList k.data.toList) b.size)) ∧ Below w.heap.size w w' := by
  have H1 : Hid (∀ W, Calls Tryz.prog 393 #[.string s, patV b m k t] W fun e w' => e = .returned (.int .i64 (padN s.data.toList k.data.toList : Nat)) ∧ Below W.heap.size W w') := fun W => begins_is s b m k t W hs
  have hle : padN s.data.toList k.data.toList ≤ s.size := by rw [Lib.size_eq]; exact padN_le _ _
  obtain ⟨L, hL⟩ : ∃ L, padN s.data.toList k.data.toList = L := ⟨_, rfl⟩
  rw [hL] at H1 hle ⊢
  clear hL
  obtain ⟨T, hT⟩ : ∃ T, s.extract L s.size = T := ⟨_, rfl⟩
  have hTs : T.size = s.size - L := by rw [← hT, ByteArray.size_extract]; omega
  have hTd : s.data.toList.drop L = T.data.toList := by
    rw [← hT, Lib.extract_data, List.take_of_length_le]
    rw [List.length_drop, ← Lib.size_eq]
    exact Nat.le_refl _
  rw [hTd, ← hTs]
  have HTX := Lib.hid hT
  clear hTd hT
  go_enter Tryz.func392, Tryz.ntmps392
  go_wp2_with (go_at_call 393; refine (H1.out _).mono ?_; rintro e w1 ⟨rfl, hb1⟩
               have c0 : w1.cell? ⟨w.heap.size, 0, none⟩ = some (.string b) := (World.cell?_of_block (hb1.block w.heap.size (by simp))).trans (by rw [World.cell?_alloc_new]; rfl)
               have c1 : w1.cell? ⟨w.heap.size, 1, none⟩ = some (.string m) := (World.cell?_of_block (hb1.block w.heap.size (by simp))).trans (by rw [World.cell?_alloc_new]; rfl)
               have HB1 := Lib.hid hb1; clear hb1)
  rw [HTX.out, ← hTs]
  obtain ⟨N, hN⟩ : ∃ N, min T.size b.size = N := ⟨_, rfl⟩
  have hNi : min (T.size : Int) (b.size : Int) = (N : Int) := by omega
  rw [hNi]
  go_loopw [20] (fun i wr => ∃ n : Nat, i = .int .i64 n ∧ n ≤ N ∧ Hid (∃ q, wr = w1.drewN q) ∧ Hid (fitB T.data.toList b.data.toList m.data.toList = fitB (T.data.toList.drop n) (b.data.toList.drop n) (m.data.toList.drop n))) (fun i _ => N - (intOf i).toNat)
  case atStart => exact ⟨0, rfl, Nat.zero_le _, ⟨0, rfl⟩, rfl⟩
  case round =>
    obtain ⟨n, rfl, hn, hw, hf⟩ := hrel
    obtain ⟨q, rfl⟩ := hw.out
    have HD : Hid (∀ p, ∃ q', (w1.drewN q).drewN p = w1.drewN q') := fun p => ⟨q + p, by simp [World.drewN, Nat.add_assoc]⟩
    have d0 : (w1.drewN q).cell? ⟨w.heap.size, 0, none⟩ = some (.string b) := c0
    have d1 : (w1.drewN q).cell? ⟨w.heap.size, 1, none⟩ = some (.string m) := c1
    have HBW : Hid (Below w.heap.size w (w1.drewN q)) := by
      have h0 : Below w.heap.size w (w.alloc (.cells #[.string b, .string m, .string k, .string t] 271)) := (Below.refl _ _).alloc (Nat.le_refl _) _
      exact below_drewN (below_then h0 (Nat.le_refl _) HB1.out) q
    clear hw c0 c1
    generalize w1.drewN q = W1 at HD d0 d1 HBW ⊢
    rcases Nat.lt_or_ge n N with hlt | hge
    · have j1 : n < T.size := by omega
      have j2 : n < b.size := by omega
      have j3 : n < m.size := by omega
      have i1 : (n : Int) < (T.size : Int) := by omega
      have i2 : (n : Int) < (b.size : Int) := by omega
      have i3 : (n : Int) < (m.size : Int) := by omega
      have i4 : (n : Int) < (N : Int) := by omega
      have HTS := Lib.hid hTs
      have HM := Lib.hid hm
      have HN := Lib.hid hN
      have HNI := Lib.hid hNi
      clear hTs hm hN hNi
      go_wp2_with fail
      go_quiet (fail)
      go_wp2_with fail
      · have h : (bits BinOp.and IntKind.u8 (T[n].toNat : Int) (m[n].toNat : Int) != (b[n].toNat : Int)) = true := by assumption
        rw [and_byte] at h
        have hff : fitB T.data.toList b.data.toList m.data.toList = false := by
          rw [hf.out, fit_at T b m n j1 j2 j3]
          have : (T[n] &&& m[n] == b[n]) = false := by simpa using h
          rw [this]
          rfl
        go_ret2
        refine ⟨⟨n, ?_, fun h => ?_⟩, below_drewN HBW.out _⟩
        · rw [hff]
          rfl
        · rw [hff] at h
          cases h
      · have h : (bits BinOp.and IntKind.u8 (T[n].toNat : Int) (m[n].toNat : Int) != (b[n].toNat : Int)) = false := by assumption
        rw [and_byte] at h
        refine ⟨⟨n + 1, by go_num, by omega, HD.out _, ?_⟩, by simp [intOf]; omega⟩
        unfold Hid
        rw [hf.out, fit_at T b m n j1 j2 j3]
        have : (T[n] &&& m[n] == b[n]) = true := by simpa using h
        rw [this, Bool.true_and]
    · obtain rfl : n = N := by omega
      have HF : Hid (fitB T.data.toList b.data.toList m.data.toList = true) := by
        unfold Hid
        rw [hf.out]
        rcases Nat.lt_or_ge n T.size with h1 | h1
        · have : b.data.toList.drop n = [] := List.drop_eq_nil_of_le (by rw [← Lib.size_eq]; omega)
          rw [this]
          cases T.data.toList.drop n <;> rfl
        · have : T.data.toList.drop n = [] := List.drop_eq_nil_of_le (by rw [← Lib.size_eq]; omega)
          rw [this]
          rfl
      clear hf
      go_wp2
      go_ret2
      refine ⟨⟨n, ?_, fun _ => hN.symm⟩, HBW.out⟩
      rw [HF.out]
      rfl

/-- Whether a text has a pattern. -/
def matchB (s b m k : ByteArray) : Bool := goodB b m && (fitB (s.data.toList.drop (padN s.data.toList k.data.toList)) b.data.toList m.data.toList && decide (b.size ≤ s.size - padN s.data.toList k.data.toList))
set_option maxRecDepth 100000 in
theorem match_is (s b m k t : ByteArray) (w : World) (hs : s.size ≤ 1000000) : Calls Tryz.prog 352 #[.string s, patV b m k t] w fun e w' => e = .returned (.bool (matchB s b m k)) ∧ Below w.heap.size w w' := by
  have H1 := Lib.hid (good_is b m k t)
  unfold matchB
  cases hg : goodB b m
  case false =>
    rw [hg] at H1
    go_enter Tryz.func352, Tryz.ntmps352
    go_wp2_with (go_at_call 391; refine (H1.out _).mono ?_; rintro e w1 ⟨rfl, hb1⟩; have HB1 := Lib.hid hb1; clear hb1)
    go_ret
    exact ⟨ret_bool (by simp), below_then ((Below.refl _ _).alloc (Nat.le_refl _) _) (Nat.le_refl _) HB1.out⟩
  case true =>
    rw [hg] at H1
    have hg2 := hg
    simp only [goodB, Bool.and_eq_true, decide_eq_true_eq, beq_iff_eq] at hg2
    obtain ⟨⟨g1, g2⟩, g3⟩ := hg2
    have H2 : Hid (∀ W, Calls Tryz.prog 392 #[.string s, patV b m k t] W fun e w' => (∃ n : Nat, e = .returned (.tuple #[.int .i64 n, .bool (fitB (s.data.toList.drop (padN s.data.toList k.data.toList)) b.data.toList m.data.toList)]) ∧
      (fitB (s.data.toList.drop (padN s.data.toList k.data.toList)) b.data.toList m.data.toList = true → n = min (s.size - padN s.data.toList k.data.toList) b.size)) ∧ Below W.heap.size W w') := fun W => fits_is s b m k t W hs g2 g3
    obtain ⟨L, hL⟩ : ∃ L, padN s.data.toList k.data.toList = L := ⟨_, rfl⟩
    rw [hL] at H2 ⊢
    obtain ⟨f, hf⟩ : ∃ f, fitB (s.data.toList.drop L) b.data.toList m.data.toList = f := ⟨_, rfl⟩
    rw [hf] at H2 ⊢
    clear hL hf hg g1 g2 g3
    cases f
    all_goals
      go_enter Tryz.func352, Tryz.ntmps352
      go_wp2_with (first
        | (go_at_call 391; refine (H1.out _).mono ?_; rintro e w1 ⟨rfl, hb1⟩
           have c0 : w1.cell? ⟨w.heap.size, 0, none⟩ = some (.string b) := (World.cell?_of_block (hb1.block w.heap.size (by simp))).trans (by rw [World.cell?_alloc_new]; rfl)
           have c1 : w1.cell? ⟨w.heap.size, 1, none⟩ = some (.string m) := (World.cell?_of_block (hb1.block w.heap.size (by simp))).trans (by rw [World.cell?_alloc_new]; rfl)
           have c2 : w1.cell? ⟨w.heap.size, 2, none⟩ = some (.string k) := (World.cell?_of_block (hb1.block w.heap.size (by simp))).trans (by rw [World.cell?_alloc_new]; rfl)
           have c3 : w1.cell? ⟨w.heap.size, 3, none⟩ = some (.string t) := (World.cell?_of_block (hb1.block w.heap.size (by simp))).trans (by rw [World.cell?_alloc_new]; rfl)
           have HB1 := Lib.hid hb1; clear hb1)
        | (go_at_call 392; refine (H2.out _).mono ?_; rintro e w2 ⟨⟨n, rfl, hn⟩, hb2⟩
           have d0 : w2.cell? ⟨w.heap.size, 0, none⟩ = some (.string b) := (World.cell?_of_block (hb2.block w.heap.size (Nat.lt_of_lt_of_le (by simp) HB1.out.size))).trans c0
           have HB2 := Lib.hid hb2; have HN := Lib.hid hn; clear hb2 hn c0 c1 c2 c3))
      go_ret
      refine ⟨ret_bool ?_, below_then (below_then ((Below.refl _ _).alloc (Nat.le_refl _) _) (Nat.le_refl _) HB1.out) (by have := HB1.out.size; simp at this; omega) HB2.out⟩
      first
        | rfl
        | (have h := HN.out (by first | trivial | rfl)
           simp only [Bool.true_and]
           rw [cast_beq, Bool.eq_iff_iff]
           simp only [beq_iff_eq, decide_eq_true_eq]
           omega)
theorem Match_is (s b m k t : ByteArray) (w : World) (hs : s.size ≤ 1000000) : Calls Tryz.prog 294 #[.string s, patV b m k t] w fun e w' => e = .returned (.bool (matchB s b m k)) ∧ Below w.heap.size w w' := by
  have H1 := Lib.hid (fun W => match_is s b m k t W hs)
  go_enter Tryz.func294, Tryz.ntmps294
  go_wp2_with (go_at_call 352; refine (H1.out _).mono ?_; rintro e w1 ⟨rfl, hb1⟩; have HB1 := Lib.hid hb1; clear hb1)
  go_ret
  exact ⟨rfl, below_then ((Below.refl _ _).alloc (Nat.le_refl _) _) (Nat.le_refl _) HB1.out⟩
end Go.Proofs.YtlhaaokldjdnnaaGreatDoor
