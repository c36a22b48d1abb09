/-
  Layer 34: names of numbers; the last keys of those that were added. No condition.
-/
import Derived.Test.YtnamakimmlnleaaList
namespace Go.Proofs.Ytnamakimmlnleaa
open Go.RowKit Go.ChangeMaps
set_option linter.unusedVariables false

def nm2 (i : Nat) : ByteArray := ⟨#[97 + UInt8.ofNat (i / 10)]⟩ ++ ⟨#[97 + UInt8.ofNat (i % 10)]⟩
def digs : ByteArray := ⟨#[97, 98, 99, 100, 101, 102, 103, 104, 105, 106]⟩
theorem digs_at : ∀ a : Fin 10, digs.extract a.1 (a.1 + 1) = ⟨#[97 + UInt8.ofNat a.1]⟩ := by decide +kernel

set_option maxHeartbeats 1000000 in
theorem name_any (i : Nat) (hi : i < 60) (w : World) : Calls Try.prog 8 #[.int .i64 i] w fun e w' => e = .returned (.string (nm2 i)) ∧ ∃ q, w' = w.drewN q := by
  have hq : (i : Int).tdiv 10 = ((i / 10 : Nat) : Int) := by rw [Int.tdiv_eq_ediv_of_nonneg (by omega)]; omega
  have hr : (i : Int).tmod 10 = ((i % 10 : Nat) : Int) := by rw [Int.tmod_eq_emod_of_nonneg (by omega)]; omega
  have h1 : i / 10 < 10 := by omega
  have h2 : i % 10 < 10 := by omega
  have e1 := digs_at ⟨i / 10, h1⟩
  have e2 := digs_at ⟨i % 10, h2⟩
  unfold digs at e1 e2
  simp only at e1 e2
  unfold nm2
  generalize i / 10 = a at *
  generalize i % 10 = b at *
  go_enter Try.func8, Try.ntmps8
  go_wp2
  go_quiet (fail)
  go_wp2
  go_ret
  exact ⟨rfl, _, rfl⟩

def nm (i : Nat) : ByteArray := ⟨#[107]⟩ ++ nm2 i
theorem nm2_size (i : Nat) : (nm2 i).size = 2 := by
  unfold nm2
  rw [ByteArray.size_append]
  rfl
theorem nm_size (i : Nat) : (nm i).size = 3 := by
  unfold nm
  rw [ByteArray.size_append, nm2_size]
  rfl
theorem nm_inj_fin : ∀ a b : Fin 60, nm a.1 = nm b.1 → a = b := by decide +kernel
theorem nm_inj {a b : Nat} (ha : a < 60) (hb : b < 60) (h : nm a = nm b) : a = b := congrArg Fin.val (nm_inj_fin ⟨a, ha⟩ ⟨b, hb⟩ h)

/-- The keys behind i calls of Add. -/
def Lst (i m : Nat) : List (ByteArray × Nat) := ((List.range i).map fun j => (nm j, j)).drop (i - m)
theorem Lst_zero (m : Nat) : Lst 0 m = [] := by unfold Lst; simp
theorem Lst_len (i m : Nat) : (Lst i m).length = min i m := by
  unfold Lst
  rw [List.length_drop, List.length_map, List.length_range]
  omega
theorem Lst_get {i m j : Nat} (h : j < min i m) : (Lst i m)[j]? = some (nm (i - m + j), i - m + j) := by
  unfold Lst
  rw [List.getElem?_drop, List.getElem?_map, List.getElem?_range (by omega)]
  rfl
theorem Lst_not (i m : Nat) (hi : i < 60) : ((Lst i m).any fun p => decide (p.1 = nm i)) = false := by
  rw [List.any_eq_false]
  intro p hp
  obtain ⟨j, hj, rfl⟩ := List.mem_map.1 (List.mem_of_mem_drop hp)
  have hj := List.mem_range.1 hj
  simp only [decide_eq_true_eq]
  intro e
  have := nm_inj (by omega) hi e
  omega
theorem Lst_room (i m : Nat) (h : i < m) : Lst i m ++ [(nm i, i)] = Lst (i + 1) m := by
  unfold Lst
  rw [show i - m = 0 by omega, show i + 1 - m = 0 by omega, List.range_succ, List.map_append]
  rfl
theorem Lst_full (i m : Nat) (h : m ≤ i) : ∃ p, Lst i m ++ [(nm i, i)] = p :: Lst (i + 1) m := by
  unfold Lst
  have e : ((List.range i).map fun j => (nm j, j)).drop (i - m) ++ [(nm i, i)] = ((List.range (i + 1)).map fun j => (nm j, j)).drop (i - m) := by
    rw [List.range_succ, List.map_append, List.drop_append_of_le_length (by rw [List.length_map, List.length_range]; omega)]
    rfl
  rw [e, show i + 1 - m = i - m + 1 by omega]
  exact ⟨_, List.drop_eq_getElem_cons (by rw [List.length_map, List.length_range]; omega)⟩

theorem Add_last {w : World} {B g i m : Nat} (h : Sett w B g (Lst i m) i m (i - m)) (hi : i < 60) :
    Calls Try.prog 7 #[.pointer (some ⟨g, 0, none⟩), .string (nm i)] w fun e w' => (∃ a b, e = .returned (.tuple #[.string a, .bool b])) ∧ Sett w' B g (Lst (i + 1) m) (i + 1) m (i + 1 - m) ∧ Turn w w' B g := by
  have h0 := some_of (nm i) (by rw [nm_size]; omega)
  have hs : (nm i).size ≤ 1048576 := by rw [nm_size]; omega
  by_cases hm : i < m
  · refine (Add_room h (nm i) hs h0 (Lst_not i m hi) (by omega) (by rw [Lst_len]; omega)).mono ?_
    rintro e w' ⟨rfl, h1, h2⟩
    refine ⟨⟨_, _, rfl⟩, ?_, h2⟩
    rw [Lst_room i m hm] at h1
    rw [show i + 1 - m = i - m by omega]
    exact h1
  · obtain ⟨p, hp⟩ := Lst_full i m (by omega)
    refine (Add_full h (nm i) hs h0 (Lst_not i m hi) (by omega) (by rw [Lst_len]; omega) hp).mono ?_
    rintro e w' ⟨rfl, h1, h2⟩
    refine ⟨⟨_, _, rfl⟩, ?_, h2⟩
    rw [show i + 1 - m = i - m + 1 by omega]
    exact h1

theorem _root_.Go.Proofs.Ytnamakimmlnleaa.Row.base {w : World} {B B' : Nat} {e : TypeId} {v : Value} {n : Nat} {xs : List Value} (h : Row w B e v n xs) (hB : B' ≤ B) : Row w B' e v n xs := by
  refine ⟨h.1, ?_⟩
  rcases h.2 with hn | ⟨g, off, cap, cur, rfl, hb, rest⟩
  · exact .inl hn
  · exact .inr ⟨g, off, cap, cur, rfl, Nat.le_trans hB hb, rest⟩

set_option maxHeartbeats 2000000 in
theorem ValidLast_any (n0 m0 : Nat) (w : World) (hn0 : n0 < 256) (hm0 : m0 < 256) : Calls Try.prog 3 #[.int .u8 n0, .int .u8 m0] w fun e w' => e = .returned (.bool true) ∧ Below w.heap.size w w' := by
  have hq1 : (m0 : Int).tmod 20 = ((m0 % 20 : Nat) : Int) := by rw [Int.tmod_eq_emod_of_nonneg (by omega)]; omega
  have hq2 : (n0 : Int).tmod 60 = ((n0 % 60 : Nat) : Int) := by rw [Int.tmod_eq_emod_of_nonneg (by omega)]; omega
  obtain ⟨m, hm, hm9⟩ : ∃ m : Nat, m0 % 20 = m ∧ m < 20 := ⟨_, rfl, by omega⟩
  obtain ⟨k, hk, hk9⟩ : ∃ k : Nat, n0 % 60 = k ∧ k < 60 := ⟨_, rfl, by omega⟩
  rw [hm] at hq1
  rw [hk] at hq2
  have H1 := Lib.hid (New_yes m (by omega) w.heap.size w (Nat.le_refl _))
  clear hm hk
  go_enter Try.func3, Try.ntmps3
  go_wp2_with (go_at_call 6; refine H1.out.mono ?_; rintro e w1 ⟨g, rfl, hs1, hg1, hb1⟩; have HS1 := Lib.hid hs1; have HB1 := Lib.hid hb1; clear hs1 hb1 hg1)
  go_loopw [9] (fun iv wr => ∃ i : Nat, iv = .int .i64 i ∧ i ≤ k ∧ Hid (Sett wr w.heap.size g (Lst i m) i m (i - m)) ∧ Hid (Below w.heap.size w wr)) (fun iv _ => k - (intOf iv).toNat)
  case atStart => exact ⟨0, rfl, Nat.zero_le _, Lib.hid (by rw [Nat.zero_sub, Lst_zero]; exact HS1.out), HB1⟩
  case round =>
    obtain ⟨i, rfl, hi, HS, HB⟩ := hrel
    by_cases hik : i < k
    · have HN := Lib.hid (name_any i (by omega) wr)
      have HA : ∀ q, Hid (Calls Try.prog 7 #[.pointer (some ⟨g, 0, none⟩), .string (⟨#[107]⟩ ++ nm2 i)] (wr.drewN q) fun e w' => (∃ a b, e = .returned (.tuple #[.string a, .bool b])) ∧ Hid (Sett w' w.heap.size g (Lst (i + 1) m) (i + 1) m (i + 1 - m)) ∧ Hid (Below w.heap.size w w')) := by
        intro q
        refine Lib.hid ((Add_last (HS.out.below (below_drewN (Below.refl _ _) q)) (by omega)).mono ?_)
        rintro e w' ⟨h1, h2, h3⟩
        exact ⟨h1, Lib.hid h2, Lib.hid ((below_drewN HB.out q).trans h3.below)⟩
      have hsz := nm2_size i
      go_wp2_with (first
        | (go_at_call 8; refine HN.out.mono ?_; rintro e w2 ⟨rfl, q, rfl⟩)
        | (go_at_call 7; refine (HA _).out.mono ?_; rintro e w3 ⟨⟨xa, xb, rfl⟩, HS3, HB3⟩))
      go_roundw
      case rel => exact ⟨i + 1, rfl, by omega, HS3, HB3⟩
      case measure => simp [intOf]; omega
    obtain rfl : i = k := by omega
    by_cases hkm : m < i
    · skip
      have H3 : ∀ W, Hid (Sett W w.heap.size g (Lst i m) i m (i - m)) → Calls Try.prog 9 #[.pointer (some ⟨g, 0, none⟩)] W fun e w' => ∃ (A : Option Addr) (cap : Nat), e = .returned (.slice A m cap) ∧
          Hid (Row w' W.heap.size 9 (.slice A m cap) m ((Lst i m).map fun p => .string p.1)) ∧ Hid (Below W.heap.size W w') := by
        intro W hS
        have h := List_any hS.out
        have hl : (Lst i m).length = m := by rw [Lst_len]; omega
        refine h.mono ?_
        rintro e w' ⟨A, cap, rfl, h1, h2⟩
        rw [hl] at h1 ⊢
        exact ⟨A, cap, rfl, Lib.hid h1, Lib.hid h2⟩
      have H4 : ∀ W, Hid (Sett W w.heap.size g (Lst i m) i m (i - m)) → Calls Try.prog 10 #[.pointer (some ⟨g, 0, none⟩)] W fun e w' => e = .returned (.int .i64 ((i : Int) - m)) ∧ W = w' := by
        intro W hS
        have h := Gone_any hS.out
        have hl : ((i - m : Nat) : Int) = (i : Int) - m := by omega
        rw [hl] at h
        exact h
      have hd : ((i : Int) > m) := by omega
      go_wp2_with (first
        | (go_at_call 9; refine (H3 _ HS).mono ?_; rintro e w2 ⟨A, cap, rfl, HR2, HB2⟩; have HS2 := Lib.hid (HS.out.below HB2.out); have HB2' := Lib.hid (below_then HB.out (Nat.le_refl _) HB2.out))
        | (go_at_call 10; refine (H4 _ HS2).mono ?_; rintro e w3 ⟨rfl, rfl⟩))
      go_loopw [12] (fun iv wr => ∃ j : Nat, iv = .int .i64 j ∧ j ≤ m ∧ Hid (Row wr w.heap.size 9 (.slice A m cap) m ((Lst i m).map fun p => .string p.1)) ∧ Hid (Below w.heap.size w wr)) (fun iv _ => m - (intOf iv).toNat)
      case atStart => exact ⟨0, rfl, Nat.zero_le _, Lib.hid (HR2.out.base HB.out.size), HB2'⟩
      case round =>
        obtain ⟨j, rfl, hj, HR, HBr⟩ := hrel
        by_cases hjl : j < m
        · obtain ⟨gg, off, cap', hA, hcell, hc1, hc2⟩ := HR.out.get (j := j) hjl
          injection hA with hA1 _ hA3
          subst hA1 hA3
          have hgt : ((Lst i m).map fun p : ByteArray × Nat => Value.string p.1)[j]? = some (Value.string (nm (i - m + j))) := by
            rw [List.getElem?_map, Lst_get (by omega)]
            show some _ = _
            rw [show i - m + j = i - m + j by omega]
          rw [List.getElem?_eq_getElem (by rw [List.length_map, Lst_len]; omega)] at hgt
          rw [Option.some.inj hgt] at hcell
          clear hgt
          have HN := fun W => name_any (i - m + j) (by omega) W
          have hsz := nm2_size (i - m + j)
          unfold nm at hcell
          generalize nm2 (i - m + j) = s at hcell HN hsz
          rw [show ((i - m + j : Nat) : Int) = (i : Int) - m + j by omega] at HN
          have HN := Lib.hid HN
          unfold maxLen at hc2
          go_wp2
          go_quiet ((go_at_call 8; refine Calls.quiet_of (HN.out _)))
          go_wp2
          go_roundw
          case rel => exact ⟨j + 1, rfl, by omega, Lib.hid (HR.out.keep fun _ _ => rfl), Lib.hid (below_drewN HBr.out _)⟩
          case measure => simp [intOf]; omega
        · obtain rfl : j = m := by omega
          have H5 := Lib.hid (lives_any wr)
          go_wp2_with (go_at_call 11; refine H5.out.mono ?_; rintro e w5 ⟨rfl, hb5⟩; have HB5 := Lib.hid hb5; clear hb5)
          go_ret
          exact ⟨rfl, below_then HBr.out (Nat.le_refl _) HB5.out⟩
    · skip
      have H3 : ∀ W, Hid (Sett W w.heap.size g (Lst i m) i m (i - m)) → Calls Try.prog 9 #[.pointer (some ⟨g, 0, none⟩)] W fun e w' => ∃ (A : Option Addr) (cap : Nat), e = .returned (.slice A i cap) ∧
          Hid (Row w' W.heap.size 9 (.slice A i cap) i ((Lst i m).map fun p => .string p.1)) ∧ Hid (Below W.heap.size W w') := by
        intro W hS
        have h := List_any hS.out
        have hl : (Lst i m).length = i := by rw [Lst_len]; omega
        refine h.mono ?_
        rintro e w' ⟨A, cap, rfl, h1, h2⟩
        rw [hl] at h1 ⊢
        exact ⟨A, cap, rfl, Lib.hid h1, Lib.hid h2⟩
      have H4 : ∀ W, Hid (Sett W w.heap.size g (Lst i m) i m (i - m)) → Calls Try.prog 10 #[.pointer (some ⟨g, 0, none⟩)] W fun e w' => e = .returned (.int .i64 (0)) ∧ W = w' := by
        intro W hS
        have h := Gone_any hS.out
        have hl : ((i - m : Nat) : Int) = 0 := by omega
        rw [hl] at h
        exact h
      have hd : ¬ ((i : Int) > m) := by omega
      go_wp2_with (first
        | (go_at_call 9; refine (H3 _ HS).mono ?_; rintro e w2 ⟨A, cap, rfl, HR2, HB2⟩; have HS2 := Lib.hid (HS.out.below HB2.out); have HB2' := Lib.hid (below_then HB.out (Nat.le_refl _) HB2.out))
        | (go_at_call 10; refine (H4 _ HS2).mono ?_; rintro e w3 ⟨rfl, rfl⟩))
      go_loopw [12] (fun iv wr => ∃ j : Nat, iv = .int .i64 j ∧ j ≤ i ∧ Hid (Row wr w.heap.size 9 (.slice A i cap) i ((Lst i m).map fun p => .string p.1)) ∧ Hid (Below w.heap.size w wr)) (fun iv _ => i - (intOf iv).toNat)
      case atStart => exact ⟨0, rfl, Nat.zero_le _, Lib.hid (HR2.out.base HB.out.size), HB2'⟩
      case round =>
        obtain ⟨j, rfl, hj, HR, HBr⟩ := hrel
        by_cases hjl : j < i
        · obtain ⟨gg, off, cap', hA, hcell, hc1, hc2⟩ := HR.out.get (j := j) hjl
          injection hA with hA1 _ hA3
          subst hA1 hA3
          have hgt : ((Lst i m).map fun p : ByteArray × Nat => Value.string p.1)[j]? = some (Value.string (nm (j))) := by
            rw [List.getElem?_map, Lst_get (by omega)]
            show some _ = _
            rw [show i - m + j = j by omega]
          rw [List.getElem?_eq_getElem (by rw [List.length_map, Lst_len]; omega)] at hgt
          rw [Option.some.inj hgt] at hcell
          clear hgt
          have HN := fun W => name_any (j) (by omega) W
          have hsz := nm2_size (j)
          unfold nm at hcell
          generalize nm2 (j) = s at hcell HN hsz
          rw [show ((j : Nat) : Int) = (j : Int) by omega] at HN
          have HN := Lib.hid HN
          unfold maxLen at hc2
          go_wp2
          go_quiet ((go_at_call 8; refine Calls.quiet_of (HN.out _)))
          go_wp2
          go_roundw
          case rel => exact ⟨j + 1, rfl, by omega, Lib.hid (HR.out.keep fun _ _ => rfl), Lib.hid (below_drewN HBr.out _)⟩
          case measure => simp [intOf]; omega
        · obtain rfl : j = i := by omega
          have H5 := Lib.hid (lives_any wr)
          go_wp2_with (go_at_call 11; refine H5.out.mono ?_; rintro e w5 ⟨rfl, hb5⟩; have HB5 := Lib.hid hb5; clear hb5)
          go_ret
          exact ⟨rfl, below_then HBr.out (Nat.le_refl _) HB5.out⟩

theorem ValidLast_walk (a b : Int) (w : World) (ha : (Lit.int .u8 a).wf = true) (hb : (Lit.int .u8 b).wf = true) : Calls Try.prog 3 #[.int .u8 a, .int .u8 b] w fun e w' => e = .returned (.bool true) ∧ Below w.heap.size w w' := by
  obtain ⟨n, rfl, hn⟩ := u8_of a ha
  obtain ⟨m, rfl, hm⟩ := u8_of b hb
  exact ValidLast_any n m w hn hm

end Go.Proofs.Ytnamakimmlnleaa
