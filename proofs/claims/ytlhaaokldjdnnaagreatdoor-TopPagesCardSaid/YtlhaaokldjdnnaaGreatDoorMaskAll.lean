/-
  Parts, one behind the other: Layer 6 (mask): which bytes a pattern passes over, and how far a text has a pattern. No condition. | The law's cut; the reference's small functions. No condition but that a text is no longer than a text can be. | The reference's Prefix; the law's remark. No condition but that a text is not too long.
-/
import Derived.Test.YtlhaaokldjdnnaaGreatDoorBytes
import Derived.Test.YtlhaaokldjdnnaaGreatDoorShelf
namespace Go.Proofs.YtlhaaokldjdnnaaGreatDoor
open Go.RowKit
set_option linter.unusedVariables false
set_option linter.unusedSimpArgs false

abbrev patV (b m k t : ByteArray) : Value := .agg #[.string b, .string m, .string k, .string t]
theorem cast_beq (a b : Nat) : ((a : Int) == (b : Int)) = (a == b) := by
  rw [Bool.eq_iff_iff]
  simp only [beq_iff_eq]
  omega
def goodB (b m : ByteArray) : Bool := decide (1 ≤ b.size) && decide (b.size ≤ 64) && m.size == b.size
theorem good_is (b m k t : ByteArray) (w : World) : Calls Tryz.prog 391 #[patV b m k t] w fun e w' => e = .returned (.bool (goodB b m)) ∧ Below w.heap.size w w' := by
  unfold goodB
  by_cases h1 : 1 ≤ b.size
  · by_cases h2 : b.size ≤ 64
    · have i1 : (1 : Int) ≤ (b.size : Int) := by omega
      have i2 : (b.size : Int) ≤ 64 := by omega
      go_enter Tryz.func391, Tryz.ntmps391
      go_wp2
      go_ret
      exact ⟨ret_bool (by simp only [h1, h2, decide_true, Bool.true_and]; exact cast_beq _ _), (Below.refl _ _).alloc (Nat.le_refl _) _⟩
    · have i1 : (1 : Int) ≤ (b.size : Int) := by omega
      have i2 : ¬ (b.size : Int) ≤ 64 := by omega
      go_enter Tryz.func391, Tryz.ntmps391
      go_wp2
      go_ret
      exact ⟨ret_bool (by simp [h1, h2]), (Below.refl _ _).alloc (Nat.le_refl _) _⟩
  · have i1 : ¬ (1 : Int) ≤ (b.size : Int) := by omega
    go_enter Tryz.func391, Tryz.ntmps391
    go_wp2
    go_ret
    exact ⟨ret_bool (by simp [h1]), (Below.refl _ _).alloc (Nat.le_refl _) _⟩

/-- How many bytes at a text's head are some of those. -/
def padN : List UInt8 → List UInt8 → Nat
  | [], _ => 0
  | c :: s, k => if k.contains c then padN s k + 1 else 0
theorem padN_le : ∀ (s k : List UInt8), padN s k ≤ s.length
  | [], _ => Nat.le_refl _
  | c :: s, k => by
    unfold padN
    split
    · simp only [List.length_cons]
      exact Nat.succ_le_succ (padN_le s k)
    · exact Nat.zero_le _
theorem padN_at : ∀ (s k : List UInt8) (i : Nat), i < padN s k → ∃ c, s[i]? = some c ∧ k.contains c = true
  | [], _, i, hi => by simp [padN] at hi
  | c :: s, k, i, hi => by
    unfold padN at hi
    split at hi
    · rename_i hc
      cases i with
      | zero => exact ⟨c, rfl, hc⟩
      | succ i => exact padN_at s k i (by omega)
    · omega
theorem padN_end : ∀ (s k : List UInt8) (c : UInt8), s[padN s k]? = some c → k.contains c = false
  | [], _, c, h => by simp [padN] at h
  | d :: s, k, c, h => by
    unfold padN at h
    split at h
    · exact padN_end s k c (by simpa using h)
    · rename_i hc
      simp at h
      subst h
      simpa using hc
theorem index_has (l : List UInt8) (c : UInt8) : decide (0 ≤ Lib.indexByte l c) = l.contains c := by
  induction l with
  | nil => rfl
  | cons b l ih =>
    have hge := Lib.indexByte_ge l c
    unfold Lib.indexByte
    rw [List.contains_cons]
    cases hb : (b == c)
    · have hcb : (c == b) = false := by
        have : ¬ b = c := by simpa using hb
        have : ¬ c = b := fun e => this e.symm
        simpa using this
      rw [hcb, Bool.false_or, ← ih]
      simp only [Bool.false_eq_true, if_false]
      cases hm : (Lib.indexByte l c == -1)
      · have : ¬ Lib.indexByte l c = -1 := by simpa using hm
        simp only [Bool.false_eq_true, if_false]
        rw [Bool.eq_iff_iff]
        simp only [decide_eq_true_eq]
        omega
      · have : Lib.indexByte l c = -1 := by simpa using hm
        simp [this]
    · have hcb : (c == b) = true := by
        have : b = c := by simpa using hb
        simp [this]
      rw [hcb]
      rfl
set_option maxRecDepth 100000 in
theorem begins_is (s b m k t : ByteArray) (w : World) (hs : s.size ≤ 1000000) : Calls Tryz.prog 393 #[.string s, patV b m k t] w fun e w' => e = .returned (.int .i64 (padN s.data.toList k.data.toList : Nat)) ∧ Below w.heap.size w w' := by
  have HX : Hid (∀ (s : ByteArray) (z : Int) (W : World), Calls Tryz.prog 233 #[.string s, .int .u8 z] W fun e w' => e = .returned (.int .i64 (Lib.indexByte s.data.toList z.toNat.toUInt8)) ∧ w' = W) := Tryz.strings_IndexByte
  obtain ⟨L, hL⟩ : ∃ L, padN s.data.toList k.data.toList = L := ⟨_, rfl⟩
  have hle : L ≤ s.size := by rw [← hL, Lib.size_eq]; exact padN_le _ _
  have hin : ∀ i (hi : i < s.size), (0 ≤ Lib.indexByte k.data.toList s[i]) = (k.data.toList.contains s[i] = true) := fun i hi => by rw [← index_has]; simp
  have HIN := Lib.hid hin
  have HL := Lib.hid hL
  rw [hL]
  clear hin hL
  go_enter Tryz.func393, Tryz.ntmps393
  go_wp2
  go_loopw [5] (fun i wr => ∃ n : Nat, i = .int .i64 n ∧ n ≤ L ∧ Hid (∃ q, wr = (w.alloc (.cells #[.string b, .string m, .string k, .string t] 271)).drewN q)) (fun i _ => L - (intOf i).toNat)
  case atStart => exact ⟨0, rfl, Nat.zero_le _, 0, rfl⟩
  case round =>
    obtain ⟨n, rfl, hn, hw⟩ := hrel
    obtain ⟨q, rfl⟩ := hw.out
    have c2 : ((w.alloc (.cells #[.string b, .string m, .string k, .string t] 271)).drewN q).cell? ⟨w.heap.size, 2, none⟩ = some (.string k) := by
      show (w.alloc (.cells #[.string b, .string m, .string k, .string t] 271)).cell? ⟨w.heap.size, 2, none⟩ = _
      rw [World.cell?_alloc_new]
      rfl
    clear hw
    have HB : Hid (Below w.heap.size w ((w.alloc (.cells #[.string b, .string m, .string k, .string t] 271)).drewN q)) := below_drewN ((Below.refl _ _).alloc (Nat.le_refl _) _) q
    have HD : Hid (∀ p, ∃ q', (((w.alloc (.cells #[.string b, .string m, .string k, .string t] 271)).drewN q)).drewN p = (w.alloc (.cells #[.string b, .string m, .string k, .string t] 271)).drewN q') := fun p => ⟨q + p, by simp [World.drewN, Nat.add_assoc]⟩
    generalize (w.alloc (.cells #[.string b, .string m, .string k, .string t] 271)).drewN q = W1 at c2 HB HD ⊢
    rcases Nat.lt_or_ge n s.size with hns | hns
    · obtain ⟨v, hv⟩ : ∃ v, Lib.indexByte k.data.toList s[n] = v := ⟨_, rfl⟩
      have HX2 : Hid (∀ W, Calls Tryz.prog 233 #[.string k, .int .u8 (s[n].toNat : Int)] W fun e w' => e = .returned (.int .i64 v) ∧ w' = W) := fun W => by
        have h := HX.out k (s[n].toNat : Int) W
        have e : ((s[n].toNat : Int)).toNat.toUInt8 = s[n] := by simp
        rw [e, hv] at h
        exact h
      rcases Nat.lt_or_ge n L with hnL | hnL
      · have hv0 : (0 : Int) ≤ v := by
          obtain ⟨c, hc1, hc2⟩ := padN_at s.data.toList k.data.toList n (by rw [HL.out]; exact hnL)
          have hc : c = s[n] := by
            rw [List.getElem?_eq_getElem (by rw [← Lib.size_eq]; exact hns), byte_at s n hns] at hc1
            exact (Option.some.inj hc1).symm
          rw [← hv, HIN.out n hns, ← hc]
          exact hc2
        clear hv
        have i0 : (n : Int) < (s.size : Int) := by omega
        have hwr : IntKind.i64.wrap ((n : Int) + 1) = (n : Int) + 1 := by rw [IntKind.wrap_i64]; omega
        go_wp2_with fail
        go_quiet ((go_at_call 233; exact Calls.quiet_of_same (HX2.out _)))
        go_wp2
        go_roundw
        case rel => exact ⟨n + 1, by go_num, by omega, HD.out _⟩
        case measure => simp [intOf]; omega
      · obtain rfl : n = L := by omega
        have hv0 : ¬ (0 : Int) ≤ v := by
          have hc := padN_end s.data.toList k.data.toList s[n] (by
            rw [HL.out, List.getElem?_eq_getElem (by rw [← Lib.size_eq]; exact hns), byte_at s n hns])
          intro h
          rw [← hv, HIN.out n hns, hc] at h
          cases h
        clear hv
        have i0 : (n : Int) < (s.size : Int) := by omega
        go_wp2_with fail
        go_quiet ((go_at_call 233; exact Calls.quiet_of_same (HX2.out _)))
        go_wp2
        go_ret
        exact ⟨rfl, below_drewN HB.out _⟩
    · obtain rfl : n = L := by omega
      have i0 : decide (n < s.size) = false := decide_eq_false (by omega)
      go_wp2_with fail
      go_quiet (fail)
      go_wp2
      go_ret
      exact ⟨rfl, below_drewN HB.out _⟩
end Go.Proofs.YtlhaaokldjdnnaaGreatDoor
namespace Go.Proofs.YtlhaaokldjdnnaaGreatDoor
open Go.RowKit
set_option linter.unusedVariables false
set_option linter.unusedSimpArgs false

def cutT (s : ByteArray) : ByteArray := if 100 < s.size then s.extract 0 100 else s
theorem cutT_size (s : ByteArray) : (cutT s).size ≤ 100 := by
  unfold cutT
  split
  · simp; omega
  · omega
theorem cut_is (s : ByteArray) (hs : s.size ≤ maxLen) (w : World) : Calls Tryz.prog 4 #[.string s, .int .i64 100] w fun e w' => e = .returned (.string (cutT s)) ∧ w = w' := by
  unfold maxLen at hs
  unfold cutT
  by_cases h : 100 < s.size
  · have i1 : (100 : Int) < (s.size : Int) := by omega
    have i2 : (100 : Int) ≤ (s.size : Int) := by omega
    rw [if_pos h]
    go_enter Tryz.func4, Tryz.ntmps4
    go_wp2
    go_ret
    exact ⟨rfl, rfl⟩
  · have i1 : ¬ (100 : Int) < (s.size : Int) := by omega
    rw [if_neg h]
    go_enter Tryz.func4, Tryz.ntmps4
    go_wp2
    go_ret
    exact ⟨rfl, rfl⟩
/-- Whether a byte stands in a text. -/
def hasB (l : List UInt8) (z : UInt8) : Bool := l.any fun c => c == z
theorem has_snoc (s : ByteArray) (k : Nat) (hk : k < s.size) (z : UInt8) : hasB (s.data.toList.take (k + 1)) z = (hasB (s.data.toList.take k) z || (s[k] == z)) := by
  rw [take_snoc s k hk]
  simp [hasB, List.any_append]
theorem u8_eq (a b : UInt8) : ((a.toNat : Int) == (b.toNat : Int)) = (a == b) := by
  cases h : (a == b)
  · have : a ≠ b := by simpa using h
    have h2 : a.toNat ≠ b.toNat := fun e => this (UInt8.toNat_inj.1 e)
    simp
    omega
  · have : a = b := by simpa using h
    subst this
    simp
set_option maxRecDepth 100000 in
theorem rHas_is (s : ByteArray) (hs : s.size ≤ 1000) (z : UInt8) (w : World) : Calls Tryz.prog 26 #[.string s, .int .u8 (z.toNat : Int)] w fun e w' => e = .returned (.bool (hasB s.data.toList z)) ∧ w = w' := by
  have hfull : s.data.toList.take s.size = s.data.toList := List.take_of_length_le (by rw [← Lib.size_eq s]; exact Nat.le_refl _)
  go_enter Tryz.func26, Tryz.ntmps26
  go_wp2
  go_loop [5] (fun i => ∃ k : Nat, i = .int .i64 k ∧ k ≤ s.size ∧ hasB (s.data.toList.take k) z = false) (fun i => s.size - (intOf i).toNat)
  case atStart => exact ⟨0, rfl, Nat.zero_le _, by simp [hasB]⟩
  case round =>
    obtain ⟨k, rfl, hk, hno⟩ := hrel
    by_cases hlt : k < s.size
    · have hsn := has_snoc s k hlt z
      rw [hno, Bool.false_or] at hsn
      have hu := u8_eq s[k] z
      have i1 : (k : Int) < (s.size : Int) := by omega
      cases hb : (s[k] == z)
      · rw [hb] at hu hsn
        have HS := Lib.hid hsn
        clear hsn hb hno
        go_wp2
        go_round
        case rel => exact ⟨k + 1, by go_num, by omega, HS.out⟩
        case measure => simp [intOf]; omega
      · rw [hb] at hu hsn
        have hany : hasB s.data.toList z = true := by
          have h2 : s.data.toList = s.data.toList.take (k + 1) ++ s.data.toList.drop (k + 1) := (List.take_append_drop _ _).symm
          rw [h2]
          unfold hasB at hsn ⊢
          rw [List.any_append, hsn, Bool.true_or]
        have HA := Lib.hid hany
        clear hsn hb hno hany
        go_wp2
        go_ret
        exact ⟨ret_bool (by rw [HA.out]), rfl⟩
    · obtain rfl : k = s.size := by omega
      rw [hfull] at hno
      have HA := Lib.hid hno
      clear hno hfull
      go_wp2
      go_ret
      exact ⟨ret_bool (by rw [HA.out]), rfl⟩
def whiteL : List UInt8 := [9, 10, 12, 13, 32]
def skipL (l : List UInt8) : List UInt8 := l.dropWhile fun c => hasB whiteL c
def vSize : Value → Nat
  | .string u => u.size
  | _ => 0
theorem behind_one (u : ByteArray) (h : 0 < u.size) : (u.extract 1 u.size).data.toList = u.data.toList.drop 1 ∧ u.data.toList = u[0] :: u.data.toList.drop 1 := by
  refine ⟨?_, ?_⟩
  · rw [ByteArray.data_extract, Array.toList_extract]
    show List.take (u.size - 1) (List.drop 1 u.data.toList) = _
    exact List.take_of_length_le (by rw [List.length_drop, ← Lib.size_eq u]; exact Nat.le_refl _)
  · have h0 : 0 < u.data.toList.length := by rw [← Lib.size_eq u]; exact h
    have e := List.drop_eq_getElem_cons h0
    rw [List.drop_zero] at e
    exact e
set_option maxRecDepth 100000 in
theorem rSkip_is (s : ByteArray) (hs : s.size ≤ 1000) (w : World) : Calls Tryz.prog 12 #[.string s] w fun e w' => (∃ u : ByteArray, e = .returned (.string u) ∧ u.data.toList = skipL s.data.toList) ∧ w = w' := by
  have HH := Lib.hid (fun (z : UInt8) w => rHas_is ⟨#[9, 10, 12, 13, 32]⟩ (by decide) z w)
  go_enter Tryz.func12, Tryz.ntmps12
  go_wp2
  go_loop [0] (fun v => ∃ u : ByteArray, v = .string u ∧ u.size ≤ 1000 ∧ Hid (skipL u.data.toList = skipL s.data.toList)) (fun v => vSize v)
  case atStart => exact ⟨s, rfl, hs, Lib.hid rfl⟩
  case round =>
    obtain ⟨u, rfl, hu, hk⟩ := hrel
    by_cases h0 : 0 < u.size
    · have i1 : (0 : Int) < (u.size : Int) := by omega
      obtain ⟨hb1, hb2⟩ := behind_one u h0
      obtain ⟨c, hc⟩ : ∃ c, u[0] = c := ⟨_, rfl⟩
      rw [hc] at hb2
      have HB1 := Lib.hid hb1
      have HB2 := Lib.hid hb2
      clear hb1 hb2
      cases hw : hasB whiteL c
      · have HW : Hid (hasB ({ data := #[9, 10, 12, 13, 32] } : ByteArray).data.toList c = false) := Lib.hid hw
        have HR : Hid (u.data.toList = skipL s.data.toList) := by
          have := hk.out
          rw [HB2.out] at this ⊢
          unfold skipL at this ⊢
          rw [List.dropWhile_cons, hw] at this
          exact Lib.hid (by simpa using this)
        clear hw
        go_wp2_with (go_at_call 26; refine (HH.out c _).mono ?_; rintro e _ ⟨rfl, rfl⟩; rw [HW.out])
        go_ret
        exact ⟨⟨u, rfl, HR.out⟩, rfl⟩
      · have HW : Hid (hasB ({ data := #[9, 10, 12, 13, 32] } : ByteArray).data.toList c = true) := Lib.hid hw
        have HR : Hid (skipL (u.extract 1 u.size).data.toList = skipL s.data.toList) := by
          have := hk.out
          rw [HB2.out] at this
          rw [HB1.out]
          unfold skipL at this ⊢
          rw [List.dropWhile_cons, hw] at this
          exact Lib.hid (by simpa using this)
        have hz : (u.extract 1 u.size).size < u.size := by simp; omega
        clear hw
        go_wp2_with (go_at_call 26; refine (HH.out c _).mono ?_; rintro e _ ⟨rfl, rfl⟩; rw [HW.out])
        go_round
        case rel => exact ⟨u.extract 1 u.size, rfl, by omega, HR⟩
        case measure => simp [vSize]; omega
    · have i1 : ¬ (0 : Int) < (u.size : Int) := by omega
      have HR : Hid (u.data.toList = skipL s.data.toList) := by
        have := hk.out
        have hnil : u.data.toList = [] := List.eq_nil_of_length_eq_zero (by rw [← Lib.size_eq u]; omega)
        rw [hnil] at this ⊢
        exact Lib.hid this
      go_wp2
      go_ret
      exact ⟨⟨u, rfl, HR.out⟩, rfl⟩
end Go.Proofs.YtlhaaokldjdnnaaGreatDoor
namespace Go.Proofs.YtlhaaokldjdnnaaGreatDoor
open Go.RowKit
set_option linter.unusedVariables false
set_option linter.unusedSimpArgs false

theorem take_eq (s : ByteArray) (n : Nat) : (s.extract 0 n).data.toList = s.data.toList.take n := by
  rw [ByteArray.data_extract, Array.toList_extract]
  show List.take (n - 0) (List.drop 0 s.data.toList) = _
  rw [Nat.sub_zero, List.drop_zero]
theorem pre_eq (s t : ByteArray) : ((s.extract 0 t.size).toList == t.toList) = t.data.toList.isPrefixOf s.data.toList := by
  rw [Lib.toList_data, Lib.toList_data, take_eq]
  cases hp : t.data.toList.isPrefixOf s.data.toList
  · rw [beq_eq_false_iff_ne]
    intro e
    have h3 : t.data.toList <+: s.data.toList := by rw [← e]; exact List.take_prefix _ _
    rw [← List.isPrefixOf_iff_prefix, hp] at h3
    cases h3
  · rw [beq_iff_eq]
    obtain ⟨r, hr⟩ := List.isPrefixOf_iff_prefix.1 hp
    rw [← hr, Lib.size_eq t]
    exact List.take_left
theorem rPrefix_is (s t : ByteArray) (b : Bool) (hb : t.data.toList.isPrefixOf s.data.toList = b) (hs : s.size ≤ 1000) (ht : t.size ≤ 1000) (w : World) : Calls Tryz.prog 14 #[.string s, .string t] w fun e w' => e = .returned (.bool b) ∧ w = w' := by
  by_cases h : t.size ≤ s.size
  · have i1 : (t.size : Int) ≤ (s.size : Int) := by omega
    have hp := pre_eq s t
    rw [hb] at hp
    clear hb
    go_enter Tryz.func14, Tryz.ntmps14
    go_wp2
    go_ret
    exact ⟨rfl, rfl⟩
  · have i1 : ¬ (t.size : Int) ≤ (s.size : Int) := by omega
    obtain rfl : b = false := by
      cases b
      · rfl
      · have := (List.isPrefixOf_iff_prefix.1 hb).length_le
        rw [← Lib.size_eq, ← Lib.size_eq] at this
        omega
    clear hb
    go_enter Tryz.func14, Tryz.ntmps14
    go_wp2
    go_ret
    exact ⟨rfl, rfl⟩
def blankB (c : UInt8) : Bool := decide (9 ≤ c.toNat) && decide (c.toNat ≤ 13) || c.toNat == 32
def skipR (l : List UInt8) : List UInt8 := l.dropWhile blankB
def remarkB (l : List UInt8) : Bool := [60, 33, 45, 45].isPrefixOf (skipR l)
set_option maxRecDepth 100000 in
theorem tRemark_is (s : ByteArray) (hs : s.size ≤ 1000) (w : World) : Calls Tryz.prog 11 #[.string s] w fun e w' => e = .returned (.bool (remarkB s.data.toList)) ∧ w = w' := by
  go_enter Tryz.func11, Tryz.ntmps11
  go_wp2
  go_loop [0] (fun v => ∃ u : ByteArray, v = .string u ∧ u.size ≤ 1000 ∧ Hid (skipR u.data.toList = skipR s.data.toList)) (fun v => vSize v)
  case atStart => exact ⟨s, rfl, hs, Lib.hid rfl⟩
  case round =>
    obtain ⟨u, rfl, hu, hk⟩ := hrel
    have HE : Hid (∀ l : List UInt8, u.data.toList = l → l = skipR s.data.toList → [60, 33, 45, 45].isPrefixOf l = remarkB s.data.toList) := Lib.hid fun l h1 h2 => by rw [h2]; rfl
    have hpre := pre_eq u ⟨#[60, 33, 45, 45]⟩
    by_cases h0 : 0 < u.size
    · have i1 : (0 : Int) < (u.size : Int) := by omega
      obtain ⟨hb1, hb2⟩ := behind_one u h0
      obtain ⟨c, hc⟩ : ∃ c, u[0] = c := ⟨_, rfl⟩
      rw [hc] at hb2
      have HB1 := Lib.hid hb1
      have HB2 := Lib.hid hb2
      clear hb1 hb2
      cases hw : blankB c
      · have HR : Hid (u.data.toList = skipR s.data.toList) := by
          have := hk.out
          rw [HB2.out] at this ⊢
          unfold skipR at this ⊢
          rw [List.dropWhile_cons, hw] at this
          exact Lib.hid (by simpa using this)
        obtain ⟨b, hb⟩ : ∃ b, remarkB s.data.toList = b := ⟨_, rfl⟩
        have HX := Lib.hid ((HE.out _ rfl HR.out).trans hb)
        have HBB := Lib.hid hb
        obtain ⟨z, hz⟩ : ∃ z, c.toNat = z := ⟨_, rfl⟩
        unfold blankB at hw
        rw [hz] at hw
        have hw1 : (9 ≤ z → 13 < z) ∧ z ≠ 32 := by simpa using hw
        have h32 : ((z : Int) == 32) = false := by simp; omega
        clear hw hb
        by_cases h3 : 3 < u.size
        · have i4 : (3 : Int) < (u.size : Int) := by omega
          have i5 : (4 : Int) ≤ (u.size : Int) := by omega
          have hX : ((u.extract 0 4).toList == [60, 33, 45, 45]) = b := by
            have := hpre
            rw [show ({ data := #[60, 33, 45, 45] } : ByteArray).toList = [60, 33, 45, 45] from Lib.toList_data _] at this
            exact this.trans HX.out
          clear hpre HE
          by_cases h9 : 9 ≤ z
          · have j1 : (9 : Int) ≤ (z : Int) := by omega
            have j2 : ¬ (z : Int) ≤ 13 := by have := hw1.1 h9; omega
            go_wp2
            go_ret
            exact ⟨ret_bool (by rw [HBB.out]), rfl⟩
          · have j1 : ¬ (9 : Int) ≤ (z : Int) := by omega
            go_wp2
            go_ret
            exact ⟨ret_bool (by rw [HBB.out]), rfl⟩
        · have i4 : ¬ (3 : Int) < (u.size : Int) := by omega
          obtain rfl : b = false := by
            cases b
            · rfl
            · have := (List.isPrefixOf_iff_prefix.1 HX.out).length_le
              rw [← Lib.size_eq] at this
              simp at this
              omega
          clear hpre HE
          by_cases h9 : 9 ≤ z
          · have j1 : (9 : Int) ≤ (z : Int) := by omega
            have j2 : ¬ (z : Int) ≤ 13 := by have := hw1.1 h9; omega
            go_wp2
            go_ret
            exact ⟨ret_bool (by rw [HBB.out]), rfl⟩
          · have j1 : ¬ (9 : Int) ≤ (z : Int) := by omega
            go_wp2
            go_ret
            exact ⟨ret_bool (by rw [HBB.out]), rfl⟩
      · have HR : Hid (skipR (u.extract 1 u.size).data.toList = skipR s.data.toList) := by
          have := hk.out
          rw [HB2.out] at this
          rw [HB1.out]
          unfold skipR at this ⊢
          rw [List.dropWhile_cons, hw] at this
          exact Lib.hid (by simpa using this)
        have hz1 : (u.extract 1 u.size).size < u.size := by simp; omega
        obtain ⟨z, hz⟩ : ∃ z, c.toNat = z := ⟨_, rfl⟩
        unfold blankB at hw
        rw [hz] at hw
        have hw1 : (9 ≤ z ∧ z ≤ 13) ∨ z = 32 := by simpa using hw
        clear hw hpre HE
        rcases hw1 with ⟨h1, h2⟩ | rfl
        · have i2 : (9 : Int) ≤ (z : Int) := by omega
          have i3 : (z : Int) ≤ 13 := by omega
          go_wp2
          go_round
          case rel => exact ⟨u.extract 1 u.size, rfl, by omega, HR⟩
          case measure => simp [vSize]; omega
        · go_wp2
          go_round
          case rel => exact ⟨u.extract 1 u.size, rfl, by omega, HR⟩
          case measure => simp [vSize]; omega
    · have i1 : ¬ (0 : Int) < (u.size : Int) := by omega
      have i4 : ¬ (3 : Int) < (u.size : Int) := by omega
      have HB : Hid (remarkB s.data.toList = false) := by
        have hnil : u.data.toList = [] := List.eq_nil_of_length_eq_zero (by rw [← Lib.size_eq u]; omega)
        have := hk.out
        rw [hnil] at this
        unfold remarkB
        rw [← this]
        exact Lib.hid rfl
      clear hpre HE
      go_wp2
      go_ret
      exact ⟨ret_bool (by rw [HB.out]), rfl⟩
end Go.Proofs.YtlhaaokldjdnnaaGreatDoor
