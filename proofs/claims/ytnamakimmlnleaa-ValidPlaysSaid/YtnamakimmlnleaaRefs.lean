/-
  Layer 34: the document's At, and that two rows of the same texts are told to be the same. No condition.
-/
import Derived.Test.YtnamakimmlnleaaTake
namespace Go.Proofs.Ytnamakimmlnleaa
open Go.RowKit
set_option linter.unusedVariables false

/-- Where a key stands. -/
def pos (xs : List ByteArray) (k : ByteArray) : Nat := xs.findIdx fun x => decide (x = k)
def atv (xs : List ByteArray) (k : ByteArray) : Int := if pos xs k < xs.length then (pos xs k : Int) else -1
theorem pos_le (xs : List ByteArray) (k : ByteArray) : pos xs k ≤ xs.length := List.findIdx_le_length

/-- A row of texts. -/
def Texts (w : World) (B : Nat) (A : Option Addr) (cap : Nat) (xs : List ByteArray) : Prop := Row w B 9 (.slice A xs.length cap) xs.length (xs.map Value.string)
theorem Texts.get {w : World} {B : Nat} {A : Option Addr} {cap : Nat} {xs : List ByteArray} (h : Texts w B A cap xs) {j : Nat} (hj : j < xs.length) :
    ∃ g off, A = some ⟨g, off, none⟩ ∧ w.cell? ⟨g, off + j, none⟩ = some (.string xs[j]) ∧ xs.length ≤ cap ∧ cap ≤ 4611686018427387904 * 2 := by
  obtain ⟨g, off, cap', hA, hcell, hc1, hc2⟩ := Row.get h hj
  injection hA with hA1 _ hA3
  subst hA1 hA3
  refine ⟨g, off, rfl, by simpa using hcell, hc1, ?_⟩
  unfold maxLen at hc2
  omega

theorem toList_ne {x k : ByteArray} (h : ¬ x = k) : (x.toList == k.toList) = false := by
  rw [Bool.eq_false_iff]
  intro e
  refine h (ext_data ?_)
  rw [← Lib.toList_data, ← Lib.toList_data]
  exact eq_of_beq e

theorem At_any {w : World} {B : Nat} {A : Option Addr} {cap : Nat} {xs : List ByteArray} (h : Texts w B A cap xs) (k : ByteArray) (hn : xs.length ≤ 1000000) :
    Calls Try.prog 14 #[.slice A xs.length cap, .string k] w fun e w' => e = .returned (.int .i64 (atv xs k)) ∧ ∃ q, w' = w.drewN q := by
  have HT := Lib.hid h
  obtain ⟨n, hN⟩ : ∃ n, xs.length = n := ⟨_, rfl⟩
  have HN := Lib.hid hN
  have hple := pos_le xs k
  rw [hN] at hple hn ⊢
  clear h hN
  go_enter Try.func14, Try.ntmps14
  go_wp2
  go_loopw [5] (fun iv wr => ∃ (i q : Nat), iv = .int .i64 i ∧ i ≤ pos xs k ∧ Hid (wr = w.drewN q)) (fun iv _ => n - (intOf iv).toNat)
  case atStart => exact ⟨0, 0, rfl, Nat.zero_le _, Lib.hid rfl⟩
  case round =>
    obtain ⟨i, q, rfl, hi, HW⟩ := hrel
    obtain rfl := HW.out
    by_cases hin : i < n
    · obtain ⟨g, off, rfl, hcell, hc1, hc2⟩ := HT.out.get (j := i) (by rw [HN.out]; exact hin)
      by_cases hip : i < pos xs k
      · have hne := List.not_of_lt_findIdx (p := fun x => decide (x = k)) hip
        have hne : ¬ xs[i]'(by rw [HN.out]; exact hin) = k := by simpa using hne
        generalize xs[i]'(by rw [HN.out]; exact hin) = x at hcell hne
        rw [HN.out] at hc1
        have hne' := toList_ne hne
        go_wp2
        go_roundw
        case rel => exact ⟨i + 1, q, rfl, by omega, Lib.hid rfl⟩
        case measure => simp [intOf]; omega
      · obtain rfl : i = pos xs k := by omega
        have hl : pos xs k < xs.length := by rw [HN.out]; exact hin
        have heq : xs[pos xs k]'hl = k := by
          have := List.findIdx_getElem (p := fun x => decide (x = k)) (w := hl)
          exact of_decide_eq_true this
        rw [heq] at hcell
        rw [HN.out] at hc1
        go_wp2
        go_ret
        refine ⟨ret_int ?_, q, rfl⟩
        unfold atv
        rw [if_pos hl]
    · go_wp2
      go_ret
      refine ⟨ret_int ?_, q, rfl⟩
      unfold atv
      rw [if_neg (by rw [HN.out]; omega)]

theorem Same_yes {w : World} {B B2 : Nat} {A A2 : Option Addr} {cap cap2 : Nat} {xs : List ByteArray} (h : Texts w B A cap xs) (h2 : Texts w B2 A2 cap2 xs) (hn : xs.length ≤ 1000000) :
    Calls Try.prog 18 #[.slice A xs.length cap, .slice A2 xs.length cap2] w fun e w' => e = .returned (.bool true) ∧ ∃ q, w' = w.drewN q := by
  have HT := Lib.hid h
  have HT2 := Lib.hid h2
  obtain ⟨n, hN⟩ : ∃ n, xs.length = n := ⟨_, rfl⟩
  have HN := Lib.hid hN
  rw [hN] at hn ⊢
  clear h h2 hN
  go_enter Try.func18, Try.ntmps18
  go_wp2
  go_loopw [5] (fun iv wr => ∃ (i q : Nat), iv = .int .i64 i ∧ i ≤ n ∧ Hid (wr = w.drewN q)) (fun iv _ => n - (intOf iv).toNat)
  case atStart => exact ⟨0, 0, rfl, Nat.zero_le _, Lib.hid rfl⟩
  case round =>
    obtain ⟨i, q, rfl, hi, HW⟩ := hrel
    obtain rfl := HW.out
    by_cases hin : i < n
    · obtain ⟨g, off, rfl, hcell, hc1, hc2⟩ := HT.out.get (j := i) (by rw [HN.out]; exact hin)
      obtain ⟨g2, off2, rfl, hcell2, hc12, hc22⟩ := HT2.out.get (j := i) (by rw [HN.out]; exact hin)
      generalize xs[i]'(by rw [HN.out]; exact hin) = x at hcell hcell2
      rw [HN.out] at hc1 hc12
      go_wp2
      go_quiet (fail)
      go_wp2
      go_roundw
      case rel => exact ⟨i + 1, _, rfl, by omega, Lib.hid rfl⟩
      case measure => simp [intOf]; omega
    · go_wp2
      go_ret
      exact ⟨rfl, q, rfl⟩

end Go.Proofs.Ytnamakimmlnleaa
