/-
  Layer 17 (webm): a number written big-endian into a row made anew, with its width as the mark; fits and write, walked.
-/
import Derived.Test.YtinigkmjegpddaaLaws
import Derived.Deep.OwnRows
namespace Go.Proofs.Ytinigkmjegpddaa
open Go.RowKit
set_option linter.unusedVariables false

/-- The bytes of a number, so many, the greatest first. -/
def bytesR : Nat → Nat → List UInt8
  | 0, _ => []
  | k + 1, N => bytesR k (N / 256) ++ [UInt8.ofNat (N % 256)]
theorem bytesR_length : ∀ (k N : Nat), (bytesR k N).length = k
  | 0, _ => rfl
  | k + 1, N => by simp [bytesR, bytesR_length k]
theorem beN_bytesR : ∀ (k N : Nat), beN (bytesR k N) = N % 256 ^ k
  | 0, N => by simp [bytesR, beN, Nat.mod_one]
  | k + 1, N => by
    rw [bytesR, beN_snoc, beN_bytesR k, Nat.pow_succ, Nat.mul_comm (256 ^ k) 256, Nat.mod_mul]
    have : (UInt8.ofNat (N % 256)).toNat = N % 256 := by simp
    rw [this]
    omega
theorem bytesR_get : ∀ (k N i : Nat) (h : i < k), (bytesR k N)[i]'(by rw [bytesR_length]; exact h) = UInt8.ofNat (N / 256 ^ (k - 1 - i) % 256)
  | 0, _, _, h => absurd h (by omega)
  | k + 1, N, i, h => by
    by_cases hi : i < k
    · have e := bytesR_get k (N / 256) i hi
      simp only [bytesR]
      rw [List.getElem_append_left (by rw [bytesR_length]; exact hi), e, Nat.div_div_eq_div_mul, Nat.mul_comm, ← Nat.pow_succ]
      congr 4
      omega
    · obtain rfl : i = k := by omega
      simp only [bytesR]
      rw [List.getElem_append_right (by rw [bytesR_length]; omega)]
      simp [bytesR_length]

def bv (c : UInt8) : Value := .int .u8 (c.toNat : Int)
/-- The row when the first i bytes are there. -/
def rowA (k N i : Nat) : Array Value := (((bytesR k N).take i).map bv ++ List.replicate (k - i) (Value.int .u8 0)).toArray
theorem rowA_size (k N i : Nat) (h : i ≤ k) : (rowA k N i).size = k := by
  simp [rowA, bytesR_length]
  omega
theorem rowA_zero (k N : Nat) : madeCells #[Value.int .u8 0] k = rowA k N 0 := by
  apply Array.ext
  · simp [size_madeCells, rowA]
  · intro i h1 h2
    simp [madeCells, rowA, Nat.mod_one]
theorem rowA_set (k N i : Nat) (h : i < k) : (rowA k N i).setIfInBounds i (.int .u8 ((N / 256 ^ (k - 1 - i) % 256 : Nat) : Int)) = rowA k N (i + 1) := by
  have hl : i < (bytesR k N).length := by rw [bytesR_length]; exact h
  have e1 : (bytesR k N).take (i + 1) = (bytesR k N).take i ++ [(bytesR k N)[i]] := List.take_succ_eq_append_getElem hl
  have e2 : List.replicate (k - i) (Value.int .u8 0) = Value.int .u8 0 :: List.replicate (k - (i + 1)) (Value.int .u8 0) := by
    rw [show k - i = (k - (i + 1)) + 1 by omega, List.replicate_succ]
  have e3 : bv ((bytesR k N)[i]) = Value.int .u8 ((N / 256 ^ (k - 1 - i) % 256 : Nat) : Int) := by
    rw [bytesR_get k N i h]
    simp [bv]
  have hlen : (((bytesR k N).take i).map bv).length = i := by simp [bytesR_length]; omega
  unfold rowA
  rw [e1, e2, List.map_append, List.map_singleton, e3, List.setIfInBounds_toArray, List.append_assoc]
  congr 1
  rw [List.set_append_right _ _ (by omega), hlen]
  simp

theorem or_top (n m : Nat) (hm : m ≤ 56) (hn : n < 2 ^ m) : bits BinOp.or IntKind.u64 (n : Int) (IntKind.u64.wrap (2 ^ m)) = ((2 ^ m + n : Nat) : Int) := by
  have h56 : 2 ^ m ≤ 2 ^ 56 := Nat.pow_le_pow_right (by omega) hm
  have e1 : IntKind.u64.wrap (2 ^ m) = ((2 ^ m : Nat) : Int) := by
    rw [IntWalk.u64_in _ (by
      have : ((2 ^ m : Nat) : Int) = (2 : Int) ^ m := by simp
      omega)]
    simp
  rw [e1, u64_or_nat _ _ (by omega) (by omega), Nat.or_comm]
  have := Nat.two_pow_add_eq_or_of_lt hn 1
  simp at this
  rw [this]

theorem fits_any (n : Nat) (z : Int) (w : World) :
    Calls Try.prog 18 #[.int .u64 n, .int .i64 z] w fun e w' => e = .returned (.bool (decide (0 < z) && decide (z < 9) && decide (n < 2 ^ (7 * z.toNat)))) ∧ w = w' := by
  obtain ⟨r, hr⟩ : ∃ r, (decide (0 < z) && decide (z < 9) && decide (n < 2 ^ (7 * z.toNat))) = r := ⟨_, rfl⟩
  have HR := Lib.hid hr
  rw [hr]
  clear hr
  by_cases h1 : 0 < z
  · by_cases h2 : z < 9
    · obtain ⟨k, rfl⟩ : ∃ k : Nat, z = k := ⟨z.toNat, by omega⟩
      obtain ⟨p, hp⟩ : ∃ p : Nat, 2 ^ (7 * k) = p := ⟨_, rfl⟩
      have HP := Lib.hid (fun w => hp ▸ power_any (7 * k) (by omega) w)
      have HPP := Lib.hid hp
      clear hp
      go_enter Try.func18, Try.ntmps18
      go_wp2_with (go_at_call 20; (refine (HP.out _).mono ?_); rintro e w1 ⟨rfl, rfl⟩)
      go_ret
      refine ⟨ret_bool ?_, rfl⟩
      rw [← HR.out, Int.toNat_natCast, HPP.out]
      simp [h2]
      omega
    · go_enter Try.func18, Try.ntmps18
      go_wp2
      go_ret
      refine ⟨ret_bool ?_, rfl⟩
      rw [← HR.out]
      have : decide (z < 9) = false := by simpa using h2
      rw [this]
      simp
  · go_enter Try.func18, Try.ntmps18
    go_wp2
    go_ret
    refine ⟨ret_bool ?_, rfl⟩
    rw [← HR.out]
    have : decide (0 < z) = false := by simpa using h1
    rw [this]
    simp

theorem write_no (n : Nat) (z : Int) (h : (decide (0 < z) && decide (z < 9) && decide (n < 2 ^ (7 * z.toNat))) = false) (w : World) :
    Calls Try.prog 17 #[.int .u64 n, .int .i64 z] w fun e w' => e = .returned (.tuple #[.string ⟨#[]⟩, .bool false]) ∧ w = w' := by
  by_cases h1 : 0 < z
  · by_cases h2 : z < 9
    · obtain ⟨k, rfl⟩ : ∃ k : Nat, z = k := ⟨z.toNat, by omega⟩
      have hp : ¬ n < 2 ^ (7 * k) := by
        have e1 : decide ((0 : Int) < k) = true := by simpa using h1
        have e2 : decide ((k : Int) < 9) = true := by simpa using h2
        rw [e1, e2, Int.toNat_natCast] at h
        simpa using h
      have gq : ((n : Int) / 2 ^ (7 * k) != 0) = true := by
        have e : (n : Int) / 2 ^ (7 * k) = ((n / 2 ^ (7 * k) : Nat) : Int) := by simp
        have : 0 < n / 2 ^ (7 * k) := Nat.div_pos (by omega) (Nat.two_pow_pos _)
        rw [e]
        have hne : ¬ ((n / 2 ^ (7 * k) : Nat) : Int) = 0 := by omega
        simpa [bne] using hne
      have g1 : ¬ (k : Int) < 1 := by omega
      have g8 : ¬ (8 : Int) < k := by omega
      clear h hp
      go_enter Try.func17, Try.ntmps17
      go_wp2
      go_ret2
      exact ⟨rfl, rfl⟩
    · clear h
      go_enter Try.func17, Try.ntmps17
      go_wp2
      go_ret2
      exact ⟨rfl, rfl⟩
  · clear h
    go_enter Try.func17, Try.ntmps17
    go_wp2
    go_ret2
    exact ⟨rfl, rfl⟩

theorem Try.info5' : (Try.prog.info? 5).map (fun i => (i.zero, i.size, i.bytes)) = some (some (.int .u8 0), 1, 1) := by kernel_rfl

theorem row_string (k N : Nat) (w : World) : (convert 39 9 (.slice (some ⟨w.heap.size, 0, none⟩) k k)).run Try.prog (w.alloc (.cells (rowA k N k) 5)) = .ok (.string ⟨(bytesR k N).toArray⟩) (w.alloc (.cells (rowA k N k) 5)) := by
  have h := run_convert_bytes_back (P := Try.prog) (w.alloc (.cells (rowA k N k) 5)) 39 9 5 ⟨w.heap.size, 0, none⟩ k (bytesR k N) Try.underlying39 Try.underlying5 Try.underlying9 (fun j hj => ?_)
  · rwa [bytesR_length] at h
  · have e : (⟨w.heap.size, 0, none⟩ : Addr).add j = ⟨w.heap.size, j, none⟩ := by unfold Addr.add; split <;> simp_all
    rw [e, World.cell?_alloc_new]
    have hl : ((bytesR k N).take k) = bytesR k N := List.take_of_length_le (by rw [bytesR_length]; omega)
    simp [rowA, hl, bv, hj]

theorem write_yes (n k : Nat) (hk1 : 1 ≤ k) (hk8 : k ≤ 8) (hn : n < 2 ^ (7 * k)) (w : World) :
    Calls Try.prog 17 #[.int .u64 n, .int .i64 k] w fun e w' => e = .returned (.tuple #[.string ⟨(bytesR k (2 ^ (7 * k) + n)).toArray⟩, .bool true]) ∧ Below w.heap.size w w' := by
  have h56 : 2 ^ (7 * k) ≤ 2 ^ 56 := Nat.pow_le_pow_right (by omega) (by omega)
  have hor := or_top n (7 * k) (by omega) hn
  have gq : ((n : Int) / 2 ^ (7 * k) != 0) = false := by
    have e : (n : Int) / 2 ^ (7 * k) = ((n / 2 ^ (7 * k) : Nat) : Int) := by simp
    rw [e, Nat.div_eq_of_lt hn]
    rfl
  obtain ⟨N, hN⟩ : ∃ N, 2 ^ (7 * k) + n = N := ⟨_, rfl⟩
  have hN2 : N < 2 ^ 64 := by omega
  rw [hN] at hor ⊢
  have g1 : ¬ (k : Int) < 1 := by omega
  have g8 : ¬ (8 : Int) < k := by omega
  have hmk := fun w => run_make_row' (P := Try.prog) 39 5 (.int .u8 0) 1 Try.underlying39 Try.info5' rfl .i64 .i64 k (by omega) (by omega) w
  rw [rowA_zero k N] at hmk
  clear hn h56 hN
  go_enter Try.func17, Try.ntmps17
  go_wp2
  go_loopw [30] (fun i wr => ∃ j : Nat, j ≤ k ∧ i = .int .i64 j ∧ wr = w.alloc (.cells (rowA k N j) 5)) (fun i _ => k - (intOf i).toNat)
  case atStart => exact ⟨0, Nat.zero_le _, rfl, rfl⟩
  case round =>
    obtain ⟨j, hj, rfl, rfl⟩ := hrel
    have hsz := rowA_size k N j hj
    by_cases hlt : j < k
    · go_wp2
      go_roundw
      case rel =>
        refine ⟨j + 1, by omega, by go_num, ?_⟩
        rw [← rowA_set k N j hlt]
        have e : (N : Int) / 2 ^ (8 * (k - 1 - j)) % 256 = ((N / 256 ^ (k - 1 - j) % 256 : Nat) : Int) := by
          have e1 : (256 : Nat) ^ (k - 1 - j) = 2 ^ (8 * (k - 1 - j)) := by rw [Nat.pow_mul]
          rw [e1]
          simp
        rw [e]
      case measure => simp [intOf]; omega
    · obtain rfl : j = k := by omega
      have hcv := row_string j N w
      go_wp2
      go_ret2
      exact ⟨rfl, (Below.refl _ _).alloc (Nat.le_refl _) _⟩
end Go.Proofs.Ytinigkmjegpddaa
