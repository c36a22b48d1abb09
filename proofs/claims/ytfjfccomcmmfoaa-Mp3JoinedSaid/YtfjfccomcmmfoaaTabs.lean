/-
  Layer 18 (mp3): the tables of rates and of frequencies, and whether a number stands in one. No condition.
-/
import Derived.Test.YtfjfccomcmmfoaaRows
import Derived.Test.YtfjfccomcmmfoaaAid
namespace Go.Proofs.Ytfjfccomcmmfoaa
open Go.RowKit
set_option linter.unusedVariables false

/-- The rates, in thousands, of odd versions and of even ones; the frequencies. -/
def ratesL (b : Bool) : List Int := if b = true then [0, 32, 40, 48, 56, 64, 80, 96, 112, 128, 160, 192, 224, 256, 320] else [0, 8, 16, 24, 32, 40, 48, 56, 64, 80, 96, 112, 128, 144, 160]
def freqsL : List Int := [44100, 48000, 32000]
def ratesA (b : Bool) : Array Value := ((ratesL b).map (Value.int .i64)).toArray
def freqsA : Array Value := (freqsL.map (Value.int .i64)).toArray

theorem rates_any (b : Bool) (w : World) : Calls Try.prog 31 #[.bool b] w fun e w' => e = .returned (.slice (some ⟨w.heap.size, 0, none⟩) 15 15) ∧ w.alloc (.cells (ratesA b) 3) = w' := by
  cases b
  all_goals
    go_enter Try.func31, Try.ntmps31
    go_wp2
    go_ret
    exact ⟨rfl, rfl⟩

theorem freqs_any (w : World) : Calls Try.prog 33 #[] w fun e w' => e = .returned (.slice (some ⟨w.heap.size, 0, none⟩) 3 3) ∧ w.alloc (.cells freqsA 3) = w' := by
  go_enter Try.func33, Try.ntmps33
  go_wp2
  go_ret
  exact ⟨rfl, rfl⟩

/-- slices.Index over a row that is known whole. -/
def idxI (zs : List Int) (x : Int) : Int := match zs.findIdx? (fun z => x == z) with
  | some i => i
  | none => -1
theorem idxI_hit (zs : List Int) (x : Int) (k : Nat) (hk : k < zs.length) (h1 : ∀ j (h : j < zs.length), j < k → (x == zs[j]) = false) (h2 : (x == zs[k]) = true) : idxI zs x = k := by
  have e : zs.findIdx? (fun z => x == z) = some k := by
    rw [List.findIdx?_eq_some_iff_getElem]
    exact ⟨hk, h2, fun j hj => by simpa using h1 j (by omega) hj⟩
  simp [idxI, e]
theorem idxI_miss (zs : List Int) (x : Int) (h1 : ∀ j (h : j < zs.length), (x == zs[j]) = false) : idxI zs x = -1 := by
  have e : zs.findIdx? (fun z => x == z) = none := by
    rw [List.findIdx?_eq_none_iff]
    intro z hz
    obtain ⟨i, hi, rfl⟩ := List.getElem_of_mem hz
    exact h1 i hi
  simp [idxI, e]
theorem idxI_contains (zs : List Int) (x : Int) : decide (0 ≤ idxI zs x) = zs.contains x := by
  cases h : zs.findIdx? (fun z => x == z) with
  | none =>
    have hc : zs.contains x = false := by
      rw [List.findIdx?_eq_none_iff] at h
      rw [List.contains_eq_any_beq, List.any_eq_false]
      intro z hz
      simpa using h z hz
    rw [hc]
    simp [idxI, h]
  | some i =>
    have hc : zs.contains x = true := by
      rw [List.findIdx?_eq_some_iff_getElem] at h
      obtain ⟨hi, hx, _⟩ := h
      rw [List.contains_eq_any_beq, List.any_eq_true]
      exact ⟨zs[i], List.getElem_mem hi, hx⟩
    rw [hc]
    simp [idxI, h]

theorem index_any (g : Nat) (zs : List Int) (x : Int) (w : World) (hz : zs.length ≤ 1000) (hc : ∀ j (h : j < zs.length), w.cell? ⟨g, j, none⟩ = some (.int .i64 zs[j])) :
    Calls Try.prog 35 #[.slice (some ⟨g, 0, none⟩) zs.length zs.length, .int .i64 x] w fun e w' => e = .returned (.int .i64 (idxI zs x)) ∧ w = w' := by
  have HC := Lib.hid hc
  clear hc
  go_enter Try.func35, Try.ntmps35
  go_wp2
  go_loop [8] (fun i => ∃ k : Nat, k ≤ zs.length ∧ i = .int .i64 k ∧ ∀ j (h : j < zs.length), j < k → (x == zs[j]) = false) (fun i => zs.length - (intOf i).toNat)
  case atStart => exact ⟨0, Nat.zero_le _, rfl, fun j _ h => absurd h (by omega)⟩
  case round =>
    obtain ⟨k, hk, rfl, ha⟩ := hrel
    have HA := Lib.hid ha
    clear ha
    by_cases hlt : k < zs.length
    · have hck := HC.out k hlt
      cases hb : (x == zs[k])
      all_goals
        go_wp2
      · go_round
        case rel =>
          refine ⟨k + 1, by omega, by go_num, fun j h hj => ?_⟩
          by_cases e : j = k
          · subst e; exact hb
          · exact HA.out j h (by omega)
        case measure => simp [intOf]; omega
      · go_ret
        exact ⟨ret_int (idxI_hit zs x k hlt HA.out hb).symm, rfl⟩
    · go_wp2
      go_ret
      exact ⟨ret_int (idxI_miss zs x (fun j h => HA.out j h (by omega))).symm, rfl⟩

theorem contains_any (g : Nat) (zs : List Int) (x : Int) (w : World) (hz : zs.length ≤ 1000) (hc : ∀ j (h : j < zs.length), w.cell? ⟨g, j, none⟩ = some (.int .i64 zs[j])) :
    Calls Try.prog 34 #[.slice (some ⟨g, 0, none⟩) zs.length zs.length, .int .i64 x] w fun e w' => e = .returned (.bool (zs.contains x)) ∧ w = w' := by
  have h1 := Lib.hid (index_any g zs x w hz hc)
  have h2 := Lib.hid (idxI_contains zs x)
  clear hc hz
  go_enter Try.func34, Try.ntmps34
  go_wp2_with (go_at_call 35; refine h1.out.mono ?_; rintro e w' ⟨rfl, rfl⟩)
  go_ret
  exact ⟨ret_bool h2.out, rfl⟩

end Go.Proofs.Ytfjfccomcmmfoaa
