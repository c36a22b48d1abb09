/-
  Layer 18 (mp3): whether a frame is some bytes, by the program. No condition.
-/
import Derived.Test.YtfjfccomcmmfoaaTabs
import Derived.Deep.RegionHeld3
import Derived.Deep.DeepCutAuto
import Derived.Deep.QuietTactic
import Derived.BigQuiet
namespace Go.Proofs.Ytfjfccomcmmfoaa
open Go.RowKit
set_option linter.unusedVariables false

theorem and_one_i64 (v : Int) : bits BinOp.and IntKind.i64 v 1 = v % 2 := by
  show IntKind.i64.wrap ((BitVec.ofInt 64 v &&& BitVec.ofInt 64 1).toNat : Int) = _
  have h1 : BitVec.ofInt 64 1 = (1#64) := by decide
  rw [h1, BitVec.toNat_and, BitVec.toNat_ofInt]
  have : (1#64 : BitVec 64).toNat = 1 := by decide
  rw [this, Nat.and_one_is_mod, IntKind.wrap_i64]
  omega

def oddB (v : Int) : Bool := v % 2 == 1
def fv (v l r q : Int) (p : Bool) : Value := .agg #[.int .i64 v, .int .i64 l, .int .i64 r, .int .i64 q, .bool p]

theorem odd_any (v l r q : Int) (p : Bool) (w : World) : Calls Try.prog 32 #[.agg #[.int .i64 v, .int .i64 l, .int .i64 r, .int .i64 q, .bool p]] w fun e w' => e = .returned (.bool (oddB v)) ∧ w.alloc (.cells #[.int .i64 v, .int .i64 l, .int .i64 r, .int .i64 q, .bool p] 24) = w' := by
  have h := Lib.hid (and_one_i64 v)
  go_enter Try.func32, Try.ntmps32
  go_wp2
  go_ret
  exact ⟨ret_bool (by rw [h.out]; rfl), rfl⟩

def rateB (v r : Int) : Bool := r.tmod 1000 == 0 && (ratesL (oddB v)).contains (r.tdiv 1000)
def goodB (v l r q : Int) : Bool := decide (0 ≤ v) && decide (v ≤ 3) && l == 3 && rateB v r && freqsL.contains q

def Fr (w : World) (n : Nat) (v l r q : Int) (p : Bool) : Prop := w.heap[n]? = some (.cells #[.int .i64 v, .int .i64 l, .int .i64 r, .int .i64 q, .bool p] 24 (0, 0))

theorem ratesA_cell (b : Bool) (w : World) : ∀ j (h : j < (ratesL b).length), (w.alloc (.cells (ratesA b) 3)).cell? ⟨w.heap.size, j, none⟩ = some (.int .i64 (ratesL b)[j]) := by
  intro j h
  rw [World.cell?_alloc_new]
  simp [ratesA, List.getElem?_eq_getElem h]
theorem ratesA_cell_d (b : Bool) (w : World) (g : Nat) (hg : g = w.heap.size) : ∀ j (h : j < (ratesL b).length), (w.alloc (.cells (ratesA b) 3)).drew.cell? ⟨g, j, none⟩ = some (.int .i64 (ratesL b)[j]) := by
  subst hg
  exact ratesA_cell b w
theorem freqsA_cell_d (w : World) (g : Nat) (hg : g = w.heap.size) : ∀ j (h : j < freqsL.length), (w.alloc (.cells freqsA 3)).drew.cell? ⟨g, j, none⟩ = some (.int .i64 freqsL[j]) := by
  subst hg
  intro j h
  show (w.alloc (.cells freqsA 3)).cell? _ = _
  rw [World.cell?_alloc_new]
  simp [freqsA, List.getElem?_eq_getElem h]
theorem ratesL_length (b : Bool) : (ratesL b).length = 15 := by cases b <;> rfl
theorem rate_in (b : Bool) (x : Int) (g : Nat) (w : World) (hc : ∀ j (h : j < (ratesL b).length), w.cell? ⟨g, j, none⟩ = some (.int .i64 (ratesL b)[j])) :
    Calls Try.prog 34 #[.slice (some ⟨g, 0, none⟩) 15 15, .int .i64 x] w fun e w' => e = .returned (.bool ((ratesL b).contains x)) ∧ w = w' := by
  have h := contains_any g (ratesL b) x w (by rw [ratesL_length]; omega) hc
  rwa [ratesL_length] at h

theorem Fr.cells {w : World} {n : Nat} {v l r q : Int} {p : Bool} (h : Fr w n v l r q p) :
    w.cell? ⟨n, 0, none⟩ = some (.int .i64 v) ∧ w.cell? ⟨n, 1, none⟩ = some (.int .i64 l) ∧ w.cell? ⟨n, 2, none⟩ = some (.int .i64 r) ∧ w.cell? ⟨n, 3, none⟩ = some (.int .i64 q) ∧ w.cell? ⟨n, 4, none⟩ = some (.bool p) := by
  unfold Fr at h
  refine ⟨?_, ?_, ?_, ?_, ?_⟩ <;> (rw [cell_of_row w n _ _ 24 (0, 0) h]; rfl)
theorem Fr.lt {w : World} {n : Nat} {v l r q : Int} {p : Bool} (h : Fr w n v l r q p) : n < w.heap.size := by
  rcases Nat.lt_or_ge n w.heap.size with hlt | hge
  · exact hlt
  · unfold Fr at h; rw [Array.getElem?_eq_none hge] at h; cases h
theorem Fr.new (w : World) (v l r q : Int) (p : Bool) : Fr (w.alloc (.cells #[.int .i64 v, .int .i64 l, .int .i64 r, .int .i64 q, .bool p] 24)) w.heap.size v l r q p := heap_alloc_new w _
theorem Fr.alloc {w : World} {n : Nat} {v l r q : Int} {p : Bool} (h : Fr w n v l r q p) (o : Obj) : Fr (w.alloc o) n v l r q p := (Below.heap_alloc w o n h.lt).trans h
theorem Fr.below {w w' : World} {n : Nat} {v l r q : Int} {p : Bool} (h : Fr w n v l r q p) {B : Nat} (hb : Below B w w') (hn : n < B) : Fr w' n v l r q p := (hb.block n hn).trans h

theorem freq_in (x : Int) (g : Nat) (w : World) (hc : ∀ j (h : j < freqsL.length), w.cell? ⟨g, j, none⟩ = some (.int .i64 freqsL[j])) :
    Calls Try.prog 34 #[.slice (some ⟨g, 0, none⟩) 3 3, .int .i64 x] w fun e w' => e = .returned (.bool (freqsL.contains x)) ∧ w = w' :=
  contains_any g freqsL x w (by decide) hc

set_option maxHeartbeats 2000000 in
theorem good_any (v l r q : Int) (p : Bool) (w : World) (hw : IntKind.i64.wrap (r.tdiv 1000) = r.tdiv 1000) :
    Calls Try.prog 26 #[.agg #[.int .i64 v, .int .i64 l, .int .i64 r, .int .i64 q, .bool p]] w fun e w' => e = .returned (.bool (goodB v l r q)) ∧ Below w.heap.size w w' := by
  go_enter Try.func26, Try.ntmps26
  go_upto_region 1 with fail
  go_cut [3] (fun s3 wx => s3 = .bool (rateB v r) ∧ Fr wx w.heap.size v l r q p ∧ Below w.heap.size w wx)
  case first =>
    cases hA : (r.tmod 1000 == 0)
    · go_quiet (fail)
      go_wp2_with fail
      go_meet
      exact ⟨by simp [rateB, hA], (Fr.new w v l r q p : _), below_drewN ((Below.refl _ _).alloc (Nat.le_refl _) _) _⟩
    · go_region_held3 (fun w' => w'.cell? ⟨w.heap.size, 0, none⟩ = some (.int .i64 v) ∧ w'.cell? ⟨w.heap.size, 1, none⟩ = some (.int .i64 l) ∧ w'.cell? ⟨w.heap.size, 2, none⟩ = some (.int .i64 r) ∧ w'.cell? ⟨w.heap.size, 3, none⟩ = some (.int .i64 q) ∧ w'.cell? ⟨w.heap.size, 4, none⟩ = some (.bool p)) (go_keep)
        (first
          | (go_at_call 32; (with_reducible refine (odd_any _ _ _ _ _ _).mono ?_); rintro e w1 ⟨rfl, rfl⟩)
          | (go_at_call 31; (with_reducible refine (rates_any _ _).mono ?_); rintro e w1 ⟨rfl, rfl⟩)
          | (go_at_call 34; (with_reducible refine (rate_in (oddB v) _ _ _ ?_).mono ?_); (exact ratesA_cell_d _ _ _ (by simp)); rintro e w1 ⟨rfl, rfl⟩))
      go_wp2_with fail
      go_meet
      refine ⟨by simp [rateB, hA], ?_, ?_⟩
      · exact ((Fr.new w v l r q p).alloc _).alloc _
      · exact ((((Below.refl _ _).alloc (Nat.le_refl _) _).alloc (by simp) _).alloc (by simp; omega) _).drew
  case rest =>
    obtain ⟨rfl, hfr, hbel⟩ := hcut
    obtain ⟨c0, c1, c2, c3, c4⟩ := hfr.cells
    have hlt := hfr.lt
    have HB := Lib.hid hbel
    clear hbel hfr
    obtain ⟨rt, hrt⟩ : ∃ rt, rateB v r = rt := ⟨_, rfl⟩
    rw [hrt]
    have HG : Hid (goodB v l r q = (decide (0 ≤ v) && decide (v ≤ 3) && l == 3 && rt && freqsL.contains q)) := by unfold goodB; rw [hrt]; exact rfl
    clear hrt
    by_cases hB : 0 ≤ v
    · by_cases hC : v ≤ 3
      · cases hD : (l == 3)
        · go_wp2_with fail; go_quiet (fail)
          go_wp2
          go_ret
          exact ⟨ret_bool (by rw [HG.out]; simp [hD]), below_drewN HB.out _⟩
        · cases rt
          · go_wp2_with fail; go_quiet (fail)
            go_wp2
            go_ret
            exact ⟨ret_bool (by rw [HG.out]; simp), below_drewN HB.out _⟩
          · go_wp2_with fail
            go_region_held3 (fun w' => w'.cell? ⟨w.heap.size, 0, none⟩ = some (.int .i64 v) ∧ w'.cell? ⟨w.heap.size, 1, none⟩ = some (.int .i64 l) ∧ w'.cell? ⟨w.heap.size, 2, none⟩ = some (.int .i64 r) ∧ w'.cell? ⟨w.heap.size, 3, none⟩ = some (.int .i64 q) ∧ w'.cell? ⟨w.heap.size, 4, none⟩ = some (.bool p)) (go_keep)
              (first
                | (go_at_call 33; (with_reducible refine (freqs_any _).mono ?_); rintro e w1 ⟨rfl, rfl⟩)
                | (go_at_call 34; (with_reducible refine (freq_in _ _ _ ?_).mono ?_); (exact freqsA_cell_d _ _ (by simp)); rintro e w1 ⟨rfl, rfl⟩))
            go_wp2
            go_ret
            exact ⟨ret_bool (by rw [HG.out]; simp [hB, hC, hD]), (HB.out.alloc HB.out.size _).drew⟩
      · have hC' : decide (v ≤ 3) = false := by simpa using hC
        go_wp2_with fail; go_quiet (fail)
        go_wp2
        go_ret
        exact ⟨ret_bool (by rw [HG.out]; simp [hC']), below_drewN HB.out _⟩
    · have hB' : decide (0 ≤ v) = false := by simpa using hB
      go_wp2_with fail; go_quiet (fail)
      go_wp2
      go_ret
      exact ⟨ret_bool (by rw [HG.out]; simp [hB']), below_drewN HB.out _⟩
end Go.Proofs.Ytfjfccomcmmfoaa
