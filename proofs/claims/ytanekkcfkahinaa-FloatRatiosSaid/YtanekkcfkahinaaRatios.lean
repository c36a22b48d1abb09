/-
  Layer 08 (float): the reference's quotient, the program's sum; the law on quotients, tens and sums, walked. No condition but that a word has 64 bits.
-/
import Derived.Test.YtanekkcfkahinaaOrders
import Derived.Test.YtanekkcfkahinaaFlSum
import Derived.Maps.AppendAt
namespace Go.Proofs.Ytanekkcfkahinaa
open Go.RowKit
set_option linter.unusedVariables false

theorem rRatio_any (a b : Int) (hq : Quo a b) (w : World) : Calls Try.prog 11 #[.int .i64 a, .int .i64 b] w fun e w' => e = .returned (.float .f64 (ratioN a b)) ∧ w = w' := by
  have H1 : Hid (Calls Try.prog 7 #[.int .u64 9221120237041090561] w fun e w' => e = .returned (.float .f64 NN) ∧ w = w') := Of_any NN w
  have H2 : Hid (Calls Try.prog 7 #[.int .u64 9218868437227405312] w fun e w' => e = .returned (.float .f64 IN) ∧ w = w') := Of_any IN w
  have H3 : Hid (Calls Try.prog 7 #[.int .u64 18442240474082181120] w fun e w' => e = .returned (.float .f64 NINF) ∧ w = w') := Of_any NINF w
  have HE : Hid (ratioN a b = if b = 0 then (if 0 < a then IN else if a < 0 then NINF else NN) else quoN a b) := rfl
  by_cases hb : b = 0
  · rw [if_pos hb] at HE
    subst hb
    clear hq
    rcases Int.lt_trichotomy a 0 with h | h | h
    · rw [if_neg (by omega), if_pos h] at HE
      have h1 : (a == 0) = false := by rw [beq_eq_false_iff_ne]; omega
      have h2 : ¬ 0 < a := by omega
      clear h
      go_enter Try.func11, Try.ntmps11
      go_wp2_with (go_at_call 7; (refine H3.out.mono ?_); rintro e w1 ⟨rfl, rfl⟩)
      go_ret
      exact ⟨by rw [HE.out]; rfl, rfl⟩
    · rw [if_neg (by omega), if_neg (by omega)] at HE
      subst h
      go_enter Try.func11, Try.ntmps11
      go_wp2_with (go_at_call 7; (refine H1.out.mono ?_); rintro e w1 ⟨rfl, rfl⟩)
      go_ret
      exact ⟨by rw [HE.out]; rfl, rfl⟩
    · rw [if_pos h] at HE
      have h1 : (a == 0) = false := by rw [beq_eq_false_iff_ne]; omega
      go_enter Try.func11, Try.ntmps11
      go_wp2_with (go_at_call 7; (refine H2.out.mono ?_); rintro e w1 ⟨rfl, rfl⟩)
      go_ret
      exact ⟨by rw [HE.out]; rfl, rfl⟩
  · rw [if_neg hb] at HE
    have hb' : (b == 0) = false := beq_eq_false_iff_ne.2 hb
    have hr := fun w => run_float_arith (P := Try.prog) w .quo 23 .f64 _ _ _ (hq hb)
    clear hb hq
    go_enter Try.func11, Try.ntmps11
    go_wp2
    go_ret
    exact ⟨by rw [HE.out]; rfl, rfl⟩

def flV (x : Nat) : Value := .float .f64 x
def SumPost (w : World) (o : Option Nat) (e : Ending) (w' : World) : Prop := ∃ r, e = .returned (.float .f64 r) ∧ Sum_ r o ∧ Below w.heap.size w w'

theorem sum_any (w : World) (base : Nat) (A : Option Addr) (n c : Nat) (xs : List Nat) (hn : n ≤ 1000) (h : w.ownsRow base 23 1 (.slice A n c) n (xs.map flV)) :
    Calls Try.prog 13 #[.slice A n c] w (SumPost w (sumO xs)) := by
  have hl : xs.length = n := by simpa using h.1
  have hcell : ∀ j (hj : j < n), ∃ g, A = some ⟨g, 0, none⟩ ∧ w.cell? ⟨g, j, none⟩ = some (.float .f64 (xs[j]'(by omega))) := fun j hj => by
    rcases h.2 with ⟨_, h0⟩ | ⟨g, cap, cur, hv, _, hg, hc1, hc2, hc3, ht⟩
    · omega
    · injection hv with hA
      subst hA
      refine ⟨g, rfl, ?_⟩
      have := h.cells (g := g) rfl j (.float .f64 (xs[j]'(by omega))) (by simp [flV, List.getElem?_eq_getElem (show j < xs.length by omega)])
      rwa [Addr.add_lit, Nat.zero_add] at this
  have HC := Lib.hid hcell
  clear h hcell
  go_enter Try.func13, Try.ntmps13
  go_wp2
  go_loopw [3, 8] (fun f i wr => ∃ j y : Nat, j ≤ n ∧ f = .float .f64 y ∧ i = .int .i64 j ∧ Hid (Sum_ y (sumO (xs.take j))) ∧ Hid (wr.heap = w.heap) ∧ Below w.heap.size w wr) (fun _ i _ => n - (intOf i).toNat)
  case atStart => exact ⟨0, 0, Nat.zero_le _, rfl, rfl, Sum_.start, rfl, Below.refl _ _⟩
  case round =>
    obtain ⟨j, y, hj, rfl, rfl, HS, HH, hb⟩ := hrel
    have HB := Lib.hid hb
    clear hb
    by_cases hlt : j < n
    · obtain ⟨g, rfl, hcj⟩ := HC.out j hlt
      obtain ⟨x, hx⟩ : ∃ x, xs[j]'(by omega) = x := ⟨_, rfl⟩
      rw [hx] at hcj
      have hcj' : wr.cell? ⟨g, j, none⟩ = some (.float .f64 x) := by
        rw [← hcj]
        exact World.cell?_of_block (by rw [HH.out])
      obtain ⟨r, w3, hrun, hb3, hh3, hr1, hr2, hr3⟩ := arith_run .add (Or.inl rfl) y x wr
      have HN : Hid (Sum_ r (sumO (xs.take (j + 1)))) := by
        have e : xs.take (j + 1) = xs.take j ++ [x] := by rw [List.take_succ_eq_append_getElem (by omega), hx]
        unfold Hid
        rw [e, sumO_snoc]
        exact HS.out.next hr1 hr2 hr3
      have HB3 := Lib.hid hb3
      have HH3 : Hid (w3.heap = w.heap) := hh3.trans HH.out
      clear hr1 hr2 hr3 hb3 hh3 hx hcj
      go_wp2
      go_roundw
      case rel => exact ⟨j + 1, r, by omega, rfl, by go_num, HN, HH3, HB.out.trans (HB3.out.mono HB.out.size)⟩
      case measure => simp [intOf]; omega
    · obtain rfl : j = n := by omega
      go_wp2
      go_ret
      refine ⟨y, rfl, ?_, HB.out⟩
      have := HS.out
      rwa [List.take_of_length_le (by omega)] at this
end Go.Proofs.Ytanekkcfkahinaa
