/-
  Layer 34: a key is cut, in the set and in the document's list alike; where a key stands. No condition.
-/
import Derived.Test.YtnamakimmlnleaaStep
namespace Go.Proofs.Ytnamakimmlnleaa
open Go.RowKit
set_option linter.unusedVariables false

theorem pos_cons (p : ByteArray × Nat) (t : List (ByteArray × Nat)) (k : ByteArray) : pos (names (p :: t)) k = if p.1 = k then 0 else pos (names t) k + 1 := by
  unfold pos names
  rw [List.map_cons, List.findIdx_cons]
  by_cases h : p.1 = k
  · rw [if_pos h, decide_eq_true h]
    rfl
  · rw [if_neg h, decide_eq_false h]
    rfl
theorem cut_list (k : ByteArray) : ∀ L : List (ByteArray × Nat), L.Pairwise (fun p q => p.1 ≠ q.1) → (L.any fun p => decide (p.1 = k)) = true →
    names (L.filter fun p => !decide (p.1 = k)) = (names L).take (pos (names L) k) ++ (names L).drop (pos (names L) k + 1) ∧ (L.filter fun p => !decide (p.1 = k)).length = L.length - 1
  | [], _, h => by simp at h
  | p :: t, hp, h => by
    obtain ⟨h1, h2⟩ := List.pairwise_cons.1 hp
    rw [pos_cons]
    by_cases hk : p.1 = k
    · have e : (t.filter fun p => !decide (p.1 = k)) = t := List.filter_eq_self.2 fun q hq => by
        have := h1 q hq
        rw [hk] at this
        rw [decide_eq_false (fun e => this e.symm)]
        rfl
      rw [if_pos hk, List.filter_cons_of_neg (by rw [decide_eq_true hk]; simp), e]
      exact ⟨rfl, rfl⟩
    · have h' : (t.any fun p => decide (p.1 = k)) = true := by
        rw [List.any_cons, decide_eq_false hk, Bool.false_or] at h
        exact h
      obtain ⟨i1, i2⟩ := cut_list k t h2 h'
      have hne : 0 < t.length := by
        cases t with
        | nil => simp at h'
        | cons _ _ => simp
      rw [if_neg hk, List.filter_cons_of_pos (by rw [decide_eq_false hk]; rfl)]
      refine ⟨?_, by rw [List.length_cons, i2, List.length_cons]; omega⟩
      show p.1 :: names (t.filter fun p => !decide (p.1 = k)) = _
      rw [i1]
      rfl

theorem cut_ref {w : World} {B : Nat} {A : Option Addr} {cap : Nat} {L : List (ByteArray × Nat)} (h : Listed w B A cap L) (hB : B ≤ w.heap.size) (one : L.Pairwise fun p q => p.1 ≠ q.1) (k : ByteArray) (hn : L.length ≤ 100000) :
    Calls Try.prog 15 #[.slice A L.length cap, .string k] w fun e w' => ∃ A' c', e = .returned (.slice A' (L.filter fun p => !decide (p.1 = k)).length c') ∧ Listed w' B A' c' (L.filter fun p => !decide (p.1 = k)) ∧ Below w.heap.size w w' := by
  have hat := atv_there L k
  by_cases hy : (L.any fun p => decide (p.1 = k)) = true
  · obtain ⟨e1, e2⟩ := cut_list k L one hy
    rw [hy] at hat
    have hat := of_decide_eq_true hat
    have hr := RCut_yes h.texts k (by rw [names_len]; omega) hat
    rw [names_len, ← e1, ← e2] at hr
    refine hr.mono ?_
    rintro e w' ⟨A', c', rfl, h1, h2⟩
    exact ⟨A', c', rfl, h1.from_ hB, h2⟩
  · have hy : (L.any fun p => decide (p.1 = k)) = false := Bool.eq_false_iff.2 hy
    rw [hy] at hat
    have hat := of_decide_eq_false hat
    have e : (L.filter fun p => !decide (p.1 = k)) = L := List.filter_eq_self.2 fun p hp => by simpa using List.any_eq_false.1 hy p hp
    have hr := RCut_not h.texts k (by rw [names_len]; omega) hat
    rw [names_len] at hr
    rw [e]
    refine hr.mono ?_
    rintro e w' ⟨rfl, q, rfl⟩
    exact ⟨A, cap, rfl, h.keep fun _ _ => rfl, below_drewN (Below.refl _ _) q⟩

theorem at_ref {w : World} {B : Nat} {A : Option Addr} {cap : Nat} {L : List (ByteArray × Nat)} (h : Listed w B A cap L) (k : ByteArray) (hn : L.length ≤ 100000) (b : Bool) (hb : (L.any fun p => decide (p.1 = k)) = b) :
    Calls Try.prog 14 #[.slice A L.length cap, .string k] w fun e w' => ∃ v : Int, e = .returned (.int .i64 v) ∧ decide (0 ≤ v) = b ∧ ∃ q, w' = w.drewN q := by
  have hr := At_any h.texts k (by rw [names_len]; omega)
  rw [names_len] at hr
  refine hr.mono ?_
  rintro e w' ⟨rfl, q, rfl⟩
  exact ⟨_, rfl, (atv_there L k).trans hb, q, rfl⟩

theorem same_ref {w : World} {B B2 : Nat} {A A2 : Option Addr} {cap cap2 : Nat} {L : List (ByteArray × Nat)} (h : Listed w B A cap L) (h2 : Listed w B2 A2 cap2 L) (hn : L.length ≤ 100000) :
    Calls Try.prog 18 #[.slice A L.length cap, .slice A2 L.length cap2] w fun e w' => e = .returned (.bool true) ∧ ∃ q, w' = w.drewN q := by
  have hr := Same_yes h.texts h2.texts (by rw [names_len]; omega)
  rw [names_len] at hr
  exact hr

theorem cut_any (s : ByteArray) (n : Nat) (hs : s.size ≤ maxLen) (w : World) :
    Calls Try.prog 12 #[.string s, .int .i64 n] w fun e w' => e = .returned (.string (s.extract 0 n)) ∧ w = w' := by
  unfold maxLen at hs
  by_cases h : n < s.size
  · have hi : (s.size : Int) > n := by omega
    go_enter Try.func12, Try.ntmps12
    go_wp2
    go_ret
    exact ⟨rfl, rfl⟩
  · rw [extract_all s n (by omega)]
    go_enter Try.func12, Try.ntmps12
    go_wp2
    go_ret
    exact ⟨rfl, rfl⟩

end Go.Proofs.Ytnamakimmlnleaa
