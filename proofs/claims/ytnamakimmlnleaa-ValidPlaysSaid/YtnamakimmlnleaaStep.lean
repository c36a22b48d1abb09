/-
  Layer 34: a key comes, or is cut, in the set and in the document's list alike. No condition.
-/
import Derived.Test.YtnamakimmlnleaaRefCut
namespace Go.Proofs.Ytnamakimmlnleaa
open Go.RowKit
set_option linter.unusedVariables false

theorem Row.from_ {w : World} {B B' : Nat} {e : TypeId} {v : Value} {n : Nat} {xs : List Value} (h : Row w B e v n xs) (hB : B' ≤ B) : Row w B' e v n xs := by
  refine ⟨h.1, ?_⟩
  rcases h.2 with hn | ⟨g, off, cap, cur, rfl, hb, rest⟩
  · exact .inl hn
  · exact .inr ⟨g, off, cap, cur, rfl, Nat.le_trans hB hb, rest⟩

def names (L : List (ByteArray × Nat)) : List ByteArray := L.map Prod.fst
theorem names_len (L : List (ByteArray × Nat)) : (names L).length = L.length := List.length_map _
theorem atv_there (L : List (ByteArray × Nat)) (k : ByteArray) : decide (0 ≤ atv (names L) k) = L.any fun p => decide (p.1 = k) := by
  have h : pos (names L) k < (names L).length ↔ ∃ x ∈ names L, decide (x = k) = true := List.findIdx_lt_length
  have e : (L.any fun p => decide (p.1 = k)) = (names L).any fun x => decide (x = k) := by
    unfold names
    rw [List.any_map]
    rfl
  rw [e]
  unfold atv
  by_cases hp : pos (names L) k < (names L).length
  · rw [if_pos hp, List.any_eq_true.2 (h.1 hp)]
    exact decide_eq_true (by omega)
  · rw [if_neg hp]
    have : ((names L).any fun x => decide (x = k)) = false := by
      rw [Bool.eq_false_iff]
      intro ha
      exact hp (h.2 (List.any_eq_true.1 ha))
    rw [this]
    rfl

/-- The list of the set's keys lies in a row. -/
def Listed (w : World) (B : Nat) (A : Option Addr) (cap : Nat) (L : List (ByteArray × Nat)) : Prop := Row w B 9 (.slice A L.length cap) L.length ((names L).map Value.string)
theorem Listed.texts {w : World} {B : Nat} {A : Option Addr} {cap : Nat} {L : List (ByteArray × Nat)} (h : Listed w B A cap L) : Texts w B A cap (names L) := by
  unfold Texts
  rw [names_len]
  exact h

/-- What a key that comes makes of a set, and of its list. -/
structure Came (L : List (ByteArray × Nat)) (next most gone : Nat) (k : ByteArray) (L' : List (ByteArray × Nat)) (next' : Nat) (old : ByteArray) (went : Bool) : Prop where
  set : ∀ (w : World) (B g : Nat), Sett w B g L next most gone → Calls Try.prog 7 #[.pointer (some ⟨g, 0, none⟩), .string k] w fun e w' => e = .returned (.tuple #[.string old, .bool went]) ∧
    Sett w' B g L' next' most (if went then gone + 1 else gone) ∧ Turn w w' B g
  ref : ∀ (w : World) (B : Nat) (A : Option Addr) (cap : Nat), B ≤ w.heap.size → Listed w B A cap L → Calls Try.prog 17 #[.slice A L.length cap, .string k, .int .i64 most] w fun e w' => ∃ A' c', e = .returned (.tuple #[.slice A' L'.length c', .string old, .bool went]) ∧
    Listed w' B A' c' L' ∧ Below w.heap.size w w'
  len : L'.length ≤ most
  next_le : next' ≤ next + 1
  few : L'.length ≤ L.length + 1

theorem came (L : List (ByteArray × Nat)) (next most gone : Nat) (k : ByteArray) (hk : k.size ≤ 1048576) (hl : L.length ≤ most) (hn : L.length ≤ 100000) (hnext : next + 1 ≤ 1000000) : ∃ L' next' old went, Came L next most gone k L' next' old went := by
  by_cases h0 : k.toList.isEmpty = true
  · have e0 : k = ⟨#[]⟩ := by
      refine ext_data ?_
      rw [Lib.toList_data] at h0
      exact List.isEmpty_iff.1 h0
    subst e0
    refine ⟨L, next, ⟨#[]⟩, false, ⟨fun w B g h => (Add_empty _ w).mono ?_, fun w B A cap hB h => (RAdd_empty A L.length cap most).mono ?_, hl, by omega, by omega⟩⟩
    · rintro e w' ⟨rfl, rfl⟩
      exact ⟨rfl, h, Turn.refl _ _ _⟩
    · rintro e w' ⟨rfl, rfl⟩
      exact ⟨A, cap, rfl, h, Below.refl _ _⟩
  · have h0 : k.toList.isEmpty = false := by simpa using h0
    have hat := atv_there L k
    by_cases hy : (L.any fun p => decide (p.1 = k)) = true
    · rw [hy] at hat
      have hat := of_decide_eq_true hat
      refine ⟨L, next, ⟨#[]⟩, false, ⟨fun w B g h => (Add_there h k (by unfold maxLen; omega) h0 hy).mono ?_, fun w B A cap hB h => ?_, hl, by omega, by omega⟩⟩
      · rintro e w' ⟨rfl, rfl⟩
        exact ⟨rfl, h, Turn.refl _ _ _⟩
      · have hr := RAdd_there h.texts k h0 (by rw [names_len]; omega) hat most
        rw [names_len] at hr
        refine hr.mono ?_
        rintro e w' ⟨rfl, q, rfl⟩
        exact ⟨A, cap, rfl, h.keep fun _ _ => rfl, below_drewN (Below.refl _ _) q⟩
    · have hy : (L.any fun p => decide (p.1 = k)) = false := Bool.eq_false_iff.2 hy
      rw [hy] at hat
      have hat := of_decide_eq_false hat
      have hnm : names (L ++ [(k, next)]) = names L ++ [k] := by unfold names; simp
      by_cases hr : L.length + 1 ≤ most
      · refine ⟨L ++ [(k, next)], next + 1, ⟨#[]⟩, false, ⟨fun w B g h => (Add_room h k hk h0 hy hnext hr).mono fun _ _ h => h, fun w B A cap hB h => ?_, by simp; omega, by omega, by simp⟩⟩
        have hr := RAdd_room h.texts k h0 (by rw [names_len]; omega) hat most (by rw [names_len]; omega)
        rw [names_len] at hr
        refine hr.mono ?_
        rintro e w' ⟨A', c', rfl, h1, h2⟩
        have e1 : (L ++ [(k, next)]).length = L.length + 1 := by simp
        refine ⟨A', c', by rw [e1], ?_, h2⟩
        unfold Listed
        rw [e1, hnm]
        exact h1.from_ hB
      · obtain ⟨p, t, hpt⟩ : ∃ p t, L ++ [(k, next)] = p :: t := by
          cases hc : L ++ [(k, next)] with
          | nil => simp at hc
          | cons p t => exact ⟨p, t, rfl⟩
        have hlt : t.length = L.length := by
          have := congrArg List.length hpt
          simp at this
          omega
        refine ⟨t, next + 1, p.1, true, ⟨fun w B g h => (Add_full h k hk h0 hy hnext (by omega) hpt).mono fun _ _ h => h, fun w B A cap hB h => ?_, by omega, by omega, by omega⟩⟩
        have hpt' : names L ++ [k] = p.1 :: names t := by
          rw [← hnm, hpt]
          rfl
        have hr := RAdd_full h.texts k h0 (by rw [names_len]; omega) hat most (by rw [names_len]; omega) hpt'
        rw [names_len] at hr
        refine hr.mono ?_
        rintro e w' ⟨A', c', rfl, h1, h2⟩
        refine ⟨A', c', by rw [hlt], ?_, h2⟩
        unfold Listed
        rw [hlt]
        exact h1.from_ hB

end Go.Proofs.Ytnamakimmlnleaa
