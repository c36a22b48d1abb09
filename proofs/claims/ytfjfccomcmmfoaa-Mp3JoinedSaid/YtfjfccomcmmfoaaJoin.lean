/-
  Layer 18 (mp3): frames laid one behind the other: what they are as bytes, and that they are counted. Plain law; no condition.
-/
import Derived.Test.YtfjfccomcmmfoaaSeconds
namespace Go.Proofs.Ytfjfccomcmmfoaa
open Go.RowKit
set_option linter.unusedVariables false

theorem size_far : ∀ ob : Bool, ∀ r ∈ refRatesL ob, ∀ q ∈ freqsL, ∀ p : Bool, 4 ≤ r * (if ob = true then 144 else 72) / q + (if p = true then 1 else 0) → 12 ≤ r * (if ob = true then 144 else 72) / q + (if p = true then 1 else 0) ∧ r * (if ob = true then 144 else 72) / q + (if p = true then 1 else 0) ≤ 2000 := by decide +kernel
theorem nS_far (l : List UInt8) (h : 4 ≤ nS l) : 12 ≤ nS l ∧ nS l ≤ 2000 := by
  unfold nS sizeI at h ⊢
  cases hg : goodB (hV l) (hL l) (hR l) (hQ l)
  · rw [hg] at h
    simp at h
  · rw [hg] at h
    simp only [if_true] at h ⊢
    rw [good_agree] at hg
    unfold refGoodB at hg
    simp only [Bool.and_eq_true] at hg
    exact size_far _ _ (by simpa using hg.1.2) _ (by simpa using hg.2) _ h

/-- The four bytes of a frame's head. -/
def hd4 (b c : UInt8) : List UInt8 := [255, b, c, 0]
/-- A frame's bytes, by two of them; none: it has no head, or less than four bytes. -/
def frB (b c : UInt8) : List UInt8 := if nS (hd4 b c) < 4 then [] else hd4 b c ++ List.replicate ((nS (hd4 b c)).toNat - 4) 0

section
variable {b c : UInt8} (r : List UInt8)
theorem at_hd (i : Nat) (hi : i < 3) : byteN (hd4 b c ++ r) i = byteN (hd4 b c) i := by
  unfold byteN
  rw [List.getD_eq_getElem?_getD, List.getElem?_append_left (by simp [hd4]; omega), ← List.getD_eq_getElem?_getD]
theorem hOk_hd : hOk (hd4 b c ++ r) = hOk (hd4 b c) := by
  unfold hOk
  rw [at_hd r 0 (by omega), at_hd r 1 (by omega), at_hd r 2 (by omega)]
  have e1 : decide (4 ≤ (hd4 b c ++ r).length) = true := by simp [hd4]
  have e2 : decide (4 ≤ (hd4 b c).length) = true := by simp [hd4]
  rw [e1, e2]
theorem nS_hd : nS (hd4 b c ++ r) = nS (hd4 b c) := by
  unfold nS hV hL hR hQ hP
  rw [hOk_hd, at_hd r 1 (by omega), at_hd r 2 (by omega)]
end
theorem frB_length (b c : UInt8) (h : ¬ nS (hd4 b c) < 4) : ((frB b c).length : Int) = nS (hd4 b c) := by
  unfold frB
  rw [if_neg h, List.length_append, List.length_replicate]
  have : (hd4 b c).length = 4 := rfl
  omega
theorem frB_app (b c : UInt8) (h : frB b c ≠ []) (r : List UInt8) : nOk (frB b c ++ r) = true ∧ nN (frB b c ++ r) = (frB b c).length ∧ hOk (frB b c ++ r) = true := by
  have hn : ¬ nS (hd4 b c) < 4 := fun hl => h (by unfold frB; rw [if_pos hl])
  have hl := frB_length b c hn
  have e : frB b c ++ r = hd4 b c ++ (List.replicate ((nS (hd4 b c)).toNat - 4) 0 ++ r) := by
    unfold frB
    rw [if_neg hn, List.append_assoc]
  have hs : nS (frB b c ++ r) = nS (hd4 b c) := by rw [e, nS_hd]
  have hok : nOk (frB b c ++ r) = true := by
    unfold nOk
    rw [hs, List.length_append]
    simp only [Bool.and_eq_true, decide_eq_true_eq]
    omega
  refine ⟨hok, ?_, ?_⟩
  · unfold nN
    rw [if_pos hok, hs]
    omega
  · rw [e, hOk_hd]
    cases ho : hOk (hd4 b c)
    · have := nS_not ho
      omega
    · rfl

theorem nOk_nil : nOk [] = false := by
  have : hOk ([] : List UInt8) = false := by decide
  unfold nOk
  rw [nS_not this]
  rfl
/-- Frames that are laid one behind the other, so many. -/
def Laid : Nat → List UInt8 → Prop
  | 0, s => s = []
  | n + 1, s => ∃ b c r, frB b c ≠ [] ∧ s = frB b c ++ r ∧ Laid n r
theorem Laid.snoc (b c : UInt8) (hf : frB b c ≠ []) : ∀ (n : Nat) (s : List UInt8), Laid n s → Laid (n + 1) (s ++ frB b c)
  | 0, s, h => ⟨b, c, [], hf, by rw [show s = [] from h]; simp, rfl⟩
  | n + 1, s, ⟨b', c', r, h1, h2, h3⟩ => ⟨b', c', r ++ frB b c, h1, by rw [h2, List.append_assoc], Laid.snoc b c hf n r h3⟩
theorem Laid.fr : ∀ (n : Nat) (s : List UInt8), Laid n s → ∀ f c a, s.length < f → fr f s c a = (c + n, a + s.length)
  | 0, s, h, f, c, a, hf => by
    obtain rfl : s = [] := h
    cases f with
    | zero => simp at hf
    | succ f =>
      unfold Ytfjfccomcmmfoaa.fr
      rw [nOk_nil]
      simp
  | n + 1, s, ⟨b', c', r, h1, h2, h3⟩, f, c, a, hf => by
    subst h2
    obtain ⟨e1, e2, _⟩ := frB_app b' c' h1 r
    have hl : 0 < (frB b' c').length := List.length_pos_iff.2 h1
    cases f with
    | zero => simp at hf
    | succ f =>
      unfold Ytfjfccomcmmfoaa.fr
      rw [e1, if_pos rfl, e2, List.drop_left, Laid.fr n r h3 f (c + 1) (a + (frB b' c').length) (by rw [List.length_append] at hf; omega), List.length_append]
      ext <;> simp only <;> omega
theorem Laid.is : ∀ (n : Nat) (s : List UInt8), Laid n s → isB s = decide (1 < n)
  | 0, s, h => by
    obtain rfl : s = [] := h
    unfold isB
    rw [nOk_nil]
    rfl
  | 1, s, ⟨b, c, r, h1, h2, h3⟩ => by
    obtain rfl : r = [] := h3
    subst h2
    obtain ⟨e1, e2, _⟩ := frB_app b c h1 []
    unfold isB
    rw [e1, e2, List.drop_left, Bool.true_and]
    decide
  | n + 2, s, ⟨b, c, r, h1, h2, b', c', r', h3, h4, _⟩ => by
    subst h2
    subst h4
    obtain ⟨e1, e2, _⟩ := frB_app b c h1 (frB b' c' ++ r')
    unfold isB
    rw [e1, e2, List.drop_left, Bool.true_and, (frB_app b' c' h3 r').2.2]
    simp
end Go.Proofs.Ytfjfccomcmmfoaa
