/-
  Bytes that are held in pieces, some of the first one's gone: what is held when a piece comes, and when bytes go. Plain lists; no condition; nothing of the program stands here.
-/
import Derived.Test.YtamfkiimppfoaaaAid
namespace Go.Proofs.Ytamfkiimppfoaaa
open Go.RowKit
set_option linter.unusedVariables false

def flat (l : List ByteArray) : List UInt8 := l.flatMap fun p => p.data.toList
theorem flat_nil : flat [] = [] := rfl
theorem flat_cons (p : ByteArray) (t : List ByteArray) : flat (p :: t) = p.data.toList ++ flat t := rfl
theorem flat_snoc (l : List ByteArray) (p : ByteArray) : flat (l ++ [p]) = flat l ++ p.data.toList := by simp [flat]

/-- The pieces l, of which the first k bytes of the first one are gone, hold cs; no piece is empty. -/
structure Held (l : List ByteArray) (k : Nat) (cs : List UInt8) : Prop where
  bytes : cs = (flat l).drop k
  pos : ∀ p ∈ l, 0 < p.size
  head : ∀ p ∈ l.head?, k < p.size
  none_ : l = [] → k = 0
  big : ∀ p ∈ l, p.size ≤ 1048576

theorem Held.start : Held [] 0 [] := ⟨rfl, (fun p h => by cases h), (fun p h => by cases h), (fun _ => rfl), fun p h => by cases h⟩
theorem size_flat (l : List ByteArray) (h : ∀ p ∈ l, 0 < p.size) : l.length ≤ (flat l).length := by
  induction l with
  | nil => simp [flat]
  | cons p t ih =>
    have := ih fun q hq => h q (List.mem_cons_of_mem _ hq)
    have hp := h p (List.mem_cons_self ..)
    rw [flat_cons, List.length_append, List.length_cons, ← Lib.size_eq]
    omega

section
variable {l : List ByteArray} {k : Nat} {cs : List UInt8}
theorem Held.le (h : Held l k cs) : k ≤ (flat l).length := by
  cases l with
  | nil => rw [h.none_ rfl]; exact Nat.zero_le _
  | cons p t =>
    have := h.head p (by simp)
    rw [flat_cons, List.length_append, ← Lib.size_eq]
    omega
theorem Held.many (h : Held l k cs) : l.length ≤ cs.length := by
  rw [h.bytes, List.length_drop]
  cases l with
  | nil => simp
  | cons p t =>
    have h1 := h.head p (by simp)
    have h2 := size_flat t fun q hq => h.pos q (List.mem_cons_of_mem _ hq)
    rw [flat_cons, List.length_append, List.length_cons, ← Lib.size_eq]
    omega
theorem Held.push (h : Held l k cs) (s : ByteArray) (hs : 0 < s.size) (hb : s.size ≤ 1048576) : Held (l ++ [s]) k (cs ++ s.data.toList) := by
  refine ⟨?_, ?_, ?_, ?_, ?_⟩
  · rw [flat_snoc, List.drop_append_of_le_length h.le, h.bytes]
  · intro p hp
    rcases List.mem_append.1 hp with hp | hp
    · exact h.pos p hp
    · simp at hp
      subst hp
      exact hs
  · intro p hp
    cases l with
    | nil =>
      have := h.none_ rfl
      subst this
      simp at hp
      subst hp
      exact hs
    | cons q t => exact h.head p (by simpa using hp)
  · intro e
    simp at e
  · intro p hp
    rcases List.mem_append.1 hp with hp | hp
    · exact h.big p hp
    · simp at hp
      subst hp
      exact hb
theorem Held.ex (h : Held l k cs) (hc : 0 < cs.length) : ∃ p t, l = p :: t ∧ k < p.size := by
  cases l with
  | nil =>
    rw [h.bytes] at hc
    simp [flat] at hc
  | cons p t => exact ⟨p, t, rfl, h.head p (by simp)⟩
end

section
variable {p : ByteArray} {t : List ByteArray} {k : Nat} {cs : List UInt8}
theorem Held.cut (h : Held (p :: t) k cs) : cs = p.data.toList.drop k ++ flat t := by
  have hk := h.head p (by simp)
  rw [h.bytes, flat_cons, List.drop_append_of_le_length (by rw [← Lib.size_eq]; omega)]
theorem Held.size (h : Held (p :: t) k cs) : p.size - k ≤ cs.length := by
  rw [h.cut, List.length_append, List.length_drop, ← Lib.size_eq]
  omega
/-- The first piece's bytes go. -/
theorem Held.next (h : Held (p :: t) k cs) : Held t 0 (cs.drop (p.size - k)) := by
  refine ⟨?_, fun q hq => h.pos q (List.mem_cons_of_mem _ hq), fun q hq => ?_, fun _ => rfl, fun q hq => h.big q (List.mem_cons_of_mem _ hq)⟩
  · have e : (p.data.toList.drop k).length = p.size - k := by rw [List.length_drop, ← Lib.size_eq]
    rw [h.cut, ← e, List.drop_left, List.drop_zero]
  · cases t with
    | nil => cases hq
    | cons r u =>
      simp at hq
      subst hq
      exact h.pos r (by simp)
/-- Some of the first piece's bytes go. -/
theorem Held.some_ (h : Held (p :: t) k cs) (j : Nat) (hj : k + j < p.size) : Held (p :: t) (k + j) (cs.drop j) := by
  refine ⟨?_, h.pos, fun q hq => ?_, (fun e => by cases e), h.big⟩
  · rw [h.bytes, List.drop_drop]
  · simp at hq
    subst hq
    exact hj
/-- The first bytes, so many, of those of the first piece. -/
theorem Held.take (h : Held (p :: t) k cs) (j : Nat) (hj : j ≤ p.size - k) : cs.take j = (p.data.toList.drop k).take j := by
  rw [h.cut, List.take_append_of_le_length (by rw [List.length_drop, ← Lib.size_eq]; exact hj)]
end
end Go.Proofs.Ytamfkiimppfoaaa
