/-
  Layer 34: the law on what a set tells of any calls, walked. No condition but that the number is one.
-/
import Derived.Test.YtnamakimmlnleaaStep2
namespace Go.Proofs.Ytnamakimmlnleaa
open Go.RowKit
set_option linter.unusedVariables false

/-- The acts that come in. -/
structure Acts (W : World) (a : Option Addr) (len : Nat) : Prop where
  le : len ≤ maxLen
  at_ : ∀ j, j < len → ∃ (b off : Nat) (k : Int) (s : ByteArray), a = some ⟨b, off, none⟩ ∧ b < W.heap.size ∧ W.cell? ⟨b, off + j * 2, none⟩ = some (.int .i64 k) ∧ W.cell? ⟨b, off + j * 2 + 1, none⟩ = some (.string s) ∧ s.size ≤ maxLen

structure Behind (w wr : World) (g most : Nat) (L : List (ByteArray × Nat)) (next gn : Nat) (A : Option Addr) (cap i : Nat) : Prop where
  set : Sett wr w.heap.size g L next most gn
  row : Listed wr w.heap.size A cap L
  len : L.length ≤ most
  nexti : next ≤ i
  few : L.length ≤ i
  i60 : i ≤ 60
  below : Below w.heap.size w wr

theorem Listed.turn {w w' : World} {B g : Nat} {A : Option Addr} {cap : Nat} {L L2 : List (ByteArray × Nat)} {next most gn : Nat} (h : Listed w B A cap L) (hs : Sett w B g L2 next most gn) (t : Turn w w' B g) : Listed w' B A cap L := by
  obtain ⟨mb, D, _, hg, _⟩ := hs.ex
  have hap := Row.apart h hg (by decide)
  refine Row.keep h fun k hk => ?_
  rcases h.2 with ⟨h0, _⟩ | ⟨g', off, cap', cur, hv, _, hh, _⟩
  · rw [h0] at hk
    simp [Value.ownBlock] at hk
  · rw [hv] at hk hap
    simp [Value.ownBlock] at hk hap
    subst hk
    exact t.keep _ _ _ _ hh hap
theorem Listed.below {w w' : World} {B : Nat} {A : Option Addr} {cap : Nat} {L : List (ByteArray × Nat)} (h : Listed w B A cap L) (hb : Below w.heap.size w w') : Listed w' B A cap L := Row.below h hb (Nat.le_refl _)
theorem Sett.one {w : World} {B g : Nat} {L : List (ByteArray × Nat)} {next most gn : Nat} (h : Sett w B g L next most gn) : L.Pairwise fun p q => p.1 ≠ q.1 := by
  obtain ⟨mb, D, _, _, _, hK⟩ := h.ex
  exact hK.one

section
variable {w wr : World} {g most : Nat} {L : List (ByteArray × Nat)} {next gn : Nat} {A : Option Addr} {cap i : Nat}
/-- A key comes: the list first, then the set. -/
theorem Behind.add_list (h : Behind w wr g most L next gn A cap i) {k : ByteArray} {L' : List (ByteArray × Nat)} {next' : Nat} {old : ByteArray} {went : Bool} (hc : Came L next most gn k L' next' old went) (hi : i < 60) :
    Calls Try.prog 17 #[.slice A L.length cap, .string k, .int .i64 most] wr fun e w1 => ∃ A' c', e = .returned (.tuple #[.slice A' L'.length c', .string old, .bool went]) ∧
      Hid (Calls Try.prog 7 #[.pointer (some ⟨g, 0, none⟩), .string k] w1 fun e w2 => e = .returned (.tuple #[.string old, .bool went]) ∧ Hid (Behind w w2 g most L' next' (if went then gn + 1 else gn) A' c' (i + 1))) := by
  refine (hc.ref wr w.heap.size A cap h.below.size h.row).mono ?_
  rintro e w1 ⟨A', c', rfl, h1, h2⟩
  refine ⟨A', c', rfl, Lib.hid ?_⟩
  have hs1 := h.set.below h2
  refine (hc.set w1 w.heap.size g hs1).mono ?_
  rintro e w2 ⟨rfl, h3, h4⟩
  have := hc.next_le
  have := hc.few
  have := h.nexti
  have := h.few
  exact ⟨rfl, Lib.hid ⟨h3, h1.turn hs1 h4, hc.len, by omega, by omega, by omega, (below_then h.below (Nat.le_refl _) h2).trans h4.below⟩⟩
/-- A key is cut: the set first; where it stands; then the list. -/
theorem Behind.cut (h : Behind w wr g most L next gn A cap i) (k : ByteArray) (hk : k.size ≤ maxLen) (b : Bool) (hb : (L.any fun p => decide (p.1 = k)) = b) (hi : i < 60) :
    Calls Try.prog 13 #[.pointer (some ⟨g, 0, none⟩), .string k] wr fun e w1 => e = .returned (.bool b) ∧ Hid (Calls Try.prog 14 #[.slice A L.length cap, .string k] w1 fun e w2 => ∃ v : Int, e = .returned (.int .i64 v) ∧ decide (0 ≤ v) = b ∧
      Hid (Calls Try.prog 15 #[.slice A L.length cap, .string k] w2 fun e w3 => ∃ A' c' L', e = .returned (.slice A' (List.length L') c') ∧ Hid (Behind w w3 g most L' next gn A' c' (i + 1)))) := by
  have hf := h.few
  have hn := h.nexti
  have h60 := h.i60
  refine (Cut_any h.set k hk).mono ?_
  rintro e w1 ⟨rfl, h1, h2⟩
  rw [hb]
  have hr1 := h.row.turn h.set h2
  refine ⟨rfl, Lib.hid ((at_ref hr1 k (by omega) b hb).mono ?_)⟩
  rintro e w2 ⟨v, rfl, hv, q, rfl⟩
  refine ⟨v, rfl, hv, Lib.hid ?_⟩
  have hb1 : Below w.heap.size w w1 := h.below.trans h2.below
  have hq := below_drewN (Below.refl w1.heap.size w1) q
  have hr := cut_ref (hr1.below hq) (Nat.le_trans hb1.size hq.size) h.set.one k (by omega)
  refine hr.mono ?_
  rintro e w3 ⟨A', c', rfl, h3, h4⟩
  have hfl := List.length_filter_le (fun p : ByteArray × Nat => !decide (p.1 = k)) L
  have hlm := h.len
  exact ⟨A', c', _, rfl, Lib.hid ⟨(h1.below hq).below h4, h3, by omega, by omega, by omega, by omega, below_then (below_drewN hb1 q) (Nat.le_refl _) h4⟩⟩
/-- All are cleared. -/
theorem Behind.clear (h : Behind w wr g most L next gn A cap i) (hi : i < 60) :
    Calls Try.prog 16 #[.pointer (some ⟨g, 0, none⟩)] wr fun e w1 => e = .returned (.int .i64 L.length) ∧ Hid (Behind w w1 g most [] next gn none 0 (i + 1)) := by
  have hn := h.nexti
  refine (Clear_any h.set).mono ?_
  rintro e w1 ⟨rfl, h1, h2⟩
  exact ⟨rfl, Lib.hid ⟨h1, Row.nil_ _ _ _, Nat.zero_le _, by omega, Nat.zero_le _, by omega, h.below.trans h2.below⟩⟩
theorem Behind.on {w' : World} (h : Behind w wr g most L next gn A cap i) (hb : Below wr.heap.size wr w') : Behind w w' g most L next gn A cap i :=
  ⟨h.set.below hb, h.row.below hb, h.len, h.nexti, h.few, h.i60, below_then h.below (Nat.le_refl _) hb⟩
/-- The list that is told is the same. -/
theorem Behind.list (h : Behind w wr g most L next gn A cap i) :
    Calls Try.prog 9 #[.pointer (some ⟨g, 0, none⟩)] wr fun e w1 => ∃ A2 c2, e = .returned (.slice A2 L.length c2) ∧ Hid (Calls Try.prog 18 #[.slice A2 L.length c2, .slice A L.length cap] w1 fun e w2 => e = .returned (.bool true) ∧ Hid (Behind w w2 g most L next gn A cap i)) := by
  have hf := h.few
  have h60 := h.i60
  refine (List_any h.set).mono ?_
  rintro e w1 ⟨A2, c2, rfl, h1, h2⟩
  have hB1 := h.on h2
  have hl : Listed w1 wr.heap.size A2 c2 L := by
    unfold Listed names
    rw [List.map_map]
    exact h1
  refine ⟨A2, c2, rfl, Lib.hid ((same_ref hl hB1.row (by omega)).mono ?_)⟩
  rintro e w2 ⟨rfl, q, rfl⟩
  exact ⟨rfl, Lib.hid (hB1.on (below_drewN (Below.refl _ _) q))⟩
end

end Go.Proofs.Ytnamakimmlnleaa
