/-
  Layer 41: how far numbers lie from their mean, by the program and by the document. No condition but that a series is one, or none.
-/
import Derived.Test.YtkihgbglodfkmaaGreatSums
namespace Go.Proofs.YtkihgbglodfkmaaGreat
open Go.RowKit
set_option linter.unusedVariables false

/-- A series, or none: its numbers lie in a slice. -/
structure Has (w : World) (B : Nat) (p : Value) (A : Option Addr) (cap : Nat) (xs : List Nat) : Prop where
  few : xs.length ≤ 10000
  row : Nums w B A cap xs
  all : ∀ w', Below w.heap.size w w' → Calls Tryz.prog 30 #[p] w' fun e w'' => e = .returned (.slice A xs.length cap) ∧ w' = w''
theorem Has.nil (w : World) : Has w 0 (.pointer none) none 0 [] := ⟨by decide, Row.nil_ _ _ _, fun w' _ => all_nil w'⟩
theorem Has.ser {w : World} {B g : Nat} {xs : List Nat} (h : Ser w B g xs) : ∃ A cap, Has w B (.pointer (some ⟨g, 0, none⟩)) A cap xs := by
  have h0 := h
  obtain ⟨h1, h2, A, cap, hg, hr⟩ := h
  refine ⟨A, cap, h2, hr, fun w' hb => ?_⟩
  have hg' : w'.heap[g]? = _ := (hb.block g (blk_lt hg)).trans hg
  have c0 : w'.cell? ⟨g, 0, none⟩ = some (.slice A xs.length cap) := cell_of_row w' g 0 _ _ _ hg'
  clear hg hr h0 hg' h2 hb
  go_enter Tryz.func30, Tryz.ntmps30
  go_wp2
  go_ret
  exact ⟨rfl, rfl⟩
theorem Has.below {w w' : World} {B : Nat} {p : Value} {A : Option Addr} {cap : Nat} {xs : List Nat} (h : Has w B p A cap xs) (hb : Below w.heap.size w w') : Has w' B p A cap xs :=
  ⟨h.few, h.row.below hb, fun w'' hb2 => h.all w'' (below_then hb (Nat.le_refl _) hb2)⟩

theorem sub_op {x m d : Nat} {mo : Option Nat} (hx : x < W64) (h : Sum_ m mo) (hr : d < W64) (h1 : ∀ v, floatBits .sub .f64 x m = some v → d = v) (h2 : floatBits .sub .f64 x m = none → nanB d = true) :
    Sum_ d (mo.bind fun v => floatBits .sub .f64 x v) := by
  have := Sum_.op (Sum_.num hx) h (sub_nan m) (sub_nan2 x) hr h1 h2
  exact this
theorem mul_op {x m d p : Nat} {mo : Option Nat} (hd : Sum_ d (mo.bind fun v => floatBits .sub .f64 x v)) (hr : p < W64) (h1 : ∀ v, floatBits .mul .f64 d d = some v → p = v) (h2 : floatBits .mul .f64 d d = none → nanB p = true) :
    Sum_ p (sqO mo x) := by
  have := Sum_.op hd hd (mul_nan d) (mul_nan d) hr h1 h2
  exact this

/-- These words are those, some of which may be none. -/
def Each (es : List Nat) (os : List (Option Nat)) : Prop := es.length = os.length ∧ ∀ j (h1 : j < es.length) (h2 : j < os.length), Sum_ es[j] os[j]
theorem Each.nil : Each [] [] := ⟨rfl, fun j h1 => absurd h1 (by simp)⟩
theorem Each.snoc {es : List Nat} {os : List (Option Nat)} {e : Nat} {o : Option Nat} (h : Each es os) (he : Sum_ e o) : Each (es ++ [e]) (os ++ [o]) := by
  refine ⟨by simp [h.1], fun j h1 h2 => ?_⟩
  have hl := h.1
  rcases Nat.lt_or_ge j es.length with hj | hj
  · rw [List.getElem_append_left hj, List.getElem_append_left (by omega)]
    exact h.2 j hj (by omega)
  · have h1' : j < es.length + 1 := by simpa using h1
    obtain rfl : j = es.length := by omega
    rw [List.getElem_append_right (by omega), List.getElem_append_right (by omega)]
    simpa using he

end Go.Proofs.YtkihgbglodfkmaaGreat
