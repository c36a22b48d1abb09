/-
  The table that the program reads lies as the row says. No condition.
-/
import Derived.Test.YtlhaaokldjdnnaaGreatDoorRows
import Derived.Test.YtlhaaokldjdnnaaGreatDoorEvCheckAll
import Derived.Lib.LaidTab
import Derived.Stop.LaidErr
namespace Go.Proofs.YtlhaaokldjdnnaaGreatDoor
open Go.RowKit
set_option linter.unusedVariables false
set_option linter.unusedSimpArgs false
set_option linter.all false
set_option maxRecDepth 100000

def spaceL : List Int := (List.range 256).map fun i => if (9 ≤ i ∧ i ≤ 13) ∨ i = 32 then 1 else 0
theorem space_same : (Rows.laid_strings_asciiSpace : DataW Unit) = Lib.tabData .u8 spaceL := by kernel_rfl
theorem told_of {W : World} (h : laidMetH Tryz.prog Rows.topPagesRow.laid W) : Ev.Told W := by
  have e : (Rows.topPagesRow.laid.filter fun x => x.2.handleName?.isSome) = [] := by kernel_rfl
  unfold laidMetH at h
  rw [e] at h
  have h1 : laidMet Tryz.prog [("math/bits.deBruijn32tab", Rows.laid_math_bits_deBruijn32tab), ("math/bits.deBruijn64tab", Rows.laid_math_bits_deBruijn64tab), ("internal/strconv.uint64pow10", Rows.laid_internal_strconv_uint64pow10), ("unicode/utf8.acceptRanges", Rows.laid_unicode_utf8_acceptRanges), ("unicode.White_Space", Rows.laid_unicode_White_Space), ("strings.asciiSpace", Rows.laid_strings_asciiSpace), ("unicode/utf8.first", Rows.laid_unicode_utf8_first)] W := h
  have h6 := h1.tail.tail.tail.tail.tail
  rw [space_same] at h6
  have hg : Tryz.prog.globalNamed "strings.asciiSpace" = some 0 := by kernel_rfl
  have ht := Lib.tabIs_of_head hg (t := 259) (e := 5) (n := 256) (by kernel_rfl) (by kernel_rfl) Tryz.underlying5 (by kernel_rfl) (by kernel_rfl) h6
  have hl : spaceL.length = 256 := by simp [spaceL]
  have key : ∀ i, i < 256 → W.cell? ⟨0, i, none⟩ = some (.int .u8 (if (9 ≤ i ∧ i ≤ 13) ∨ i = 32 then 1 else 0)) := fun i hi => by
    have h := ht.cell hg i (by omega)
    rw [h]
    simp [spaceL, List.getD, hi]
  have h0 : 0 < W.heap.size := by
    rcases Nat.lt_or_ge 0 W.heap.size with h | h
    · exact h
    · have k := key 0 (by decide)
      simp [World.cell?, Array.getElem?_eq_none h] at k
  refine ⟨h0, fun g i v hs => ?_⟩
  unfold Ev.space at hs
  split at hs
  · rename_i hg0
    subst hg0
    split at hs
    · rename_i hi
      rw [key i hi]
      exact hs
    · cases hs
  · cases hs
end Go.Proofs.YtlhaaokldjdnnaaGreatDoor
