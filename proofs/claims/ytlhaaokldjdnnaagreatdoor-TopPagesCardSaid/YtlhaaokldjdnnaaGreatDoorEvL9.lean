/-
  Closed calls by the kernel: the key words, the tags. No condition.
-/
import Derived.Test.YtlhaaokldjdnnaaGreatDoorEvCheckAll
namespace Go.Proofs.YtlhaaokldjdnnaaGreatDoor.Ev
open Go.RowKit
set_option linter.unusedVariables false
set_option linter.unusedSimpArgs false
set_option maxRecDepth 1000000
def keyWords : List (List UInt8) := [[97, 119, 97, 105, 116], [98, 114, 101, 97, 107], [99, 97, 115, 101], [99, 97, 116, 99, 104], [99, 108, 97, 115, 115], [99, 111, 110, 115, 116], [99, 111, 110, 116, 105, 110, 117, 101], [100, 101, 102, 97, 117, 108, 116], [100, 101, 108, 101, 116, 101], [100, 111], [101, 108, 115, 101], [101, 120, 112, 111, 114, 116], [101, 120, 116, 101, 110, 100, 115], [102, 105, 110, 97, 108, 108, 121], [102, 111, 114], [102, 114, 111, 109], [102, 117, 110, 99, 116, 105, 111, 110], [103, 101, 116], [105, 102], [105, 109, 112, 111, 114, 116], [105, 110], [105, 110, 115, 116, 97, 110, 99, 101, 111, 102], [108, 101, 116], [110, 101, 119], [111, 102], [114, 101, 116, 117, 114, 110], [115, 101, 116], [115, 116, 97, 116, 105, 99], [115, 119, 105, 116, 99, 104], [116, 104, 114, 111, 119], [116, 114, 121], [116, 121, 112, 101, 111, 102], [118, 97, 114], [118, 111, 105, 100], [119, 104, 105, 108, 101], [119, 105, 116, 104], [121, 105, 101, 108, 100], [97, 115, 121, 110, 99], [97, 115]]
def tagNames : List (List UInt8) := [[33, 68, 79, 67, 84, 89, 80, 69, 32, 72, 84, 77, 76], [72, 84, 77, 76], [72, 69, 65, 68], [83, 67, 82, 73, 80, 84], [73, 70, 82, 65, 77, 69], [72, 49], [68, 73, 86], [70, 79, 78, 84], [84, 65, 66, 76, 69], [65], [83, 84, 89, 76, 69], [84, 73, 84, 76, 69], [66], [66, 79, 68, 89], [66, 82], [80]]
theorem keywords_is (w : World) (hw : Told w) : Calls Tryz.prog 312 #[] w fun e w' => (∃ g off cap, e = .returned (.slice (some ⟨g, off, none⟩) keyWords.length cap) ∧ w.heap.size ≤ g ∧ ∀ j s, keyWords[j]? = some s → w'.cell? ⟨g, off + j, none⟩ = some (.string ⟨s.toArray⟩)) ∧ Below w.heap.size w w' :=
  strs_of all_nil (args := []) rfl (by kernel_rfl) w hw
theorem tags_is (w : World) (hw : Told w) : Calls Tryz.prog 296 #[] w fun e w' => (∃ g off cap, e = .returned (.slice (some ⟨g, off, none⟩) tagNames.length cap) ∧ w.heap.size ≤ g ∧ ∀ j s, tagNames[j]? = some s → w'.cell? ⟨g, off + j, none⟩ = some (.string ⟨s.toArray⟩)) ∧ Below w.heap.size w w' :=
  strs_of all_nil (args := []) rfl (by kernel_rfl) w hw
theorem Tags_is (w : World) (hw : Told w) : Calls Tryz.prog 13 #[] w fun e w' => (∃ g off cap, e = .returned (.slice (some ⟨g, off, none⟩) tagNames.length cap) ∧ w.heap.size ≤ g ∧ ∀ j s, tagNames[j]? = some s → w'.cell? ⟨g, off + j, none⟩ = some (.string ⟨s.toArray⟩)) ∧ Below w.heap.size w w' :=
  strs_of all_nil (args := []) rfl (by kernel_rfl) w hw
end Go.Proofs.YtlhaaokldjdnnaaGreatDoor.Ev
