/-
  Closed calls by the kernel: header.fine, class.Same, mime.Parse, group.Never. No condition.
-/
import Derived.Test.YtlhaaokldjdnnaaGreatDoorEvCheckAll
namespace Go.Proofs.YtlhaaokldjdnnaaGreatDoor.Ev
open Go.RowKit
set_option linter.unusedVariables false
set_option linter.unusedSimpArgs false
set_option maxRecDepth 1000000
def fine : Ent := ⟨194, [.val ⟨true, [vT [67, 111, 110, 116, 101, 110, 116, 45, 84, 121, 112, 101], vT [116, 101, 120, 116, 47, 104, 116, 109, 108]]⟩], bo true⟩
def sameCT : Ent := ⟨210, [tx [67, 111, 110, 116, 101, 110, 116, 45, 84, 121, 112, 101], tx [67, 111, 110, 116, 101, 110, 116, 45, 84, 121, 112, 101]], bo true⟩
def mime : Ent := ⟨380, [tx [116, 101, 120, 116, 47, 104, 116, 109, 108]], .tup [⟨true, [vT [116, 101, 120, 116], vT [104, 116, 109, 108], .k (.slice none 0 0)]⟩, ⟨false, [vI 0]⟩]⟩
def never : Ent := ⟨112, [.val ⟨true, [vT [116, 101, 120, 116], vT [104, 116, 109, 108], .k (.slice none 0 0)]⟩], bo false⟩
theorem fine_said : Said fine := said_of (l := []) all_nil (by kernel_rfl)
theorem sameCT_said : Said sameCT := said_of (l := []) all_nil (by kernel_rfl)
theorem mime_said : Said mime := said_of (l := []) all_nil (by kernel_rfl)
theorem never_said : Said never := said_of (l := []) all_nil (by kernel_rfl)
end Go.Proofs.YtlhaaokldjdnnaaGreatDoor.Ev
