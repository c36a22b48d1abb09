/-
  Closed calls by the kernel: group.Safe. No condition.
-/
import Derived.Test.YtlhaaokldjdnnaaGreatDoorEvCheckAll
namespace Go.Proofs.YtlhaaokldjdnnaaGreatDoor.Ev
open Go.RowKit
set_option linter.unusedVariables false
set_option linter.unusedSimpArgs false
set_option maxRecDepth 1000000
def safe : Ent := ⟨117, [.val ⟨true, [vT [116, 101, 120, 116], vT [104, 116, 109, 108], .k (.slice none 0 0)]⟩], bo false⟩
theorem safe_said : Said safe := said_of (l := []) all_nil (by kernel_rfl)
end Go.Proofs.YtlhaaokldjdnnaaGreatDoor.Ev
