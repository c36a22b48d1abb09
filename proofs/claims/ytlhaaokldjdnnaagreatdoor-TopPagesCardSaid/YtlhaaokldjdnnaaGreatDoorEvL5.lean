/-
  Closed calls by the kernel: jscript.isKeyword. No condition.
-/
import Derived.Test.YtlhaaokldjdnnaaGreatDoorEvCheckAll
namespace Go.Proofs.YtlhaaokldjdnnaaGreatDoor.Ev
open Go.RowKit
set_option linter.unusedVariables false
set_option linter.unusedSimpArgs false
set_option maxRecDepth 1000000
def keyX : Ent := ⟨242, [tx [120]], bo false⟩
theorem keyX_said : Said keyX := said_of (l := []) all_nil (by kernel_rfl)
end Go.Proofs.YtlhaaokldjdnnaaGreatDoor.Ev
