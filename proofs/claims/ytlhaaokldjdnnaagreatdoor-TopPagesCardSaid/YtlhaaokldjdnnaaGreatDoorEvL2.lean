/-
  Closed calls by the kernel: filter.asked. No condition.
-/
import Derived.Test.YtlhaaokldjdnnaaGreatDoorEvL1
namespace Go.Proofs.YtlhaaokldjdnnaaGreatDoor.Ev
open Go.RowKit
set_option linter.unusedVariables false
set_option linter.unusedSimpArgs false
set_option maxRecDepth 1000000
def askedA : Ent := ⟨103, [.val ⟨true, [vI 1, vI 1, vT [104, 116, 116, 112, 58, 47, 47, 97, 47], vT [104, 116, 116, 112, 58, 47, 47, 98, 47], vT [110, 111, 45, 99, 111, 114, 115], vI 0, vI 0, .k (.slice none 0 0), vT []]⟩], .val ⟨true, [vT [104, 116, 116, 112, 58, 47, 47, 97, 47], vB true, vB true, vI 0]⟩⟩
theorem askedA_said : Said askedA := said_of (l := [parseA, parseB, textA, sameAB]) (all_cons parseA_said (all_cons parseB_said (all_cons textA_said (all_cons sameAB_said all_nil)))) (by kernel_rfl)
end Go.Proofs.YtlhaaokldjdnnaaGreatDoor.Ev
