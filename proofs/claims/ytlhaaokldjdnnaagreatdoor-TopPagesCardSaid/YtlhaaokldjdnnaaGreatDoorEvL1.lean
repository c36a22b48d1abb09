/-
  Closed calls by the kernel: url.Parse, url.Text, url.Same. No condition.
-/
import Derived.Test.YtlhaaokldjdnnaaGreatDoorEvCheckAll
namespace Go.Proofs.YtlhaaokldjdnnaaGreatDoor.Ev
open Go.RowKit
set_option linter.unusedVariables false
set_option linter.unusedSimpArgs false
set_option maxRecDepth 1000000
def parseA : Ent := ⟨141, [tx [104, 116, 116, 112, 58, 47, 47, 97, 47]], .tup [⟨true, [vT [104, 116, 116, 112], vT [97], vI 0, vT [47], vT []]⟩, ⟨false, [vI 0]⟩]⟩
def parseB : Ent := ⟨141, [tx [104, 116, 116, 112, 58, 47, 47, 98, 47]], .tup [⟨true, [vT [104, 116, 116, 112], vT [98], vI 0, vT [47], vT []]⟩, ⟨false, [vI 0]⟩]⟩
def textA : Ent := ⟨144, [.val ⟨true, [vT [104, 116, 116, 112], vT [97], vI 0, vT [47], vT []]⟩], tx [104, 116, 116, 112, 58, 47, 47, 97, 47]⟩
def sameAB : Ent := ⟨145, [.val ⟨true, [vT [104, 116, 116, 112], vT [97], vI 0, vT [47], vT []]⟩, .val ⟨true, [vT [104, 116, 116, 112], vT [98], vI 0, vT [47], vT []]⟩], bo false⟩
theorem parseA_said : Said parseA := said_of (l := []) all_nil (by kernel_rfl)
theorem parseB_said : Said parseB := said_of (l := []) all_nil (by kernel_rfl)
theorem textA_said : Said textA := said_of (l := []) all_nil (by kernel_rfl)
theorem sameAB_said : Said sameAB := said_of (l := []) all_nil (by kernel_rfl)
end Go.Proofs.YtlhaaokldjdnnaaGreatDoor.Ev
