/-
  Closed calls by the kernel: a page's end, from what the sniffer says of it. No condition.
-/
import Derived.Test.YtlhaaokldjdnnaaGreatDoorEvL2
import Derived.Test.YtlhaaokldjdnnaaGreatDoorEvL3
import Derived.Test.YtlhaaokldjdnnaaGreatDoorEvL4
namespace Go.Proofs.YtlhaaokldjdnnaaGreatDoor.Ev
open Go.RowKit
set_option linter.unusedVariables false
set_option linter.unusedSimpArgs false
set_option maxRecDepth 1000000
def media1 : Ent := ⟨226, [tx [60, 112, 62]], tx []⟩
def image1 : Ent := ⟨227, [tx [60, 112, 62]], tx []⟩
def final1 : Ent := ⟨16, [tx [60, 112, 62]], tx [98, 108, 111, 99, 107, 101, 100]⟩
theorem final1_said (hm : Said media1) (hi : Said image1) : Said final1 := said_of (l := [media1, image1, askedA, fine, sameCT, mime, never, safe]) (all_cons hm (all_cons hi (all_cons askedA_said (all_cons fine_said (all_cons sameCT_said (all_cons mime_said (all_cons never_said (all_cons safe_said all_nil)))))))) (by kernel_rfl)
end Go.Proofs.YtlhaaokldjdnnaaGreatDoor.Ev
