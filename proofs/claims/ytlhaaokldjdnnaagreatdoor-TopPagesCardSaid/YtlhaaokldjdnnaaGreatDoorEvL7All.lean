/-
  Parts, one behind the other: Closed calls by the kernel: a script's end, from what the sniffer says of it. No condition. | Closed calls by the kernel: 'lives', from what the sniffer says. No condition.
-/
import Derived.Test.YtlhaaokldjdnnaaGreatDoorEvL2
import Derived.Test.YtlhaaokldjdnnaaGreatDoorEvL3
import Derived.Test.YtlhaaokldjdnnaaGreatDoorEvL4
import Derived.Test.YtlhaaokldjdnnaaGreatDoorEvL5
import Derived.Test.YtlhaaokldjdnnaaGreatDoorEvL6
namespace Go.Proofs.YtlhaaokldjdnnaaGreatDoor.Ev
open Go.RowKit
set_option linter.unusedVariables false
set_option linter.unusedSimpArgs false
set_option maxRecDepth 1000000
def media2 : Ent := ⟨226, [tx [120, 61, 49, 59]], tx []⟩
def image2 : Ent := ⟨227, [tx [120, 61, 49, 59]], tx []⟩
def final2 : Ent := ⟨16, [tx [120, 61, 49, 59]], tx [97, 108, 108, 111, 119, 101, 100]⟩
theorem final2_said (hm : Said media2) (hi : Said image2) : Said final2 := said_of (l := [media2, image2, askedA, fine, sameCT, mime, never, safe, keyX]) (all_cons hm (all_cons hi (all_cons askedA_said (all_cons fine_said (all_cons sameCT_said (all_cons mime_said (all_cons never_said (all_cons safe_said (all_cons keyX_said all_nil))))))))) (by kernel_rfl)
end Go.Proofs.YtlhaaokldjdnnaaGreatDoor.Ev
namespace Go.Proofs.YtlhaaokldjdnnaaGreatDoor.Ev
open Go.RowKit
set_option linter.unusedVariables false
set_option linter.unusedSimpArgs false
set_option maxRecDepth 1000000
def lives : Ent := ⟨6, [], bo true⟩
theorem lives_said (h1 : Said final1) (h2 : Said final2) : Said lives := said_of (l := [final1, final2]) (all_cons h1 (all_cons h2 all_nil)) (by kernel_rfl)
end Go.Proofs.YtlhaaokldjdnnaaGreatDoor.Ev
