/-
  The head of the page's response does not decide; its type; no part; its status. No condition.
-/
import Derived.Test.YtlhaaokldjdnnaaGreatDoorEvHead
import Derived.Test.YtlhaaokldjdnnaaGreatDoorEvL3
import Derived.Test.YtlhaaokldjdnnaaGreatDoorEvL4
namespace Go.Proofs.YtlhaaokldjdnnaaGreatDoor.Ev
open Go.RowKit
set_option linter.unusedVariables false
set_option linter.unusedSimpArgs false
set_option maxRecDepth 1000000
/-- The case, with or without the old rules. -/
def caseA (lg : Bool) : AV := .val ⟨true, [vB lg, vI 1445, vI 9, vT [], vB true, vB true, vI 0, vI 200, .slc 0 0 1 1, vB false]⟩
def waitA : AV := .val ⟨true, [vI 0, vT [], vI 0, vB false]⟩
def saidA : AV := .val ⟨true, [vT [116, 101, 120, 116], vT [104, 116, 109, 108], .k (.slice none 0 0), vB true, vB false, vB false]⟩
def replyA : AV := .val ⟨true, [vI 200, .slc 0 0 1 1]⟩
theorem headNew : headB [fine, sameCT, mime, never, safe] 49 [caseA false] waitA = true := by kernel_rfl
theorem headOld : headB [fine, sameCT, mime, never, safe] 49 [caseA true] waitA = true := by kernel_rfl
theorem saidIs : headB [fine, sameCT, mime, never, safe] 109 [one (.slc 0 0 1 1)] saidA = true := by kernel_rfl
theorem partIs : headB [] 110 [replyA] (bo false) = true := by kernel_rfl
theorem okIs : Said ⟨172, [nu 200], bo true⟩ := said_of (l := []) all_nil (by kernel_rfl)
theorem labelIs : Said ⟨173, [saidA], bo false⟩ := said_of (l := [never]) (all_cons never_said all_nil) (by kernel_rfl)
end Go.Proofs.YtlhaaokldjdnnaaGreatDoor.Ev
