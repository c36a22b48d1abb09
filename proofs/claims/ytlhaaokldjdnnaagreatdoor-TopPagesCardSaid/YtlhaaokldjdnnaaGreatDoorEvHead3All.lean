/-
  Parts, one behind the other: The rules are good; how many bytes are held. No condition. | The calls at the page's headers, as contracts. No condition.
-/
import Derived.Test.YtlhaaokldjdnnaaGreatDoorEvHead2
namespace Go.Proofs.YtlhaaokldjdnnaaGreatDoor.Ev
open Go.RowKit
set_option linter.unusedVariables false
set_option linter.unusedSimpArgs false
set_option maxRecDepth 1000000
theorem said_at {e : Ent} (h : Said e) {us : List Value} {v : Value} (h1 : closedAs e.args = some us) (h2 : closed e.r = some v) (w : World) (hw : Told w) : Calls Tryz.prog e.f us.toArray w fun x w' => x = .returned v ∧ Below w.heap.size w w' := by
  obtain ⟨us', v', k1, k2, k3⟩ := h
  rw [h1] at k1
  rw [h2] at k2
  cases k1
  cases k2
  exact k3 w hw
def rulesA (lg : Bool) : AV := .val ⟨true, [vB lg, vI 1445, vI 9]⟩
theorem goodOld : Said ⟨17, [rulesA true], bo true⟩ := said_of (l := []) all_nil (by kernel_rfl)
theorem goodNew : Said ⟨17, [rulesA false], bo true⟩ := said_of (l := []) all_nil (by kernel_rfl)
theorem limitOld : Said ⟨19, [rulesA true], nu 1445⟩ := said_of (l := []) all_nil (by kernel_rfl)
theorem limitNew : Said ⟨19, [rulesA false], nu 1445⟩ := said_of (l := []) all_nil (by kernel_rfl)
def rulesV (lg : Bool) : Value := .agg #[.bool lg, .int .i64 1445, .int .i64 9]
theorem good_is (lg : Bool) (w : World) (hw : Told w) : Calls Tryz.prog 17 #[rulesV lg] w fun x w' => x = .returned (.bool true) ∧ Below w.heap.size w w' := by
  cases lg
  · exact said_at goodNew rfl rfl w hw
  · exact said_at goodOld rfl rfl w hw
theorem limit_is (lg : Bool) (w : World) (hw : Told w) : Calls Tryz.prog 19 #[rulesV lg] w fun x w' => x = .returned (.int .i64 1445) ∧ Below w.heap.size w w' := by
  cases lg
  · exact said_at limitNew rfl rfl w hw
  · exact said_at limitOld rfl rfl w hw
end Go.Proofs.YtlhaaokldjdnnaaGreatDoor.Ev
namespace Go.Proofs.YtlhaaokldjdnnaaGreatDoor.Ev
open Go.RowKit
set_option linter.unusedVariables false
set_option linter.unusedSimpArgs false
def saidV : Value := .agg #[.string ⟨#[116, 101, 120, 116]⟩, .string ⟨#[104, 116, 109, 108]⟩, .slice none 0 0, .bool true, .bool false, .bool false]
theorem fives : ∀ e ∈ [fine, sameCT, mime, never, safe], Said e := all_cons fine_said (all_cons sameCT_said (all_cons mime_said (all_cons never_said (all_cons safe_said all_nil))))
section
variable {w : World} {g d B : Nat}
theorem isSl (g d : Nat) : IsB (envAt g d) (.slc 0 0 1 1) (.slice (some ⟨g, 0, none⟩) 1 (1 + d)) := ⟨⟨g, 0, d⟩, rfl, rfl⟩
theorem isCase (lg : Bool) (g d : Nat) : IsA (envAt g d) (caseA lg) (.agg #[.bool lg, .int .i64 1445, .int .i64 9, .string ⟨#[]⟩, .bool true, .bool true, .int .i64 0, .int .i64 200, .slice (some ⟨g, 0, none⟩) 1 (1 + d), .bool false]) :=
  ⟨[.bool lg, .int .i64 1445, .int .i64 9, .string ⟨#[]⟩, .bool true, .bool true, .int .i64 0, .int .i64 200, .slice (some ⟨g, 0, none⟩) 1 (1 + d), .bool false], ⟨rfl, rfl, rfl, rfl, rfl, rfl, rfl, rfl, isSl g d, rfl, trivial⟩, rfl⟩
theorem isReply (g d : Nat) : IsA (envAt g d) replyA (.agg #[.int .i64 200, .slice (some ⟨g, 0, none⟩) 1 (1 + d)]) := ⟨[.int .i64 200, .slice (some ⟨g, 0, none⟩) 1 (1 + d)], ⟨rfl, isSl g d, trivial⟩, rfl⟩
theorem one_arg {E : Env} {x : AV} {u : Value} (h : IsA E x u) : ∀ (i : Nat) (y : AV) (v : Value), [x][i]? = some y → (#[u] : Array Value)[i]? = some v → IsA E y v := by
  intro i y v hy hv
  match i, hy, hv with
  | 0, hy, hv => cases hy; cases hv; exact h
theorem two_args {E : Env} {x x' : AV} {u u' : Value} (h : IsA E x u) (h' : IsA E x' u') : ∀ (i : Nat) (y : AV) (v : Value), [x, x'][i]? = some y → (#[u, u'] : Array Value)[i]? = some v → IsA E y v := by
  intro i y v hy hv
  match i, hy, hv with
  | 0, hy, hv => cases hy; cases hv; exact h
  | 1, hy, hv => cases hy; cases hv; exact h'
theorem chead (lg : Bool) (hw : Told w) (hh : HeadAt w g d) (hB : B ≤ g) : Calls Tryz.prog 49 #[.agg #[.bool lg, .int .i64 1445, .int .i64 9, .string ⟨#[]⟩, .bool true, .bool true, .int .i64 0, .int .i64 200, .slice (some ⟨g, 0, none⟩) 1 (1 + d), .bool false]] w fun e w' =>
    e = .returned (.agg #[.int .i64 0, .string ⟨#[]⟩, .int .i64 0, .bool false]) ∧ HeadAt w' g d ∧ Kept w w' B [31] := by
  cases lg
  · exact head_of fives headNew rfl hw hh _ rfl (one_arg (isCase false g d)) hB
  · exact head_of fives headOld rfl hw hh _ rfl (one_arg (isCase true g d)) hB
theorem csaid (hw : Told w) (hh : HeadAt w g d) (hB : B ≤ g) : Calls Tryz.prog 109 #[.slice (some ⟨g, 0, none⟩) 1 (1 + d)] w fun e w' => e = .returned saidV ∧ HeadAt w' g d ∧ Kept w w' B [31] :=
  head_of fives saidIs rfl hw hh _ rfl (one_arg (isSl g d)) hB
theorem cpart (hw : Told w) (hh : HeadAt w g d) (hB : B ≤ g) : Calls Tryz.prog 110 #[.agg #[.int .i64 200, .slice (some ⟨g, 0, none⟩) 1 (1 + d)]] w fun e w' => e = .returned (.bool false) ∧ HeadAt w' g d ∧ Kept w w' B [31] :=
  head_of all_nil partIs rfl hw hh _ rfl (one_arg (isReply g d)) hB
theorem cok (w : World) (hw : Told w) : Calls Tryz.prog 172 #[.int .i64 200] w fun x w' => x = .returned (.bool true) ∧ Below w.heap.size w w' := said_at okIs rfl rfl w hw
theorem clabel (w : World) (hw : Told w) : Calls Tryz.prog 173 #[saidV] w fun x w' => x = .returned (.bool false) ∧ Below w.heap.size w w' := said_at labelIs rfl rfl w hw
theorem ofIs : headB [never] 158 [saidA, one (.fn 159 [])] (bo true) = true := by kernel_rfl
theorem cof (hw : Told w) (hh : HeadAt w g d) (hB : B ≤ g) : Calls Tryz.prog 158 #[saidV, .func (.func 159) #[] #[]] w fun e w' => e = .returned (.bool true) ∧ HeadAt w' g d ∧ Kept w w' B [31] :=
  head_of (all_cons never_said all_nil) ofIs rfl hw hh _ rfl (two_args (closed_isA _ rfl) ⟨[], trivial, rfl⟩) hB
end
end Go.Proofs.YtlhaaokldjdnnaaGreatDoor.Ev
