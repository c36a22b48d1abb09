/-
  No cell of these rows narrows 'for every input' (looked for: loops, veiled, ifaces, maps, wideKeys, modest, calm, conditions, laid).
  DERIVED. THE GIVEN ROWS OF THIS SEAT. 4 by the template 'for every input the law returns true; each argument reads behind the call as it read before'; 0 by the template 'total and deterministic' (their statements: YtanekkcfkahinaaTotals.lean).
  GIVEN WITH THE SEED: the statements are not yours to turn. If you find one false, say at which input.
  Laid BY PROGRAM, IN A SANDBOX (cutbox-rows.mjs): the forced cells as the released guide's own fill.sh prints them over the translation 0ea0cd35e0de602f… (all of the seat's roots in one cut). By AI agents, Wed Nov 11 2026. No macro, syntax, notation, axiom, sorry.
-/
import Derived.Test.YtanekkcfkahinaaChecked
import GoSem.Claim
import GoSem.ClaimJoined
import GoSem.ClaimMapViews
import Derived.JoinedTies
import Derived.KernelRfl
namespace Go.Proofs.Ytanekkcfkahinaa
/- THE CELL 'sum', in the pinned program and in every row, IS THE sha256 OF THE DUMP (.gsa) THAT YtanekkcfkahinaaProg.lean LOADS. Nothing in Lean hashes anything: it is a label: what it is worth is what the hold of that sum in a sandbox is worth. -/
noncomputable def Try.pinned : Pinned := { name := "ytanekkcfkahinaa", sum := "0ea0cd35e0de602fcb296afdd964230ad430f09d6473af039aa14fb195ffba74", checked := Try.checked }
namespace Rows
def none {H : Type} : Left H := { results := [], args := [] }

/-- 'tidegatelaw08.FloatRatios': WHATEVER THE INPUT: true; the input reads as it did. -/
def floatRatiosSpec : ChangeSpec := { name := "floatRatios", fn := fun _ => fun
  | [d1, d2, d3] => { results := [.lit (.bool true)], args := [d1, d2, d3] }
  | _ => none }
def floatRatiosRow : OpenClaim := { program := "ytanekkcfkahinaa", sum := "0ea0cd35e0de602fcb296afdd964230ad430f09d6473af039aa14fb195ffba74", func := "tidegate/tidegatelaw08.FloatRatios", spec := "floatRatios", inPlace := ["math.Float64frombits", "math.Float64bits"], apart := false }
def FloatRatiosSaid : Prop := floatRatiosRow.holds Try.pinned (OpenSpec.ofChange floatRatiosSpec)

/-- ITS FALSE NEIGHBOUR: 'it returns false'. Refute it at one input. -/
def floatRatiosWrong : ChangeSpec := { name := "floatRatios", fn := fun _ => fun
  | [d1, d2, d3] => { results := [.lit (.bool false)], args := [d1, d2, d3] }
  | _ => none }
def FloatRatiosWrongFalsely : Prop := floatRatiosRow.holds Try.pinned (OpenSpec.ofChange floatRatiosWrong)

/-- 'tidegatelaw08.FloatThree': WHATEVER THE INPUT: true; the input reads as it did. -/
def floatThreeSpec : ChangeSpec := { name := "floatThree", fn := fun _ => fun
  | [d1, d2, d3] => { results := [.lit (.bool true)], args := [d1, d2, d3] }
  | _ => none }
def floatThreeRow : OpenClaim := { program := "ytanekkcfkahinaa", sum := "0ea0cd35e0de602fcb296afdd964230ad430f09d6473af039aa14fb195ffba74", func := "tidegate/tidegatelaw08.FloatThree", spec := "floatThree", inPlace := ["math.Float64frombits", "math.Float64bits"], apart := false }
def FloatThreeSaid : Prop := floatThreeRow.holds Try.pinned (OpenSpec.ofChange floatThreeSpec)

/-- ITS FALSE NEIGHBOUR: 'it returns false'. Refute it at one input. -/
def floatThreeWrong : ChangeSpec := { name := "floatThree", fn := fun _ => fun
  | [d1, d2, d3] => { results := [.lit (.bool false)], args := [d1, d2, d3] }
  | _ => none }
def FloatThreeWrongFalsely : Prop := floatThreeRow.holds Try.pinned (OpenSpec.ofChange floatThreeWrong)

/-- 'tidegatelaw08.FloatOrders': WHATEVER THE INPUT: true; the input reads as it did. -/
def floatOrdersSpec : ChangeSpec := { name := "floatOrders", fn := fun _ => fun
  | [d1, d2] => { results := [.lit (.bool true)], args := [d1, d2] }
  | _ => none }
def floatOrdersRow : OpenClaim := { program := "ytanekkcfkahinaa", sum := "0ea0cd35e0de602fcb296afdd964230ad430f09d6473af039aa14fb195ffba74", func := "tidegate/tidegatelaw08.FloatOrders", spec := "floatOrders", inPlace := ["math.Float64frombits", "math.Float64bits"], apart := false }
def FloatOrdersSaid : Prop := floatOrdersRow.holds Try.pinned (OpenSpec.ofChange floatOrdersSpec)

/-- ITS FALSE NEIGHBOUR: 'it returns false'. Refute it at one input. -/
def floatOrdersWrong : ChangeSpec := { name := "floatOrders", fn := fun _ => fun
  | [d1, d2] => { results := [.lit (.bool false)], args := [d1, d2] }
  | _ => none }
def FloatOrdersWrongFalsely : Prop := floatOrdersRow.holds Try.pinned (OpenSpec.ofChange floatOrdersWrong)

/-- 'tidegatelaw08.FloatKinds': WHATEVER THE INPUT: true; the input reads as it did. -/
def floatKindsSpec : ChangeSpec := { name := "floatKinds", fn := fun _ => fun
  | [d] => { results := [.lit (.bool true)], args := [d] }
  | _ => none }
def floatKindsRow : OpenClaim := { program := "ytanekkcfkahinaa", sum := "0ea0cd35e0de602fcb296afdd964230ad430f09d6473af039aa14fb195ffba74", func := "tidegate/tidegatelaw08.FloatKinds", spec := "floatKinds", inPlace := ["math.Float64frombits", "math.Float64bits", "math.archTrunc"], apart := false }
def FloatKindsSaid : Prop := floatKindsRow.holds Try.pinned (OpenSpec.ofChange floatKindsSpec)

/-- ITS FALSE NEIGHBOUR: 'it returns false'. Refute it at one input. -/
def floatKindsWrong : ChangeSpec := { name := "floatKinds", fn := fun _ => fun
  | [d] => { results := [.lit (.bool false)], args := [d] }
  | _ => none }
def FloatKindsWrongFalsely : Prop := floatKindsRow.holds Try.pinned (OpenSpec.ofChange floatKindsWrong)

/- THE SECOND FORM. 'bulk': how many values and letters a reading holds, each counted each time it is reached (what is shared counts as often as it is met; a slice's spare places count too). A statement '..UptoSaid' is the law's where the arguments, and the package variables that the reading takes, are together of bulk at most 1048576: NARROWER than '..Said'. Prove '..Said' where nothing that the law and all that it calls make is longer than what came in: it says more and counts as full. Else prove '..UptoSaid'. A law counts once. -/
mutual
def uptoBulk {H : Type} : DataW H → Nat
  | .lit (.string bytes) => bytes.length + 1
  | .lit _ => 1
  | .nil => 1
  | .ptr d => uptoBulk d + 1
  | .slice elems spare => uptoBulkAll elems + uptoBulkAll spare + 1
  | .agg parts => uptoBulkAll parts + 1
  | .iface _ d => uptoBulk d + 1
  | .map entries => uptoBulkEntries entries + 1
  | .held _ => 1
def uptoBulkAll {H : Type} : List (DataW H) → Nat
  | [] => 0
  | d :: r => uptoBulk d + uptoBulkAll r
def uptoBulkEntries {H : Type} : List (Lit × DataW H) → Nat
  | [] => 0
  | x :: r => uptoBulkEntry x + uptoBulkEntries r
def uptoBulkEntry {H : Type} : Lit × DataW H → Nat
  | (.string bytes, d) => bytes.length + uptoBulk d + 1
  | (_, d) => uptoBulk d + 1
 end
def uptoSmall : (H : Type) → List (DataW H) → Bool := fun _ ds => decide (uptoBulkAll ds ≤ 1048576)
def OpenSpec.upto (s : _root_.Go.ChangeSpec) : _root_.Go.OpenSpec := { _root_.Go.OpenSpec.ofChange s with cond := some uptoSmall }

/-- 'tidegatelaw08.FloatRatios', WHERE WHAT IT READS IS OF BULK AT MOST 1048576: true; the input reads as it did. -/
def floatRatiosUptoRow : OpenClaim := { program := "ytanekkcfkahinaa", sum := "0ea0cd35e0de602fcb296afdd964230ad430f09d6473af039aa14fb195ffba74", func := "tidegate/tidegatelaw08.FloatRatios", spec := "floatRatios", inPlace := ["math.Float64frombits", "math.Float64bits"], apart := false, narrowed := true }
def FloatRatiosUptoSaid : Prop := floatRatiosUptoRow.holds Try.pinned (OpenSpec.upto floatRatiosSpec)

/-- 'tidegatelaw08.FloatThree', WHERE WHAT IT READS IS OF BULK AT MOST 1048576: true; the input reads as it did. -/
def floatThreeUptoRow : OpenClaim := { program := "ytanekkcfkahinaa", sum := "0ea0cd35e0de602fcb296afdd964230ad430f09d6473af039aa14fb195ffba74", func := "tidegate/tidegatelaw08.FloatThree", spec := "floatThree", inPlace := ["math.Float64frombits", "math.Float64bits"], apart := false, narrowed := true }
def FloatThreeUptoSaid : Prop := floatThreeUptoRow.holds Try.pinned (OpenSpec.upto floatThreeSpec)

/-- 'tidegatelaw08.FloatOrders', WHERE WHAT IT READS IS OF BULK AT MOST 1048576: true; the input reads as it did. -/
def floatOrdersUptoRow : OpenClaim := { program := "ytanekkcfkahinaa", sum := "0ea0cd35e0de602fcb296afdd964230ad430f09d6473af039aa14fb195ffba74", func := "tidegate/tidegatelaw08.FloatOrders", spec := "floatOrders", inPlace := ["math.Float64frombits", "math.Float64bits"], apart := false, narrowed := true }
def FloatOrdersUptoSaid : Prop := floatOrdersUptoRow.holds Try.pinned (OpenSpec.upto floatOrdersSpec)

/-- 'tidegatelaw08.FloatKinds', WHERE WHAT IT READS IS OF BULK AT MOST 1048576: true; the input reads as it did. -/
def floatKindsUptoRow : OpenClaim := { program := "ytanekkcfkahinaa", sum := "0ea0cd35e0de602fcb296afdd964230ad430f09d6473af039aa14fb195ffba74", func := "tidegate/tidegatelaw08.FloatKinds", spec := "floatKinds", inPlace := ["math.Float64frombits", "math.Float64bits", "math.archTrunc"], apart := false, narrowed := true }
def FloatKindsUptoSaid : Prop := floatKindsUptoRow.holds Try.pinned (OpenSpec.upto floatKindsSpec)

end Rows
end Go.Proofs.Ytanekkcfkahinaa
