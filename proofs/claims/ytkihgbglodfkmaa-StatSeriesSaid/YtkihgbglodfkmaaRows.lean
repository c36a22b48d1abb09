/-
  No cell of these rows narrows 'for every input' (looked for: loops, veiled, ifaces, maps, wideKeys, modest, calm, conditions, laid).
  DERIVED. THE GIVEN ROWS OF THIS SEAT. 5 by the template 'for every input the law returns true; each argument reads behind the call as it read before'; 0 by the template 'total and deterministic' (their statements: YtkihgbglodfkmaaTotals.lean).
  GIVEN WITH THE SEED: the statements are not yours to turn. If you find one false, say at which input.
  Laid BY PROGRAM, IN A SANDBOX (cutbox-rows.mjs): the forced cells as the released guide's own fill.sh prints them over the translation 401f2ea4cb131c59… (all of the seat's roots in one cut). By AI agents, Wed Nov 11 2026. No macro, syntax, notation, axiom, sorry.
-/
import Derived.Test.YtkihgbglodfkmaaChecked
import GoSem.Claim
import GoSem.ClaimJoined
import GoSem.ClaimMapViews
import Derived.JoinedTies
import Derived.KernelRfl
namespace Go.Proofs.Ytkihgbglodfkmaa
/- THE CELL 'sum', in the pinned program and in every row, IS THE sha256 OF THE DUMP (.gsa) THAT YtkihgbglodfkmaaProg.lean LOADS. Nothing in Lean hashes anything: it is a label: what it is worth is what the hold of that sum in a sandbox is worth. -/
noncomputable def Try.pinned : Pinned := { name := "ytkihgbglodfkmaa", sum := "401f2ea4cb131c59d63655d529e91fe079a956b612ccc41065e47aa4daa5d8c3", checked := Try.checked }
namespace Rows
def none {H : Type} : Left H := { results := [], args := [] }

/-- 'tidegatelaw41.StatAt': WHATEVER THE INPUT: true; the input reads as it did. -/
def statAtSpec : ChangeSpec := { name := "statAt", fn := fun _ => fun
  | [d1, d2, d3] => { results := [.lit (.bool true)], args := [d1, d2, d3] }
  | _ => none }
def statAtRow : OpenClaim := { program := "ytkihgbglodfkmaa", sum := "401f2ea4cb131c59d63655d529e91fe079a956b612ccc41065e47aa4daa5d8c3", func := "tidegate/tidegatelaw41.StatAt", spec := "statAt", inPlace := ["math.Float64frombits", "math.Float64bits"], unfollowed := true, recurses := true, apart := false }
def StatAtSaid : Prop := statAtRow.holds Try.pinned (OpenSpec.ofChange statAtSpec)

/-- ITS FALSE NEIGHBOUR: 'it returns false'. Refute it at one input. -/
def statAtWrong : ChangeSpec := { name := "statAt", fn := fun _ => fun
  | [d1, d2, d3] => { results := [.lit (.bool false)], args := [d1, d2, d3] }
  | _ => none }
def StatAtWrongFalsely : Prop := statAtRow.holds Try.pinned (OpenSpec.ofChange statAtWrong)

/-- 'tidegatelaw41.StatFull': WHATEVER THE INPUT: true; the input reads as it did. -/
def statFullSpec : ChangeSpec := { name := "statFull", fn := fun _ => fun
  | [d] => { results := [.lit (.bool true)], args := [d] }
  | _ => none }
def statFullRow : OpenClaim := { program := "ytkihgbglodfkmaa", sum := "401f2ea4cb131c59d63655d529e91fe079a956b612ccc41065e47aa4daa5d8c3", func := "tidegate/tidegatelaw41.StatFull", spec := "statFull", inPlace := ["math.Float64frombits", "math.Float64bits"], unfollowed := true, recurses := true, apart := false }
def StatFullSaid : Prop := statFullRow.holds Try.pinned (OpenSpec.ofChange statFullSpec)

/-- ITS FALSE NEIGHBOUR: 'it returns false'. Refute it at one input. -/
def statFullWrong : ChangeSpec := { name := "statFull", fn := fun _ => fun
  | [d] => { results := [.lit (.bool false)], args := [d] }
  | _ => none }
def StatFullWrongFalsely : Prop := statFullRow.holds Try.pinned (OpenSpec.ofChange statFullWrong)

/-- 'tidegatelaw41.StatJoins': WHATEVER THE INPUT: true; the input reads as it did. -/
def statJoinsSpec : ChangeSpec := { name := "statJoins", fn := fun _ => fun
  | [d1, d2] => { results := [.lit (.bool true)], args := [d1, d2] }
  | _ => none }
def statJoinsRow : OpenClaim := { program := "ytkihgbglodfkmaa", sum := "401f2ea4cb131c59d63655d529e91fe079a956b612ccc41065e47aa4daa5d8c3", func := "tidegate/tidegatelaw41.StatJoins", spec := "statJoins", inPlace := ["math.Float64frombits", "math.Float64bits"], unfollowed := true, recurses := true, apart := false }
def StatJoinsSaid : Prop := statJoinsRow.holds Try.pinned (OpenSpec.ofChange statJoinsSpec)

/-- ITS FALSE NEIGHBOUR: 'it returns false'. Refute it at one input. -/
def statJoinsWrong : ChangeSpec := { name := "statJoins", fn := fun _ => fun
  | [d1, d2] => { results := [.lit (.bool false)], args := [d1, d2] }
  | _ => none }
def StatJoinsWrongFalsely : Prop := statJoinsRow.holds Try.pinned (OpenSpec.ofChange statJoinsWrong)

/-- 'tidegatelaw41.StatSeries': WHATEVER THE INPUT: true; the input reads as it did. -/
def statSeriesSpec : ChangeSpec := { name := "statSeries", fn := fun _ => fun
  | [d] => { results := [.lit (.bool true)], args := [d] }
  | _ => none }
def statSeriesRow : OpenClaim := { program := "ytkihgbglodfkmaa", sum := "401f2ea4cb131c59d63655d529e91fe079a956b612ccc41065e47aa4daa5d8c3", func := "tidegate/tidegatelaw41.StatSeries", spec := "statSeries", inPlace := ["math.Float64frombits", "math.Float64bits"], unfollowed := true, recurses := true, apart := false }
def StatSeriesSaid : Prop := statSeriesRow.holds Try.pinned (OpenSpec.ofChange statSeriesSpec)

/-- ITS FALSE NEIGHBOUR: 'it returns false'. Refute it at one input. -/
def statSeriesWrong : ChangeSpec := { name := "statSeries", fn := fun _ => fun
  | [d] => { results := [.lit (.bool false)], args := [d] }
  | _ => none }
def StatSeriesWrongFalsely : Prop := statSeriesRow.holds Try.pinned (OpenSpec.ofChange statSeriesWrong)

/-- 'tidegatelaw41.StatNone': WHATEVER THE INPUT: true; the input reads as it did. -/
def statNoneSpec : ChangeSpec := { name := "statNone", fn := fun _ => fun
  | [d1, d2, d3] => { results := [.lit (.bool true)], args := [d1, d2, d3] }
  | _ => none }
def statNoneRow : OpenClaim := { program := "ytkihgbglodfkmaa", sum := "401f2ea4cb131c59d63655d529e91fe079a956b612ccc41065e47aa4daa5d8c3", func := "tidegate/tidegatelaw41.StatNone", spec := "statNone", inPlace := ["math.Float64frombits", "math.Float64bits"], unfollowed := true, recurses := true, apart := false }
def StatNoneSaid : Prop := statNoneRow.holds Try.pinned (OpenSpec.ofChange statNoneSpec)

/-- ITS FALSE NEIGHBOUR: 'it returns false'. Refute it at one input. -/
def statNoneWrong : ChangeSpec := { name := "statNone", fn := fun _ => fun
  | [d1, d2, d3] => { results := [.lit (.bool false)], args := [d1, d2, d3] }
  | _ => none }
def StatNoneWrongFalsely : Prop := statNoneRow.holds Try.pinned (OpenSpec.ofChange statNoneWrong)

/- THE SECOND FORM. 'bulk': how many values and letters a reading holds, each counted each time it is reached (what is shared counts as often as it is met; a slice's spare places count too). A statement '..UptoSaid' is the law's where the arguments, and the package variables that the reading takes, are together of bulk at most 1048576: NARROWER than '..Said'. Prove '..Said' where nothing that the law and all that it calls make is longer than what came in: it says more and counts as full. Else prove '..UptoSaid'. A law counts once. -/
mutual
def uptoBulk {H : Type} : DataW H → Nat
  | .lit (.string bytes) => bytes.length + 1
  | .lit _ => 1
  | .nil => 1
  | .ptr d => uptoBulk d + 1
  | .slice elems spare => uptoBulkAll elems + uptoBulkAll spare + 1
  | .agg parts => uptoBulkAll parts + 1
  | .iface _ d => uptoBulk d + 1
  | .map entries => uptoBulkEntries entries + 1
  | .held _ => 1
def uptoBulkAll {H : Type} : List (DataW H) → Nat
  | [] => 0
  | d :: r => uptoBulk d + uptoBulkAll r
def uptoBulkEntries {H : Type} : List (Lit × DataW H) → Nat
  | [] => 0
  | x :: r => uptoBulkEntry x + uptoBulkEntries r
def uptoBulkEntry {H : Type} : Lit × DataW H → Nat
  | (.string bytes, d) => bytes.length + uptoBulk d + 1
  | (_, d) => uptoBulk d + 1
 end
def uptoSmall : (H : Type) → List (DataW H) → Bool := fun _ ds => decide (uptoBulkAll ds ≤ 1048576)
def OpenSpec.upto (s : _root_.Go.ChangeSpec) : _root_.Go.OpenSpec := { _root_.Go.OpenSpec.ofChange s with cond := some uptoSmall }

/-- 'tidegatelaw41.StatAt', WHERE WHAT IT READS IS OF BULK AT MOST 1048576: true; the input reads as it did. -/
def statAtUptoRow : OpenClaim := { program := "ytkihgbglodfkmaa", sum := "401f2ea4cb131c59d63655d529e91fe079a956b612ccc41065e47aa4daa5d8c3", func := "tidegate/tidegatelaw41.StatAt", spec := "statAt", inPlace := ["math.Float64frombits", "math.Float64bits"], unfollowed := true, recurses := true, apart := false, narrowed := true }
def StatAtUptoSaid : Prop := statAtUptoRow.holds Try.pinned (OpenSpec.upto statAtSpec)

/-- 'tidegatelaw41.StatFull', WHERE WHAT IT READS IS OF BULK AT MOST 1048576: true; the input reads as it did. -/
def statFullUptoRow : OpenClaim := { program := "ytkihgbglodfkmaa", sum := "401f2ea4cb131c59d63655d529e91fe079a956b612ccc41065e47aa4daa5d8c3", func := "tidegate/tidegatelaw41.StatFull", spec := "statFull", inPlace := ["math.Float64frombits", "math.Float64bits"], unfollowed := true, recurses := true, apart := false, narrowed := true }
def StatFullUptoSaid : Prop := statFullUptoRow.holds Try.pinned (OpenSpec.upto statFullSpec)

/-- 'tidegatelaw41.StatJoins', WHERE WHAT IT READS IS OF BULK AT MOST 1048576: true; the input reads as it did. -/
def statJoinsUptoRow : OpenClaim := { program := "ytkihgbglodfkmaa", sum := "401f2ea4cb131c59d63655d529e91fe079a956b612ccc41065e47aa4daa5d8c3", func := "tidegate/tidegatelaw41.StatJoins", spec := "statJoins", inPlace := ["math.Float64frombits", "math.Float64bits"], unfollowed := true, recurses := true, apart := false, narrowed := true }
def StatJoinsUptoSaid : Prop := statJoinsUptoRow.holds Try.pinned (OpenSpec.upto statJoinsSpec)

/-- 'tidegatelaw41.StatSeries', WHERE WHAT IT READS IS OF BULK AT MOST 1048576: true; the input reads as it did. -/
def statSeriesUptoRow : OpenClaim := { program := "ytkihgbglodfkmaa", sum := "401f2ea4cb131c59d63655d529e91fe079a956b612ccc41065e47aa4daa5d8c3", func := "tidegate/tidegatelaw41.StatSeries", spec := "statSeries", inPlace := ["math.Float64frombits", "math.Float64bits"], unfollowed := true, recurses := true, apart := false, narrowed := true }
def StatSeriesUptoSaid : Prop := statSeriesUptoRow.holds Try.pinned (OpenSpec.upto statSeriesSpec)

/-- 'tidegatelaw41.StatNone', WHERE WHAT IT READS IS OF BULK AT MOST 1048576: true; the input reads as it did. -/
def statNoneUptoRow : OpenClaim := { program := "ytkihgbglodfkmaa", sum := "401f2ea4cb131c59d63655d529e91fe079a956b612ccc41065e47aa4daa5d8c3", func := "tidegate/tidegatelaw41.StatNone", spec := "statNone", inPlace := ["math.Float64frombits", "math.Float64bits"], unfollowed := true, recurses := true, apart := false, narrowed := true }
def StatNoneUptoSaid : Prop := statNoneUptoRow.holds Try.pinned (OpenSpec.upto statNoneSpec)

end Rows
end Go.Proofs.Ytkihgbglodfkmaa
