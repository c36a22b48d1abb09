/-
  No cell of these rows narrows 'for every input' (looked for: loops, veiled, ifaces, maps, wideKeys, modest, calm, conditions, laid).
  DERIVED. THE GIVEN ROWS OF THIS SEAT. 3 by the template 'for every input the law returns true; each argument reads behind the call as it read before'; 0 by the template 'total and deterministic' (their statements: YtinigkmjegpddaaTotals.lean).
  GIVEN WITH THE SEED: the statements are not yours to turn. If you find one false, say at which input.
  Laid BY PROGRAM, IN A SANDBOX (cutbox-rows.mjs): the forced cells as the released guide's own fill.sh prints them over the translation eba284c255328d3e… (all of the seat's roots in one cut). By AI agents, Wed Nov 11 2026. No macro, syntax, notation, axiom, sorry.
-/
import Derived.Test.YtinigkmjegpddaaChecked
import GoSem.Claim
import GoSem.ClaimJoined
import GoSem.ClaimMapViews
import Derived.JoinedTies
import Derived.KernelRfl
namespace Go.Proofs.Ytinigkmjegpddaa
/- THE CELL 'sum', in the pinned program and in every row, IS THE sha256 OF THE DUMP (.gsa) THAT YtinigkmjegpddaaProg.lean LOADS. Nothing in Lean hashes anything: it is a label: what it is worth is what the hold of that sum in a sandbox is worth. -/
noncomputable def Try.pinned : Pinned := { name := "ytinigkmjegpddaa", sum := "eba284c255328d3e8ac2892711b38da17da8733fbcfc68c41c92160f1db0e913", checked := Try.checked }
namespace Rows
def none {H : Type} : Left H := { results := [], args := [] }

/-- 'tidegatelaw17.WebmNumbers': WHATEVER THE INPUT: true; the input reads as it did. -/
def webmNumbersSpec : ChangeSpec := { name := "webmNumbers", fn := fun _ => fun
  | [d1, d2] => { results := [.lit (.bool true)], args := [d1, d2] }
  | _ => none }
def webmNumbersRow : OpenClaim := { program := "ytinigkmjegpddaa", sum := "eba284c255328d3e8ac2892711b38da17da8733fbcfc68c41c92160f1db0e913", func := "tidegate/tidegatelaw17.WebmNumbers", spec := "webmNumbers", apart := false }
def WebmNumbersSaid : Prop := webmNumbersRow.holds Try.pinned (OpenSpec.ofChange webmNumbersSpec)

/-- ITS FALSE NEIGHBOUR: 'it returns false'. Refute it at one input. -/
def webmNumbersWrong : ChangeSpec := { name := "webmNumbers", fn := fun _ => fun
  | [d1, d2] => { results := [.lit (.bool false)], args := [d1, d2] }
  | _ => none }
def WebmNumbersWrongFalsely : Prop := webmNumbersRow.holds Try.pinned (OpenSpec.ofChange webmNumbersWrong)

/-- 'tidegatelaw17.WebmTells': WHATEVER THE INPUT: true; the input reads as it did. -/
def webmTellsSpec : ChangeSpec := { name := "webmTells", fn := fun _ => fun
  | [d1, d2] => { results := [.lit (.bool true)], args := [d1, d2] }
  | _ => none }
def webmTellsRow : OpenClaim := { program := "ytinigkmjegpddaa", sum := "eba284c255328d3e8ac2892711b38da17da8733fbcfc68c41c92160f1db0e913", func := "tidegate/tidegatelaw17.WebmTells", spec := "webmTells", apart := false }
def WebmTellsSaid : Prop := webmTellsRow.holds Try.pinned (OpenSpec.ofChange webmTellsSpec)

/-- ITS FALSE NEIGHBOUR: 'it returns false'. Refute it at one input. -/
def webmTellsWrong : ChangeSpec := { name := "webmTells", fn := fun _ => fun
  | [d1, d2] => { results := [.lit (.bool false)], args := [d1, d2] }
  | _ => none }
def WebmTellsWrongFalsely : Prop := webmTellsRow.holds Try.pinned (OpenSpec.ofChange webmTellsWrong)

/-- 'tidegatelaw17.WebmWrites': WHATEVER THE INPUT: true; the input reads as it did. -/
def webmWritesSpec : ChangeSpec := { name := "webmWrites", fn := fun _ => fun
  | [d1, d2, d3] => { results := [.lit (.bool true)], args := [d1, d2, d3] }
  | _ => none }
def webmWritesRow : OpenClaim := { program := "ytinigkmjegpddaa", sum := "eba284c255328d3e8ac2892711b38da17da8733fbcfc68c41c92160f1db0e913", func := "tidegate/tidegatelaw17.WebmWrites", spec := "webmWrites", apart := false }
def WebmWritesSaid : Prop := webmWritesRow.holds Try.pinned (OpenSpec.ofChange webmWritesSpec)

/-- ITS FALSE NEIGHBOUR: 'it returns false'. Refute it at one input. -/
def webmWritesWrong : ChangeSpec := { name := "webmWrites", fn := fun _ => fun
  | [d1, d2, d3] => { results := [.lit (.bool false)], args := [d1, d2, d3] }
  | _ => none }
def WebmWritesWrongFalsely : Prop := webmWritesRow.holds Try.pinned (OpenSpec.ofChange webmWritesWrong)

/- THE SECOND FORM. 'bulk': how many values and letters a reading holds, each counted each time it is reached (what is shared counts as often as it is met; a slice's spare places count too). A statement '..UptoSaid' is the law's where the arguments, and the package variables that the reading takes, are together of bulk at most 1048576: NARROWER than '..Said'. Prove '..Said' where nothing that the law and all that it calls make is longer than what came in: it says more and counts as full. Else prove '..UptoSaid'. A law counts once. -/
mutual
def uptoBulk {H : Type} : DataW H → Nat
  | .lit (.string bytes) => bytes.length + 1
  | .lit _ => 1
  | .nil => 1
  | .ptr d => uptoBulk d + 1
  | .slice elems spare => uptoBulkAll elems + uptoBulkAll spare + 1
  | .agg parts => uptoBulkAll parts + 1
  | .iface _ d => uptoBulk d + 1
  | .map entries => uptoBulkEntries entries + 1
  | .held _ => 1
def uptoBulkAll {H : Type} : List (DataW H) → Nat
  | [] => 0
  | d :: r => uptoBulk d + uptoBulkAll r
def uptoBulkEntries {H : Type} : List (Lit × DataW H) → Nat
  | [] => 0
  | x :: r => uptoBulkEntry x + uptoBulkEntries r
def uptoBulkEntry {H : Type} : Lit × DataW H → Nat
  | (.string bytes, d) => bytes.length + uptoBulk d + 1
  | (_, d) => uptoBulk d + 1
 end
def uptoSmall : (H : Type) → List (DataW H) → Bool := fun _ ds => decide (uptoBulkAll ds ≤ 1048576)
def OpenSpec.upto (s : _root_.Go.ChangeSpec) : _root_.Go.OpenSpec := { _root_.Go.OpenSpec.ofChange s with cond := some uptoSmall }

/-- 'tidegatelaw17.WebmNumbers', WHERE WHAT IT READS IS OF BULK AT MOST 1048576: true; the input reads as it did. -/
def webmNumbersUptoRow : OpenClaim := { program := "ytinigkmjegpddaa", sum := "eba284c255328d3e8ac2892711b38da17da8733fbcfc68c41c92160f1db0e913", func := "tidegate/tidegatelaw17.WebmNumbers", spec := "webmNumbers", apart := false, narrowed := true }
def WebmNumbersUptoSaid : Prop := webmNumbersUptoRow.holds Try.pinned (OpenSpec.upto webmNumbersSpec)

/-- 'tidegatelaw17.WebmTells', WHERE WHAT IT READS IS OF BULK AT MOST 1048576: true; the input reads as it did. -/
def webmTellsUptoRow : OpenClaim := { program := "ytinigkmjegpddaa", sum := "eba284c255328d3e8ac2892711b38da17da8733fbcfc68c41c92160f1db0e913", func := "tidegate/tidegatelaw17.WebmTells", spec := "webmTells", apart := false, narrowed := true }
def WebmTellsUptoSaid : Prop := webmTellsUptoRow.holds Try.pinned (OpenSpec.upto webmTellsSpec)

/-- 'tidegatelaw17.WebmWrites', WHERE WHAT IT READS IS OF BULK AT MOST 1048576: true; the input reads as it did. -/
def webmWritesUptoRow : OpenClaim := { program := "ytinigkmjegpddaa", sum := "eba284c255328d3e8ac2892711b38da17da8733fbcfc68c41c92160f1db0e913", func := "tidegate/tidegatelaw17.WebmWrites", spec := "webmWrites", apart := false, narrowed := true }
def WebmWritesUptoSaid : Prop := webmWritesUptoRow.holds Try.pinned (OpenSpec.upto webmWritesSpec)

end Rows
end Go.Proofs.Ytinigkmjegpddaa
