/-
  No cell of these rows narrows 'for every input' (looked for: loops, veiled, ifaces, maps, wideKeys, modest, calm, conditions, laid).
  DERIVED. THE GIVEN ROWS OF THIS SEAT. 4 by the template 'for every input the law returns true; each argument reads behind the call as it read before'; 0 by the template 'total and deterministic' (their statements: YtfjfccomcmmfoaaTotals.lean).
  GIVEN WITH THE SEED: the statements are not yours to turn. If you find one false, say at which input.
  Laid BY PROGRAM, IN A SANDBOX (cutbox-rows.mjs): the forced cells as the released guide's own fill.sh prints them over the translation 35e06f260095b189… (all of the seat's roots in one cut). By AI agents, Wed Nov 11 2026. No macro, syntax, notation, axiom, sorry.
-/
import Derived.Test.YtfjfccomcmmfoaaChecked
import GoSem.Claim
import GoSem.ClaimJoined
import GoSem.ClaimMapViews
import Derived.JoinedTies
import Derived.KernelRfl
namespace Go.Proofs.Ytfjfccomcmmfoaa
/- THE CELL 'sum', in the pinned program and in every row, IS THE sha256 OF THE DUMP (.gsa) THAT YtfjfccomcmmfoaaProg.lean LOADS. Nothing in Lean hashes anything: it is a label: what it is worth is what the hold of that sum in a sandbox is worth. -/
noncomputable def Try.pinned : Pinned := { name := "ytfjfccomcmmfoaa", sum := "35e06f260095b189fc8cf6715200fe118a900a6ec71c51ac84ba6e7f92b375c8", checked := Try.checked }
namespace Rows
def none {H : Type} : Left H := { results := [], args := [] }

/-- 'tidegatelaw18.Mp3Heads': WHATEVER THE INPUT: true; the input reads as it did. -/
def mp3HeadsSpec : ChangeSpec := { name := "mp3Heads", fn := fun _ => fun
  | [d] => { results := [.lit (.bool true)], args := [d] }
  | _ => none }
def mp3HeadsRow : OpenClaim := { program := "ytfjfccomcmmfoaa", sum := "35e06f260095b189fc8cf6715200fe118a900a6ec71c51ac84ba6e7f92b375c8", func := "tidegate/tidegatelaw18.Mp3Heads", spec := "mp3Heads", apart := false }
def Mp3HeadsSaid : Prop := mp3HeadsRow.holds Try.pinned (OpenSpec.ofChange mp3HeadsSpec)

/-- ITS FALSE NEIGHBOUR: 'it returns false'. Refute it at one input. -/
def mp3HeadsWrong : ChangeSpec := { name := "mp3Heads", fn := fun _ => fun
  | [d] => { results := [.lit (.bool false)], args := [d] }
  | _ => none }
def Mp3HeadsWrongFalsely : Prop := mp3HeadsRow.holds Try.pinned (OpenSpec.ofChange mp3HeadsWrong)

/-- 'tidegatelaw18.Mp3Sizes': WHATEVER THE INPUT: true; the input reads as it did. -/
def mp3SizesSpec : ChangeSpec := { name := "mp3Sizes", fn := fun _ => fun
  | [d] => { results := [.lit (.bool true)], args := [d] }
  | _ => none }
def mp3SizesRow : OpenClaim := { program := "ytfjfccomcmmfoaa", sum := "35e06f260095b189fc8cf6715200fe118a900a6ec71c51ac84ba6e7f92b375c8", func := "tidegate/tidegatelaw18.Mp3Sizes", spec := "mp3Sizes", apart := false }
def Mp3SizesSaid : Prop := mp3SizesRow.holds Try.pinned (OpenSpec.ofChange mp3SizesSpec)

/-- ITS FALSE NEIGHBOUR: 'it returns false'. Refute it at one input. -/
def mp3SizesWrong : ChangeSpec := { name := "mp3Sizes", fn := fun _ => fun
  | [d] => { results := [.lit (.bool false)], args := [d] }
  | _ => none }
def Mp3SizesWrongFalsely : Prop := mp3SizesRow.holds Try.pinned (OpenSpec.ofChange mp3SizesWrong)

/-- 'tidegatelaw18.Mp3Joined': WHATEVER THE INPUT: true; the input reads as it did. -/
def mp3JoinedSpec : ChangeSpec := { name := "mp3Joined", fn := fun _ => fun
  | [d] => { results := [.lit (.bool true)], args := [d] }
  | _ => none }
def mp3JoinedRow : OpenClaim := { program := "ytfjfccomcmmfoaa", sum := "35e06f260095b189fc8cf6715200fe118a900a6ec71c51ac84ba6e7f92b375c8", func := "tidegate/tidegatelaw18.Mp3Joined", spec := "mp3Joined", apart := false }
def Mp3JoinedSaid : Prop := mp3JoinedRow.holds Try.pinned (OpenSpec.ofChange mp3JoinedSpec)

/-- ITS FALSE NEIGHBOUR: 'it returns false'. Refute it at one input. -/
def mp3JoinedWrong : ChangeSpec := { name := "mp3Joined", fn := fun _ => fun
  | [d] => { results := [.lit (.bool false)], args := [d] }
  | _ => none }
def Mp3JoinedWrongFalsely : Prop := mp3JoinedRow.holds Try.pinned (OpenSpec.ofChange mp3JoinedWrong)

/-- 'tidegatelaw18.Mp3Tells': WHATEVER THE INPUT: true; the input reads as it did. -/
def mp3TellsSpec : ChangeSpec := { name := "mp3Tells", fn := fun _ => fun
  | [d] => { results := [.lit (.bool true)], args := [d] }
  | _ => none }
def mp3TellsRow : OpenClaim := { program := "ytfjfccomcmmfoaa", sum := "35e06f260095b189fc8cf6715200fe118a900a6ec71c51ac84ba6e7f92b375c8", func := "tidegate/tidegatelaw18.Mp3Tells", spec := "mp3Tells", inPlace := ["math.Float64bits"], apart := false }
def Mp3TellsSaid : Prop := mp3TellsRow.holds Try.pinned (OpenSpec.ofChange mp3TellsSpec)

/-- ITS FALSE NEIGHBOUR: 'it returns false'. Refute it at one input. -/
def mp3TellsWrong : ChangeSpec := { name := "mp3Tells", fn := fun _ => fun
  | [d] => { results := [.lit (.bool false)], args := [d] }
  | _ => none }
def Mp3TellsWrongFalsely : Prop := mp3TellsRow.holds Try.pinned (OpenSpec.ofChange mp3TellsWrong)

/- THE SECOND FORM. 'bulk': how many values and letters a reading holds, each counted each time it is reached (what is shared counts as often as it is met; a slice's spare places count too). A statement '..UptoSaid' is the law's where the arguments, and the package variables that the reading takes, are together of bulk at most 1048576: NARROWER than '..Said'. Prove '..Said' where nothing that the law and all that it calls make is longer than what came in: it says more and counts as full. Else prove '..UptoSaid'. A law counts once. -/
mutual
def uptoBulk {H : Type} : DataW H → Nat
  | .lit (.string bytes) => bytes.length + 1
  | .lit _ => 1
  | .nil => 1
  | .ptr d => uptoBulk d + 1
  | .slice elems spare => uptoBulkAll elems + uptoBulkAll spare + 1
  | .agg parts => uptoBulkAll parts + 1
  | .iface _ d => uptoBulk d + 1
  | .map entries => uptoBulkEntries entries + 1
  | .held _ => 1
def uptoBulkAll {H : Type} : List (DataW H) → Nat
  | [] => 0
  | d :: r => uptoBulk d + uptoBulkAll r
def uptoBulkEntries {H : Type} : List (Lit × DataW H) → Nat
  | [] => 0
  | x :: r => uptoBulkEntry x + uptoBulkEntries r
def uptoBulkEntry {H : Type} : Lit × DataW H → Nat
  | (.string bytes, d) => bytes.length + uptoBulk d + 1
  | (_, d) => uptoBulk d + 1
 end
def uptoSmall : (H : Type) → List (DataW H) → Bool := fun _ ds => decide (uptoBulkAll ds ≤ 1048576)
def OpenSpec.upto (s : _root_.Go.ChangeSpec) : _root_.Go.OpenSpec := { _root_.Go.OpenSpec.ofChange s with cond := some uptoSmall }

/-- 'tidegatelaw18.Mp3Heads', WHERE WHAT IT READS IS OF BULK AT MOST 1048576: true; the input reads as it did. -/
def mp3HeadsUptoRow : OpenClaim := { program := "ytfjfccomcmmfoaa", sum := "35e06f260095b189fc8cf6715200fe118a900a6ec71c51ac84ba6e7f92b375c8", func := "tidegate/tidegatelaw18.Mp3Heads", spec := "mp3Heads", apart := false, narrowed := true }
def Mp3HeadsUptoSaid : Prop := mp3HeadsUptoRow.holds Try.pinned (OpenSpec.upto mp3HeadsSpec)

/-- 'tidegatelaw18.Mp3Sizes', WHERE WHAT IT READS IS OF BULK AT MOST 1048576: true; the input reads as it did. -/
def mp3SizesUptoRow : OpenClaim := { program := "ytfjfccomcmmfoaa", sum := "35e06f260095b189fc8cf6715200fe118a900a6ec71c51ac84ba6e7f92b375c8", func := "tidegate/tidegatelaw18.Mp3Sizes", spec := "mp3Sizes", apart := false, narrowed := true }
def Mp3SizesUptoSaid : Prop := mp3SizesUptoRow.holds Try.pinned (OpenSpec.upto mp3SizesSpec)

/-- 'tidegatelaw18.Mp3Joined', WHERE WHAT IT READS IS OF BULK AT MOST 1048576: true; the input reads as it did. -/
def mp3JoinedUptoRow : OpenClaim := { program := "ytfjfccomcmmfoaa", sum := "35e06f260095b189fc8cf6715200fe118a900a6ec71c51ac84ba6e7f92b375c8", func := "tidegate/tidegatelaw18.Mp3Joined", spec := "mp3Joined", apart := false, narrowed := true }
def Mp3JoinedUptoSaid : Prop := mp3JoinedUptoRow.holds Try.pinned (OpenSpec.upto mp3JoinedSpec)

/-- 'tidegatelaw18.Mp3Tells', WHERE WHAT IT READS IS OF BULK AT MOST 1048576: true; the input reads as it did. -/
def mp3TellsUptoRow : OpenClaim := { program := "ytfjfccomcmmfoaa", sum := "35e06f260095b189fc8cf6715200fe118a900a6ec71c51ac84ba6e7f92b375c8", func := "tidegate/tidegatelaw18.Mp3Tells", spec := "mp3Tells", inPlace := ["math.Float64bits"], apart := false, narrowed := true }
def Mp3TellsUptoSaid : Prop := mp3TellsUptoRow.holds Try.pinned (OpenSpec.upto mp3TellsSpec)

end Rows
end Go.Proofs.Ytfjfccomcmmfoaa
