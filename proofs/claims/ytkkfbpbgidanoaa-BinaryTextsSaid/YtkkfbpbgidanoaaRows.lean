/-
  No cell of these rows narrows 'for every input' (looked for: loops, veiled, ifaces, maps, wideKeys, modest, calm, conditions, laid).
  DERIVED. THE GIVEN ROWS OF THIS SEAT. 3 by the template 'for every input the law returns true; each argument reads behind the call as it read before'; 0 by the template 'total and deterministic' (their statements: YtkkfbpbgidanoaaTotals.lean).
  GIVEN WITH THE SEED: the statements are not yours to turn. If you find one false, say at which input.
  Laid BY PROGRAM, IN A SANDBOX (cutbox-rows.mjs): the forced cells as the released guide's own fill.sh prints them over the translation dc8d4a77c54ebe42… (all of the seat's roots in one cut). By AI agents, Wed Nov 11 2026. No macro, syntax, notation, axiom, sorry.
-/
import Derived.Test.YtkkfbpbgidanoaaChecked
import GoSem.Claim
import GoSem.ClaimJoined
import GoSem.ClaimMapViews
import Derived.JoinedTies
import Derived.KernelRfl
namespace Go.Proofs.Ytkkfbpbgidanoaa
/- THE CELL 'sum', in the pinned program and in every row, IS THE sha256 OF THE DUMP (.gsa) THAT YtkkfbpbgidanoaaProg.lean LOADS. Nothing in Lean hashes anything: it is a label: what it is worth is what the hold of that sum in a sandbox is worth. -/
noncomputable def Try.pinned : Pinned := { name := "ytkkfbpbgidanoaa", sum := "dc8d4a77c54ebe42965abb5a14beac7eb93478aec296dfb94146ff50a9497a74", checked := Try.checked }
namespace Rows
def none {H : Type} : Left H := { results := [], args := [] }

/-- 'tidegatelaw19.BinaryBytes': WHATEVER THE INPUT: true; the input reads as it did. -/
def binaryBytesSpec : ChangeSpec := { name := "binaryBytes", fn := fun _ => fun
  | [d] => { results := [.lit (.bool true)], args := [d] }
  | _ => none }
def binaryBytesRow : OpenClaim := { program := "ytkkfbpbgidanoaa", sum := "dc8d4a77c54ebe42965abb5a14beac7eb93478aec296dfb94146ff50a9497a74", func := "tidegate/tidegatelaw19.BinaryBytes", spec := "binaryBytes", apart := false }
def BinaryBytesSaid : Prop := binaryBytesRow.holds Try.pinned (OpenSpec.ofChange binaryBytesSpec)

/-- ITS FALSE NEIGHBOUR: 'it returns false'. Refute it at one input. -/
def binaryBytesWrong : ChangeSpec := { name := "binaryBytes", fn := fun _ => fun
  | [d] => { results := [.lit (.bool false)], args := [d] }
  | _ => none }
def BinaryBytesWrongFalsely : Prop := binaryBytesRow.holds Try.pinned (OpenSpec.ofChange binaryBytesWrong)

/-- 'tidegatelaw19.BinaryCuts': WHATEVER THE INPUT: true; the input reads as it did. -/
def binaryCutsSpec : ChangeSpec := { name := "binaryCuts", fn := fun _ => fun
  | [d1, d2] => { results := [.lit (.bool true)], args := [d1, d2] }
  | _ => none }
def binaryCutsRow : OpenClaim := { program := "ytkkfbpbgidanoaa", sum := "dc8d4a77c54ebe42965abb5a14beac7eb93478aec296dfb94146ff50a9497a74", func := "tidegate/tidegatelaw19.BinaryCuts", spec := "binaryCuts", apart := false }
def BinaryCutsSaid : Prop := binaryCutsRow.holds Try.pinned (OpenSpec.ofChange binaryCutsSpec)

/-- ITS FALSE NEIGHBOUR: 'it returns false'. Refute it at one input. -/
def binaryCutsWrong : ChangeSpec := { name := "binaryCuts", fn := fun _ => fun
  | [d1, d2] => { results := [.lit (.bool false)], args := [d1, d2] }
  | _ => none }
def BinaryCutsWrongFalsely : Prop := binaryCutsRow.holds Try.pinned (OpenSpec.ofChange binaryCutsWrong)

/-- 'tidegatelaw19.BinaryTexts': WHATEVER THE INPUT: true; the input reads as it did. -/
def binaryTextsSpec : ChangeSpec := { name := "binaryTexts", fn := fun _ => fun
  | [d] => { results := [.lit (.bool true)], args := [d] }
  | _ => none }
def binaryTextsRow : OpenClaim := { program := "ytkkfbpbgidanoaa", sum := "dc8d4a77c54ebe42965abb5a14beac7eb93478aec296dfb94146ff50a9497a74", func := "tidegate/tidegatelaw19.BinaryTexts", spec := "binaryTexts", inPlace := ["math.Float64frombits", "math.Float64bits"], apart := false }
def BinaryTextsSaid : Prop := binaryTextsRow.holds Try.pinned (OpenSpec.ofChange binaryTextsSpec)

/-- ITS FALSE NEIGHBOUR: 'it returns false'. Refute it at one input. -/
def binaryTextsWrong : ChangeSpec := { name := "binaryTexts", fn := fun _ => fun
  | [d] => { results := [.lit (.bool false)], args := [d] }
  | _ => none }
def BinaryTextsWrongFalsely : Prop := binaryTextsRow.holds Try.pinned (OpenSpec.ofChange binaryTextsWrong)

/- THE SECOND FORM. 'bulk': how many values and letters a reading holds, each counted each time it is reached (what is shared counts as often as it is met; a slice's spare places count too). A statement '..UptoSaid' is the law's where the arguments, and the package variables that the reading takes, are together of bulk at most 1048576: NARROWER than '..Said'. Prove '..Said' where nothing that the law and all that it calls make is longer than what came in: it says more and counts as full. Else prove '..UptoSaid'. A law counts once. -/
mutual
def uptoBulk {H : Type} : DataW H → Nat
  | .lit (.string bytes) => bytes.length + 1
  | .lit _ => 1
  | .nil => 1
  | .ptr d => uptoBulk d + 1
  | .slice elems spare => uptoBulkAll elems + uptoBulkAll spare + 1
  | .agg parts => uptoBulkAll parts + 1
  | .iface _ d => uptoBulk d + 1
  | .map entries => uptoBulkEntries entries + 1
  | .held _ => 1
def uptoBulkAll {H : Type} : List (DataW H) → Nat
  | [] => 0
  | d :: r => uptoBulk d + uptoBulkAll r
def uptoBulkEntries {H : Type} : List (Lit × DataW H) → Nat
  | [] => 0
  | x :: r => uptoBulkEntry x + uptoBulkEntries r
def uptoBulkEntry {H : Type} : Lit × DataW H → Nat
  | (.string bytes, d) => bytes.length + uptoBulk d + 1
  | (_, d) => uptoBulk d + 1
 end
def uptoSmall : (H : Type) → List (DataW H) → Bool := fun _ ds => decide (uptoBulkAll ds ≤ 1048576)
def OpenSpec.upto (s : _root_.Go.ChangeSpec) : _root_.Go.OpenSpec := { _root_.Go.OpenSpec.ofChange s with cond := some uptoSmall }

/-- 'tidegatelaw19.BinaryBytes', WHERE WHAT IT READS IS OF BULK AT MOST 1048576: true; the input reads as it did. -/
def binaryBytesUptoRow : OpenClaim := { program := "ytkkfbpbgidanoaa", sum := "dc8d4a77c54ebe42965abb5a14beac7eb93478aec296dfb94146ff50a9497a74", func := "tidegate/tidegatelaw19.BinaryBytes", spec := "binaryBytes", apart := false, narrowed := true }
def BinaryBytesUptoSaid : Prop := binaryBytesUptoRow.holds Try.pinned (OpenSpec.upto binaryBytesSpec)

/-- 'tidegatelaw19.BinaryCuts', WHERE WHAT IT READS IS OF BULK AT MOST 1048576: true; the input reads as it did. -/
def binaryCutsUptoRow : OpenClaim := { program := "ytkkfbpbgidanoaa", sum := "dc8d4a77c54ebe42965abb5a14beac7eb93478aec296dfb94146ff50a9497a74", func := "tidegate/tidegatelaw19.BinaryCuts", spec := "binaryCuts", apart := false, narrowed := true }
def BinaryCutsUptoSaid : Prop := binaryCutsUptoRow.holds Try.pinned (OpenSpec.upto binaryCutsSpec)

/-- 'tidegatelaw19.BinaryTexts', WHERE WHAT IT READS IS OF BULK AT MOST 1048576: true; the input reads as it did. -/
def binaryTextsUptoRow : OpenClaim := { program := "ytkkfbpbgidanoaa", sum := "dc8d4a77c54ebe42965abb5a14beac7eb93478aec296dfb94146ff50a9497a74", func := "tidegate/tidegatelaw19.BinaryTexts", spec := "binaryTexts", inPlace := ["math.Float64frombits", "math.Float64bits"], apart := false, narrowed := true }
def BinaryTextsUptoSaid : Prop := binaryTextsUptoRow.holds Try.pinned (OpenSpec.upto binaryTextsSpec)

end Rows
end Go.Proofs.Ytkkfbpbgidanoaa
