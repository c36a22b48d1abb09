/-
  No cell of these rows narrows 'for every input' (looked for: loops, veiled, ifaces, maps, wideKeys, modest, calm, conditions, laid).
  DERIVED. THE GIVEN ROWS OF THIS SEAT. 3 by the template 'for every input the law returns true; each argument reads behind the call as it read before'; 0 by the template 'total and deterministic' (their statements: YtnamakimmlnleaaTotals.lean).
  GIVEN WITH THE SEED: the statements are not yours to turn. If you find one false, say at which input.
  Laid BY PROGRAM, IN A SANDBOX (cutbox-rows.mjs): the forced cells as the released guide's own fill.sh prints them over the translation b6dc4752cc97bf15… (all of the seat's roots in one cut). By AI agents, Wed Nov 11 2026. No macro, syntax, notation, axiom, sorry.
-/
import Derived.Test.YtnamakimmlnleaaChecked
import GoSem.Claim
import GoSem.ClaimJoined
import GoSem.ClaimMapViews
import Derived.JoinedTies
import Derived.KernelRfl
namespace Go.Proofs.Ytnamakimmlnleaa
/- THE CELL 'sum', in the pinned program and in every row, IS THE sha256 OF THE DUMP (.gsa) THAT YtnamakimmlnleaaProg.lean LOADS. Nothing in Lean hashes anything: it is a label: what it is worth is what the hold of that sum in a sandbox is worth. -/
noncomputable def Try.pinned : Pinned := { name := "ytnamakimmlnleaa", sum := "b6dc4752cc97bf1549836962864fabd2fccb2f8d1472ebe7cd33cccaad32abab", checked := Try.checked }
namespace Rows
def none {H : Type} : Left H := { results := [], args := [] }

/-- 'tidegatelaw34.ValidLast': WHATEVER THE INPUT: true; the input reads as it did. -/
def validLastSpec : ChangeSpec := { name := "validLast", fn := fun _ => fun
  | [d1, d2] => { results := [.lit (.bool true)], args := [d1, d2] }
  | _ => none }
def validLastRow : OpenClaim := { program := "ytnamakimmlnleaa", sum := "b6dc4752cc97bf1549836962864fabd2fccb2f8d1472ebe7cd33cccaad32abab", func := "tidegate/tidegatelaw34.ValidLast", spec := "validLast", unfollowed := true, recurses := true, apart := false }
def ValidLastSaid : Prop := validLastRow.holds Try.pinned (OpenSpec.ofChange validLastSpec)

/-- ITS FALSE NEIGHBOUR: 'it returns false'. Refute it at one input. -/
def validLastWrong : ChangeSpec := { name := "validLast", fn := fun _ => fun
  | [d1, d2] => { results := [.lit (.bool false)], args := [d1, d2] }
  | _ => none }
def ValidLastWrongFalsely : Prop := validLastRow.holds Try.pinned (OpenSpec.ofChange validLastWrong)

/-- 'tidegatelaw34.ValidPlays': WHATEVER THE INPUT: true; the input reads as it did. -/
def validPlaysSpec : ChangeSpec := { name := "validPlays", fn := fun _ => fun
  | [d1, d2, d3] => { results := [.lit (.bool true)], args := [d1, d2, d3] }
  | _ => none }
def validPlaysRow : OpenClaim := { program := "ytnamakimmlnleaa", sum := "b6dc4752cc97bf1549836962864fabd2fccb2f8d1472ebe7cd33cccaad32abab", func := "tidegate/tidegatelaw34.ValidPlays", spec := "validPlays", unfollowed := true, recurses := true, apart := false }
def ValidPlaysSaid : Prop := validPlaysRow.holds Try.pinned (OpenSpec.ofChange validPlaysSpec)

/-- ITS FALSE NEIGHBOUR: 'it returns false'. Refute it at one input. -/
def validPlaysWrong : ChangeSpec := { name := "validPlays", fn := fun _ => fun
  | [d1, d2, d3] => { results := [.lit (.bool false)], args := [d1, d2, d3] }
  | _ => none }
def ValidPlaysWrongFalsely : Prop := validPlaysRow.holds Try.pinned (OpenSpec.ofChange validPlaysWrong)

/-- 'tidegatelaw34.ValidNone': WHATEVER THE INPUT: true; the input reads as it did. -/
def validNoneSpec : ChangeSpec := { name := "validNone", fn := fun _ => fun
  | [d] => { results := [.lit (.bool true)], args := [d] }
  | _ => none }
def validNoneRow : OpenClaim := { program := "ytnamakimmlnleaa", sum := "b6dc4752cc97bf1549836962864fabd2fccb2f8d1472ebe7cd33cccaad32abab", func := "tidegate/tidegatelaw34.ValidNone", spec := "validNone", unfollowed := true, recurses := true, apart := false }
def ValidNoneSaid : Prop := validNoneRow.holds Try.pinned (OpenSpec.ofChange validNoneSpec)

/-- ITS FALSE NEIGHBOUR: 'it returns false'. Refute it at one input. -/
def validNoneWrong : ChangeSpec := { name := "validNone", fn := fun _ => fun
  | [d] => { results := [.lit (.bool false)], args := [d] }
  | _ => none }
def ValidNoneWrongFalsely : Prop := validNoneRow.holds Try.pinned (OpenSpec.ofChange validNoneWrong)

/- THE SECOND FORM. 'bulk': how many values and letters a reading holds, each counted each time it is reached (what is shared counts as often as it is met; a slice's spare places count too). A statement '..UptoSaid' is the law's where the arguments, and the package variables that the reading takes, are together of bulk at most 1048576: NARROWER than '..Said'. Prove '..Said' where nothing that the law and all that it calls make is longer than what came in: it says more and counts as full. Else prove '..UptoSaid'. A law counts once. -/
mutual
def uptoBulk {H : Type} : DataW H → Nat
  | .lit (.string bytes) => bytes.length + 1
  | .lit _ => 1
  | .nil => 1
  | .ptr d => uptoBulk d + 1
  | .slice elems spare => uptoBulkAll elems + uptoBulkAll spare + 1
  | .agg parts => uptoBulkAll parts + 1
  | .iface _ d => uptoBulk d + 1
  | .map entries => uptoBulkEntries entries + 1
  | .held _ => 1
def uptoBulkAll {H : Type} : List (DataW H) → Nat
  | [] => 0
  | d :: r => uptoBulk d + uptoBulkAll r
def uptoBulkEntries {H : Type} : List (Lit × DataW H) → Nat
  | [] => 0
  | x :: r => uptoBulkEntry x + uptoBulkEntries r
def uptoBulkEntry {H : Type} : Lit × DataW H → Nat
  | (.string bytes, d) => bytes.length + uptoBulk d + 1
  | (_, d) => uptoBulk d + 1
 end
def uptoSmall : (H : Type) → List (DataW H) → Bool := fun _ ds => decide (uptoBulkAll ds ≤ 1048576)
def OpenSpec.upto (s : _root_.Go.ChangeSpec) : _root_.Go.OpenSpec := { _root_.Go.OpenSpec.ofChange s with cond := some uptoSmall }

/-- 'tidegatelaw34.ValidLast', WHERE WHAT IT READS IS OF BULK AT MOST 1048576: true; the input reads as it did. -/
def validLastUptoRow : OpenClaim := { program := "ytnamakimmlnleaa", sum := "b6dc4752cc97bf1549836962864fabd2fccb2f8d1472ebe7cd33cccaad32abab", func := "tidegate/tidegatelaw34.ValidLast", spec := "validLast", unfollowed := true, recurses := true, apart := false, narrowed := true }
def ValidLastUptoSaid : Prop := validLastUptoRow.holds Try.pinned (OpenSpec.upto validLastSpec)

/-- 'tidegatelaw34.ValidPlays', WHERE WHAT IT READS IS OF BULK AT MOST 1048576: true; the input reads as it did. -/
def validPlaysUptoRow : OpenClaim := { program := "ytnamakimmlnleaa", sum := "b6dc4752cc97bf1549836962864fabd2fccb2f8d1472ebe7cd33cccaad32abab", func := "tidegate/tidegatelaw34.ValidPlays", spec := "validPlays", unfollowed := true, recurses := true, apart := false, narrowed := true }
def ValidPlaysUptoSaid : Prop := validPlaysUptoRow.holds Try.pinned (OpenSpec.upto validPlaysSpec)

/-- 'tidegatelaw34.ValidNone', WHERE WHAT IT READS IS OF BULK AT MOST 1048576: true; the input reads as it did. -/
def validNoneUptoRow : OpenClaim := { program := "ytnamakimmlnleaa", sum := "b6dc4752cc97bf1549836962864fabd2fccb2f8d1472ebe7cd33cccaad32abab", func := "tidegate/tidegatelaw34.ValidNone", spec := "validNone", unfollowed := true, recurses := true, apart := false, narrowed := true }
def ValidNoneUptoSaid : Prop := validNoneUptoRow.holds Try.pinned (OpenSpec.upto validNoneSpec)

end Rows
end Go.Proofs.Ytnamakimmlnleaa
