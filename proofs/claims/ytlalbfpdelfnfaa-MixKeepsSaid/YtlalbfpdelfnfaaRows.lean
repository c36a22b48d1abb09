/-
  No cell of these rows narrows 'for every input' (looked for: loops, veiled, ifaces, maps, wideKeys, modest, calm, conditions, laid).
  DERIVED. THE GIVEN ROWS OF THIS SEAT. 3 by the template 'for every input the law returns true; each argument reads behind the call as it read before'; 0 by the template 'total and deterministic' (their statements: YtlalbfpdelfnfaaTotals.lean).
  GIVEN WITH THE SEED: the statements are not yours to turn. If you find one false, say at which input.
  Laid BY PROGRAM, IN A SANDBOX (cutbox-rows.mjs): the forced cells as the released guide's own fill.sh prints them over the translation 4ca7dc7b0f4dc77e… (all of the seat's roots in one cut). By AI agents, Wed Nov 11 2026. No macro, syntax, notation, axiom, sorry.
-/
import Derived.Test.YtlalbfpdelfnfaaChecked
import GoSem.Claim
import GoSem.ClaimJoined
import GoSem.ClaimMapViews
import Derived.JoinedTies
import Derived.KernelRfl
namespace Go.Proofs.Ytlalbfpdelfnfaa
/- THE CELL 'sum', in the pinned program and in every row, IS THE sha256 OF THE DUMP (.gsa) THAT YtlalbfpdelfnfaaProg.lean LOADS. Nothing in Lean hashes anything: it is a label: what it is worth is what the hold of that sum in a sandbox is worth. -/
noncomputable def Try.pinned : Pinned := { name := "ytlalbfpdelfnfaa", sum := "4ca7dc7b0f4dc77e3ab9f40d0bceffc465fee88b9e06be0ded020c4aae4ab018", checked := Try.checked }
namespace Rows
def none {H : Type} : Left H := { results := [], args := [] }

/-- 'tidegatelaw43.MixKeeps': WHATEVER THE INPUT: true; the input reads as it did. -/
def mixKeepsSpec : ChangeSpec := { name := "mixKeeps", fn := fun _ => fun
  | [d1, d2] => { results := [.lit (.bool true)], args := [d1, d2] }
  | _ => none }
def mixKeepsRow : OpenClaim := { program := "ytlalbfpdelfnfaa", sum := "4ca7dc7b0f4dc77e3ab9f40d0bceffc465fee88b9e06be0ded020c4aae4ab018", func := "tidegate/tidegatelaw43.MixKeeps", spec := "mixKeeps", inPlace := ["internal/abi.NoEscape"], unfollowed := true, recurses := true, apart := false }
def MixKeepsSaid : Prop := mixKeepsRow.holds Try.pinned (OpenSpec.ofChange mixKeepsSpec)

/-- ITS FALSE NEIGHBOUR: 'it returns false'. Refute it at one input. -/
def mixKeepsWrong : ChangeSpec := { name := "mixKeeps", fn := fun _ => fun
  | [d1, d2] => { results := [.lit (.bool false)], args := [d1, d2] }
  | _ => none }
def MixKeepsWrongFalsely : Prop := mixKeepsRow.holds Try.pinned (OpenSpec.ofChange mixKeepsWrong)

/-- 'tidegatelaw43.MixMerges': WHATEVER THE INPUT: true; the input reads as it did. -/
def mixMergesSpec : ChangeSpec := { name := "mixMerges", fn := fun _ => fun
  | [d1, d2, d3] => { results := [.lit (.bool true)], args := [d1, d2, d3] }
  | _ => none }
def mixMergesRow : OpenClaim := { program := "ytlalbfpdelfnfaa", sum := "4ca7dc7b0f4dc77e3ab9f40d0bceffc465fee88b9e06be0ded020c4aae4ab018", func := "tidegate/tidegatelaw43.MixMerges", spec := "mixMerges", inPlace := ["internal/abi.NoEscape"], unfollowed := true, recurses := true, apart := false }
def MixMergesSaid : Prop := mixMergesRow.holds Try.pinned (OpenSpec.ofChange mixMergesSpec)

/-- ITS FALSE NEIGHBOUR: 'it returns false'. Refute it at one input. -/
def mixMergesWrong : ChangeSpec := { name := "mixMerges", fn := fun _ => fun
  | [d1, d2, d3] => { results := [.lit (.bool false)], args := [d1, d2, d3] }
  | _ => none }
def MixMergesWrongFalsely : Prop := mixMergesRow.holds Try.pinned (OpenSpec.ofChange mixMergesWrong)

/-- 'tidegatelaw43.MixParts': WHATEVER THE INPUT: true; the input reads as it did. -/
def mixPartsSpec : ChangeSpec := { name := "mixParts", fn := fun _ => fun
  | [d1, d2, d3] => { results := [.lit (.bool true)], args := [d1, d2, d3] }
  | _ => none }
def mixPartsRow : OpenClaim := { program := "ytlalbfpdelfnfaa", sum := "4ca7dc7b0f4dc77e3ab9f40d0bceffc465fee88b9e06be0ded020c4aae4ab018", func := "tidegate/tidegatelaw43.MixParts", spec := "mixParts", inPlace := ["internal/abi.NoEscape"], unfollowed := true, recurses := true, apart := false }
def MixPartsSaid : Prop := mixPartsRow.holds Try.pinned (OpenSpec.ofChange mixPartsSpec)

/-- ITS FALSE NEIGHBOUR: 'it returns false'. Refute it at one input. -/
def mixPartsWrong : ChangeSpec := { name := "mixParts", fn := fun _ => fun
  | [d1, d2, d3] => { results := [.lit (.bool false)], args := [d1, d2, d3] }
  | _ => none }
def MixPartsWrongFalsely : Prop := mixPartsRow.holds Try.pinned (OpenSpec.ofChange mixPartsWrong)

/- THE SECOND FORM. 'bulk': how many values and letters a reading holds, each counted each time it is reached (what is shared counts as often as it is met; a slice's spare places count too). A statement '..UptoSaid' is the law's where the arguments, and the package variables that the reading takes, are together of bulk at most 1048576: NARROWER than '..Said'. Prove '..Said' where nothing that the law and all that it calls make is longer than what came in: it says more and counts as full. Else prove '..UptoSaid'. A law counts once. -/
mutual
def uptoBulk {H : Type} : DataW H → Nat
  | .lit (.string bytes) => bytes.length + 1
  | .lit _ => 1
  | .nil => 1
  | .ptr d => uptoBulk d + 1
  | .slice elems spare => uptoBulkAll elems + uptoBulkAll spare + 1
  | .agg parts => uptoBulkAll parts + 1
  | .iface _ d => uptoBulk d + 1
  | .map entries => uptoBulkEntries entries + 1
  | .held _ => 1
def uptoBulkAll {H : Type} : List (DataW H) → Nat
  | [] => 0
  | d :: r => uptoBulk d + uptoBulkAll r
def uptoBulkEntries {H : Type} : List (Lit × DataW H) → Nat
  | [] => 0
  | x :: r => uptoBulkEntry x + uptoBulkEntries r
def uptoBulkEntry {H : Type} : Lit × DataW H → Nat
  | (.string bytes, d) => bytes.length + uptoBulk d + 1
  | (_, d) => uptoBulk d + 1
 end
def uptoSmall : (H : Type) → List (DataW H) → Bool := fun _ ds => decide (uptoBulkAll ds ≤ 1048576)
def OpenSpec.upto (s : _root_.Go.ChangeSpec) : _root_.Go.OpenSpec := { _root_.Go.OpenSpec.ofChange s with cond := some uptoSmall }

/-- 'tidegatelaw43.MixKeeps', WHERE WHAT IT READS IS OF BULK AT MOST 1048576: true; the input reads as it did. -/
def mixKeepsUptoRow : OpenClaim := { program := "ytlalbfpdelfnfaa", sum := "4ca7dc7b0f4dc77e3ab9f40d0bceffc465fee88b9e06be0ded020c4aae4ab018", func := "tidegate/tidegatelaw43.MixKeeps", spec := "mixKeeps", inPlace := ["internal/abi.NoEscape"], unfollowed := true, recurses := true, apart := false, narrowed := true }
def MixKeepsUptoSaid : Prop := mixKeepsUptoRow.holds Try.pinned (OpenSpec.upto mixKeepsSpec)

/-- 'tidegatelaw43.MixMerges', WHERE WHAT IT READS IS OF BULK AT MOST 1048576: true; the input reads as it did. -/
def mixMergesUptoRow : OpenClaim := { program := "ytlalbfpdelfnfaa", sum := "4ca7dc7b0f4dc77e3ab9f40d0bceffc465fee88b9e06be0ded020c4aae4ab018", func := "tidegate/tidegatelaw43.MixMerges", spec := "mixMerges", inPlace := ["internal/abi.NoEscape"], unfollowed := true, recurses := true, apart := false, narrowed := true }
def MixMergesUptoSaid : Prop := mixMergesUptoRow.holds Try.pinned (OpenSpec.upto mixMergesSpec)

/-- 'tidegatelaw43.MixParts', WHERE WHAT IT READS IS OF BULK AT MOST 1048576: true; the input reads as it did. -/
def mixPartsUptoRow : OpenClaim := { program := "ytlalbfpdelfnfaa", sum := "4ca7dc7b0f4dc77e3ab9f40d0bceffc465fee88b9e06be0ded020c4aae4ab018", func := "tidegate/tidegatelaw43.MixParts", spec := "mixParts", inPlace := ["internal/abi.NoEscape"], unfollowed := true, recurses := true, apart := false, narrowed := true }
def MixPartsUptoSaid : Prop := mixPartsUptoRow.holds Try.pinned (OpenSpec.upto mixPartsSpec)

end Rows
end Go.Proofs.Ytlalbfpdelfnfaa
