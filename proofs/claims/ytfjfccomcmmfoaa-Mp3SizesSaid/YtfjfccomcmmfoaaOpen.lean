/-
  Layer 18 (mp3): a frame that comes in, taken apart into its five fields. No condition.
-/
import Derived.Test.YtfjfccomcmmfoaaLaws
import Derived.ProofKit
import Derived.OpenShut
namespace Go.Proofs.Ytfjfccomcmmfoaa
open Go.ChangeShapes Go.WideShapes Go.RowKit

theorem five (l : List Value) (h : l.length = 5) : ∃ a b c d e, l = [a, b, c, d, e] := by
  match l, h with
  | [a, b, c, d, e], _ => exact ⟨a, b, c, d, e, rfl⟩

theorem open_frame {H : Type} {enc : TypeId × Value → H} {W : World} {base : Nat} {v : Value} {d : DataW H} {p : List MemPlace}
    (hv : Value.okWide Try.prog W .any base 24 v) (h : DataW.Trod enc Try.prog W 0 (fun _ => true) true 24 v d p) :
    ∃ (a b c e : Int) (f : Bool), v = .agg #[.int .i64 a, .int .i64 b, .int .i64 c, .int .i64 e, .bool f] ∧ (Lit.int .i64 c).wf = true := by
  obtain ⟨cs, rfl, hsz⟩ := okWide_struct Try.underlying24 hv
  obtain ⟨l⟩ := cs
  obtain ⟨v0, v1, v2, v3, v4, rfl⟩ := five l (hsz.trans (by kernel_rfl))
  obtain ⟨fuel, hf⟩ := h
  obtain ⟨xs, n, _, _, _, hlen, hg⟩ := DataW.trod_struct Try.underlying24 hf
  obtain ⟨x0, x1, x2, x3, x4, rfl⟩ : ∃ a b c d e, xs = [a, b, c, d, e] := by
    match xs, hlen with
    | [a, b, c, d, e], _ => exact ⟨a, b, c, d, e, rfl⟩
  have hc3 : Try.prog.cellsOf 3 = 1 := by kernel_rfl
  have hc4 : Try.prog.cellsOf 4 = 1 := by kernel_rfl
  have g0 := hg 0 _ rfl
  have g1 := hg 1 _ rfl
  have g2 := hg 2 _ rfl
  have g3 := hg 3 _ rfl
  have g4 := hg 4 _ rfl
  simp [hc3, hc4, Value.cells] at g0 g1 g2 g3 g4
  obtain ⟨a, e0, _, _⟩ := DataW.trod_int Try.underlying3 g0
  obtain ⟨b, e1, _, _⟩ := DataW.trod_int Try.underlying3 g1
  obtain ⟨c, e2, _, wc⟩ := DataW.trod_int Try.underlying3 g2
  obtain ⟨e, e3, _, _⟩ := DataW.trod_int Try.underlying3 g3
  obtain ⟨f, e4, _⟩ := DataW.trod_bool Try.underlying4 g4

  simp at e0 e1 e2 e3 e4
  subst e0 e1 e2 e3 e4
  exact ⟨_, _, _, _, _, rfl, wc⟩

theorem sizes_open {H : Type} {enc : TypeId × Value → H} {base : Nat} {d : DataW H} {p : List MemPlace} (v : Value) (W : World)
    (hv : Value.okWide Try.prog W .any base 24 v) (h : DataW.Trod enc Try.prog W 0 (fun _ => true) true 24 v d p) (_lt : ∀ x ∈ p, x.block < W.heap.size) :
    Calls Try.prog 4 #[v] W fun e w' => e = .returned (.bool true) ∧ Below W.heap.size W w' := by
  obtain ⟨a, b, c, e, f, rfl, wc⟩ := open_frame hv h
  exact sizes_walk a b c e f W wc
end Go.Proofs.Ytfjfccomcmmfoaa
