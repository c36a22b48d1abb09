/-
  Layer 18 (mp3): the law on frames laid one behind the other, walked: its pairs of bytes come in.
-/
import Derived.Test.YtfjfccomcmmfoaaJoined
import Derived.ProofKit
import Derived.OpenShut
import Derived.Deep.Slices
namespace Go.Proofs.Ytfjfccomcmmfoaa
open Go.ChangeShapes Go.WideShapes Go.RowKit Go.Deep
set_option linter.unusedVariables false

theorem byte_of {n : Int} (h : (Lit.int .u8 n).wf = true) : ∃ x : UInt8, n = (x.toNat : Int) := by
  obtain ⟨m, rfl, hm⟩ := u8_of n h
  exact ⟨UInt8.ofNat m, by simp; omega⟩

theorem pairs_of {H : Type} {enc : TypeId × Value → H} {W : World} {a : Option Addr} {len cap : Nat} {d : DataW H} {p : List MemPlace} (h : DataW.Trod enc Try.prog W 0 (fun _ => true) true 32 (.slice a len cap) d p) : Pairs W a len := by
  obtain ⟨fuel, hf⟩ := h
  have hf' : DataW.trod enc Try.prog W 0 (fun _ => true) true fuel 32 [.slice a len cap] = some (d, p) := by simpa [Value.cells] using hf
  have hC : Try.prog.cellsOf 34 = 2 := by kernel_rfl
  have hC1 : Try.prog.cellsOf 5 = 1 := by kernel_rfl
  rcases open_slice Try.underlying32 hf' with ⟨h0, _⟩ | ⟨a', len', cap', m, n, D, Pl, hcs, hb, hl, hm, hmm, hx, hi⟩
  · simp at h0
    obtain ⟨_, rfl, _⟩ := h0
    exact ⟨Nat.zero_le _, fun j hj => absurd hj (by omega)⟩
  · simp at hcs
    obtain ⟨rfl, rfl, rfl⟩ := hcs
    rw [if_pos rfl] at hmm
    refine ⟨Nat.le_trans hl hm, fun j hj => ?_⟩
    have field : ∀ j, j < len → ∀ i, i < 2 → ∃ x : UInt8, W.cell? (a'.add (j * 2 + i)) = some (.int .u8 x.toNat) := by
      intro j hj i hi2
      obtain ⟨cs', hc, htr⟩ := hi j (by omega)
      rw [hC] at hc
      obtain ⟨_, hcl, hat⟩ := World.cells?_some hc
      obtain ⟨ys, n', _, _, _, hyl, hfd⟩ := DataW.trod_array Try.underlying34 htr
      have h1 := hfd i hi2
      have hci : i < cs'.length := by omega
      have hone' : (cs'.drop i).take 1 = [cs'[i]] := by
        rw [List.drop_eq_getElem_cons hci]
        rfl
      rw [hC1, Nat.mul_one, hone'] at h1
      have hys : ys[i]? = some (ys[i]'(by omega)) := List.getElem?_eq_getElem (by omega)
      obtain ⟨k, e0, _, hw⟩ := DataW.trod_int Try.underlying5 (h1.trans hys)
      obtain ⟨x, rfl⟩ := byte_of hw
      refine ⟨x, ?_⟩
      rw [← Go.Deep.add_add, hat i hi2, List.getElem?_eq_getElem hci]
      simp at e0
      rw [e0]
    obtain ⟨b, off, spot⟩ := a'
    obtain ⟨x0, hx0⟩ := field 0 (by omega) 0 (by omega)
    have hspot : spot = none := by simpa [Addr.add] using World.cell?_spot hx0
    subst hspot
    obtain ⟨x, hx'⟩ := field j hj 0 (by omega)
    obtain ⟨y, hy'⟩ := field j hj 1 (by omega)
    rw [Go.WideShapes.add_plain] at hx' hy' hx0
    refine ⟨b, off, x, y, rfl, lt_of_cell (p := ⟨b, _, none⟩) hx0, hx', ?_⟩
    rw [Nat.add_assoc]
    exact hy'

theorem joined_walk {H : Type} {enc : TypeId × Value → H} {d : DataW H} {p : List MemPlace} (a : Option Addr) (len cap : Nat) (w : World)
    (h : DataW.Trod enc Try.prog w 0 (fun _ => true) true 32 (.slice a len cap) d p) (_ : ∀ x ∈ p, x.block < w.heap.size) :
    Calls Try.prog 5 #[.slice a len cap] w fun e w' => e = .returned (.bool true) ∧ Below w.heap.size w w' :=
  joined_core a len cap w (pairs_of h)
end Go.Proofs.Ytfjfccomcmmfoaa
