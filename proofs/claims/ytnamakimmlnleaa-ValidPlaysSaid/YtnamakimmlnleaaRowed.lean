/-
  A slice of structs of one-cell fields that comes in: where its fields lie. No condition; nothing of the program stands here.
-/
import Derived.Test.YtnamakimmlnleaaAid
import Derived.ProofKit
import Derived.OpenShut
import Derived.Deep.Slices
import Derived.Deep.Fields
namespace Go.Proofs.Ytnamakimmlnleaa
open Go.ChangeShapes Go.WideShapes Go.RowKit Go.Deep
set_option linter.unusedVariables false

theorem rows_of {P : Program} {H : Type} {enc : TypeId × Value → H} {W : World} {t e : TypeId} {fs : Array Field} {a : Option Addr} {len cap : Nat} {d : DataW H} {p : List MemPlace}
    (ht : P.underlying t = some (.slice e)) (he : P.underlying e = some (.struct fs)) (hone : oneCellFields P fs = true) (hC : P.cellsOf e = fs.size) (hpos : 0 < fs.size)
    (h : DataW.Trod enc P W 0 (fun _ => true) true t (.slice a len cap) d p) :
    len ≤ maxLen ∧ ∀ j, j < len → ∃ b off, a = some ⟨b, off, none⟩ ∧ b < W.heap.size ∧ ∀ i f, fs[i]? = some f → ∃ v n y, W.cell? ⟨b, off + j * fs.size + i, none⟩ = some v ∧ DataW.trod enc P W 0 (fun _ => true) true n f.type [v] = some y := by
  obtain ⟨fuel, hf⟩ := h
  have hf' : DataW.trod enc P W 0 (fun _ => true) true fuel t [.slice a len cap] = some (d, p) := by simpa [Value.cells] using hf
  rcases open_slice ht hf' with ⟨h0, _⟩ | ⟨a', len', cap', m, n, D, Pl, hcs, hb, hl, hm, hmm, hx, hi⟩
  · simp at h0
    obtain ⟨_, rfl, _⟩ := h0
    exact ⟨Nat.zero_le _, fun j hj => absurd hj (by omega)⟩
  · simp at hcs
    obtain ⟨rfl, rfl, rfl⟩ := hcs
    rw [if_pos rfl] at hmm
    refine ⟨Nat.le_trans hl hm, fun j hj => ?_⟩
    have field : ∀ j, j < len → ∀ i f, fs[i]? = some f → ∃ v n y, W.cell? (a'.add (j * fs.size + i)) = some v ∧ DataW.trod enc P W 0 (fun _ => true) true n f.type [v] = some y := by
      intro j hj i f hif
      obtain ⟨cs', hc, htr⟩ := hi j (by omega)
      rw [hC] at hc
      obtain ⟨_, hcl, hat⟩ := World.cells?_some hc
      obtain ⟨ys, n', _, _, hlen, hyl, hfd⟩ := DataW.trod_struct he htr
      obtain ⟨ho, hk⟩ := hone_of hone i f hif
      have hil : i < fs.size := (Array.getElem?_eq_some_iff.1 hif).1
      have h1 := hfd i f hif
      have hci : i < cs'.length := by omega
      have hone' : (cs'.drop i).take 1 = [cs'[i]] := by
        rw [List.drop_eq_getElem_cons hci]
        rfl
      rw [ho, hk, hone'] at h1
      have hys : ys[i]? = some (ys[i]'(by omega)) := List.getElem?_eq_getElem (by omega)
      refine ⟨cs'[i], n', ys[i]'(by omega), ?_, h1.trans hys⟩
      rw [← Go.Deep.add_add, hat i hil]
      exact List.getElem?_eq_getElem hci
    obtain ⟨b, off, spot⟩ := a'
    have hf0 : ∃ f, fs[0]? = some f := ⟨fs[0], Array.getElem?_eq_getElem hpos⟩
    obtain ⟨f0, hf0⟩ := hf0
    obtain ⟨v0, _, _, hv0, _⟩ := field 0 (by omega) 0 f0 hf0
    have hspot : spot = none := by simpa [Addr.add] using World.cell?_spot hv0
    subst hspot
    refine ⟨b, off, rfl, ?_, fun i f hif => ?_⟩
    · have := lt_of_cell hv0
      rw [Go.WideShapes.add_plain] at this
      exact this
    · obtain ⟨v, n', y, hv, hy⟩ := field j hj i f hif
      refine ⟨v, n', y, ?_, hy⟩
      rw [Go.WideShapes.add_plain] at hv
      rw [Nat.add_assoc]
      exact hv
end Go.Proofs.Ytnamakimmlnleaa
