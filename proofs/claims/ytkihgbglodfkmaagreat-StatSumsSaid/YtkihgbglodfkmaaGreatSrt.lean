/-
  Layer 41: floats sorted by their places: the comparer, and that any two sorted rows of the same numbers have the same places one behind the other. No condition.
-/
import Derived.Test.YtkihgbglodfkmaaGreatFlCmp
import Derived.Test.YtkihgbglodfkmaaGreatShelf
import Derived.Test.YtkihgbglodfkmaaGreatMany
namespace Go.Proofs.YtkihgbglodfkmaaGreat
open Go.RowKit Go.Sort
set_option linter.unusedVariables false

abbrev Fl := { b : Nat // b < W64 }
instance : Inhabited Fl := ⟨⟨0, by decide +kernel⟩⟩
def fenc (x : Fl) : Value := .float .f64 x.1
def fcf (x y : Fl) : Int := cmpI x.1 y.1
theorem fone : OneCell fenc := fun _ => rfl
theorem flt (x y : Fl) : ltOf fcf x y = decide (placeN x.1 < placeN y.1) := by
  unfold ltOf fcf cmpI
  by_cases h : placeN x.1 < placeN y.1
  · rw [if_pos h, decide_eq_true h]
    rfl
  · rw [if_neg h, decide_eq_false h]
    split <;> rfl
theorem fswo : SWO (ltOf fcf) where
  irrefl x := by rw [flt]; simp
  trans x y z h1 h2 := by rw [flt] at *; simp at *; omega
  ntrans x y z h1 h2 := by rw [flt] at *; simp at *; omega
theorem fcmp (blk off size : Nat) (w : World) : CmpReads Tryz.prog 51 #[] fenc fcf blk off size w := fun m os dk _ x y =>
  (Cmp_any x.1 y.1 x.2 y.2 _).mono fun _ _ h => ⟨h.1, 0, h.2.symm⟩

/-- Two rising lists of the same numbers are one. -/
theorem rising_is {l m : List Nat} (hp : l.Perm m) (hl : l.Pairwise (· ≤ ·)) (hm : m.Pairwise (· ≤ ·)) : l = m :=
  List.Perm.eq_of_pairwise (le := fun a b : Nat => a ≤ b) (fun a b _ _ h1 h2 => Nat.le_antisymm h1 h2) hl hm hp

/-- The places of a row that was sorted rise. -/
theorem sorted_rise (d : Array Fl) (hs : SortedIn (ltOf fcf) 0 d.size d) : (d.toList.map fun x => placeN x.1).Pairwise (· ≤ ·) := by
  rw [List.pairwise_map, List.pairwise_iff_getElem]
  intro i j hi hj hij
  have hi' : i < d.size := by simpa using hi
  have hj' : j < d.size := by simpa using hj
  have := hs i j (Nat.zero_le _) hij hj'
  rw [flt, getElem!_pos d i hi', getElem!_pos d j hj'] at this
  have := of_decide_eq_false this
  simp only [Array.getElem_toList]
  omega

/-- The row behind the sort. -/
theorem sorted_row {w : World} {B g cap n : Nat} {d0 d' : Array Fl} {os : Array Obj} {cur : Array Value} (hH : Holds fenc w g 0 d0) (hs : d'.size = d0.size) (hb : w.heap[g]? = some (.cells cur 40 (0, 0))) (hB : B ≤ g)
    (h1 : d0.size ≤ cap) (h2 : cap ≤ maxLen) (h3 : cap ≤ cur.size) :
    Row (sortWorld fenc w g 0 n d' os) B 40 (.slice (some ⟨g, 0, none⟩) d0.size cap) d0.size (d'.toList.map fenc) := by
  have hlt := blk_lt hb
  have hblk : (sortWorld fenc w g 0 n d' os).heap[g]? = some (.cells (putCells fenc 0 d' cur) 40 (0, 0)) := by
    unfold sortWorld
    rw [heap_grow_old _ _ (by show g < (w.heap.modify g _).size; simpa using hlt)]
    unfold putRow mapBlock Sort.ahead
    simp [Array.getElem?_modify, hb, onCells]
  refine ⟨by simp [hs], .inr ⟨g, 0, cap, _, rfl, hB, hblk, h1, h2, ?_, fun j u hu => ?_⟩⟩
  · unfold putCells
    simpa using h3
  · have hj : j < d'.size := by
      rcases Nat.lt_or_ge j d'.size with h | h
      · exact h
      · rw [List.getElem?_eq_none (by simpa using h)] at hu
        cases hu
    rw [List.getElem?_map, List.getElem?_eq_getElem (by simpa using hj)] at hu
    have hc := cell?_putRow fenc (Sort.ahead w n) g 0 d0 d' hH hs j hj
    rw [getElem!_pos d' j hj] at hc
    have hb' : (putRow fenc (Sort.ahead w n) g 0 d').heap[g]? = some (.cells (putCells fenc 0 d' cur) 40 (0, 0)) := by
      unfold putRow mapBlock Sort.ahead
      simp [Array.getElem?_modify, hb, onCells]
    rw [cell_of_row _ g _ _ _ _ hb'] at hc
    rw [hc]
    simpa using hu

theorem sorted_other {w : World} {g n k : Nat} {d' : Array Fl} {os : Array Obj} (hk : k < w.heap.size) (hne : k ≠ g) : (sortWorld fenc w g 0 n d' os).heap[k]? = w.heap[k]? := by
  unfold sortWorld
  rw [heap_grow_old _ _ (by show k < (w.heap.modify g _).size; simpa using hk)]
  unfold putRow mapBlock Sort.ahead
  simp [Array.getElem?_modify, Ne.symm hne]
theorem sorted_below {w : World} {B g n : Nat} {d' : Array Fl} {os : Array Obj} (hB : B ≤ g) (hg : g < w.heap.size) : RowKit.Below B w (sortWorld fenc w g 0 n d' os) := by
  refine ⟨rfl, rfl, rfl, ?_, fun k hk => sorted_other (by omega) (by omega)⟩
  unfold sortWorld putRow mapBlock Sort.ahead grow
  simp

end Go.Proofs.YtkihgbglodfkmaaGreat
