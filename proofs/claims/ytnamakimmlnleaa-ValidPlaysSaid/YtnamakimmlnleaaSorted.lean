/-
  Keys with their numbers, in whatever order, sorted by their numbers: plain lists, and the row that holds them. No condition.
-/
import Derived.Test.YtnamakimmlnleaaNone
import Derived.Test.YtnamakimmlnleaaRow
import Derived.Test.YtnamakimmlnleaaShelf
import Derived.Test.YtnamakimmlnleaaIter
namespace Go.Proofs.Ytnamakimmlnleaa
open Go.RowKit Go.ChangeMaps Go.Sort
set_option linter.unusedVariables false

theorem perm_map_inv {α β : Type} {f : α → β} {l1 l2 : List β} (h : l1.Perm l2) : ∀ L : List α, l2 = L.map f → ∃ M : List α, M.Perm L ∧ M.map f = l1 := by
  induction h with
  | nil =>
    intro L hL
    obtain rfl := List.map_eq_nil_iff.1 hL.symm
    exact ⟨[], List.Perm.refl _, rfl⟩
  | cons x h ih =>
    intro L hL
    obtain ⟨p, t, rfl, rfl, ht⟩ := List.map_eq_cons_iff.1 hL.symm
    obtain ⟨M, hM, rfl⟩ := ih t ht.symm
    exact ⟨p :: M, hM.cons p, rfl⟩
  | swap x y l =>
    intro L hL
    obtain ⟨p, t, rfl, rfl, ht⟩ := List.map_eq_cons_iff.1 hL.symm
    obtain ⟨q, t2, rfl, rfl, ht2⟩ := List.map_eq_cons_iff.1 ht
    subst ht2
    exact ⟨q :: p :: t2, List.Perm.swap p q t2, rfl⟩
  | trans h1 h2 ih1 ih2 =>
    intro L hL
    obtain ⟨M2, hM2, rfl⟩ := ih2 L hL
    obtain ⟨M1, hM1, e⟩ := ih1 M2 rfl
    exact ⟨M1, hM1.trans hM2, e⟩

/-- A key that is there. -/
abbrev Key (L : List (ByteArray × Nat)) := { p : ByteArray × Nat // p ∈ L }
def kenc {L : List (ByteArray × Nat)} (x : Key L) : Value := .string x.1.1
def kcf {L : List (ByteArray × Nat)} (x y : Key L) : Int := (x.1.2 : Int) - y.1.2
theorem kone {L : List (ByteArray × Nat)} : OneCell (kenc (L := L)) := fun _ => rfl
theorem klt {L : List (ByteArray × Nat)} (x y : Key L) : ltOf kcf x y = decide (x.1.2 < y.1.2) := by
  unfold ltOf kcf
  by_cases h : x.1.2 < y.1.2
  · rw [decide_eq_true h, decide_eq_true (by omega)]
  · rw [decide_eq_false h, decide_eq_false (by omega)]
theorem kswo {L : List (ByteArray × Nat)} : SWO (ltOf (kcf (L := L))) where
  irrefl x := by rw [klt]; simp
  trans x y z h1 h2 := by rw [klt] at *; simp at *; omega
  ntrans x y z h1 h2 := by rw [klt] at *; simp at *; omega

/-- What is sorted is the list. -/
theorem sorted_is {D : DataW Nat} {L : List (ByteArray × Nat)} {next : Nat} (hK : Kept D L next) [Inhabited (Key L)] (d d' : Array (Key L)) (hd : (d.toList.map Subtype.val).Perm L) (hp : PermIn 0 d.size d d') (hs : SortedIn (ltOf kcf) 0 d.size d') :
    d'.toList.map Subtype.val = L := by
  obtain ⟨h1, _, h3⟩ := hp
  have e1 : d'.extract 0 d.size = d' := by rw [← h1]; simp
  rw [e1, Array.extract_size] at h3
  refine List.Perm.eq_of_pairwise (le := fun p q : ByteArray × Nat => p.2 ≤ q.2) (fun a b ha hb h1 h2 => hK.same ?_ hb (by omega)) ?_ (hK.up.imp fun h => Nat.le_of_lt h) ((h3.map _).trans hd)
  · obtain ⟨x, _, rfl⟩ := List.mem_map.1 ha
    exact x.2
  · rw [List.pairwise_map, List.pairwise_iff_getElem]
    intro i j hi hj hij
    have hi' : i < d'.size := by simpa using hi
    have hj' : j < d'.size := by simpa using hj
    have := hs i j (Nat.zero_le _) hij (by omega)
    rw [klt, getElem!_pos d' i hi', getElem!_pos d' j hj'] at this
    have := of_decide_eq_false this
    simp only [Array.getElem_toList]
    omega

/-- The row behind the sort. -/
theorem sorted_row {L : List (ByteArray × Nat)} [Inhabited (Key L)] {w : World} {B g cap n : Nat} {d0 d' : Array (Key L)} {os : Array Obj} {cur : Array Value} (hH : Holds kenc w g 0 d0) (hs : d'.size = d0.size) (hb : w.heap[g]? = some (.cells cur 9 (0, 0))) (hB : B ≤ g)
    (h1 : d0.size ≤ cap) (h2 : cap ≤ maxLen) (h3 : cap ≤ cur.size) :
    Row (sortWorld kenc w g 0 n d' os) B 9 (.slice (some ⟨g, 0, none⟩) d0.size cap) d0.size (d'.toList.map kenc) := by
  have hlt := blk_lt hb
  have hblk : (sortWorld kenc w g 0 n d' os).heap[g]? = some (.cells (putCells kenc 0 d' cur) 9 (0, 0)) := by
    unfold sortWorld
    rw [heap_grow_old _ _ (by show g < (w.heap.modify g _).size; simpa using hlt)]
    unfold putRow mapBlock Sort.ahead
    simp [Array.getElem?_modify, hb, onCells]
  refine ⟨by simp [hs], .inr ⟨g, 0, cap, _, rfl, hB, hblk, h1, h2, ?_, fun j u hu => ?_⟩⟩
  · unfold putCells
    simpa using h3
  · have hj : j < d'.size := by
      rcases Nat.lt_or_ge j d'.size with h | h
      · exact h
      · rw [List.getElem?_eq_none (by simpa using h)] at hu
        cases hu
    rw [List.getElem?_map, List.getElem?_eq_getElem (by simpa using hj)] at hu
    have hc := cell?_putRow kenc (Sort.ahead w n) g 0 d0 d' hH hs j hj
    rw [getElem!_pos d' j hj] at hc
    have hb' : (putRow kenc (Sort.ahead w n) g 0 d').heap[g]? = some (.cells (putCells kenc 0 d' cur) 9 (0, 0)) := by
      unfold putRow mapBlock Sort.ahead
      simp [Array.getElem?_modify, hb, onCells]
    rw [cell_of_row _ g _ _ _ _ hb'] at hc
    rw [hc]
    simpa using hu

theorem sorted_other {L : List (ByteArray × Nat)} [Inhabited (Key L)] {w : World} {g n k : Nat} {d' : Array (Key L)} {os : Array Obj} (hk : k < w.heap.size) (hne : k ≠ g) : (sortWorld kenc w g 0 n d' os).heap[k]? = w.heap[k]? := by
  unfold sortWorld
  rw [heap_grow_old _ _ (by show k < (w.heap.modify g _).size; simpa using hk)]
  unfold putRow mapBlock Sort.ahead
  simp [Array.getElem?_modify, Ne.symm hne]
theorem sorted_below {L : List (ByteArray × Nat)} [Inhabited (Key L)] {w : World} {B g n : Nat} {d' : Array (Key L)} {os : Array Obj} (hB : B ≤ g) (hg : g < w.heap.size) : RowKit.Below B w (sortWorld kenc w g 0 n d' os) := by
  refine ⟨rfl, rfl, rfl, ?_, fun k hk => sorted_other (by omega) (by omega)⟩
  unfold sortWorld putRow mapBlock Sort.ahead grow
  simp

end Go.Proofs.Ytnamakimmlnleaa
