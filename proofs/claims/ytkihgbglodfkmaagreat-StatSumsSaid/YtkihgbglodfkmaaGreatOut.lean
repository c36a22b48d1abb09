/-
  Layer 41: what is told (api.Out) in memory: what may be read of a list, a list of the call's own, and its elements. No condition; nothing is walked here.
-/
import Derived.Test.YtkihgbglodfkmaaGreatRows
import Derived.Test.YtkihgbglodfkmaaGreatRk
import Derived.Test.YtkihgbglodfkmaaGreatShelf
import Derived.Laws.CopyOwn
namespace Go.Proofs.YtkihgbglodfkmaaGreat
open Go.RowKit
set_option linter.unusedVariables false

/-- What is told; its headers are not looked at. -/
structure Ou where
  k : Int
  id : Int
  st : Int
  ha : Option Addr
  hn : Nat
  hc : Nat
  body : ByteArray
  rs : ByteArray
def ouc (e : Ou) : List Value := [.int .i64 e.k, .int .i64 e.id, .int .i64 e.st, .slice e.ha e.hn e.hc, .string e.body, .string e.rs]
abbrev ouv (e : Ou) : Value := .agg #[.int .i64 e.k, .int .i64 e.id, .int .i64 e.st, .slice e.ha e.hn e.hc, .string e.body, .string e.rs]
theorem ouc_len (e : Ou) : (ouc e).length = 6 := rfl
theorem ouc_one (e : Ou) : ∀ u ∈ ouc e, u.oneCell' = true := fun u hu => by
  simp [ouc] at hu
  rcases hu with rfl | rfl | rfl | rfl | rfl | rfl <;> rfl
theorem flat_len {α : Type} {f : α → List Value} {k : Nat} (hf : ∀ a, (f a).length = k) (l : List α) : (l.flatMap f).length = l.length * k := by
  induction l with
  | nil => simp
  | cons a l ih => rw [List.flatMap_cons, List.length_append, ih, hf, List.length_cons, Nat.add_mul, Nat.one_mul]; omega
theorem flat_get {α : Type} {f : α → List Value} {k : Nat} (hf : ∀ a, (f a).length = k) : ∀ (l : List α) (j : Nat) (hj : j < l.length) (i : Nat), i < k → (l.flatMap f)[j * k + i]? = (f l[j])[i]?
  | [], j, hj, i, hi => absurd hj (by simp)
  | a :: l, 0, hj, i, hi => by
    rw [List.flatMap_cons, Nat.zero_mul, Nat.zero_add, List.getElem?_append_left (by rw [hf]; exact hi)]
    rfl
  | a :: l, j + 1, hj, i, hi => by
    rw [List.flatMap_cons, List.getElem?_append_right (by rw [hf, Nat.add_mul]; omega), hf, show (j + 1) * k + i - k = j * k + i by rw [Nat.add_mul]; omega]
    exact flat_get hf l j (by simpa using hj) i hi
theorem flat_one {α : Type} {f : α → List Value} (hf : ∀ a, ∀ u ∈ f a, u.oneCell' = true) (l : List α) : ∀ u ∈ l.flatMap f, u.oneCell' = true := fun u hu => by
  obtain ⟨a, _, h⟩ := List.mem_flatMap.1 hu
  exact hf a u h
/-- A list that may be read. -/
def Os (w : World) (lo : Nat) (v : Value) (n : Nat) (es : List Ou) : Prop := es.length = n ∧ Rd w lo 6 v n (es.flatMap ouc)
/-- A list of the call's own. -/
def Oo (w : World) (B : Nat) (v : Value) (n : Nat) (es : List Ou) : Prop := es.length = n ∧ Rk w B 48 6 v n (es.flatMap ouc)
/-- Cells, at a place. -/
structure OuAt (w : World) (g o : Nat) (e : Ou) : Prop where
  c0 : w.cell? ⟨g, o, none⟩ = some (.int .i64 e.k)
  c1 : w.cell? ⟨g, o + 1, none⟩ = some (.int .i64 e.id)
  c2 : w.cell? ⟨g, o + 2, none⟩ = some (.int .i64 e.st)
  c3 : w.cell? ⟨g, o + 3, none⟩ = some (.slice e.ha e.hn e.hc)
  c4 : w.cell? ⟨g, o + 4, none⟩ = some (.string e.body)
  c5 : w.cell? ⟨g, o + 5, none⟩ = some (.string e.rs)
section
variable {w w' : World} {lo B n : Nat} {v : Value} {es : List Ou}
theorem Os.below (h : Os w lo v n es) (hb : Below w.heap.size w w') : Os w' lo v n es := ⟨h.1, h.2.below hb (Nat.le_refl _)⟩
theorem Os.base {lo' : Nat} (h : Os w lo v n es) (hl : lo' ≤ lo) : Os w lo' v n es := ⟨h.1, h.2.base hl⟩
theorem Os.slice (h : Os w lo v n es) : ∃ A c, v = .slice A n c := h.2.slice
theorem Os.few (h : Os w lo v n es) : n ≤ maxLen := h.2.few
theorem Oo.below (h : Oo w B v n es) (hb : Below w.heap.size w w') : Oo w' B v n es := ⟨h.1, h.2.below hb (Nat.le_refl _)⟩
theorem Oo.os (h : Oo w B v n es) : Os w B v n es := ⟨h.1, h.2.rd (.inl (by omega))⟩
theorem OuAt.below {g o : Nat} {e : Ou} (h : OuAt w g o e) (hb : Below w.heap.size w w') : OuAt w' g o e := by
  have hg := lt_of_cell h.c0
  have hc : ∀ i u, w.cell? ⟨g, i, none⟩ = some u → w'.cell? ⟨g, i, none⟩ = some u := fun i u hu => (hb.cell (p := ⟨g, i, none⟩) hg).trans hu
  exact ⟨hc _ _ h.c0, hc _ _ h.c1, hc _ _ h.c2, hc _ _ h.c3, hc _ _ h.c4, hc _ _ h.c5⟩
/-- An element. -/
theorem Os.get {A0 : Option Addr} {c0 : Nat} (h : Os w lo (.slice A0 n c0) n es) {j : Nat} (hj : j < n) : ∃ g off, ∃ hix : j < es.length, A0 = some ⟨g, off, none⟩ ∧ n ≤ c0 ∧ c0 ≤ maxLen ∧ lo ≤ g ∧ OuAt w g (off + j * 6) es[j] := by
  obtain ⟨h0, h3⟩ := h
  obtain ⟨g, off, cap, hv, hl, hg, hx, hc1, hc2⟩ := h3.get hj
  injection hv with q1 q2 q3
  subst q3
  have hjp : j < es.length := by omega
  have hat : ∀ i u, i < 6 → (ouc es[j])[i]? = some u → w.cell? ⟨g, off + j * 6 + i, none⟩ = some u := fun i u hi hu => by
    obtain ⟨u', hu', hcell⟩ := hx i hi
    rw [flat_get ouc_len es j hjp i hi] at hu'
    rw [hu] at hu'
    cases hu'
    exact hcell
  exact ⟨g, off, hjp, q1, hc1, hc2, hl, hat 0 _ (by omega) rfl, hat 1 _ (by omega) rfl, hat 2 _ (by omega) rfl, hat 3 _ (by omega) rfl, hat 4 _ (by omega) rfl, hat 5 _ (by omega) rfl⟩
end
/-- One that lies in a block of its own. -/
def OuRow (w : World) (b : Nat) (e : Ou) : Prop := w.heap[b]? = some (.cells (ouc e).toArray 48 (0, 0))
def ou0 : Ou := ⟨0, 0, 0, none, 0, 0, ⟨#[]⟩, ⟨#[]⟩⟩
section
variable {w w' : World} {b : Nat} {e : Ou}
theorem OuRow.zero (w : World) : OuRow (w.alloc (.cells #[.int .i64 0, .int .i64 0, .int .i64 0, .slice none 0 0, .string ⟨#[]⟩, .string ⟨#[]⟩] 48)) w.heap.size ou0 := heap_alloc_new w _
theorem OuRow.lt (h : OuRow w b e) : b < w.heap.size := blk_lt h
theorem OuRow.keep (h : OuRow w b e) (hk : w'.heap[b]? = w.heap[b]?) : OuRow w' b e := hk.trans h
theorem OuRow.below (h : OuRow w b e) (hb : Below w.heap.size w w') : OuRow w' b e := h.keep (hb.block b h.lt)
theorem OuRow.frozen (h : OuRow w b e) (j : Nat) : w.frozen? ⟨b, j, none⟩ = false := blk_frozen h j
theorem OuRow.cells (h : OuRow w b e) : w.cell? ⟨b, 0, none⟩ = some (.int .i64 e.k) ∧ w.cell? ⟨b, 1, none⟩ = some (.int .i64 e.id) ∧ w.cell? ⟨b, 2, none⟩ = some (.int .i64 e.st) ∧ w.cell? ⟨b, 3, none⟩ = some (.slice e.ha e.hn e.hc) ∧ w.cell? ⟨b, 4, none⟩ = some (.string e.body) ∧ w.cell? ⟨b, 5, none⟩ = some (.string e.rs) := by
  have hc : ∀ i, w.cell? ⟨b, i, none⟩ = (ouc e)[i]? := fun i => by rw [cell_of_row w b i _ 48 (0, 0) h]; simp
  exact ⟨hc 0, hc 1, hc 2, hc 3, hc 4, hc 5⟩
end
theorem infoO : (Tryz.prog.info? 48).map (fun i => (i.zero, i.size, i.bytes)) = some (some (ouv ou0), 6, 80) := by kernel_rfl
theorem info48 : (Tryz.prog.info? 48).map (·.size) = some 6 := by kernel_rfl
/-- One that is stored whole over another. -/
theorem wpList_store_ou {ops : Array Oper} {rest : List Oper} {o : Oper} {a : Act} {w : World} {Q : Exit → Act → World → Prop} (hgd : o.guard = none) (x y : Operand) (ho : o.op = .store 48 x y)
    (g : Nat) (e0 : Ou) (hF : OuRow w g e0) (e : Ou) (hx : a.eval x = .pointer (some ⟨g, 0, none⟩)) (hy : a.eval y = ouv e)
    (h : ∀ w2, OuRow w2 g e → (∀ B a, Below B a w → B ≤ g → Below B a w2) → (w2.heap.size = w.heap.size ∧ ∀ j, j ≠ g → w2.heap[j]? = w.heap[j]?) → wpList Tryz.prog ops Q rest (a.put o.dst undef) w2) : wpList Tryz.prog ops Q (o :: rest) a w :=
  wpList_store_row hgd 48 x y ho g _ hx hy 48 _ hF info48 rfl (by simp; exact ⟨rfl, rfl, rfl, rfl, rfl, rfl⟩) (h _ (setRow_heap w g _ _ 48 (0, 0) hF) (fun B a hb hg => below_setRow hb hg _) ⟨setRow_size w g _, fun j hj => setRow_other w g j _ hj⟩)
theorem ou_src (w : World) (e : Ou) : Src Tryz.prog 6 22 (.slice (some ⟨w.heap.size, 0, none⟩) 1 1) 1 (ouc e) (w.alloc (.cells #[.int .i64 e.k, .int .i64 e.id, .int .i64 e.st, .slice e.ha e.hn e.hc, .string e.body, .string e.rs] 48)) :=
  Src.lit (b := w.heap.size) (cs := (ouc e).toArray) (m := (0, 0)) Tryz.underlying22 (heap_alloc_new w _) 1 1 rfl (ouc_one e)
end Go.Proofs.YtkihgbglodfkmaaGreat
