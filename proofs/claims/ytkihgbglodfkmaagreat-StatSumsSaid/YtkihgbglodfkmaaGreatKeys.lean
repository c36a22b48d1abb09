/-
  Layer 41: which ids have a head, and how many bytes each was told: plain lists; rows of whole numbers. No condition; nothing is walked here.
-/
import Derived.Test.YtkihgbglodfkmaaGreatFew
import Derived.Test.YtkihgbglodfkmaaGreatThrice
import Derived.Test.YtkihgbglodfkmaaGreatSums
namespace Go.Proofs.YtkihgbglodfkmaaGreat
open Go.RowKit
set_option linter.unusedVariables false
abbrev vi : Int → Value := Value.int .i64
/-- os rises, and holds what ys holds. -/
def Up (os ys : List Int) : Prop := os.Pairwise (· < ·) ∧ ∀ x, x ∈ os ↔ x ∈ ys
theorem Up.same {os os2 ys : List Int} (h : Up os ys) (h2 : Up os2 ys) : os = os2 := by
  have e : ∀ l : List Int, l.Pairwise (· < ·) → l.Nodup := fun l hl => hl.imp fun h => by omega
  refine List.Perm.eq_of_pairwise (le := fun a b : Int => a < b) (fun a b _ _ h1 h2 => by omega) h.1 h2.1 ?_
  exact (List.perm_ext_iff_of_nodup (e _ h.1) (e _ h2.1)).2 fun x => (h.2 x).trans (h2.2 x).symm
theorem Up.put {os ys : List Int} (h : Up os ys) {k : Nat} (hk : k ≤ os.length) {x : Int} (hl : ∀ y ∈ os.take k, y < x) (hr : ∀ y ∈ os.drop k, x < y) : Up (os.take k ++ x :: os.drop k) (ys ++ [x]) := by
  have h0 := h.1
  rw [← List.take_append_drop k os, List.pairwise_append] at h0
  refine ⟨?_, fun y => ?_⟩
  · rw [List.pairwise_append]
    refine ⟨h0.1, List.pairwise_cons.2 ⟨hr, h0.2.1⟩, fun a ha b hb => ?_⟩
    rcases List.mem_cons.1 hb with rfl | hb
    · exact hl a ha
    · exact h0.2.2 a ha b hb
  · have := h.2 y
    rw [← List.take_append_drop k os, List.mem_append] at this
    rw [List.mem_append, List.mem_cons, List.mem_append, ← this, List.mem_singleton]
    exact ⟨fun h => by rcases h with h | h | h; exact .inl (.inl h); exact .inr h; exact .inl (.inr h), fun h => by rcases h with (h | h) | h; exact .inl h; exact .inr (.inr h); exact .inr (.inl h)⟩
theorem Up.keep {os ys : List Int} (h : Up os ys) {x : Int} (hx : x ∈ os) : Up os (ys ++ [x]) :=
  ⟨h.1, fun y => ⟨fun hy => List.mem_append.2 (.inl ((h.2 y).1 hy)), fun hy => by
    rcases List.mem_append.1 hy with hy | hy
    · exact (h.2 y).2 hy
    · rw [List.mem_singleton.1 hy]; exact hx⟩⟩

theorem up_take {os : List Int} (h : os.Pairwise (· < ·)) {k : Nat} {x : Int} (hk : k < os.length) (hl : ∀ y ∈ os.take k, y < x) (h1 : os[k] < x) : ∀ y ∈ os.take (k + 1), y < x := by
  rw [List.take_succ_eq_append_getElem hk]
  intro y hy
  rcases List.mem_append.1 hy with hy | hy
  · exact hl y hy
  · rw [List.mem_singleton.1 hy]; exact h1
theorem up_drop {os : List Int} (h : os.Pairwise (· < ·)) {k : Nat} {x : Int} (hk : k < os.length) (h1 : x < os[k]) : ∀ y ∈ os.drop k, x < y := by
  intro y hy
  rw [List.drop_eq_getElem_cons hk] at hy
  have h0 := h
  rw [← List.take_append_drop k os, List.pairwise_append, List.drop_eq_getElem_cons hk] at h0
  rcases List.mem_cons.1 hy with rfl | hy
  · exact h1
  · have := (List.pairwise_cons.1 h0.2.1).1 y hy
    omega

/-- The ids that have a head. -/
def idsH (es : List Ou) : List Int := (es.filter fun e => decide (e.k = 1)).map (·.id)
theorem idsH_more {es : List Ou} {i : Nat} (hi : i < es.length) : idsH (es.take (i + 1)) = idsH (es.take i) ++ if es[i].k = 1 then [es[i].id] else [] := by
  unfold idsH
  rw [List.take_succ_eq_append_getElem hi, List.filter_append, List.map_append]
  by_cases h : es[i].k = 1 <;> simp [h]
/-- How many bytes an id was told. -/
def sumOf (id : Int) (es : List Ou) : Nat := es.foldl (fun s e => if e.k = 2 ∧ e.id = id then s + e.body.size else s) 0
theorem sumOf_snoc (id : Int) (es : List Ou) (e : Ou) : sumOf id (es ++ [e]) = if e.k = 2 ∧ e.id = id then sumOf id es + e.body.size else sumOf id es := by
  unfold sumOf
  rw [List.foldl_append]
  rfl
theorem sumOf_more {es : List Ou} {i : Nat} (id : Int) (hi : i < es.length) : sumOf id (es.take (i + 1)) = if es[i].k = 2 ∧ es[i].id = id then sumOf id (es.take i) + es[i].body.size else sumOf id (es.take i) := by
  rw [List.take_succ_eq_append_getElem hi, sumOf_snoc]
theorem sumOf_le (id : Int) (es : List Ou) (hb : ∀ e ∈ es, e.body.size ≤ 40) : sumOf id es ≤ es.length * 40 := by
  have key : ∀ (l : List Ou) (s : Nat), (∀ e ∈ l, e.body.size ≤ 40) → l.foldl (fun s e => if e.k = 2 ∧ e.id = id then s + e.body.size else s) s ≤ s + l.length * 40 := by
    intro l
    induction l with
    | nil => intro s _; simp
    | cons e l ih =>
      intro s h
      rw [List.foldl_cons]
      have h1 := h e (by simp)
      have h2 := ih (if e.k = 2 ∧ e.id = id then s + e.body.size else s) fun x hx => h x (by simp [hx])
      have h3 : (if e.k = 2 ∧ e.id = id then s + e.body.size else s) ≤ s + 40 := by
        split <;> omega
      rw [List.length_cons, Nat.add_mul]
      omega
  have := key es 0 hb
  unfold sumOf
  omega
/-- The numbers that are told of ids. -/
def xsB (ks : List Int) (es : List Ou) : List Nat := ks.map fun id => floatOfInt .f64 (sumOf id es : Nat)
theorem xsB_len (ks : List Int) (es : List Ou) : (xsB ks es).length = ks.length := List.length_map ..
theorem xsB_more {ks : List Int} {es : List Ou} {k : Nat} (hk : k < ks.length) : xsB (ks.take (k + 1)) es = xsB (ks.take k) es ++ [floatOfInt .f64 (sumOf ks[k] es : Nat)] := by
  unfold xsB
  rw [List.take_succ_eq_append_getElem hk, List.map_append]
  rfl

/-- A row of whole numbers. -/
def RkI (w : World) (B : Nat) (v : Value) (n : Nat) (os : List Int) : Prop := Rk w B 3 1 v n (os.map vi)
theorem RkI.len {w : World} {B n : Nat} {v : Value} {os : List Int} (h : RkI w B v n os) : os.length = n := by simpa using h.1
theorem vi_one {ys : List Int} : ∀ x ∈ ys.map vi, x.oneCell' = true := fun x hx => by
  obtain ⟨y, _, rfl⟩ := List.mem_map.1 hx
  rfl
theorem RkI.get {w : World} {B n c g off : Nat} {os : List Int} (h : RkI w B (.slice (some ⟨g, off, none⟩) n c) n os) {j : Nat} (hj : j < n) : ∃ hix : j < os.length, w.cell? ⟨g, off + j, none⟩ = some (.int .i64 os[j]) := by
  have hl := h.len
  refine ⟨by omega, ?_⟩
  obtain ⟨g', off', cap', hv, _, _, hx, _⟩ := (Rk.rd h (.inl (by omega))).get hj
  cases hv
  obtain ⟨u, hu, hc⟩ := hx 0 (by omega)
  rw [Nat.mul_one, Nat.add_zero] at hu hc
  rw [List.getElem?_map, List.getElem?_eq_getElem (by omega)] at hu
  cases hu
  exact hc
theorem RkI.caps {w : World} {B n c g off : Nat} {os : List Int} (h : RkI w B (.slice (some ⟨g, off, none⟩) n c) n os) : n ≤ c ∧ c ≤ 4611686018427387904 * 2 := by
  rcases h.2 with ⟨h0, _⟩ | ⟨g', off', cap', cur', hv, _, _, hc1, hc2, _⟩
  · cases h0
  · injection hv with _ _ hv
    subst hv
    unfold maxLen at hc2
    omega
theorem Rk.row {w : World} {B n : Nat} {e : TypeId} {v : Value} {xs : List Value} (h : Rk w B e 1 v n xs) : Row w B e v n xs := by
  refine ⟨by simpa using h.1, ?_⟩
  rcases h.2 with h0 | ⟨g, off, cap, cur, hv, hb, hg, h1, h2, h3, hx⟩
  · exact .inl h0
  · exact .inr ⟨g, off, cap, cur, hv, hb, hg, h1, h2, by omega, hx⟩
/-- Two rows of elements of different types lie apart. -/
theorem Rk.apart {w w' : World} {B B2 n n2 k k2 : Nat} {e e2 : TypeId} {v v2 : Value} {xs ys : List Value} (h : Rk w B e k v n xs) (h2 : Rk w B2 e2 k2 v2 n2 ys) (hne : e ≠ e2) (hg : w.grownBy w' v2.ownBlock) : Rk w' B e k v n xs :=
  h.keep fun j hj => hg.block j (h.lt j hj).2 fun e' => by
    rcases h.2 with ⟨rfl, _⟩ | ⟨g, off, cap, cur, rfl, _, hb, _⟩
    · simp [Value.ownBlock] at hj
    · rcases h2.2 with ⟨rfl, _⟩ | ⟨g2, off2, cap2, cur2, rfl, _, hb2, _⟩
      · simp [Value.ownBlock] at e'
      · simp [Value.ownBlock] at hj e'
        subst hj
        subst e'
        rw [hb] at hb2
        cases hb2
        exact hne rfl
end Go.Proofs.YtkihgbglodfkmaaGreat
