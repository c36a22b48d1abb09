/-
  Layer 41: what was told in all: plain lists, the struct in memory, the map of the reasons. No condition; nothing is walked here.
-/
import Derived.Test.YtkihgbglodfkmaaGreatMaps
namespace Go.Proofs.YtkihgbglodfkmaaGreat
open Go.RowKit
set_option linter.unusedVariables false

abbrev Bs := List UInt8
theorem bs_irrefl (a : Bs) : ¬ a < a := List.lt_irrefl a
theorem bs_trans {a b c : Bs} (h : a < b) (k : b < c) : a < c := List.lt_trans h k
theorem bs_asymm {a b : Bs} (h : a < b) : ¬ b < a := fun k => bs_irrefl a (bs_trans h k)
theorem bs_tri {a b : Bs} (h : ¬ a < b) (hne : a ≠ b) : b < a := by
  have h1 : b ≤ a := List.not_lt.1 h
  rcases Classical.em (b < a) with h2 | h2
  · exact h2
  · exact absurd (List.le_antisymm (List.not_lt.1 h2) h1) hne
/-- os rises, and holds what ys holds. -/
def UpS (os ys : List Bs) : Prop := os.Pairwise (· < ·) ∧ ∀ x, x ∈ os ↔ x ∈ ys
theorem UpS.same {os os2 ys : List Bs} (h : UpS os ys) (h2 : UpS os2 ys) : os = os2 := by
  have e : ∀ l : List Bs, l.Pairwise (· < ·) → l.Nodup := fun l hl => hl.imp fun {a b} (h : a < b) => show a ≠ b from fun e => bs_irrefl a (by subst e; exact h)
  refine List.Perm.eq_of_pairwise (le := fun a b : Bs => a < b) (fun a b _ _ h1 h2 => absurd h2 (bs_asymm h1)) h.1 h2.1 ?_
  exact (List.perm_ext_iff_of_nodup (e _ h.1) (e _ h2.1)).2 fun x => (h.2 x).trans (h2.2 x).symm
theorem UpS.put {os ys : List Bs} (h : UpS os ys) {k : Nat} (hk : k ≤ os.length) {x : Bs} (hl : ∀ y ∈ os.take k, y < x) (hr : ∀ y ∈ os.drop k, x < y) : UpS (os.take k ++ x :: os.drop k) (ys ++ [x]) := by
  have h0 := h.1
  rw [← List.take_append_drop k os, List.pairwise_append] at h0
  refine ⟨?_, fun y => ?_⟩
  · rw [List.pairwise_append]
    refine ⟨h0.1, List.pairwise_cons.2 ⟨hr, h0.2.1⟩, fun a ha b hb => ?_⟩
    rcases List.mem_cons.1 hb with rfl | hb
    · exact hl a ha
    · exact h0.2.2 a ha b hb
  · have := h.2 y
    rw [← List.take_append_drop k os, List.mem_append] at this
    rw [List.mem_append, List.mem_cons, List.mem_append, ← this, List.mem_singleton]
    exact ⟨fun h => by rcases h with h | h | h; exact .inl (.inl h); exact .inr h; exact .inl (.inr h), fun h => by rcases h with (h | h) | h; exact .inl h; exact .inr (.inr h); exact .inr (.inl h)⟩
theorem UpS.keep {os ys : List Bs} (h : UpS os ys) {x : Bs} (hx : x ∈ os) : UpS os (ys ++ [x]) :=
  ⟨h.1, fun y => ⟨fun hy => List.mem_append.2 (.inl ((h.2 y).1 hy)), fun hy => by
    rcases List.mem_append.1 hy with hy | hy
    · exact (h.2 y).2 hy
    · rw [List.mem_singleton.1 hy]; exact hx⟩⟩
theorem upS_take {os : List Bs} (h : os.Pairwise (· < ·)) {k : Nat} {x : Bs} (hk : k < os.length) (hl : ∀ y ∈ os.take k, y < x) (h1 : os[k] < x) : ∀ y ∈ os.take (k + 1), y < x := by
  rw [List.take_succ_eq_append_getElem hk]
  intro y hy
  rcases List.mem_append.1 hy with hy | hy
  · exact hl y hy
  · rw [List.mem_singleton.1 hy]; exact h1
theorem upS_drop {os : List Bs} (h : os.Pairwise (· < ·)) {k : Nat} {x : Bs} (hk : k < os.length) (h1 : x < os[k]) : ∀ y ∈ os.drop k, x < y := by
  intro y hy
  rw [List.drop_eq_getElem_cons hk] at hy
  have h0 := h
  rw [← List.take_append_drop k os, List.pairwise_append, List.drop_eq_getElem_cons hk] at h0
  rcases List.mem_cons.1 hy with rfl | hy
  · exact h1
  · exact bs_trans h1 ((List.pairwise_cons.1 h0.2.1).1 y hy)

/-- The bytes of a text. -/
def bts (s : ByteArray) : Bs := s.data.toList
theorem bts_inj {a b : ByteArray} (h : bts a = bts b) : a = b := by
  cases a; cases b
  unfold bts at h
  congr 1
  exact Array.toList_inj.1 h
/-- A word and its count, as cells. -/
def ctc (p : Bs × Nat) : List Value := [.string ⟨p.1.toArray⟩, .int .i64 p.2]
theorem ctc_len (p : Bs × Nat) : (ctc p).length = 2 := rfl
theorem ctc_one (p : Bs × Nat) : ∀ u ∈ ctc p, u.oneCell' = true := fun u hu => by
  simp [ctc] at hu
  rcases hu with rfl | rfl <;> rfl
theorem bts_mk (s : ByteArray) : (⟨(bts s).toArray⟩ : ByteArray) = s := by
  cases s
  simp [bts]

/-- Which kind counts; how many of a kind; how many bytes; which reasons. -/
def kdO (e : Ou) : Nat := if 0 ≤ e.k ∧ e.k ≤ 6 then e.k.toNat else 0
theorem kdO_lt (e : Ou) : kdO e < 7 := by
  unfold kdO
  split <;> omega
def kcO (es : List Ou) (j : Nat) : Nat := (es.filter fun e => decide (kdO e = j)).length
theorem kcO_le (es : List Ou) (j : Nat) : kcO es j ≤ es.length := List.length_filter_le _ _
theorem kcO_snoc (es : List Ou) (e : Ou) (j : Nat) : kcO (es ++ [e]) j = kcO es j + if kdO e = j then 1 else 0 := by
  unfold kcO
  rw [List.filter_append]
  by_cases h : kdO e = j <;> simp [h]
def byO (es : List Ou) : Nat := es.foldl (fun s e => if e.k = 2 then s + e.body.size else s) 0
theorem byO_snoc (es : List Ou) (e : Ou) : byO (es ++ [e]) = if e.k = 2 then byO es + e.body.size else byO es := by
  unfold byO
  rw [List.foldl_append]
  rfl
theorem byO_le (es : List Ou) (hb : ∀ e ∈ es, e.body.size ≤ 40) : byO es ≤ es.length * 40 := by
  have key : ∀ (l : List Ou) (s : Nat), (∀ e ∈ l, e.body.size ≤ 40) → l.foldl (fun s e => if e.k = 2 then s + e.body.size else s) s ≤ s + l.length * 40 := by
    intro l
    induction l with
    | nil => intro s _; simp
    | cons e l ih =>
      intro s h
      rw [List.foldl_cons]
      have h1 := h e (by simp)
      have h2 := ih (if e.k = 2 then s + e.body.size else s) fun x hx => h x (by simp [hx])
      have h3 : (if e.k = 2 then s + e.body.size else s) ≤ s + 40 := by
        split <;> omega
      rw [List.length_cons, Nat.add_mul]
      omega
  have := key es 0 hb
  unfold byO
  omega
def whyB (e : Ou) : Bool := decide (4 ≤ e.k) && decide (e.k ≤ 6)
def rW (es : List Ou) : List Bs := (es.filter whyB).map fun e => bts e.rs
theorem rW_snoc (es : List Ou) (e : Ou) : rW (es ++ [e]) = rW es ++ if whyB e = true then [bts e.rs] else [] := by
  unfold rW
  rw [List.filter_append, List.map_append]
  cases h : whyB e <;> simp [h]
theorem rW_le (es : List Ou) : (rW es).length ≤ es.length := by
  unfold rW
  rw [List.length_map]
  exact List.length_filter_le _ _
def ctW (es : List Ou) (b : Bs) : Nat := (rW es).count b
theorem ctW_le (es : List Ou) (b : Bs) : ctW es b ≤ es.length := Nat.le_trans List.count_le_length (rW_le es)
theorem ctW_snoc (es : List Ou) (e : Ou) (b : Bs) : ctW (es ++ [e]) b = ctW es b + if whyB e = true ∧ bts e.rs = b then 1 else 0 := by
  unfold ctW
  rw [rW_snoc, List.count_append]
  cases h : whyB e
  · simp
  · by_cases hb : bts e.rs = b
    · subst hb
      simp
    · simp [hb]
/-- The reasons with their counts. -/
def whyL (ws : List Bs) (es : List Ou) : List (Bs × Nat) := ws.map fun b => (b, ctW es b)
theorem whyL_len (ws : List Bs) (es : List Ou) : (whyL ws es).length = ws.length := List.length_map ..

/-- The struct: its cells. -/
def sumc (k0 k1 k2 k3 k4 k5 k6 b : Nat) (v : Value) : Array Value := #[.int .i64 k0, .int .i64 k1, .int .i64 k2, .int .i64 k3, .int .i64 k4, .int .i64 k5, .int .i64 k6, .int .i64 b, v]
def SmRow (w : World) (g : Nat) (es : List Ou) (b : Nat) (v : Value) : Prop := w.heap[g]? = some (.cells (sumc (kcO es 0) (kcO es 1) (kcO es 2) (kcO es 3) (kcO es 4) (kcO es 5) (kcO es 6) b v) 30 (0, 0))
theorem SmRow.below {w w' : World} {g b : Nat} {es : List Ou} {v : Value} (h : SmRow w g es b v) (hb : Below w.heap.size w w') : SmRow w' g es b v := (hb.block g (blk_lt h)).trans h
theorem SmRow.kind {w : World} {g b : Nat} {es : List Ou} {v : Value} (h : SmRow w g es b v) {k : Nat} (hk : k < 7) : w.cell? ⟨g, k, none⟩ = some (.int .i64 (kcO es k : Nat)) := by
  rw [cell_of_row w _ k _ _ _ h]
  have h7 : k = 0 ∨ k = 1 ∨ k = 2 ∨ k = 3 ∨ k = 4 ∨ k = 5 ∨ k = 6 := by omega
  rcases h7 with rfl | rfl | rfl | rfl | rfl | rfl | rfl <;> rfl
theorem SmRow.bytes {w : World} {g b : Nat} {es : List Ou} {v : Value} (h : SmRow w g es b v) : w.cell? ⟨g, 7, none⟩ = some (.int .i64 b) := cell_of_row w g 7 _ _ _ h
theorem SmRow.why {w : World} {g b : Nat} {es : List Ou} {v : Value} (h : SmRow w g es b v) : w.cell? ⟨g, 8, none⟩ = some v := cell_of_row w g 8 _ _ _ h
theorem SmRow.frozen {w : World} {g b : Nat} {es : List Ou} {v : Value} (h : SmRow w g es b v) (j : Nat) : w.frozen? ⟨g, j, none⟩ = false := blk_frozen h j
theorem SmRow.more {w : World} {g b : Nat} {es : List Ou} {e : Ou} {v : Value} (h : SmRow w g es b v) {k : Nat} (hk : kdO e = k) : SmRow (w.setCell ⟨g, k, none⟩ (.int .i64 ((kcO es k : Nat) + 1))) g (es ++ [e]) b v := by
  unfold SmRow
  rw [blk_set h k]
  have e1 : ∀ j, kcO (es ++ [e]) j = kcO es j + if k = j then 1 else 0 := fun j => by rw [kcO_snoc, hk]
  rw [e1, e1, e1, e1, e1, e1, e1]
  have h7 : k = 0 ∨ k = 1 ∨ k = 2 ∨ k = 3 ∨ k = 4 ∨ k = 5 ∨ k = 6 := by have := kdO_lt e; omega
  rcases h7 with rfl | rfl | rfl | rfl | rfl | rfl | rfl <;> simp [sumc]
theorem SmRow.setB {w : World} {g b : Nat} {es : List Ou} {v : Value} (h : SmRow w g es b v) (c : Nat) : SmRow (w.setCell ⟨g, 7, none⟩ (.int .i64 c)) g es c v := by
  unfold SmRow
  rw [blk_set h 7]
  simp [sumc]
theorem SmRow.setV {w : World} {g b : Nat} {es : List Ou} {v : Value} (h : SmRow w g es b v) (u : Value) : SmRow (w.setCell ⟨g, 8, none⟩ u) g es b u := by
  unfold SmRow
  rw [blk_set h 8]
  simp [sumc]
theorem SmRow.zero (w : World) : SmRow (w.alloc (.cells #[.int .i64 0, .int .i64 0, .int .i64 0, .int .i64 0, .int .i64 0, .int .i64 0, .int .i64 0, .int .i64 0, .slice none 0 0] 30)) w.heap.size [] 0 (.slice none 0 0) := heap_alloc_new w _

/-- How often each reason was told. -/
structure WMap (w : World) (mb cnt : Nat) (es : List Ou) : Prop where
  ex : ∃ D : DataW Unit, w.ownsMap Tryz.prog 9 (plainElem Tryz.prog 3) mb cnt D ∧ (∀ b : Bs, D.atKey (.string b) (.lit (.int .i64 0)) = .lit (.int .i64 (ctW es b : Nat))) ∧ ∀ b : Bs, Maps.has D (.string b) = decide (b ∈ rW es)
section
variable {w w' : World} {mb cnt : Nat} {es : List Ou} {e : Ou}
theorem WMap.keep (h : WMap w mb cnt es) (hk : w'.heap[mb]? = w.heap[mb]?) : WMap w' mb cnt es := by
  obtain ⟨D, ho, ha⟩ := h.ex
  exact ⟨D, own_keep ho hk, ha⟩
theorem WMap.lt (h : WMap w mb cnt es) : mb < w.heap.size := by
  obtain ⟨D, ho, ha⟩ := h.ex
  exact ho.lt
theorem WMap.mono (h : WMap w mb cnt es) : WMap w mb (cnt + 1) es := by
  obtain ⟨D, ho, ha⟩ := h.ex
  exact ⟨D, ho.mono (Nat.le_succ _), ha⟩
theorem key9 {s : ByteArray} (h : s.size ≤ maxLen) : keyOf Tryz.prog 9 (.string s) = some (.string (bts s)) := WideMaps.keyOf_string_mk Tryz.underlying9 h
theorem WMap.look (h : WMap w mb cnt es) {s : ByteArray} (hs : s.size ≤ maxLen) : (Instr.lookup 62 (.map (some mb)) (.string s) false).run Tryz.prog w = .ok (.int .i64 (ctW es (bts s) : Nat)) w := by
  obtain ⟨D, ho, ha, _⟩ := h.ex
  obtain ⟨c, hrun, hat, _⟩ := ho.lookup_int law9 Tryz.underlying62 Tryz.underlying3 (zero3 w) (key9 hs)
  rw [ha (bts s)] at hat
  have e : ((ctW es (bts s) : Nat) : Int) = c := (Lit.int.inj (DataW.lit.inj hat)).2
  rw [e]
  exact hrun
theorem WMap.put (h : WMap w mb cnt es) (hc : cnt < 1000) (hk : whyB e = true) (hs : e.rs.size ≤ maxLen) (hl : es.length ≤ 1000) :
    ∃ w', (Instr.mapUpdate 62 (.map (some mb)) (.string e.rs) (.int .i64 ((ctW es (bts e.rs) : Nat) + 1))).run Tryz.prog w = .ok () w' ∧ WMap w' mb (cnt + 1) (es ++ [e]) ∧ w.grownBy w' (some mb) := by
  obtain ⟨D, ho, ha, hh⟩ := h.ex
  have hm := ho.isMap
  have hle := ctW_le es (bts e.rs)
  obtain ⟨w', hrun, ho', hg⟩ := ho.update law9 Tryz.underlying62 (by unfold maxLen; omega) (key9 hs) (plainElem_int (a := ((ctW es (bts e.rs) : Nat) + 1 : Int)) (H := Unit) Tryz.underlying3 (WalkArith.wf_i64 (by omega)))
  refine ⟨w', hrun, ⟨_, ho', fun b => ?_, fun b => ?_⟩, hg⟩
  · rw [ctW_snoc]
    by_cases he : bts e.rs = b
    · subst he
      rw [Maps.atKey_put_same (k := .string (bts e.rs)) hm trivial, if_pos ⟨hk, rfl⟩]
      congr 2
    · rw [Maps.atKey_put_other (k := .string (bts e.rs)) (k' := .string b) (fun h => he (Lit.string.inj h).symm), if_neg fun h => he h.2]
      exact ha b
  · rw [rW_snoc, if_pos hk]
    by_cases he : bts e.rs = b
    · subst he
      rw [Maps.has_put_same (k := .string (bts e.rs)) hm trivial]
      simp
    · rw [Maps.has_put_other (k := .string (bts e.rs)) (k' := .string b) (fun h => he (Lit.string.inj h).symm), hh b, decide_eq_decide, List.mem_append, List.mem_singleton]
      exact ⟨.inl, fun h => h.elim (fun h => h) fun h => absurd h.symm he⟩
theorem WMap.skip (h : WMap w mb cnt es) (hk : ¬ whyB e = true) : WMap w mb cnt (es ++ [e]) := by
  obtain ⟨D, ho, ha, hh⟩ := h.ex
  refine ⟨D, ho, fun b => ?_, fun b => ?_⟩
  · rw [ctW_snoc, if_neg fun h => hk h.1]
    exact ha b
  · rw [rW_snoc, if_neg hk, List.append_nil]
    exact hh b
end
end Go.Proofs.YtkihgbglodfkmaaGreat
