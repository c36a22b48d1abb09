/-
  Parts, one behind the other: A slice of one-cell elements, and what an append of a whole slice makes of it. No condition but that both together are not longer than a thousand million; nothing of the program stands here. | A slice of elements of k cells each that lies anywhere in a row of the call's own, what may be read in one, and what an append of any slice makes of it. No condition but that both together are not longer than a thousand million; nothing of the program stands here.
-/
import Derived.Test.YtlhaaokldjdnnaaGreatDoorRow
import Derived.Deep.Upon
namespace Go.Proofs.YtlhaaokldjdnnaaGreatDoor
open Go.RowKit
set_option linter.unusedVariables false
set_option linter.unusedSimpArgs false

theorem blk_sets {g : Nat} {t : TypeId} : ∀ (vs : List Value) (o : Nat) (w : World) (cs : Array Value), w.heap[g]? = some (.cells cs t (0, 0)) →
    ∃ cs' : Array Value, (w.setCells g o vs).heap[g]? = some (.cells cs' t (0, 0)) ∧ cs'.size = cs.size ∧ (∀ j, j < o → cs'[j]? = cs[j]?) ∧ (∀ j u, vs[j]? = some u → o + j < cs.size → cs'[o + j]? = some u)
  | [], o, w, cs, h => ⟨cs, h, rfl, fun _ _ => rfl, fun j u hj => by simp at hj⟩
  | v :: r, o, w, cs, h => by
    obtain ⟨cs', h1, h2, h3, h4⟩ := blk_sets r (o + 1) (w.setCell ⟨g, o, none⟩ v) _ (blk_set h o v)
    rw [Array.size_setIfInBounds] at h2 h4
    refine ⟨cs', h1, h2, fun j hj => ?_, fun j u hj hlt => ?_⟩
    · rw [h3 j (by omega), Array.getElem?_setIfInBounds, if_neg (by omega)]
    · cases j with
      | zero =>
        obtain rfl : v = u := by simpa using hj
        rw [h3 _ (by omega), Array.getElem?_setIfInBounds, if_pos (by omega), if_pos (by omega)]
      | succ j =>
        have := h4 j u (by simpa using hj) (by omega)
        rwa [show o + 1 + j = o + (j + 1) by omega] at this

section
variable {P : Program}
/-- A row as what is appended. -/
theorem Row.src {w : World} {B : Nat} {e t : TypeId} {v : Value} {n : Nat} {xs : List Value} (h : Row w B e v n xs) (ht : P.underlying t = some (.slice e)) (h1 : ∀ x ∈ xs, x.oneCell' = true) : Src P 1 t v n xs w := by
  rcases h.2 with ⟨rfl, rfl⟩ | ⟨g, off, cap, cur, rfl, hb, hg, hc1, hc2, hc3, hx⟩
  · obtain rfl : xs = [] := List.eq_nil_of_length_eq_zero h.1
    exact Src.ofNil w ht 0
  · refine Src.ofSlice w ht ⟨g, off, none⟩ n cap xs (by rw [h.1, Nat.mul_one]) (fun j u hj => ?_) h1
    rw [Addr.add_lit]
    rw [cell_of_row w g _ cur e (0, 0) hg]
    exact hx j u hj

theorem run_append_rows (w : World) (B : Nat) (t ty e : TypeId) (i : TypeInfo) (z : Value) (ht : P.underlying t = some (.slice e)) (hi : P.info? e = some i) (hz : i.zero = some z) (hsize : i.size = 1)
    (hby : i.bytes ≤ 1000) (hzs : z.cells.size = 1) (g off n cap : Nat) (xs : List Value) (h : Row w B e (.slice (some ⟨g, off, none⟩) n cap) n xs) (x : Value) (m : Nat) (ys : List Value) (hs : Src P 1 t x m ys w)
    (hn : n + m ≤ 1000000000) (hB : B ≤ w.heap.size) :
    ∃ A' c' w', (Builtin.append_ #[t, t] ty #[.slice (some ⟨g, off, none⟩) n cap, x]).run P w = .ok (.slice (some A') (n + m) c') w' ∧ Row w' B e (.slice (some A') (n + m) c') (n + m) (xs ++ ys) ∧ w.grownBy w' (some g) := by
  have hl := h.1
  have hlen : (xs ++ ys).length = n + m := by rw [List.length_append, hl, hs.newsLen, Nat.mul_one]
  have hs' : Src P i.size t x m ys w := by rw [hsize]; exact hs
  have hyl : ys.length = m := by rw [hs.newsLen, Nat.mul_one]
  rcases h.2 with ⟨h0, _⟩ | ⟨g', off', cap', cur, hv, hb, hg, hc1, hc2, hc3, hx⟩
  · cases h0
  · cases hv
    by_cases hroom : n + m ≤ cap
    · have hcell : ∀ j, w.cell? ⟨g, j, none⟩ = cur[j]? := fun j => cell_of_row w g j cur e (0, 0) hg
      have hr := run_append_room_src (P := P) (w := w) t t ty e i ht hi g off n cap x m ys hs' hroom
        (fun j hj => by
          rw [hcell, hsize, Array.getElem?_eq_getElem (by omega)]
          rfl)
        (fun j _ => by simp [World.frozen?, hg])
      rw [hsize, Nat.mul_one] at hr
      obtain ⟨cs', h1, h2, h3, h4⟩ := blk_sets ys (off + n) w cur hg
      refine ⟨_, _, _, hr, ⟨hlen, .inr ⟨g, off, cap, cs', rfl, hb, h1, hroom, hc2, by omega, fun j u hj => ?_⟩⟩, ⟨(World.os_setCells w g _ ys), ?_, World.output_setCells w g _ ys, ?_, fun k hk hne => World.heap_setCells_other w g _ ys hk fun e => hne (by rw [e])⟩⟩
      · rcases Nat.lt_or_ge j n with hjn | hjn
        · rw [h3 _ (by omega)]
          rw [List.getElem?_append_left (by omega)] at hj
          exact hx j u hj
        · have hjl : j < n + m := by
            rcases Nat.lt_or_ge j (n + m) with hlt | hge
            · exact hlt
            · rw [List.getElem?_eq_none (by omega)] at hj
              cases hj
          rw [List.getElem?_append_right (by omega), hl] at hj
          have := h4 (j - n) u hj (by omega)
          rwa [show off + n + (j - n) = off + j by omega] at this
      · exact tape_sets g ys (off + n) w
      · exact size_sets g ys (off + n) w
    · have hm : (n + m) * i.bytes ≤ 140737488355328 * 8 := Nat.le_trans (Nat.mul_le_mul hn hby) (by decide)
      have hold : (Builtin.firstCells i.size n (.slice (some ⟨g, off, none⟩) n cap)).run P w.drew = .ok xs.toArray w.drew := by
        refine run_firstCells_some w.drew i.size n ⟨g, off, none⟩ n cap xs (by rw [hsize, hl, Nat.mul_one]) (fun j u' hj => ?_)
        rw [Addr.add_lit]
        show w.cell? ⟨g, off + j, none⟩ = some u'
        rw [cell_of_row w g _ cur e (0, 0) hg]
        exact hx j u' hj
      have hr := run_append_grow_src (P := P) (w := w) t t ty e i z ht hi hz (some ⟨g, off, none⟩) n cap xs hold x m ys hs' (by omega) (by omega) (growslice_fits (by omega) (Nat.le_trans (Nat.mul_le_mul hn hby) (by decide)))
      have hge := grownCap_ge w (n + m) cap e
      have hcm : grownCap w (n + m) cap e ≤ maxLen := grownCap_le_maxLen w (n + m) cap e (by unfold maxLen; omega)
      refine ⟨_, _, _, hr, ⟨hlen, .inr ⟨w.heap.size, 0, _, _, rfl, hB, heap_alloc_new w.drew _, hge, hcm, ?_, ?_⟩⟩, ⟨rfl, rfl, rfl, by simp, fun k hk _ => Below.heap_alloc w.drew _ k hk⟩⟩
      · simp only [Array.size_append, List.size_toArray, size_zeroCells, hzs, hlen]
        omega
      · intro j u hj
        have hlt : j < (xs ++ ys).length := by
          rcases Nat.lt_or_ge j (xs ++ ys).length with hl | hl
          · exact hl
          · rw [List.getElem?_eq_none hl] at hj
            cases hj
        rw [Nat.zero_add, Array.getElem?_append_left (by simpa using hlt)]
        simpa using hj
where
  tape_sets (g : Nat) : ∀ (vs : List Value) (o : Nat) (w : World), (w.setCells g o vs).tape = w.tape
    | [], _, _ => rfl
    | v :: r, o, w => tape_sets g r (o + 1) (w.setCell ⟨g, o, none⟩ v)
  size_sets (g : Nat) : ∀ (vs : List Value) (o : Nat) (w : World), w.heap.size ≤ (w.setCells g o vs).heap.size
    | [], _, _ => Nat.le_refl _
    | v :: r, o, w => by
      have := size_sets g r (o + 1) (w.setCell ⟨g, o, none⟩ v)
      have e : (w.setCell ⟨g, o, none⟩ v).heap.size = w.heap.size := by simp [World.setCell]
      rw [e] at this
      exact this

theorem wpList_append_rows {ops : Array Oper} {rest : List Oper} {o : Oper} {a : Act} {w : World} {Q : Exit → Act → World → Prop} (hgd : o.guard = none) (s x : Operand) (t : TypeId)
    (ho : o.op = .call { callee := .builtin .append, args := #[s, x], argTypes := #[t, t] })
    (B : Nat) (e : TypeId) (i : TypeInfo) (z : Value) (ht : P.underlying t = some (.slice e)) (hi : P.info? e = some i) (hz : i.zero = some z) (hsize : i.size = 1)
    (hby : i.bytes ≤ 1000) (hzs : z.cells.size = 1) (g off n cap : Nat) (xs : List Value) (hs : a.eval s = .slice (some ⟨g, off, none⟩) n cap) (h : Row w B e (.slice (some ⟨g, off, none⟩) n cap) n xs) (xv : Value) (m : Nat) (ys : List Value) (hx : a.eval x = xv)
    (hsrc : Src P 1 t xv m ys w) (hn : n + m ≤ 1000000000) (hB : B ≤ w.heap.size)
    (k : ∀ (A' : Addr) c' w', Row w' B e (.slice (some A') (n + m) c') (n + m) (xs ++ ys) → w.grownBy w' (some g) → wpList P ops Q rest (a.put o.dst (.slice (some A') (n + m) c')) w') : wpList P ops Q (o :: rest) a w :=
  wpList_plain hgd fun K hK => by
    obtain ⟨A', c', w', hr, h2, h3⟩ := run_append_rows (P := P) w B t o.type e i z ht hi hz hsize hby hzs g off n cap xs h xv m ys hsrc hn hB
    unfold Oper.wp execOp
    simp only [ho, resolve, invoke, builtin, Sem.run_bind, Sem.run_pure, Result.andThen_ok, List.map_toArray, List.map_cons, List.map_nil, hs, hx, hr]
    exact hK _ _ (k A' c' w' h2 h3)
end
end Go.Proofs.YtlhaaokldjdnnaaGreatDoor
namespace Go.Proofs.YtlhaaokldjdnnaaGreatDoor
open Go.RowKit
set_option linter.unusedVariables false
set_option linter.unusedSimpArgs false

/-- The slice value v, of n elements of type e, of k cells each, holds the cells xs; its row is one of the call's own, from block B on. -/
def Rk (w : World) (B : Nat) (e : TypeId) (k : Nat) (v : Value) (n : Nat) (xs : List Value) : Prop :=
  xs.length = n * k ∧ ((v = .slice none 0 0 ∧ n = 0) ∨
   ∃ g off cap cur, v = .slice (some ⟨g, off, none⟩) n cap ∧ B ≤ g ∧ w.heap[g]? = some (.cells cur e (0, 0)) ∧ n ≤ cap ∧ cap ≤ maxLen ∧ off + cap * k ≤ cur.size ∧ ∀ j u, xs[j]? = some u → cur[off + j]? = some u)
/-- What may be read in a slice: n elements of k cells each. -/
structure Rd (w : World) (lo : Nat) (k : Nat) (v : Value) (n : Nat) (xs : List Value) : Prop where
  len : xs.length = n * k
  few : n ≤ maxLen
  at_ : (n = 0 ∧ ∃ A cap, v = .slice A 0 cap ∧ (A = none → cap = 0)) ∨ ∃ g off cap, v = .slice (some ⟨g, off, none⟩) n cap ∧ lo ≤ g ∧ g < w.heap.size ∧ n ≤ cap ∧ cap ≤ maxLen ∧ ∀ j u, xs[j]? = some u → w.cell? ⟨g, off + j, none⟩ = some u

section
variable {w w' : World} {B : Nat} {e : TypeId} {k : Nat} {v : Value} {n : Nat} {xs : List Value}
theorem Rk.nil_ (w : World) (B : Nat) (e : TypeId) (k : Nat) : Rk w B e k (.slice none 0 0) 0 [] := ⟨by simp, .inl ⟨rfl, rfl⟩⟩
theorem Rk.keep (h : Rk w B e k v n xs) (hk : ∀ j, v.ownBlock = some j → w'.heap[j]? = w.heap[j]?) : Rk w' B e k v n xs := by
  refine ⟨h.1, ?_⟩
  rcases h.2 with hn | ⟨g, off, cap, cur, rfl, hb, hg, rest⟩
  · exact .inl hn
  · exact .inr ⟨g, off, cap, cur, rfl, hb, (hk g rfl).trans hg, rest⟩
theorem Rk.lt (h : Rk w B e k v n xs) : ∀ j, v.ownBlock = some j → B ≤ j ∧ j < w.heap.size := by
  intro j hj
  rcases h.2 with ⟨rfl, _⟩ | ⟨g, off, cap, cur, rfl, hb, hg, _⟩
  · simp [Value.ownBlock] at hj
  · simp [Value.ownBlock] at hj
    subst hj
    exact ⟨hb, (Array.getElem?_eq_some_iff.1 hg).1⟩
theorem Rk.below {B' : Nat} (h : Rk w B e k v n xs) (hb : Below B' w w') (hB : w.heap.size ≤ B') : Rk w' B e k v n xs :=
  h.keep fun j hj => hb.block j (Nat.lt_of_lt_of_le (h.lt j hj).2 hB)
theorem Rk.alloc (h : Rk w B e k v n xs) (o : Obj) : Rk (w.alloc o) B e k v n xs := h.keep fun j hj => Below.heap_alloc w o j (h.lt j hj).2
theorem Rk.setCell (h : Rk w B e k v n xs) {p : Addr} (hp : v.ownBlock ≠ some p.block) (u : Value) : Rk (w.setCell p u) B e k v n xs :=
  h.keep fun j hj => Below.heap_setCell w p u j fun e => hp (by rw [hj, e])
theorem Rk.base {B' : Nat} (h : Rk w B e k v n xs) (hb : B' ≤ B) : Rk w B' e k v n xs :=
  ⟨h.1, h.2.imp id fun ⟨g, off, cap, cur, hv, h1, rest⟩ => ⟨g, off, cap, cur, hv, Nat.le_trans hb h1, rest⟩⟩
theorem Rk.slice (h : Rk w B e k v n xs) : ∃ A c, v = .slice A n c := by
  rcases h.2 with ⟨rfl, rfl⟩ | ⟨g, off, cap, cur, rfl, _⟩
  · exact ⟨_, _, rfl⟩
  · exact ⟨_, _, rfl⟩
theorem Rk.fresh (w : World) (e : TypeId) (k : Nat) : Rk (w.alloc (.cells #[] e)) w.heap.size e k (.slice (some ⟨w.heap.size, 0, none⟩) 0 0) 0 [] :=
  ⟨by simp, .inr ⟨w.heap.size, 0, 0, #[], rfl, Nat.le_refl _, heap_alloc_new w _, Nat.le_refl _, Nat.zero_le _, by simp, fun j u hj => by simp at hj⟩⟩
theorem Rk.rd (h : Rk w B e k v n xs) (hk : 0 < k ∨ n ≤ maxLen) : Rd w B k v n xs := by
  rcases h.2 with ⟨rfl, rfl⟩ | ⟨g, off, cap, cur, rfl, hb, hg, h1, h2, h3, hx⟩
  · exact ⟨h.1, Nat.zero_le _, .inl ⟨rfl, none, 0, rfl, fun _ => rfl⟩⟩
  · refine ⟨h.1, Nat.le_trans h1 h2, .inr ⟨g, off, cap, rfl, hb, blk_lt hg, h1, h2, fun j u hj => ?_⟩⟩
    rw [cell_of_row w g _ cur e (0, 0) hg]
    exact hx j u hj
theorem Rd.keep {lo : Nat} (h : Rd w lo k v n xs) (hs : w.heap.size ≤ w'.heap.size) (hk : ∀ j, v.ownBlock = some j → w'.heap[j]? = w.heap[j]?) : Rd w' lo k v n xs := by
  refine ⟨h.len, h.few, ?_⟩
  rcases h.at_ with hn | ⟨g, off, cap, rfl, h1, h2, h3, h4, hx⟩
  · exact .inl hn
  · refine .inr ⟨g, off, cap, rfl, h1, Nat.lt_of_lt_of_le h2 hs, h3, h4, fun j u hj => ?_⟩
    rw [World.cell?_of_block (w := w) (by exact hk g rfl)]
    exact hx j u hj
theorem Rd.keepLo {lo : Nat} (h : Rd w lo k v n xs) (hs : w.heap.size ≤ w'.heap.size) (hk : ∀ j, lo ≤ j → j < w.heap.size → w'.heap[j]? = w.heap[j]?) : Rd w' lo k v n xs := by
  refine ⟨h.len, h.few, ?_⟩
  rcases h.at_ with hn | ⟨g, off, cap, rfl, h1, h2, h3, h4, hx⟩
  · exact .inl hn
  · refine .inr ⟨g, off, cap, rfl, h1, Nat.lt_of_lt_of_le h2 hs, h3, h4, fun j u hj => ?_⟩
    rw [World.cell?_of_block (w := w) (by exact hk g h1 h2)]
    exact hx j u hj
theorem Rd.below {B' lo : Nat} (h : Rd w lo k v n xs) (hb : Below B' w w') (hB : w.heap.size ≤ B') : Rd w' lo k v n xs := by
  refine ⟨h.len, h.few, ?_⟩
  rcases h.at_ with hn | ⟨g, off, cap, rfl, h1, h2, h3, h4, hx⟩
  · exact .inl hn
  · exact .inr ⟨g, off, cap, rfl, h1, Nat.lt_of_lt_of_le h2 hb.size, h3, h4, fun j u hj => (hb.cell (p := ⟨g, off + j, none⟩) (Nat.lt_of_lt_of_le h2 hB)).trans (hx j u hj)⟩
theorem Rd.base {lo lo' : Nat} (h : Rd w lo k v n xs) (hb : lo' ≤ lo) : Rd w lo' k v n xs :=
  ⟨h.len, h.few, h.at_.imp id fun ⟨g, off, cap, hv, h1, rest⟩ => ⟨g, off, cap, hv, Nat.le_trans hb h1, rest⟩⟩
theorem Rd.slice {lo : Nat} (h : Rd w lo k v n xs) : ∃ A c, v = .slice A n c := by
  rcases h.at_ with ⟨rfl, A, c, rfl, _⟩ | ⟨g, off, cap, rfl, _⟩
  · exact ⟨_, _, rfl⟩
  · exact ⟨_, _, rfl⟩
/-- The cells of an element. -/
theorem Rd.get {lo : Nat} (h : Rd w lo k v n xs) {j : Nat} (hj : j < n) :
    ∃ g off cap, v = .slice (some ⟨g, off, none⟩) n cap ∧ lo ≤ g ∧ g < w.heap.size ∧ (∀ i, i < k → ∃ u, xs[j * k + i]? = some u ∧ w.cell? ⟨g, off + j * k + i, none⟩ = some u) ∧ n ≤ cap ∧ cap ≤ maxLen := by
  rcases h.at_ with ⟨rfl, _⟩ | ⟨g, off, cap, rfl, h1, h2, h3, h4, hx⟩
  · omega
  · refine ⟨g, off, cap, rfl, h1, h2, fun i hi => ?_, h3, h4⟩
    have hlt : j * k + i < xs.length := by
      rw [h.len]
      have : (j + 1) * k ≤ n * k := Nat.mul_le_mul_right k hj
      rw [Nat.add_mul, Nat.one_mul] at this
      omega
    refine ⟨xs[j * k + i], List.getElem?_eq_getElem hlt, ?_⟩
    rw [Nat.add_assoc]
    exact hx _ _ (List.getElem?_eq_getElem hlt)
/-- The slice without its first element, as it is read. -/
theorem Rd.tail {lo g off cap : Nat} (h : Rd w lo k (.slice (some ⟨g, off, none⟩) (n + 1) cap) (n + 1) xs) :
    Rd w lo k (.slice (if cap = 1 then some ⟨g, off, none⟩ else some ⟨g, off + k, none⟩) n (cap - 1)) n (xs.drop k) := by
  have hl := h.len
  refine ⟨by rw [List.length_drop, hl, Nat.add_mul, Nat.one_mul]; omega, by have := h.few; omega, ?_⟩
  rcases h.at_ with ⟨h0, _⟩ | ⟨g', off', cap', hv, h1, h2, h3, h4, hx⟩
  · omega
  · cases hv
    by_cases hc : cap = 1
    · obtain rfl : n = 0 := by omega
      exact .inl ⟨rfl, _, _, rfl, fun hh => by simp [hc] at hh⟩
    · rw [if_neg hc]
      refine .inr ⟨g, off + k, cap - 1, rfl, h1, h2, by omega, by omega, fun j u hu => ?_⟩
      rw [List.getElem?_drop] at hu
      rw [Nat.add_assoc]
      exact hx _ _ hu

variable {P : Program}
theorem Rd.src {lo : Nat} {t : TypeId} (h : Rd w lo k v n xs) (ht : P.underlying t = some (.slice e)) (h1 : ∀ x ∈ xs, x.oneCell' = true) : Src P k t v n xs w := by
  rcases h.at_ with ⟨rfl, A, c, rfl, _⟩ | ⟨g, off, cap, rfl, _, _, _, _, hx⟩
  · obtain rfl : xs = [] := List.eq_nil_of_length_eq_zero (by simpa using h.len)
    cases A with
    | none => exact Src.ofNil w ht c
    | some a => exact Src.ofSlice w ht a 0 c [] (by simp) (fun j u hj => by simp at hj) (fun x hx => by simp at hx)
  · refine Src.ofSlice w ht ⟨g, off, none⟩ n cap xs h.len (fun j u hj => ?_) h1
    rw [Addr.add_lit]
    exact hx j u hj

/-- An append of any slice. -/
theorem run_append_rk (w : World) (B : Nat) (t ty e : TypeId) (i : TypeInfo) (z : Value) (k : Nat) (ht : P.underlying t = some (.slice e)) (hi : P.info? e = some i) (hz : i.zero = some z) (hsize : i.size = k)
    (hby : i.bytes ≤ 1000) (hzs : z.cells.size = k) (v : Value) (n : Nat) (xs : List Value) (h : Rk w B e k v n xs) (x : Value) (m : Nat) (ys : List Value) (hs : Src P k t x m ys w)
    (hn : n + m ≤ 1000000000) (hB : B ≤ w.heap.size) :
    ∃ A' c' w', (Builtin.append_ #[t, t] ty #[v, x]).run P w = .ok (.slice A' (n + m) c') w' ∧ Rk w' B e k (.slice A' (n + m) c') (n + m) (xs ++ ys) ∧ w.grownBy w' v.ownBlock ∧
      ∀ j, (Value.slice A' (n + m) c').ownBlock = some j → v.ownBlock = some j ∨ w.heap.size ≤ j := by
  have hl := h.1
  have hyl : ys.length = m * k := hs.newsLen
  have hlen : (xs ++ ys).length = (n + m) * k := by rw [List.length_append, hl, hyl, Nat.add_mul]
  subst hsize
  have grown : ∀ (base : Option Addr) (old : Nat), old < n + m → v = .slice base n old → (Builtin.firstCells i.size n (.slice base n old)).run P w.drew = .ok xs.toArray w.drew →
      ∃ A' c' w', (Builtin.append_ #[t, t] ty #[v, x]).run P w = .ok (.slice A' (n + m) c') w' ∧ Rk w' B e i.size (.slice A' (n + m) c') (n + m) (xs ++ ys) ∧ w.grownBy w' v.ownBlock ∧
      ∀ j, (Value.slice A' (n + m) c').ownBlock = some j → v.ownBlock = some j ∨ w.heap.size ≤ j := by
    intro base old ho hv hold
    have hr := run_append_grow_src (P := P) (w := w) t t ty e i z ht hi hz base n old xs hold x m ys hs (by omega) (by omega) (growslice_fits (by omega) (Nat.le_trans (Nat.mul_le_mul hn hby) (by decide)))
    have hge := grownCap_ge w (n + m) old e
    have hcm : grownCap w (n + m) old e ≤ maxLen := grownCap_le_maxLen w (n + m) old e (by unfold maxLen; omega)
    subst hv
    refine ⟨_, _, _, hr, ⟨hlen, .inr ⟨w.heap.size, 0, _, _, rfl, hB, heap_alloc_new w.drew _, hge, hcm, ?_, ?_⟩⟩, ⟨rfl, rfl, rfl, by simp, fun k hk _ => Below.heap_alloc w.drew _ k hk⟩, fun j hj => .inr ?_⟩
    · simp only [Array.size_append, List.size_toArray, size_zeroCells, hzs, hlen]
      rw [Nat.zero_add, ← Nat.add_mul, Nat.add_sub_cancel' hge]
      exact Nat.le_refl _
    · intro j u hj
      have hlt : j < (xs ++ ys).length := by
        rcases Nat.lt_or_ge j (xs ++ ys).length with hl | hl
        · exact hl
        · rw [List.getElem?_eq_none hl] at hj
          cases hj
      rw [Nat.zero_add, Array.getElem?_append_left (by simpa using hlt)]
      simpa using hj
    · simp [Value.ownBlock] at hj
      omega
  rcases h.2 with ⟨rfl, rfl⟩ | ⟨g, off, cap, cur, rfl, hb, hg, hc1, hc2, hc3, hx⟩
  · have hx : xs = [] := List.eq_nil_of_length_eq_zero (by simpa using h.1)
    subst hx
    rcases Nat.eq_zero_or_pos m with hm | hm
    · subst hm
      have hy : ys = [] := List.eq_nil_of_length_eq_zero (by simpa using hyl)
      subst hy
      refine ⟨none, 0, w, ?_, Rk.nil_ _ _ _ _, ⟨rfl, rfl, rfl, Nat.le_refl _, fun _ _ _ => rfl⟩, fun k hk => by simp [Value.ownBlock] at hk⟩
      rcases hs.kind with ⟨e', hk⟩ | hk <;> simp [Builtin.append_, run_underlying ht, sizeOf, typeInfo, hi, hs.len, hs.cells]
    · exact grown none 0 (by omega) rfl (run_firstCells_none w.drew i.size 0 0 0)
  · by_cases hroom : n + m ≤ cap
    · have hcell : ∀ j, w.cell? ⟨g, j, none⟩ = cur[j]? := fun j => cell_of_row w g j cur e (0, 0) hg
      have hmul : (n + m) * i.size ≤ cap * i.size := Nat.mul_le_mul_right _ hroom
      rw [Nat.add_mul] at hmul
      have hr := run_append_room_src (P := P) (w := w) t t ty e i ht hi g off n cap x m ys hs hroom
        (fun j hj => by
          rw [hcell, Array.getElem?_eq_getElem (by omega)]
          rfl)
        (fun j _ => by simp [World.frozen?, hg])
      obtain ⟨cs', h1, h2, h3, h4⟩ := blk_sets ys (off + n * i.size) w cur hg
      refine ⟨_, _, _, hr, ⟨hlen, .inr ⟨g, off, cap, cs', rfl, hb, h1, hroom, hc2, by omega, fun j u hj => ?_⟩⟩, ⟨(World.os_setCells w g _ ys), ?_, World.output_setCells w g _ ys, ?_, fun k hk hne => World.heap_setCells_other w g _ ys hk fun e => hne (by simp [Value.ownBlock, e])⟩, fun k hk => .inl hk⟩
      · rcases Nat.lt_or_ge j (n * i.size) with hjn | hjn
        · rw [h3 _ (by omega)]
          rw [List.getElem?_append_left (by omega)] at hj
          exact hx j u hj
        · have hjl : j < (n + m) * i.size := by
            rcases Nat.lt_or_ge j ((n + m) * i.size) with hlt | hge
            · exact hlt
            · rw [List.getElem?_eq_none (by omega)] at hj
              cases hj
          rw [Nat.add_mul] at hjl
          rw [List.getElem?_append_right (by omega), hl] at hj
          have := h4 (j - n * i.size) u hj (by omega)
          rwa [show off + n * i.size + (j - n * i.size) = off + j by omega] at this
      · exact run_append_rows.tape_sets g ys (off + n * i.size) w
      · exact run_append_rows.size_sets g ys (off + n * i.size) w
    · refine grown (some ⟨g, off, none⟩) cap (by omega) rfl ?_
      refine run_firstCells_some w.drew i.size n ⟨g, off, none⟩ n cap xs hl (fun j u' hj => ?_)
      rw [Addr.add_lit]
      show w.cell? ⟨g, off + j, none⟩ = some u'
      rw [cell_of_row w g _ cur e (0, 0) hg]
      exact hx j u' hj

theorem wpList_append_rk {ops : Array Oper} {rest : List Oper} {o : Oper} {a : Act} {w : World} {Q : Exit → Act → World → Prop} (hgd : o.guard = none) (s x : Operand) (t : TypeId)
    (ho : o.op = .call { callee := .builtin .append, args := #[s, x], argTypes := #[t, t] })
    (B : Nat) (e : TypeId) (i : TypeInfo) (z : Value) (k : Nat) (ht : P.underlying t = some (.slice e)) (hi : P.info? e = some i) (hz : i.zero = some z) (hsize : i.size = k)
    (hby : i.bytes ≤ 1000) (hzs : z.cells.size = k) (v : Value) (n : Nat) (xs : List Value) (hs : a.eval s = v) (h : Rk w B e k v n xs) (xv : Value) (m : Nat) (ys : List Value) (hx : a.eval x = xv)
    (hsrc : Src P k t xv m ys w) (hn : n + m ≤ 1000000000) (hB : B ≤ w.heap.size)
    (kk : ∀ A' c' w', Rk w' B e k (.slice A' (n + m) c') (n + m) (xs ++ ys) → w.grownBy w' v.ownBlock → (∀ j, (Value.slice A' (n + m) c').ownBlock = some j → v.ownBlock = some j ∨ w.heap.size ≤ j) → wpList P ops Q rest (a.put o.dst (.slice A' (n + m) c')) w') : wpList P ops Q (o :: rest) a w :=
  wpList_plain hgd fun K hK => by
    obtain ⟨A', c', w', hr, h2, h3, h4⟩ := run_append_rk (P := P) w B t o.type e i z k ht hi hz hsize hby hzs v n xs h xv m ys hsrc hn hB
    unfold Oper.wp execOp
    simp only [ho, resolve, invoke, builtin, Sem.run_bind, Sem.run_pure, Result.andThen_ok, List.map_toArray, List.map_cons, List.map_nil, hs, hx, hr]
    exact hK _ _ (kk A' c' w' h2 h3 h4)
/-- The same, as one step of a region that draws its order. -/
theorem step_append_rk {ops : Array Oper} {o : Oper} {a : Act} {w : World} {K : Act → World → Prop} {Q : Exit → Act → World → Prop} {E : Prop} (hgd : o.guard = none) (s x : Operand) (t : TypeId)
    (ho : o.op = .call { callee := .builtin .append, args := #[s, x], argTypes := #[t, t] })
    (B : Nat) (e : TypeId) (i : TypeInfo) (z : Value) (k : Nat) (ht : P.underlying t = some (.slice e)) (hi : P.info? e = some i) (hz : i.zero = some z) (hsize : i.size = k)
    (hby : i.bytes ≤ 1000) (hzs : z.cells.size = k) (v : Value) (n : Nat) (xs : List Value) (hs : a.eval s = v) (h : Rk w B e k v n xs) (xv : Value) (m : Nat) (ys : List Value) (hx : a.eval x = xv)
    (hsrc : Src P k t xv m ys w) (hn : n + m ≤ 1000000000) (hB : B ≤ w.heap.size)
    (kk : ∀ A' c' w', Rk w' B e k (.slice A' (n + m) c') (n + m) (xs ++ ys) → w.grownBy w' v.ownBlock → (∀ j, (Value.slice A' (n + m) c').ownBlock = some j → v.ownBlock = some j ∨ w.heap.size ≤ j) → K (a.put o.dst (.slice A' (n + m) c')) w') :
    if Region.wanted o (yielded ops a.tmps) = true then Oper.wp P o a w K Q else E := by
  have hw : Region.wanted o (yielded ops a.tmps) = true := by simp [Region.wanted, hgd]
  rw [if_pos hw]
  obtain ⟨A', c', w', hr, h2, h3, h4⟩ := run_append_rk (P := P) w B t o.type e i z k ht hi hz hsize hby hzs v n xs h xv m ys hsrc hn hB
  unfold Oper.wp
  simp [execOp, ho, resolve, invoke, builtin, hs, hx, hr, Result.andThen]
  exact kk A' c' w' h2 h3 h4
/-- An element just laid, as what is appended. -/
theorem Src.lit {w : World} {t e : TypeId} {k : Nat} {b : Nat} {cs : Array Value} {m : Nat × Nat} (ht : P.underlying t = some (.slice e)) (hb : w.heap[b]? = some (.cells cs e m)) (n c : Nat) (hl : cs.size = n * k) (h1 : ∀ u ∈ cs.toList, u.oneCell' = true) : Src P k t (.slice (some ⟨b, 0, none⟩) n c) n cs.toList w := by
  refine Src.ofSlice w ht ⟨b, 0, none⟩ n c cs.toList (by simpa using hl) (fun j u hj => ?_) h1
  rw [Addr.add_lit, Nat.zero_add, cell_of_row w b _ cs e m hb]
  simpa using hj
end
end Go.Proofs.YtlhaaokldjdnnaaGreatDoor
