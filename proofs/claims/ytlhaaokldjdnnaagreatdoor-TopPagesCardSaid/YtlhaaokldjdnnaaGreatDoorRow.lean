/-
  A slice of one-cell elements that lies anywhere in a row of the call's own (one that was cut at its head too), and what an append of one element makes of it. No condition but that the slice is not longer than a thousand million; nothing of the program stands here.
-/
import Derived.Test.YtlhaaokldjdnnaaGreatDoorAidAll
import Derived.Deep.AppendSrc
import Derived.Laws.OwnMore
import Derived.Lib.AppendStr
namespace Go.Proofs.YtlhaaokldjdnnaaGreatDoor
open Go.RowKit
set_option linter.unusedVariables false
set_option linter.unusedSimpArgs false

/-- The slice value v, of n elements of type e, reads as xs; its row is one of the call's own, from block B on. -/
def Row (w : World) (B : Nat) (e : TypeId) (v : Value) (n : Nat) (xs : List Value) : Prop :=
  xs.length = n ∧ ((v = .slice none 0 0 ∧ n = 0) ∨
   ∃ g off cap cur, v = .slice (some ⟨g, off, none⟩) n cap ∧ B ≤ g ∧ w.heap[g]? = some (.cells cur e (0, 0)) ∧ n ≤ cap ∧ cap ≤ maxLen ∧ off + cap ≤ cur.size ∧ ∀ j u, xs[j]? = some u → cur[off + j]? = some u)

section
variable {w w' : World} {B : Nat} {e : TypeId} {v : Value} {n : Nat} {xs : List Value}
theorem Row.nil_ (w : World) (B : Nat) (e : TypeId) : Row w B e (.slice none 0 0) 0 [] := ⟨rfl, .inl ⟨rfl, rfl⟩⟩
theorem Row.keep (h : Row w B e v n xs) (hk : ∀ k, v.ownBlock = some k → w'.heap[k]? = w.heap[k]?) : Row w' B e v n xs := by
  refine ⟨h.1, ?_⟩
  rcases h.2 with hn | ⟨g, off, cap, cur, rfl, hb, hg, rest⟩
  · exact .inl hn
  · exact .inr ⟨g, off, cap, cur, rfl, hb, (hk g rfl).trans hg, rest⟩
theorem Row.lt (h : Row w B e v n xs) : ∀ k, v.ownBlock = some k → B ≤ k ∧ k < w.heap.size := by
  intro k hk
  rcases h.2 with ⟨rfl, _⟩ | ⟨g, off, cap, cur, rfl, hb, hg, _⟩
  · simp [Value.ownBlock] at hk
  · simp [Value.ownBlock] at hk
    subst hk
    exact ⟨hb, (Array.getElem?_eq_some_iff.1 hg).1⟩
theorem Row.below {B' : Nat} (h : Row w B e v n xs) (hb : Below B' w w') (hB : w.heap.size ≤ B') : Row w' B e v n xs :=
  h.keep fun k hk => hb.block k (Nat.lt_of_lt_of_le (h.lt k hk).2 hB)
theorem Row.alloc (h : Row w B e v n xs) (o : Obj) : Row (w.alloc o) B e v n xs := h.keep fun k hk => Below.heap_alloc w o k (h.lt k hk).2
theorem Row.setCell (h : Row w B e v n xs) {p : Addr} (hp : v.ownBlock ≠ some p.block) (u : Value) : Row (w.setCell p u) B e v n xs :=
  h.keep fun k hk => Below.heap_setCell w p u k fun e => hp (by rw [hk, e])
theorem Row.grown (h : Row w B e v n xs) {row : Option Nat} (hg : w.grownBy w' row) (hne : ∀ k, v.ownBlock = some k → some k ≠ row) : Row w' B e v n xs :=
  h.keep fun k hk => hg.block k (h.lt k hk).2 (hne k hk)
/-- The row's block is none of another type. -/
theorem Row.apart {g : Nat} {t : TypeId} {cs : Array Value} {m : Nat × Nat} (h : Row w B e v n xs) (hg : w.heap[g]? = some (.cells cs t m)) (hne : e ≠ t) : v.ownBlock ≠ some g := by
  rcases h.2 with ⟨rfl, _⟩ | ⟨g', off, cap, cur, rfl, _, hh, _⟩
  · simp [Value.ownBlock]
  · intro he
    have : g' = g := by simpa [Value.ownBlock] using he
    subst this
    rw [hg] at hh
    injection hh with hh
    injection hh with _ ht
    exact hne ht.symm
/-- An element. -/
theorem Row.get (h : Row w B e v n xs) {j : Nat} (hj : j < n) : ∃ g off cap, v = .slice (some ⟨g, off, none⟩) n cap ∧ w.cell? ⟨g, off + j, none⟩ = some (xs[j]'(by have := h.1; omega)) ∧ n ≤ cap ∧ cap ≤ maxLen := by
  have hl := h.1
  rcases h.2 with ⟨rfl, hn⟩ | ⟨g, off, cap, cur, rfl, _, hg, h1, h2, h3, hx⟩
  · omega
  · refine ⟨g, off, cap, rfl, ?_, h1, h2⟩
    rw [cell_of_row w g _ cur e (0, 0) hg]
    exact hx j _ (List.getElem?_eq_getElem _)
/-- The row without its first element. -/
theorem Row.tail {g off cap : Nat} {x : Value} {n : Nat} {xs : List Value} (h : Row w B e (.slice (some ⟨g, off, none⟩) (n + 1) cap) (n + 1) (x :: xs)) :
    Row w B e (.slice (if cap = 1 then some ⟨g, off, none⟩ else some ⟨g, off + 1, none⟩) n (cap - 1)) n xs := by
  have hl := h.1
  rcases h.2 with ⟨h0, _⟩ | ⟨g', off', cap', cur, hv, hb, hg, h1, h2, h3, hx⟩
  · cases h0
  · cases hv
    refine ⟨by simpa using hl, .inr ?_⟩
    by_cases hc : cap = 1
    · refine ⟨g, off, cap - 1, cur, by rw [if_pos hc], hb, hg, by omega, by omega, by omega, fun j u hu => ?_⟩
      have : xs = [] := List.eq_nil_of_length_eq_zero (by simp at hl; omega)
      subst this
      simp at hu
    · refine ⟨g, off + 1, cap - 1, cur, by rw [if_neg hc], hb, hg, by omega, by omega, by omega, fun j u hu => ?_⟩
      rw [Nat.add_assoc, Nat.add_comm 1 j]
      exact hx (j + 1) u (by simpa using hu)

theorem blk_set {g : Nat} {t : TypeId} {cs : Array Value} (h : w.heap[g]? = some (.cells cs t (0, 0))) (i : Nat) (u : Value) : (w.setCell ⟨g, i, none⟩ u).heap[g]? = some (.cells (cs.setIfInBounds i u) t (0, 0)) := by
  simp [World.setCell, Array.getElem?_modify, h]
theorem blk_frozen {g : Nat} {t : TypeId} {cs : Array Value} (h : w.heap[g]? = some (.cells cs t (0, 0))) (i : Nat) : w.frozen? ⟨g, i, none⟩ = false := by
  simp [World.frozen?, h]
theorem blk_lt {g : Nat} {o : Obj} (h : w.heap[g]? = some o) : g < w.heap.size := (Array.getElem?_eq_some_iff.1 h).1

variable {P : Program}
theorem run_append_row (w : World) (B : Nat) (t ty e : TypeId) (i : TypeInfo) (z : Value) (ht : P.underlying t = some (.slice e)) (hi : P.info? e = some i) (hz : i.zero = some z) (hsize : i.size = 1)
    (hby : i.bytes ≤ 1000) (hzs : z.cells.size = 1) (v : Value) (n : Nat) (xs : List Value) (h : Row w B e v n xs) (a : Addr) (c : Nat) (u : Value) (hu : w.cell? a = some u) (h1 : u.oneCell' = true)
    (hn : n ≤ 1000000000) (hB : B ≤ w.heap.size) :
    ∃ v' w', (Builtin.append_ #[t, t] ty #[v, .slice (some a) 1 c]).run P w = .ok v' w' ∧ Row w' B e v' (n + 1) (xs ++ [u]) ∧ w.grownBy w' v.ownBlock ∧ (v'.ownBlock = v.ownBlock ∨ v'.ownBlock = some w.heap.size) := by
  have hlen : (xs ++ [u]).length = n + 1 := by rw [List.length_append, h.1]; rfl
  have hs : Src P i.size t (.slice (some a) 1 c) 1 [u] w := by
    rw [hsize]
    refine Src.ofSlice w ht a 1 c [u] rfl (fun j u' hj => ?_) (fun x hx => by simp at hx; subst hx; exact h1)
    cases j with
    | zero =>
      have : u = u' := by simpa using hj
      subst this
      have ha : a.add 0 = a := by unfold Addr.add; simp
      rw [ha]
      exact hu
    | succ j => simp at hj
  have grown : ∀ (base : Option Addr) (old : Nat), old < n + 1 → v = .slice base n old → (Builtin.firstCells i.size n (.slice base n old)).run P w.drew = .ok xs.toArray w.drew →
      ∃ v' w', (Builtin.append_ #[t, t] ty #[v, .slice (some a) 1 c]).run P w = .ok v' w' ∧ Row w' B e v' (n + 1) (xs ++ [u]) ∧ w.grownBy w' v.ownBlock ∧ (v'.ownBlock = v.ownBlock ∨ v'.ownBlock = some w.heap.size) := by
    intro base old ho hv hold
    have hm : (n + 1) * i.bytes ≤ 140737488355328 := Nat.le_trans (Nat.mul_le_mul (by omega : n + 1 ≤ 1000000001) hby) (by decide)
    have hr := run_append_grow_src (P := P) w t t ty e i z ht hi hz base n old xs hold (.slice (some a) 1 c) 1 [u] hs (by omega) (by omega) (growslice_fits (by omega) hm)
    have hge := grownCap_ge w (n + 1) old e
    have hcm : grownCap w (n + 1) old e ≤ maxLen := grownCap_le_maxLen w (n + 1) old e (by unfold maxLen; omega)
    subst hv
    refine ⟨_, _, hr, ⟨hlen, .inr ⟨w.heap.size, 0, _, _, rfl, hB, heap_alloc_new w.drew _, hge, hcm, ?_, ?_⟩⟩, ⟨rfl, rfl, rfl, by simp, fun k hk _ => Below.heap_alloc w.drew _ k hk⟩, .inr rfl⟩
    · simp only [Array.size_append, List.size_toArray, size_zeroCells, hzs, hlen]
      omega
    · intro j x hj
      have hlt : j < (xs ++ [u]).length := by
        rcases Nat.lt_or_ge j (xs ++ [u]).length with hl | hl
        · exact hl
        · rw [List.getElem?_eq_none hl] at hj
          cases hj
      rw [Nat.zero_add, Array.getElem?_append_left (by simpa using hlt)]
      simpa using hj
  rcases h.2 with ⟨rfl, rfl⟩ | ⟨g, off, cap, cur, rfl, hb, hg, hc1, hc2, hc3, hx⟩
  · have hx : xs = [] := List.eq_nil_of_length_eq_zero h.1
    subst hx
    exact grown none 0 (by omega) rfl (run_firstCells_none w.drew i.size 0 0 0)
  · by_cases hroom : n + 1 ≤ cap
    · have hcell : ∀ j, w.cell? ⟨g, j, none⟩ = cur[j]? := fun j => cell_of_row w g j cur e (0, 0) hg
      have hr := run_append_room_src (P := P) w t t ty e i ht hi g off n cap (.slice (some a) 1 c) 1 [u] hs hroom
        (fun j hj => by
          simp at hj
          subst hj
          rw [hcell, hsize, Array.getElem?_eq_getElem (by omega)]
          rfl)
        (fun j _ => by simp [World.frozen?, hg])
      refine ⟨_, _, hr, ⟨hlen, .inr ⟨g, off, cap, cur.setIfInBounds (off + n) u, rfl, hb, ?_, hroom, hc2, by simpa using hc3, ?_⟩⟩, ?_, .inl rfl⟩
      · rw [hsize, Nat.mul_one]
        simp [World.setCells, World.setCell, Array.getElem?_modify, hg]
      · intro j x hj
        rw [Array.getElem?_setIfInBounds]
        by_cases hjn : j = n
        · subst hjn
          rw [if_pos rfl, if_pos (by omega)]
          rw [List.getElem?_append_right (by rw [h.1]; omega), h.1] at hj
          simpa using hj
        · rw [if_neg (by omega)]
          refine hx j x ?_
          rcases Nat.lt_or_ge j n with hl | hl
          · rwa [List.getElem?_append_left (by rw [h.1]; exact hl)] at hj
          · rw [List.getElem?_eq_none (by rw [hlen]; omega)] at hj
            cases hj
      · refine ⟨rfl, rfl, rfl, by simp [World.setCells, World.setCell], fun k _ hk => ?_⟩
        exact Below.heap_setCell w _ _ k fun e => hk (by simp [Value.ownBlock, e])
    · refine grown (some ⟨g, off, none⟩) cap (by omega) rfl ?_
      refine run_firstCells_some w.drew i.size n ⟨g, off, none⟩ n cap xs (by rw [hsize, h.1, Nat.mul_one]) (fun j u' hj => ?_)
      rw [Addr.add_lit]
      show w.cell? ⟨g, off + j, none⟩ = some u'
      rw [cell_of_row w g _ cur e (0, 0) hg]
      exact hx j u' hj

theorem wpList_append_row {ops : Array Oper} {rest : List Oper} {o : Oper} {a : Act} {w : World} {Q : Exit → Act → World → Prop} (hgd : o.guard = none) (s x : Operand) (t : TypeId)
    (ho : o.op = .call { callee := .builtin .append, args := #[s, x], argTypes := #[t, t] })
    (B : Nat) (e : TypeId) (i : TypeInfo) (z : Value) (ht : P.underlying t = some (.slice e)) (hi : P.info? e = some i) (hz : i.zero = some z) (hsize : i.size = 1)
    (hby : i.bytes ≤ 1000) (hzs : z.cells.size = 1) (v : Value) (n : Nat) (xs : List Value) (hs : a.eval s = v) (h : Row w B e v n xs) (ad : Addr) (c : Nat) (u : Value) (hx : a.eval x = .slice (some ad) 1 c)
    (hu : w.cell? ad = some u) (h1 : u.oneCell' = true) (hn : n ≤ 1000000000) (hB : B ≤ w.heap.size)
    (k : ∀ A' c' w', Row w' B e (.slice A' (n + 1) c') (n + 1) (xs ++ [u]) → w.grownBy w' v.ownBlock → wpList P ops Q rest (a.put o.dst (.slice A' (n + 1) c')) w') : wpList P ops Q (o :: rest) a w :=
  wpList_plain hgd fun K hK => by
    obtain ⟨v', w', hr, h2, h3, h4⟩ := run_append_row (P := P) w B t o.type e i z ht hi hz hsize hby hzs v n xs h ad c u hu h1 hn hB
    unfold Oper.wp execOp
    simp only [ho, resolve, invoke, builtin, Sem.run_bind, Sem.run_pure, Result.andThen_ok, List.map_toArray, List.map_cons, List.map_nil, hs, hx, hr]
    obtain ⟨A', c', rfl⟩ : ∃ A' c', v' = .slice A' (n + 1) c' := by
      rcases h2.2 with ⟨_, h0⟩ | ⟨g, off, cap, cur, hv, _⟩
      · omega
      · exact ⟨_, _, hv⟩
    exact hK _ _ (k A' c' w' h2 h3)
end
end Go.Proofs.YtlhaaokldjdnnaaGreatDoor
