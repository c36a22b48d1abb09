/-
  Layer 43 (mix): events that are cut, by the program. No condition but that what comes in lies in memory, and one size, from one to a thousand, is told.
-/
import Derived.Test.YtlalbfpdelfnfaaCutAid
namespace Go.Proofs.Ytlalbfpdelfnfaa
open Go.RowKit Go.Shelf
set_option linter.unusedVariables false
attribute [local go_sem] Oper.semAt_some

def cutE (z : Nat) (e : Ev) : List Ev := if e.k = 3 then (pieces z e.body).map fun s => { e with body := s } else [e]
def cutL (z : Nat) (es : List Ev) : List Ev := es.flatMap (cutE z)

/-- How it stands between two events. -/
structure CutInv (w wr : World) (sb so cap z : Nat) (A : Option Addr) (c j : Nat) (os : List Ev) (i : Nat) (Ds : List Nat) : Prop where
  below : Below w.heap.size w wr
  out : wr.heap[w.heap.size]? = some (.cells #[.slice A j c] 22 (0, 0))
  outs : Outs wr w.heap.size w.heap.size (.slice A j c) j os
  few : j ≤ 5 * i
  knife : ∃ at_, at_ ≤ 4 * i ∧ Knife wr (w.heap.size + 1) sb so cap at_ z
  marks : ∀ D ∈ Ds, w.heap.size ≤ D ∧ wr.heap[D]? = some (.deferred (some []))
  nodup : Ds.Nodup
theorem CutInv.later {w wr wr' : World} {sb so cap z : Nat} {A : Option Addr} {c j : Nat} {os : List Ev} {i : Nat} {Ds : List Nat} (h : CutInv w wr sb so cap z A c j os i Ds) (hsb : sb < wr.heap.size) (hb : Below wr.heap.size wr wr') : CutInv w wr' sb so cap z A c j os i Ds := by
  obtain ⟨at_, h1, h2⟩ := h.knife
  exact ⟨below_then h.below (Nat.le_refl _) (hb.mono (Nat.le_refl _)), (hb.block _ (blk_lt h.out)).trans h.out, h.outs.below hb, h.few, ⟨at_, h1, h2.keep (hb.block _ (blk_lt h2.blk)) (hb.block _ hsb)⟩, fun D hD => ⟨(h.marks D hD).1, (hb.block _ (blk_lt (h.marks D hD).2)).trans (h.marks D hD).2⟩, h.nodup⟩
theorem CutInv.turn {w w4 w5 : World} {sb so cap z : Nat} {A A' : Option Addr} {c c' j : Nat} {os : List Ev} {e : Ev} {i : Nat} {Ds : List Nat} (h : CutInv w w4 sb so cap z A c j os i Ds) (hsb : sb < w.heap.size)
    (ho : Outs w5 w.heap.size w.heap.size (.slice A' (j + 1) c') (j + 1) (os ++ [e])) (hg : w4.grownBy w5 (Value.slice A j c).ownBlock) (hf : j + 1 ≤ 5 * i) : CutInv w (w5.setCell ⟨w.heap.size, 0, none⟩ (.slice A' (j + 1) c')) sb so cap z A' c' (j + 1) (os ++ [e]) i Ds := by
  obtain ⟨at_, h1, h2⟩ := h.knife
  have typed : ∀ r, (Value.slice A j c).ownBlock = some r → w.heap.size ≤ r ∧ ∃ cs m, w4.heap[r]? = some (.cells cs 32 m) := by
    obtain ⟨ps, _, _, h3, _⟩ := h.outs
    exact h3.typed
  have same : ∀ (b : Nat) (o : Obj), w4.heap[b]? = some o → (∀ cs m, o ≠ .cells cs 32 m) → w5.heap[b]? = some o := fun b o hb hn => (hg.block b (blk_lt hb) fun e => by
    obtain ⟨_, cs, m, hc⟩ := typed b e.symm
    rw [hb] at hc
    exact hn cs m (Option.some.inj hc)).trans hb
  have hout := same _ _ h.out (fun cs m e => by cases e)
  have hkn := same _ _ h2.blk (fun cs m e => by cases e)
  have hlow : ∀ b, b < w.heap.size → w5.heap[b]? = w4.heap[b]? := fun b hb => hg.block b (Nat.lt_of_lt_of_le hb h.below.size) fun e => by
    have := (typed b e.symm).1
    omega
  have hne : w.heap.size + 1 ≠ w.heap.size := by omega
  refine ⟨?_, ?_, ?_, hf, ⟨at_, h1, (Below.heap_setCell _ _ _ _ hne).trans hkn, ?_⟩, fun D hD => ⟨(h.marks D hD).1, ?_⟩, h.nodup⟩
  · exact ((h.below).grown hg h.below.size fun b hb => (typed b hb).1).setCell (p := ⟨w.heap.size, 0, none⟩) (Nat.le_refl _) _
  · rw [blk_set hout 0]
    rfl
  · refine ho.turn (by simp [World.setCell]) fun b hb => ?_
    by_cases hbe : b = w.heap.size
    · subst hbe
      refine .inr ⟨Nat.le_refl _, fun cs t m hc => ?_⟩
      rw [hout] at hc
      injection hc with hc
      injection hc with _ ht
      rw [← ht]
      decide
    · exact .inl (Below.heap_setCell _ _ _ _ hbe)
  · rw [World.cell?_of_block (w := w4) (a := ⟨sb, so, none⟩) ((Below.heap_setCell _ _ _ _ (by simp; omega)).trans (hlow sb hsb))]
    exact h2.size
  · have hm := (h.marks D hD).2
    have h5 := same _ _ hm (fun cs m e => by cases e)
    refine (Below.heap_setCell _ _ _ _ fun e => ?_).trans h5
    simp at e
    rw [e, h.out] at hm
    cases hm

theorem CutInv.cell {w w4 w5 : World} {sb so cap z : Nat} {A : Option Addr} {c j : Nat} {os : List Ev} {i : Nat} {Ds : List Nat} (h : CutInv w w4 sb so cap z A c j os i Ds) (hg : w4.grownBy w5 (Value.slice A j c).ownBlock) :
    w5.cell? ⟨w.heap.size, 0, none⟩ = some (.slice A j c) ∧ w5.frozen? ⟨w.heap.size, 0, none⟩ = false := by
  have typed : ∀ r, (Value.slice A j c).ownBlock = some r → w.heap.size ≤ r ∧ ∃ cs m, w4.heap[r]? = some (.cells cs 32 m) := by
    obtain ⟨ps, _, _, h3, _⟩ := h.outs
    exact h3.typed
  have hout : w5.heap[w.heap.size]? = some (.cells #[.slice A j c] 22 (0, 0)) := (hg.block _ (blk_lt h.out) fun e => by
    obtain ⟨_, cs, m, hc⟩ := typed _ e.symm
    rw [h.out] at hc
    cases hc).trans h.out
  exact ⟨cell_of_row w5 _ 0 _ _ _ hout, blk_frozen hout 0⟩
theorem CutInv.here {w wr : World} {sb so cap z : Nat} {A : Option Addr} {c j : Nat} {os : List Ev} {i : Nat} {Ds : List Nat} (h : CutInv w wr sb so cap z A c j os i Ds) :
    wr.cell? ⟨w.heap.size, 0, none⟩ = some (.slice A j c) ∧ wr.frozen? ⟨w.heap.size, 0, none⟩ = false := ⟨cell_of_row wr _ 0 _ _ _ h.out, blk_frozen h.out 0⟩
theorem CutInv.raise {w wr : World} {sb so cap z : Nat} {A : Option Addr} {c j : Nat} {os os' : List Ev} {i : Nat} {Ds : List Nat} (h : CutInv w wr sb so cap z A c j os i Ds) (he : os = os') : CutInv w wr sb so cap z A c j os' (i + 1) Ds := by
  subst he
  obtain ⟨at_, h1, h2⟩ := h.knife
  exact ⟨h.below, h.out, h.outs, by have := h.few; omega, ⟨at_, by omega, h2⟩, h.marks, h.nodup⟩
theorem CutInv.raise' {w wr : World} {sb so cap z : Nat} {A : Option Addr} {c j : Nat} {os : List Ev} {i : Nat} {Ds : List Nat} (h : CutInv w wr sb so cap z A c j os i Ds) : CutInv w wr sb so cap z A c j os (i + 1) Ds := h.raise rfl
/-- What a round's body leaves as it lies: all but cells of a list's place, and of events. -/
structure Leaves (W W' : World) : Prop where
  size : W.heap.size ≤ W'.heap.size
  same : ∀ (b : Nat) (o : Obj), W.heap[b]? = some o → (∀ cs m t, o = .cells cs t m → t ≠ 22 ∧ t ≠ 32) → W'.heap[b]? = some o
theorem Leaves.refl (W : World) : Leaves W W := ⟨Nat.le_refl _, fun _ _ h _ => h⟩
theorem Leaves.trans {X Y Z : World} (h : Leaves X Y) (k : Leaves Y Z) : Leaves X Z := ⟨Nat.le_trans h.size k.size, fun b o hb hn => k.same b o (h.same b o hb hn) hn⟩
theorem Leaves.below {W W' : World} (h : Below W.heap.size W W') : Leaves W W' := ⟨h.size, fun b o hb _ => (h.block b (blk_lt hb)).trans hb⟩
theorem Leaves.turn {W W' : World} {r : Nat} {cs : Array Value} {t : TypeId} {m : Nat × Nat} (hr : W.heap[r]? = some (.cells cs t m)) (ht : t = 22 ∨ t = 32) (hs : W.heap.size ≤ W'.heap.size) (h : ∀ b, b < W.heap.size → b ≠ r → W'.heap[b]? = W.heap[b]?) : Leaves W W' :=
  ⟨hs, fun b o hb hn => (h b (blk_lt hb) fun e => by
    subst e
    rw [hr] at hb
    cases hb
    have := hn cs m t rfl
    rcases ht with rfl | rfl
    · exact this.1 rfl
    · exact this.2 rfl).trans hb⟩

/-- How it stands between two pieces of an event. -/
structure PieceInv (w W : World) (sb bs bk be : Nat) (A : Option Addr) (c j : Nat) (os : List Ev) (e : Ev) (A1 : Option Addr) (n1 c1 : Nat) (Ds : List Nat) : Prop where
  below : Below w.heap.size w W
  out : W.heap[w.heap.size]? = some (.cells #[.slice A j c] 22 (0, 0))
  outs : Outs W w.heap.size w.heap.size (.slice A j c) j os
  ev : EvRow W be e (.slice A1 n1 c1)
  hds : Hds W 0 (.slice A1 n1 c1) e.hs
  apart : Apart W w.heap.size (.slice A1 n1 c1)
  ty1 : ∃ cs m, W.heap[bs]? = some (.cells cs 9 m)
  ty2 : ∃ cs m, W.heap[bk]? = some (.cells cs 52 m)
  ty3 : ∃ cs m, W.heap[w.heap.size + 1]? = some (.cells cs 54 m)
  low : sb < w.heap.size ∧ w.heap.size < bs ∧ w.heap.size < bk ∧ w.heap.size < be
  rowne : ∀ r, (Value.slice A j c).ownBlock = some r → r ≠ be
  marks : ∀ D ∈ Ds, w.heap.size ≤ D ∧ W.heap[D]? = some (.deferred (some []))
theorem PieceInv.kept {w W W' : World} {sb bs bk be c j n1 c1 : Nat} {A A1 : Option Addr} {os : List Ev} {e : Ev} {Ds : List Nat} (h : PieceInv w W sb bs bk be A c j os e A1 n1 c1 Ds)
    (e1 : W'.os = W.os) (e2 : W'.tape = W.tape) (e3 : W'.output = W.output) (hs : W.heap.size ≤ W'.heap.size)
    (hk : ∀ (b : Nat) (o : Obj), W.heap[b]? = some o → (b < w.heap.size ∨ (∃ cs t m, o = .cells cs t m ∧ t ≠ 9 ∧ t ≠ 54) ∨ b ∈ Ds) → W'.heap[b]? = some o)
    (ht : ∀ b : Nat, (∃ cs m, W.heap[b]? = some (Obj.cells cs 9 m)) → ∃ cs m, W'.heap[b]? = some (Obj.cells cs 9 m)) (ht2 : ∀ b : Nat, (∃ cs m, W.heap[b]? = some (Obj.cells cs 54 m)) → ∃ cs m, W'.heap[b]? = some (Obj.cells cs 54 m)) :
    PieceInv w W' sb bs bk be A c j os e A1 n1 c1 Ds := by
  have hlow : ∀ b, b < w.heap.size → W'.heap[b]? = W.heap[b]? := fun b hb => by
    have hlt : b < W.heap.size := Nat.lt_of_lt_of_le hb h.below.size
    have := hk b _ (Array.getElem?_eq_getElem hlt) (.inl hb)
    rw [this, Array.getElem?_eq_getElem hlt]
  have hkh : ∀ k, (Value.slice A1 n1 c1).ownBlock = some k → W'.heap[k]? = W.heap[k]? := fun k hkb => by
    rcases h.apart k hkb with h1 | ⟨cs, m, h1⟩
    · exact hlow k h1
    · rw [h1]
      exact hk k _ h1 (.inr (.inl ⟨cs, 34, _, rfl, by decide, by decide⟩))
  refine ⟨h.below.trans ⟨e1, e2, e3, hs, fun k hkl => hlow k hkl⟩, hk _ _ h.out (.inr (.inl ⟨_, _, _, rfl, by decide, by decide⟩)), ?_, hk _ _ h.ev (.inr (.inl ⟨_, _, _, rfl, by decide, by decide⟩)), ?_, ?_, ht _ h.ty1, ?_, ht2 _ h.ty3, h.low, h.rowne, fun D hD => ⟨(h.marks D hD).1, hk _ _ (h.marks D hD).2 (.inr (.inr hD))⟩⟩
  · refine h.outs.turn hs fun b hb => ?_
    by_cases hbl : b < w.heap.size
    · exact .inl (hlow b hbl)
    · obtain ⟨o, ho⟩ : ∃ o, W.heap[b]? = some o := ⟨_, Array.getElem?_eq_getElem hb⟩
      by_cases hc : ∃ cs t m, o = .cells cs t m ∧ t ≠ 9 ∧ t ≠ 54
      · exact .inl (by rw [ho]; exact hk b o ho (.inr (.inl hc)))
      · refine .inr ⟨by omega, fun cs t m hct => ?_⟩
        rw [ho] at hct
        cases hct
        by_cases h9 : t = 9
        · subst h9
          decide
        · by_cases h54 : t = 54
          · subst h54
            decide
          · exact absurd ⟨cs, t, m, rfl, h9, h54⟩ hc
  · exact ⟨Rd.keep h.hds.1 hs hkh, fun k hkb => Nat.lt_of_lt_of_le (h.hds.2 k hkb) hs⟩
  · exact fun k hkb => (h.apart k hkb).imp id fun ⟨cs, m, hc⟩ => ⟨cs, m, (hkh k hkb).trans hc⟩
  · obtain ⟨cs, m, hc⟩ := h.ty2
    exact ⟨cs, m, hk _ _ hc (.inr (.inl ⟨_, _, _, rfl, by decide, by decide⟩))⟩
theorem PieceInv.later {w W W' : World} {sb bs bk be c j n1 c1 : Nat} {A A1 : Option Addr} {os : List Ev} {e : Ev} {Ds : List Nat} (h : PieceInv w W sb bs bk be A c j os e A1 n1 c1 Ds) (hb : Below W.heap.size W W') : PieceInv w W' sb bs bk be A c j os e A1 n1 c1 Ds :=
  h.kept hb.os hb.tape hb.output hb.size (fun b o ho _ => (hb.block b (blk_lt ho)).trans ho) (fun b ⟨cs, m, hc⟩ => ⟨cs, m, (hb.block b (blk_lt hc)).trans hc⟩) fun b ⟨cs, m, hc⟩ => ⟨cs, m, (hb.block b (blk_lt hc)).trans hc⟩
/-- One more piece has been appended, and the list's place turned. -/
theorem PieceInv.turn {w w4 w5 : World} {sb bs bk be c c' j n1 c1 : Nat} {A A' A1 : Option Addr} {os : List Ev} {e f : Ev} {Ds : List Nat} (h : PieceInv w w4 sb bs bk be A c j os e A1 n1 c1 Ds)
    (hnew : ∀ r, (Value.slice A' (j + 1) c').ownBlock = some r → (Value.slice A j c).ownBlock = some r ∨ w4.heap.size ≤ r) (ho : Outs w5 w.heap.size w.heap.size (.slice A' (j + 1) c') (j + 1) (os ++ [f])) (hg : w4.grownBy w5 (Value.slice A j c).ownBlock) :
    PieceInv w (w5.setCell ⟨w.heap.size, 0, none⟩ (.slice A' (j + 1) c')) sb bs bk be A' c' (j + 1) (os ++ [f]) e A1 n1 c1 Ds ∧ Leaves w4 (w5.setCell ⟨w.heap.size, 0, none⟩ (.slice A' (j + 1) c')) := by
  have typed : ∀ r, (Value.slice A j c).ownBlock = some r → w.heap.size ≤ r ∧ ∃ cs m, w4.heap[r]? = some (.cells cs 32 m) := by
    obtain ⟨ps, _, _, h3, _⟩ := h.outs
    exact h3.typed
  have same : ∀ (b : Nat) (o : Obj), w4.heap[b]? = some o → ((∀ cs m, o ≠ .cells cs 32 m) ∨ b = be) → w5.heap[b]? = some o := fun b o hb hn => (hg.block b (blk_lt hb) fun e => by
    obtain ⟨_, cs, m, hc⟩ := typed b e.symm
    rcases hn with hn | rfl
    · rw [hb] at hc
      exact hn cs m (Option.some.inj hc)
    · exact h.rowne b e.symm rfl).trans hb
  have hout := same _ _ h.out (.inl fun cs m e => by cases e)
  obtain ⟨l1, l2, l3, l4⟩ := h.low
  have put : ∀ b, b ≠ w.heap.size → (w5.setCell ⟨w.heap.size, 0, none⟩ (.slice A' (j + 1) c')).heap[b]? = w5.heap[b]? := fun b hb => Below.heap_setCell _ _ _ _ hb
  have hsz : (w5.setCell ⟨w.heap.size, 0, none⟩ (.slice A' (j + 1) c')).heap.size = w5.heap.size := by simp [World.setCell]
  have hlow : ∀ b, b < w.heap.size → w5.heap[b]? = w4.heap[b]? := fun b hb => hg.block b (Nat.lt_of_lt_of_le hb h.below.size) fun e => by
    have := (typed b e.symm).1
    omega
  have hkh : ∀ k, (Value.slice A1 n1 c1).ownBlock = some k → (w5.setCell ⟨w.heap.size, 0, none⟩ (.slice A' (j + 1) c')).heap[k]? = w4.heap[k]? := fun k hkb => by
    rcases h.apart k hkb with h1 | ⟨cs, m, h1⟩
    · rw [put k (by omega), hlow k h1]
    · have hne : k ≠ w.heap.size := fun e => by
        subst e
        rw [h.out] at h1
        cases h1
      rw [put k hne, h1]
      exact same k _ h1 (.inl fun cs m e => by cases e)
  have hown : ∀ (b : Nat) (o : Obj), w4.heap[b]? = some o → (∀ cs m t, o = .cells cs t m → t ≠ 22 ∧ t ≠ 32) → (w5.setCell ⟨w.heap.size, 0, none⟩ (.slice A' (j + 1) c')).heap[b]? = some o := fun b o hb hn => by
    have hne : b ≠ w.heap.size := fun e => by
      subst e
      rw [h.out] at hb
      cases hb
      exact (hn _ _ _ rfl).1 rfl
    rw [put b hne]
    exact same b o hb (.inl fun cs m e => (hn cs m 32 e).2 rfl)
  refine ⟨⟨(h.below.grown hg h.below.size fun b hb => (typed b hb).1).setCell (p := ⟨w.heap.size, 0, none⟩) (Nat.le_refl _) _, ?_, ?_, ?_, ?_, ?_, ?_, ?_, ?_, h.low, fun r hr => (hnew r hr).elim (h.rowne r) fun hle e => by have := blk_lt h.ev; omega, fun D hD => ⟨(h.marks D hD).1, hown D _ (h.marks D hD).2 fun cs m t e => by cases e⟩⟩, ⟨by rw [hsz]; exact hg.size, hown⟩⟩
  · rw [blk_set hout 0]
    rfl
  · refine ho.turn (by rw [hsz]; exact Nat.le_refl _) fun b hb => ?_
    by_cases hbo : b = w.heap.size
    · subst hbo
      refine .inr ⟨Nat.le_refl _, fun cs t m hc => ?_⟩
      rw [hout] at hc
      cases hc
      decide
    · exact .inl (put b hbo)
  · exact (put be (by omega)).trans (same be _ h.ev (.inr rfl))
  · exact ⟨Rd.keep h.hds.1 (by rw [hsz]; exact hg.size) hkh, fun k hkb => by rw [hsz]; exact Nat.lt_of_lt_of_le (h.hds.2 k hkb) hg.size⟩
  · exact fun k hkb => (h.apart k hkb).imp id fun ⟨cs, m, hc⟩ => ⟨cs, m, (hkh k hkb).trans hc⟩
  · obtain ⟨cs, m, hc⟩ := h.ty1
    exact ⟨cs, m, hown _ _ hc fun cs m t e => by cases e; decide⟩
  · obtain ⟨cs, m, hc⟩ := h.ty2
    exact ⟨cs, m, hown _ _ hc fun cs m t e => by cases e; decide⟩
  · obtain ⟨cs, m, hc⟩ := h.ty3
    exact ⟨cs, m, hown _ _ hc fun cs m t e => by cases e; decide⟩
/-- What a round keeps for the pieces. -/
theorem Leaves.keepsP {w W W' : World} {sb bs bk be c j n1 c1 : Nat} {A A1 : Option Addr} {os : List Ev} {e : Ev} {Ds : List Nat} (h : PieceInv w W sb bs bk be A c j os e A1 n1 c1 Ds) (hl : Leaves W W') (hb : ∀ b, b < w.heap.size → W'.heap[b]? = W.heap[b]?) : KeepsP bs bk (w.heap.size + 1) sb W W' := by
  obtain ⟨cs1, m1, h1⟩ := h.ty1
  obtain ⟨cs2, m2, h2⟩ := h.ty2
  obtain ⟨cs3, m3, h3⟩ := h.ty3
  exact ⟨by rw [h1]; exact hl.same _ _ h1 fun cs m t e => by cases e; decide, by rw [h2]; exact hl.same _ _ h2 fun cs m t e => by cases e; decide, by rw [h3]; exact hl.same _ _ h3 fun cs m t e => by cases e; decide, hb sb h.low.1⟩
theorem Leaves.keepsFrom {W W' : World} (h : Leaves W W') (B : Nat) : KeepsFrom B W W' := ⟨h.size, fun k o _ hk ho => h.same k o hk fun cs m t e => by subst e; cases ho⟩

theorem PieceInv.cell {w w4 w5 : World} {sb bs bk be c j n1 c1 : Nat} {A A1 : Option Addr} {os : List Ev} {e : Ev} {Ds : List Nat} (h : PieceInv w w4 sb bs bk be A c j os e A1 n1 c1 Ds) (hg : w4.grownBy w5 (Value.slice A j c).ownBlock) :
    w5.cell? ⟨w.heap.size, 0, none⟩ = some (.slice A j c) ∧ w5.frozen? ⟨w.heap.size, 0, none⟩ = false := by
  have typed : ∀ r, (Value.slice A j c).ownBlock = some r → w.heap.size ≤ r ∧ ∃ cs m, w4.heap[r]? = some (.cells cs 32 m) := by
    obtain ⟨ps, _, _, h3, _⟩ := h.outs
    exact h3.typed
  have hout : w5.heap[w.heap.size]? = some (.cells #[.slice A j c] 22 (0, 0)) := (hg.block _ (blk_lt h.out) fun e => by
    obtain ⟨_, cs, m, hc⟩ := typed _ e.symm
    rw [h.out] at hc
    cases hc).trans h.out
  exact ⟨cell_of_row w5 _ 0 _ _ _ hout, blk_frozen hout 0⟩
theorem cutP_len (z : Nat) : ∀ f s, (cutP z f s).length ≤ f + 1
  | 0, s => by unfold cutP; split <;> simp
  | f + 1, s => by
    unfold cutP
    split
    · simp
    · have := cutP_len z f (s.extract (min z s.size) s.size)
      simp
      omega
theorem pieces_len (z : Nat) (s : ByteArray) : (pieces z s).length ≤ 5 := by
  unfold pieces
  split
  · simp
  · exact cutP_len z 4 s
/-- The pieces' loop's relation. -/
def PI (w : World) (sb bs bk be j : Nat) (os : List Ev) (e : Ev) (A1 : Option Addr) (n1 c1 : Nat) (Ds : List Nat) (pre : List ByteArray) (W : World) : Prop :=
  ∃ A' c' j', j' ≤ j + pre.length ∧ PieceInv w W sb bs bk be A' c' j' (os ++ pre.map fun s => { e with body := s }) e A1 n1 c1 Ds
def marksOf (Ds : List Nat) : List Deferred := Ds.map fun D => { target := .collected D, args := #[] }
/-- The loop's relation, and its measure. -/
def CutI (w : World) (n sb so cap z c0 : Nat) (A0 : Option Addr) (es : List Ev) (a : Act) (wr : World) : Prop :=
  ∃ (i j c : Nat) (A : Option Addr) (Ds : List Nat) (u8 u9 u10 u17 u18 u19 u20 u21 u22 u23 u24 u25 u26 u27 u28 u29 u30 u31 u32 u33 u34 u35 u36 u37 u38 u39 u40 u41 : Value), a = { tmps := #[.slice A0 n c0, .slice (some ⟨sb, so, none⟩) 1 cap, undef, undef, .slice none 0 0, .pointer (some ⟨w.heap.size, 0, none⟩), .pointer (some ⟨w.heap.size + 1, 0, none⟩), undef, u8, u9, u10, .slice (some ⟨sb, so, none⟩) 1 cap, .agg #[.slice (some ⟨sb, so, none⟩) 1 cap, .int .i64 0], .pointer (some ⟨w.heap.size + 1, 0, none⟩), .slice A0 n c0, .int .i64 n, .int .i64 i, u17, u18, u19, u20, u21, u22, u23, u24, u25, u26, u27, u28, u29, u30, u31, u32, u33, u34, u35, u36, u37, u38, u39, u40, u41, undef], defers := marksOf Ds } ∧ i ≤ n ∧ Hid (CutInv w wr sb so cap z A c j (cutL z (es.take i)) i Ds)
def CutM (n : Nat) (a : Act) : Nat := n - (intOf (a.tmps.getD 16 undef)).toNat
set_option maxRecDepth 100000 in
set_option maxHeartbeats 4000000 in
theorem cut_walk {w : World} {lo n z sb so cap : Nat} {v : Value} {es : List Ev} (h : Evs w lo v n es) (hn : n ≤ 10000) (hfew : ∀ e ∈ es, e.hs.length ≤ 1000000) (hb : ∀ e ∈ es, e.body.size ≤ 100000)
    (hz : z ≤ 1000) (hsb : sb < w.heap.size) (hc : w.cell? ⟨sb, so, none⟩ = some (.int .i64 z)) :
    Calls Try.prog 7 #[v, .slice (some ⟨sb, so, none⟩) 1 cap] w (Made_ w w.heap.size (cutL z es)) := by
  have HH := Lib.hid (h.base (Nat.zero_le _))
  have HN := Lib.hid h.len
  have HF := Lib.hid hfew
  have HBD := Lib.hid hb
  have HSB := Lib.hid hsb
  have HZ := Lib.hid hc
  obtain ⟨A0, c0, rfl⟩ := h.slice
  have hinv0 : CutInv w ((w.alloc (.cells #[.slice none 0 0] 22)).alloc (.cells #[.slice (some ⟨sb, so, none⟩) 1 cap, .int .i64 0] 54)) sb so cap z none 0 0 [] 0 [] := by
    have hb2 : Below w.heap.size w ((w.alloc (.cells #[.slice none 0 0] 22)).alloc (.cells #[.slice (some ⟨sb, so, none⟩) 1 cap, .int .i64 0] 54)) := ((Below.refl _ _).alloc (Nat.le_refl _) _).alloc (by simp) _
    refine ⟨hb2, (Below.heap_alloc _ _ _ (by simp)).trans (heap_alloc_new w _), Outs.nil_ _ _ _, by omega, ⟨0, by omega, ?_, (hb2.cell (p := ⟨sb, so, none⟩) hsb).trans hc⟩, fun D hD => by simp at hD, List.nodup_nil⟩
    have := heap_alloc_new (w.alloc (.cells #[.slice none 0 0] 22)) (.cells #[.slice (some ⟨sb, so, none⟩) 1 cap, .int .i64 0] 54)
    rwa [World.size_alloc] at this
  have HI0 := Lib.hid hinv0
  clear h hfew hb hc hinv0 hsb
  refine (callsIn_wide (n := 9)).1 (callsIn_of_wp_marks Try.func7 rfl trivial (wpIn_wide.2 ?_) rfl)
  simp only [Try.ntmps7, List.size_toArray, List.length_cons, List.length_nil, Nat.reduceAdd, Nat.reduceSub, Array.replicate_succ, Array.replicate_zero, List.push_toArray, List.append_toArray, List.nil_append, List.cons_append]
  go_wp2
  refine wp_loop (CutI w n sb so cap z c0 A0 es) (fun a _ => CutM n a) ?_ ?_
  · exact ⟨0, 0, 0, none, [], _, _, _, _, _, _, _, _, _, _, _, _, _, _, _, _, _, _, _, _, _, _, _, _, _, _, _, _, rfl, Nat.zero_le _, HI0⟩
  rintro a wr ⟨i, j, c, A, Ds, u8, u9, u10, u17, u18, u19, u20, u21, u22, u23, u24, u25, u26, u27, u28, u29, u30, u31, u32, u33, u34, u35, u36, u37, u38, u39, u40, u41, rfl, hi, HI⟩
  have hmeas : CutM n { tmps := #[.slice A0 n c0, .slice (some ⟨sb, so, none⟩) 1 cap, undef, undef, .slice none 0 0, .pointer (some ⟨w.heap.size, 0, none⟩), .pointer (some ⟨w.heap.size + 1, 0, none⟩), undef, u8, u9, u10, .slice (some ⟨sb, so, none⟩) 1 cap, .agg #[.slice (some ⟨sb, so, none⟩) 1 cap, .int .i64 0], .pointer (some ⟨w.heap.size + 1, 0, none⟩), .slice A0 n c0, .int .i64 n, .int .i64 i, u17, u18, u19, u20, u21, u22, u23, u24, u25, u26, u27, u28, u29, u30, u31, u32, u33, u34, u35, u36, u37, u38, u39, u40, u41, undef], defers := marksOf Ds } = n - i := by simp [CutM, intOf]
  have HME := Lib.hid hmeas
  clear hmeas
  by_cases hl : i < n
  · obtain ⟨g, off, A1, c1, hix, rfl, he, hh, ha⟩ := evs_at HH.out HI.out.below hl
    have HFE := Lib.hid (HF.out _ (List.getElem_mem hix))
    have HBE := Lib.hid (HBD.out _ (List.getElem_mem hix))
    have HHD := Lib.hid hh
    have HAP := Lib.hid ha
    have HT : Hid (cutL z (es.take (i + 1)) = cutL z (es.take i) ++ cutE z es[i]) := by
      unfold Hid cutL
      rw [List.take_succ_eq_append_getElem hix, List.flatMap_append]
      simp
    generalize es[i]'hix = e at he HT HFE HHD HAP HBE
    have HZR := Lib.hid (EvRow.zero wr)
    obtain ⟨d0, d1, d2, d3, d4, d5, d6, d7, d8⟩ := he
    obtain ⟨n1, hn1⟩ : ∃ n1, e.hs.length = n1 := ⟨_, rfl⟩
    rw [hn1] at d7 HHD HAP
    clear hix hh ha hn1
    obtain ⟨b, hb⟩ : ∃ b, (e.k == 3) = b := ⟨_, rfl⟩
    have hbn : (e.k != 3) = !b := by rw [← hb]; rfl
    have HBK : Hid (decide (e.k = 3) = b) := by unfold Hid; rw [← hb]; rfl
    cases b
    · go_wp2_with (first
        | (refine wpList_store_ev rfl (.tmp 8) (.tmp 19) rfl _ _ _ HZR.out e _ rfl rfl rfl ?_; intro w2 hF hB hO; have HR := Lib.hid hF; have HB2 := Lib.hid (hB wr.heap.size wr ((Below.refl _ _).alloc (Nat.le_refl _) _) (Nat.le_refl _)); clear d0 d1 d2 d3 d4 d5 d6 d7 d8; obtain ⟨x0, x1, x2, x3, x4, x5, x6, x7, x8⟩ := hF.cells; clear hF hB hO))
      have hj := HI.out.few
      have HJ : Hid (j + 1 ≤ 1000000000 ∧ j + 1 ≤ 5 * (i + 1)) := by unfold Hid; omega
      have HSW : Hid (sb < wr.heap.size) := Nat.lt_of_lt_of_le HSB.out HI.out.below.size
      have HI2 := Lib.hid (HI.out.later HSW.out HB2.out)
      obtain ⟨q2, fq2⟩ := HI2.out.here
      clear hj
      go_region_law (first
        | (refine step_pushG rfl (.tmp 23) (.tmp 26) rfl HP.out rfl rfl rfl ?_; intro A' c' w5 ho hg; obtain ⟨q5, fq5⟩ := HI4.out.cell hg; have HI6 := Lib.hid (HI4.out.turn HSB.out ho hg HJ.out.2); clear ho hg q4 fq4 q4a fq4a)
        | (go_simp; go_at_call 26; refine (own_any (hds_more HHD.out HB2.out.drew) HFE.out).mono ?_; rintro o w4 ⟨hv', rfl, hh, hb4⟩; obtain ⟨A2, c2, rfl⟩ := hh.slice
           have hbr : Below wr.heap.size wr w4 := HB2.out.drew.trans (hb4.mono HB2.out.size)
           have hba : Below wr.heap.size wr (w4.alloc (.cells #[.int .i64 e.k, .int .i64 e.id, .string e.url, .string e.frm, .string e.mode, .int .i64 e.med, .int .i64 e.st, .slice A2 e.hs.length c2, .string e.body] 32)) := hbr.alloc hbr.size _
           have hI4 := HI.out.later HSW.out hbr
           have HI4 := Lib.hid (CutInv.raise' (HI.out.later HSW.out hba)); obtain ⟨q4, fq4⟩ := hI4.here; obtain ⟨q4a, fq4a⟩ := HI4.out.here
           have HP := Lib.hid (Pushing.mk' hI4.outs (hh.base (Nat.le_trans HI.out.below.size HB2.out.size)).hds (hh.apart _) hI4.below.size HJ.out.1); clear hh hb4 hbr hba hI4 q2 fq2))
      all_goals go_wp2
      all_goals
        refine ⟨⟨i + 1, j + 1, c', A', Ds, _, _, _, _, _, _, _, _, _, _, _, _, _, _, _, _, _, _, _, _, _, _, _, _, _, _, _, _, rfl, by omega, ?_⟩, ?_⟩
        · unfold Hid
          rw [HT.out]
          have : cutE z e = [e] := by unfold cutE; rw [if_neg (of_decide_eq_false HBK.out)]
          rw [this]
          exact HI6.out
        · rw [HME.out]
          simp [CutM, intOf]
          omega
    · go_wp2_with (first
        | (refine wpList_store_ev rfl (.tmp 8) (.tmp 19) rfl _ _ _ HZR.out e _ rfl rfl rfl ?_; intro w2 hF hB hO; have HR := Lib.hid hF; have HB2 := Lib.hid (hB wr.heap.size wr ((Below.refl _ _).alloc (Nat.le_refl _) _) (Nat.le_refl _)); clear d0 d1 d2 d3 d4 d5 d6 d7 d8; obtain ⟨x0, x1, x2, x3, x4, x5, x6, x7, x8⟩ := hF.cells; clear hF hB hO)
        | (go_at_call 27; refine (pieces_any _ _ _).mono ?_; rintro o w3 ⟨rfl, hw3⟩))
      have HSW : Hid (sb < wr.heap.size) := Nat.lt_of_lt_of_le HSB.out HI.out.below.size
      have hb23 : Below w2.heap.size w2 w3 := by rw [← hw3]; exact ((Below.refl _ _).alloc (Nat.le_refl _) _).alloc (by simp) _
      have hb3 : Below wr.heap.size wr w3 := HB2.out.trans (hb23.mono HB2.out.size)
      have hI3 := HI.out.later HSW.out hb3
      have hj := hI3.few
      obtain ⟨at_, hat, hkn⟩ := hI3.knife
      have hsz2 : wr.heap.size < w2.heap.size := HR.out.lt
      have hszw : w.heap.size + 1 < wr.heap.size := by
        obtain ⟨at2, _, h2⟩ := HI.out.knife
        exact blk_lt h2.blk
      have hbk : w3.heap[w2.heap.size]? = some (.cells #[.pointer (some ⟨w.heap.size + 1, 0, none⟩)] 52 (0, 0)) := by
        rw [← hw3]
        exact (Below.heap_alloc _ _ _ (by simp)).trans (heap_alloc_new w2 _)
      have hbs : w3.heap[w2.heap.size + 1]? = some (.cells #[.string e.body] 9 (0, 0)) := by
        rw [← hw3]
        have := heap_alloc_new (w2.alloc (.cells #[.pointer (some ⟨w.heap.size + 1, 0, none⟩)] 52)) (.cells #[.string e.body] 9)
        rwa [World.size_alloc] at this
      have hsbl := HSB.out
      have hSP : StateP w3 (w2.heap.size + 1) w2.heap.size (w.heap.size + 1) sb so cap z at_ e.body := ⟨hbs, hbk, hkn, by omega, by omega, by omega, by omega, by omega, by omega⟩
      have hPI : PI w sb (w2.heap.size + 1) w2.heap.size wr.heap.size j (cutL z (es.take i)) e A1 n1 c1 Ds [] w3 := by
        refine ⟨A, c, j, by simp, hI3.below, hI3.out, by simpa using hI3.outs, HR.out.below hb23, HHD.out.below hb3, HAP.out.below hb3, ⟨_, _, hbs⟩, ⟨_, _, hbk⟩, ⟨_, _, hkn.blk⟩, ⟨HSB.out, by omega, by omega, by omega⟩, fun r hr => ?_, hI3.marks⟩
        obtain ⟨ps, _, _, h3, _⟩ := HI.out.outs
        obtain ⟨_, cs, m, hc⟩ := h3.typed r hr
        have := blk_lt hc
        omega
      have hDlt : ∀ D ∈ Ds, D < w3.heap.size := fun D hD => blk_lt (hI3.marks D hD).2
      have hgt : w2.heap.size + 2 ≤ w3.heap.size := by have := blk_lt hbs; omega
      have HSP := Lib.hid hSP
      have HPI0 := Lib.hid hPI
      have HDL := Lib.hid hDlt
      have HLT : Hid (w.heap.size + 1 < w2.heap.size ∧ w2.heap.size + 2 ≤ w3.heap.size ∧ at_ ≤ 4 * i ∧ j ≤ 5 * i ∧ sb < w.heap.size ∧ w.heap.size < wr.heap.size) := by unfold Hid; omega
      have HND := Lib.hid hI3.nodup
      clear hw3 hb23 hb3 hI3 hj hat hkn hsz2 hszw hbk hbs hsbl hSP hPI hDlt hgt x0 x1 x2 x3 x4 x5 x6 x7 x8
      refine (wpIn_wide (n := 9)).1 (wpIn_rangeFunc_writes (F := Fence.wide) (n := 9) rfl (by decide) (gf := 43) (lb := #[.pointer (some ⟨w2.heap.size + 1, 0, none⟩), .pointer (some ⟨w2.heap.size, 0, none⟩)]) rfl trivial (enters_of Try.func43 (by kernel_rfl) rfl)
        (pieces1_writes (n := 8) (by decide) HSP.out hz HBE.out (by have := HLT.out; omega)) ?hZ ?hown (fun W => ⟨rfl, rfl, rfl, rfl⟩) ?hKt ?hKo (fun _ => rfl)
        (PI w sb (w2.heap.size + 1) w2.heap.size wr.heap.size j (cutL z (es.take i)) e A1 n1 c1 Ds) ?hIo ?hIw HPI0.out
        (fun x => { tmps := #[.slice (some ⟨g, off, none⟩) n c0, .slice (some ⟨sb, so, none⟩) 1 cap, undef, undef, .slice none 0 0, .pointer (some ⟨w.heap.size, 0, none⟩), .pointer (some ⟨w.heap.size + 1, 0, none⟩), undef, .pointer (some ⟨wr.heap.size, 0, none⟩), .string x, u10, .slice (some ⟨sb, so, none⟩) 1 cap, .agg #[.slice (some ⟨sb, so, none⟩) 1 cap, .int .i64 0], .pointer (some ⟨w.heap.size + 1, 0, none⟩), .slice (some ⟨g, off, none⟩) n c0, .int .i64 n, .int .i64 i, .bool true, .pointer (some ⟨g, off + i * 9, none⟩), .agg #[.int .i64 e.k, .int .i64 e.id, .string e.url, .string e.frm, .string e.mode, .int .i64 e.med, .int .i64 e.st, .slice A1 n1 c1, .string e.body], .pointer (some ⟨wr.heap.size, 0, none⟩), .int .i64 e.k, .bool false, u23, u24, u25, u26, u27, .pointer (some ⟨w.heap.size + 1, 0, none⟩), .pointer (some ⟨wr.heap.size, 8, none⟩), .string e.body, .func (.func 43) #[] #[.pointer (some ⟨w2.heap.size + 1, 0, none⟩), .pointer (some ⟨w2.heap.size, 0, none⟩)], .string x, u33, u34, u35, u36, u37, u38, u39, u40, u41, undef], defers := [] }) ?assign ?body ?done)
      case hZ =>
        rintro X X' ⟨a, ha, hk⟩ hc
        obtain ⟨o, ho, hoc⟩ : ∃ o : Obj, X.heap[sb]? = some o ∧ o.isCells = true := by
          have h5 := hk.size
          unfold World.cell? at h5
          cases hq : X.heap[sb]? with
          | none => simp [hq] at h5
          | some o => exact ⟨o, rfl, by cases o <;> simp_all [Obj.isCells]⟩
        exact ⟨a, ha, hk.keep ((hc _ _ hk.blk rfl).trans hk.blk.symm) ((hc _ _ ho hoc).trans ho.symm)⟩
      case hown =>
        have := HLT.out
        rintro b t (⟨rfl, _⟩ | ⟨rfl, _⟩) <;> omega
      case hKt =>
        rintro X Y Z ⟨a1, a2, a3, a4⟩ ⟨b1, b2, b3, b4⟩
        exact ⟨b1.trans a1, b2.trans a2, b3.trans a3, b4.trans a4⟩
      case hKo =>
        have := HLT.out
        exact fun X X' h => ⟨h _ (by omega), h _ (by omega), h _ (by omega), h _ (by omega)⟩
      case hIo =>
        rintro pre X X' ⟨A', c', j', hj, hP⟩ hl hc e1 e2 e3 hs
        have := HLT.out
        refine ⟨A', c', j', hj, hP.kept e1 e2 e3 hs ?_ ?_ ?_⟩
        · rintro b o ho (hb | ⟨cs, t, m, rfl, _⟩ | hb)
          · rw [hl b (by omega)]
            exact ho
          · exact hc b _ ho rfl
          · rw [hl b (HDL.out b hb)]
            exact ho
        · rintro b ⟨cs, m, hb⟩
          exact ⟨cs, m, hc b _ hb rfl⟩
        · rintro b ⟨cs, m, hb⟩
          exact ⟨cs, m, hc b _ hb rfl⟩
      case hIw =>
        rintro pre X X' ⟨A', c', j', hj, hP⟩ hx e1 e2 e3 hs
        have hlt := HLT.out
        have tt : ∀ (b : Nat) (t : TypeId), (∃ cs m, X.heap[b]? = some (Obj.cells cs t m)) → ∃ cs m, X'.heap[b]? = some (Obj.cells cs t m) := by
          rintro b t ⟨cs, m, hb⟩
          rcases hx b with h | ⟨t', cs1, cs', m', _, h1, h2⟩
          · exact ⟨cs, m, h.trans hb⟩
          · rw [hb] at h1
            cases h1
            exact ⟨cs', _, h2⟩
        refine ⟨A', c', j', hj, hP.kept e1 e2 e3 (by rw [hs]; exact Nat.le_refl _) ?_ (fun b => tt b 9) (fun b => tt b 54)⟩
        rintro b o ho hcase
        rcases hx b with h | ⟨t', cs1, cs', m', hown, h1, h2⟩
        · exact h.trans ho
        · rw [ho] at h1
          cases h1
          exfalso
          rcases hcase with hb | ⟨cs, t, m, he, h9, h54⟩ | hb
          · rcases hown with ⟨rfl, _⟩ | ⟨rfl, _⟩ <;> omega
          · cases he
            rcases hown with ⟨_, rfl⟩ | ⟨_, rfl⟩
            · exact h9 rfl
            · exact h54 rfl
          · have := (hP.marks b hb).2
            rw [ho] at this
            cases this
      case assign =>
        intro l x W K hK
        gi_wp2
        exact hK
      case body =>
        rintro l pre x W ⟨A', c', j', hj, hP⟩ hlen
        have hlt := HLT.out
        have HPW := Lib.hid hP
        have HJ : Hid (j' + 1 ≤ 1000000000 ∧ j' + 1 ≤ j + (pre ++ [x]).length) := by unfold Hid; simp; omega
        have HWS := Lib.hid hP.below.size
        have HDR := Lib.hid hP.hds.1
        obtain ⟨x0, x1, x2, x3, x4, x5, x6, x7, x8⟩ := hP.ev.cells
        clear hP hj hlen hlt
        gi_wp2_with (first
          | (refine ⟨trivial, ?_⟩; gi_at_call 26; refine (CallsIn.inRound l (callsIn_wide.2 (own_any HDR.out HFE.out))).mono ?_; rintro o w4 ⟨hv', rfl, hh, hb4⟩; obtain ⟨A2, c2, rfl⟩ := hh.slice; have HH4 := Lib.hid (hh.base HWS.out); have HB4 := Lib.hid hb4; have HZ4 := Lib.hid (EvRow.zero w4); clear hh hb4 x0 x1 x2 x3 x4 x5 x6 x7 x8)
          | (refine wpListIn_store_ev rfl (.tmp 10) (.tmp 34) rfl _ _ _ HZ4.out e _ rfl rfl rfl ?_; intro w5 hF hB hO
             obtain ⟨y0, y1, y2, y3, y4, y5, y6, y7, y8⟩ := hF.cells; have f8 := hF.frozen 8
             have hb45 : Below w4.heap.size w4 w5 := hB w4.heap.size w4 ((Below.refl _ _).alloc (Nat.le_refl _) _) (Nat.le_refl _)
             have hb46 : Below w4.heap.size w4 (w5.setCell ⟨w4.heap.size, 8, none⟩ (.string x)) := hb45.setCell (p := ⟨w4.heap.size, 8, none⟩) (Nat.le_refl _) _
             have hbW6 := HB4.out.trans (hb46.mono HB4.out.size)
             have hP6 := HPW.out.later hbW6
             have hbW6a := hbW6.alloc hbW6.size (.cells #[.int .i64 e.k, .int .i64 e.id, .string e.url, .string e.frm, .string e.mode, .int .i64 e.med, .int .i64 e.st, .slice A2 e.hs.length c2, .string x] 32)
             have HP6a := Lib.hid (HPW.out.later hbW6a)
             have HL6 := Lib.hid (Leaves.below hbW6a)
             have HZS := Lib.hid (show (w5.setCell ⟨w4.heap.size, 8, none⟩ (.string x)).heap.size = w5.heap.size by simp [World.setCell])
             have HPU := Lib.hid (Pushing.mk' (wr := w5.setCell ⟨w4.heap.size, 8, none⟩ (.string x)) (e := { e with body := x }) hP6.outs (HH4.out.below hb46).hds ((HH4.out.below hb46).apart _) hP6.below.size HJ.out.1)
             have q6 : (w5.setCell ⟨w4.heap.size, 8, none⟩ (.string x)).cell? ⟨w.heap.size, 0, none⟩ = some (.slice A' j' c') := cell_of_row _ _ 0 _ _ _ hP6.out
             clear hF hB hO hb45 hb46 hbW6 hP6 hbW6a)
          | (gi_at_builtin; refine wpListIn_push' rfl (.tmp 37) (.tmp 39) rfl HPU.out HZS.out rfl rfl ?_; intro A3 c3 w7 ho hg hnew; obtain ⟨q7, fq7⟩ := HP6a.out.cell hg; have HT7 := Lib.hid (HP6a.out.turn hnew ho hg); clear ho hg hnew))
        obtain ⟨hPn, hLn⟩ := HT7.out
        have hL := HL6.out.trans hLn
        refine ⟨hL.keepsFrom _, hL.keepsP HPW.out fun b hb => (hPn.below.block b hb).trans (HPW.out.below.block b hb).symm, A3, c3, j' + 1, HJ.out.2, ?_⟩
        rw [List.map_append, ← List.append_assoc]
        exact hPn
      case done =>
        rintro D xs W hD hDl rfl ⟨A', c', j', hj, hP⟩ ⟨a, ha, hk⟩ hd
        have hlt := HLT.out
        have hpl := pieces_len z e.body
        have HF := Lib.hid (show CutInv w W sb so cap z A' c' j' (cutL z (es.take (i + 1))) (i + 1) (D :: Ds) by
          refine ⟨hP.below, hP.out, ?_, by omega, ⟨a, by omega, hk⟩, ?_, ?_⟩
          · rw [HT.out]
            have : cutE z e = (pieces z e.body).map fun s => { e with body := s } := by unfold cutE; rw [if_pos (of_decide_eq_true HBK.out)]
            rw [this]
            exact hP.outs
          · rintro E hE
            rcases List.mem_cons.1 hE with rfl | hE
            · exact ⟨by omega, hd⟩
            · exact hP.marks E hE
          · refine List.nodup_cons.2 ⟨fun h => ?_, HND.out⟩
            have := HDL.out D h
            omega)
        clear hP hk hd hlt hpl
        go_wp2
        refine ⟨⟨i + 1, j', c', A', D :: Ds, _, _, _, _, _, _, _, _, _, _, _, _, _, _, _, _, _, _, _, _, _, _, _, _, _, _, _, _, rfl, by omega, HF⟩, ?_⟩
        rw [HME.out]
        simp [CutM, intOf]
        omega
  · obtain rfl : i = n := by omega
    have HE : Hid (cutL z (es.take i) = cutL z es) := by unfold Hid; rw [List.take_of_length_le (by rw [HN.out]; exact Nat.le_refl _)]
    rw [HE.out] at HI
    obtain ⟨q, fq⟩ := HI.out.here
    go_wp2
    refine leaves_marks (B := w.heap.size) Ds wr HI.out.marks HI.out.nodup fun W' hb hc hs => ?_
    have hm : Made_ w w.heap.size (cutL z es) (Ending.returned (.slice A j c)) W' := Made_.mk' (HI.out.outs.turn (by rw [hs]; exact Nat.le_refl _) fun b hbl => by
      obtain ⟨o, ho⟩ : ∃ o, wr.heap[b]? = some o := ⟨_, Array.getElem?_eq_getElem hbl⟩
      by_cases hcl : o.isCells = true
      · exact .inl ((hc b o ho hcl).trans ho.symm)
      · by_cases hlow : b < w.heap.size
        · exact .inl (hb.block b hlow)
        · refine .inr ⟨by omega, fun cs t m he => ?_⟩
          rw [ho] at he
          cases he
          exact absurd rfl hcl) (Nat.le_refl _) (HI.out.below.trans hb)
    refine ⟨_, results_tmp rfl _ _ _, ?_⟩
    first | exact hm | (simp; exact hm) | simpa using hm
end Go.Proofs.Ytlalbfpdelfnfaa
