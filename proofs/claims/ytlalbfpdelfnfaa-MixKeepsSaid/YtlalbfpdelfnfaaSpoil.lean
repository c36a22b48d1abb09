/-
  Layer 43 (mix): what may turn of a list of one's own while others stand; and the makers of lists, each told of with its reference. No condition; nothing is walked here.
-/
import Derived.Test.YtlalbfpdelfnfaaRCut
import Derived.Test.YtlalbfpdelfnfaaRGlue
import Derived.Test.YtlalbfpdelfnfaaGlue
import Derived.Test.YtlalbfpdelfnfaaMerges
namespace Go.Proofs.Ytlalbfpdelfnfaa
open Go.RowKit
set_option linter.unusedVariables false

/-- Of the blocks from B to N texts may have turned into other texts; nothing else has. -/
structure Spoilt (B N : Nat) (w W : World) : Prop where
  os : W.os = w.os
  tape : W.tape = w.tape
  output : W.output = w.output
  size : W.heap.size = w.heap.size
  out : ∀ j, j < B ∨ N ≤ j → W.heap[j]? = w.heap[j]?
  cell : ∀ p u, w.cell? p = some u → (∀ s, u ≠ .string s) → W.cell? p = some u
  str : ∀ p s, w.cell? p = some (.string s) → ∃ s', W.cell? p = some (.string s')
  froz : ∀ p, W.frozen? p = w.frozen? p
theorem Spoilt.refl (B N : Nat) (w : World) : Spoilt B N w w := ⟨rfl, rfl, rfl, rfl, fun _ _ => rfl, fun _ _ h _ => h, fun _ s h => ⟨s, h⟩, fun _ => rfl⟩
theorem Spoilt.store {B N : Nat} {w W : World} (h : Spoilt B N w W) {p : Addr} (hp : B ≤ p.block ∧ p.block < N) {s0 : ByteArray} (hc : w.cell? p = some (.string s0)) (z : ByteArray) : Spoilt B N w (W.setCell p (.string z)) := by
  obtain ⟨s1, h1⟩ := h.str p s0 hc
  refine ⟨h.os, h.tape, h.output, by simp [World.setCell, h.size], fun j hj => (Below.heap_setCell _ _ _ _ (by omega)).trans (h.out j hj), fun q u hq hn => ?_, fun q s hq => ?_, fun q => (World.frozen?_setCell _ _ _ _).trans (h.froz q)⟩
  · by_cases e : p = q
    · subst e
      rw [hc] at hq
      cases hq
      exact absurd rfl (hn s0)
    · rw [World.cell?_setCell_other _ _ _ _ e]
      exact h.cell q u hq hn
  · by_cases e : p = q
    · subst e
      exact ⟨z, World.cell?_setCell_same _ _ _ h1⟩
    · rw [World.cell?_setCell_other _ _ _ _ e]
      exact h.str q s hq
theorem Spoilt.below {B N : Nat} {w W : World} (h : Spoilt B N w W) : Below B w W := ⟨h.os, h.tape, h.output, by rw [h.size]; exact Nat.le_refl _, fun k hk => h.out k (.inl hk)⟩
/-- A list that lies from block lo on, where what lies below it has turned. -/
theorem Evs.keepLo {w w' : World} {lo n : Nat} {v : Value} {es : List Ev} (h : Evs w lo v n es) (hs : w.heap.size ≤ w'.heap.size) (hk : ∀ j, lo ≤ j → w'.heap[j]? = w.heap[j]?) : Evs w' lo v n es := by
  obtain ⟨ps, h1, h2, h3, h4⟩ := h
  exact ⟨ps, h1, h2, h3.keepLo hs fun j hj _ => hk j hj, fun p hp => ⟨Rd.keepLo (h4 p hp).1 hs fun j hj _ => hk j hj, fun j hj => Nat.lt_of_lt_of_le ((h4 p hp).2 j hj) hs⟩⟩
theorem Spoilt.evs {B N lo n : Nat} {w W : World} {v : Value} {es : List Ev} (h : Spoilt B N w W) (he : Evs w lo v n es) (hN : N ≤ lo) : Evs W lo v n es :=
  he.keepLo (by rw [h.size]; exact Nat.le_refl _) fun j hj => h.out j (.inr (by omega))

/-- What of an event of one's own list is spoilt. -/
structure Spot (B N : Nat) (w : World) (g o : Nat) (e : Ev) (A1 : Option Addr) (c1 : Nat) : Prop where
  row : B ≤ g ∧ g < N
  hv : w.cell? ⟨g, o + 7, none⟩ = some (.slice A1 e.hs.length c1)
  body : w.cell? ⟨g, o + 8, none⟩ = some (.string e.body)
  free : w.frozen? ⟨g, o + 8, none⟩ = false
  head : ∀ k, k < e.hs.length → ∃ b p s, A1 = some ⟨b, p, none⟩ ∧ e.hs.length ≤ c1 ∧ c1 ≤ maxLen ∧ B ≤ b ∧ b < N ∧ w.cell? ⟨b, p + k * 2 + 1, none⟩ = some (.string s) ∧ w.frozen? ⟨b, p + k * 2 + 1, none⟩ = false
theorem Outs.spot {w : World} {B n c0 i : Nat} {A0 : Option Addr} {es : List Ev} (h : Outs w B B (.slice A0 n c0) n es) (hl : i < n) :
    ∃ g off A1 c1, ∃ hix : i < es.length, A0 = some ⟨g, off, none⟩ ∧ n ≤ c0 ∧ c0 ≤ maxLen ∧ Spot B w.heap.size w g (off + i * 9) es[i] A1 c1 := by
  obtain ⟨g0, off0, hv0, hix0, q0, he0, hfz, hn1, hn2, hB⟩ := Outs.last h hl
  have hE : EvsG (fun hv hs => Hds w B hv hs ∧ Apart w B hv) w B (.slice A0 n c0) n es := by
    obtain ⟨ps, h1, h2, h3, h4⟩ := h
    exact ⟨ps, h1, h2, h3.rd (.inl (by omega)), h4⟩
  obtain ⟨g, off, cap, hv, hv2, hc1, hc2, hg1, hg2, he, hh, ha⟩ := hE.get hl
  injection hv2 with q1 q2 q3
  rw [q0] at q1
  cases q1
  obtain ⟨A1, c1, rfl⟩ := hh.slice
  refine ⟨g0, off0, A1, c1, hix0, q0, hn1, hn2, ⟨hB, hg2⟩, he.c7, he.c8, hfz, fun k hk => ?_⟩
  obtain ⟨b, p, cap1, hv3, hd1, hd2, hb1, hb2, _, hs1⟩ := Hdr.get hh.1 hk
  injection hv3 with r1 r2 r3
  subst r1
  subst r3
  rcases ha b rfl with hlt | ⟨cs, _, hblk⟩
  · omega
  · exact ⟨b, p, _, rfl, hd1, hd2, hb1, hb2, hs1, blk_frozen hblk _⟩
theorem Spot.below {B : Nat} {w w' : World} {g o : Nat} {e : Ev} {A1 : Option Addr} {c1 : Nat} (h : Spot B w.heap.size w g o e A1 c1) (hb : Below w.heap.size w w') : Spot B w.heap.size w' g o e A1 c1 :=
  ⟨h.row, (hb.cell (p := ⟨g, o + 7, none⟩) h.row.2).trans h.hv, (hb.cell (p := ⟨g, o + 8, none⟩) h.row.2).trans h.body, (hb.frozen (p := ⟨g, o + 8, none⟩) h.row.2).trans h.free, fun k hk => by
    obtain ⟨b, p, s, h1, h2, h3, h4, h5, h6, h7⟩ := h.head k hk
    exact ⟨b, p, s, h1, h2, h3, h4, h5, (hb.cell (p := ⟨b, p + k * 2 + 1, none⟩) h5).trans h6, (hb.frozen (p := ⟨b, p + k * 2 + 1, none⟩) h5).trans h7⟩⟩

/-- A list that is told of with its length. -/
structure Fit (L : List Ev) (k : Nat) : Prop where
  len : L.length = k
  few : k ≤ 1000000
  hs : ∀ e ∈ L, e.hs.length ≤ 1000000
def MadeN (w : World) (lo k : Nat) (res : List Ev) (o : Ending) (w' : World) : Prop :=
  ∃ A c, o = .returned (.slice A k c) ∧ Evs w' lo (.slice A k c) k res ∧ Below w.heap.size w w'
theorem Made_.n {w w' : World} {lo k : Nat} {res : List Ev} {o : Ending} (hk : res.length = k) (h : Made_ w lo res o w') : MadeN w lo k res o w' := by
  subst hk
  exact h
theorem cutL_len (z : Nat) (es : List Ev) : (cutL z es).length ≤ 5 * es.length := by
  unfold cutL
  induction es with
  | nil => simp
  | cons e es ih =>
    rw [List.flatMap_cons, List.length_append, List.length_cons]
    have : (cutE z e).length ≤ 5 := by
      unfold cutE
      split
      · rw [List.length_map]
        exact pieces_len z e.body
      · simp
    omega
theorem cutL_hs {z m : Nat} {es : List Ev} (h : ∀ e ∈ es, e.hs.length ≤ m) : ∀ x ∈ cutL z es, x.hs.length ≤ m := fun x hx => by
  obtain ⟨e, he, hx⟩ := List.mem_flatMap.1 hx
  unfold cutE at hx
  split at hx
  · obtain ⟨s, _, rfl⟩ := List.mem_map.1 hx
    exact h e he
  · obtain rfl : x = e := by simpa using hx
    exact h x he
theorem glue_hs {m : Nat} : ∀ (es os : List Ev), (∀ x ∈ os, x.hs.length ≤ m) → (∀ e ∈ es, e.hs.length ≤ m) → ∀ x ∈ es.foldl glueStep os, x.hs.length ≤ m
  | [], os, h, _ => fun x hx => h x hx
  | e :: es, os, h, hb => by
    rw [List.foldl_cons]
    refine glue_hs es (glueStep os e) (fun x hx => ?_) fun y hy => hb y (List.mem_cons_of_mem _ hy)
    have key : x ∈ os ++ [e] → x.hs.length ≤ m := fun hx => by
      rcases List.mem_append.1 hx with hx | hx
      · exact h x hx
      · obtain rfl : x = e := by simpa using hx
        exact hb x List.mem_cons_self
    unfold glueStep at hx
    split at hx
    · rename_i hl
      split at hx
      · rcases List.mem_or_eq_of_mem_set hx with hx | rfl
        · exact h x hx
        · exact h os[os.length - 1] (List.getElem_mem _)
      · exact key hx
    · exact key hx
theorem keeps_cut {es : List Ev} {n : Nat} (hn : es.length = n) (hc : Cutm 10 es) : ∃ (L : List Ev) (k : Nat), Hid (Fit L k) ∧ Hid (∀ (w : World) (lo : Nat) (v : Value) (sb : Nat), Evs w lo v n es → sb < w.heap.size → w.cell? ⟨sb, 0, none⟩ = some (.int .i64 3) →
    Calls Try.prog 7 #[v, .slice (some ⟨sb, 0, none⟩) 1 1] w (MadeN w w.heap.size k L) ∧ Calls Try.prog 12 #[v, .slice (some ⟨sb, 0, none⟩) 1 1] w (MadeN w 0 k L)) := by
  have hlen := hc.len
  refine ⟨cutL 3 es, _, ⟨rfl, by have := cutL_len 3 es; omega, cutL_hs hc.hs⟩, fun w lo v sb h hsb hcell => ⟨?_, ?_⟩⟩
  · exact (cut_walk (z := 3) h (by omega) hc.hs hc.body (by decide) hsb hcell).mono fun o w' hm => hm.n rfl
  · exact (rCut_any (z := 3) h (by omega) hc.body (by decide) hcell ⟨Nat.le_refl _, by decide⟩).mono fun o w' hm => hm.n rfl
theorem keeps_glue {es : List Ev} {n : Nat} (hn : es.length = n) (hc : Cutm 10 es) : ∃ (L : List Ev) (k : Nat), Hid (Fit L k) ∧ Hid (∀ (w : World) (lo : Nat) (v : Value), Evs w lo v n es →
    Calls Try.prog 8 #[v] w (MadeN w w.heap.size k L) ∧ Calls Try.prog 13 #[v] w (MadeN w 0 k L)) := by
  have hlen := hc.len
  refine ⟨glueL es, _, ⟨rfl, by have := glueL_len es; omega, glue_hs es [] (fun x hx => by simp at hx) hc.hs⟩, fun w lo v h => ⟨?_, ?_⟩⟩
  · exact (glue_any h (by omega) hc.body hc.hs).mono fun o w' hm => hm.n rfl
  · exact (rGlue_any h (by omega) hc.body).mono fun o w' hm => hm.n rfl
theorem keeps_part {es : List Ev} {n : Nat} (id : Int) (hn : es.length = n) (hc : Cutm 10 es) : ∃ (L : List Ev) (k : Nat), Hid (Fit L k) ∧ Hid (∀ (w : World) (lo : Nat) (v : Value), Evs w lo v n es →
    Calls Try.prog 9 #[.int .i64 id, v] w (MadeN w w.heap.size k L) ∧ Calls Try.prog 14 #[.int .i64 id, v] w (MadeN w 0 k L)) := by
  have hlen := hc.len
  refine ⟨partL id es, _, ⟨rfl, by unfold partL; have := List.length_filter_le (fun e : Ev => decide (e.id = id) || decide (e.k = 6)) es; omega, fun e he => hc.hs e (List.mem_filter.1 he).1⟩, fun w lo v h => ⟨?_, ?_⟩⟩
  · exact (part_any id h (by omega) hc.hs).mono fun o w' hm => hm.n rfl
  · exact (rPart_any id h (by omega)).mono fun o w' hm => hm.n rfl
theorem tn_nil (w : World) : Tn w (.slice none 0 0) 0 [] := ⟨rfl, Nat.zero_le _, .inl ⟨rfl, none, 0, rfl, fun _ => rfl⟩⟩
theorem keeps_merge {es : List Ev} {n : Nat} (hn : es.length = n) (hc : Cutm 10 es) : ∃ (L : List Ev) (k : Nat), Hid (Fit L k) ∧ Hid (∀ (w : World) (lo : Nat) (v : Value), Evs w lo v n es →
    Calls Try.prog 10 #[v, v, .slice none 0 0] w (MadeN w w.heap.size k L) ∧ Calls Try.prog 15 #[v, v, .slice none 0 0] w (MadeN w 0 k L)) := by
  have hlen := hc.len
  refine ⟨mrg [] es es, _, ⟨rfl, by rw [mrg_len]; omega, fun e he => (mrg_mem e he).elim (hc.hs e) (hc.hs e)⟩, fun w lo v h => ⟨?_, ?_⟩⟩
  · exact (merge_any h h (tn_nil w) (by omega) (by omega) hc.hs hc.hs).mono fun o w' hm => hm.n rfl
  · exact (rMerge_any h h (tn_nil w) (by omega) (by omega)).mono fun o w' hm => hm.n rfl
theorem keeps_same {w : World} {lo lo2 k : Nat} {v v2 : Value} {L : List Ev} (h : Evs w lo v k L) (h2 : Evs w lo2 v2 k L) (hf : Fit L k) : Calls Try.prog 11 #[v, v2] w fun o w' => o = .returned (.bool true) ∧ Below w.heap.size w w' := by
  have := rSameL_any h h2 hf.few hf.hs
  rwa [listB_true rfl] at this
end Go.Proofs.Ytlalbfpdelfnfaa
