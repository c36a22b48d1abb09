/-
  Layer 43 (mix): events in memory: what may be read of a list of events, a list of the call's own, and its elements. No condition; nothing is walked here.
-/
import Derived.Test.YtlalbfpdelfnfaaRk
import Derived.Test.YtlalbfpdelfnfaaShelf
namespace Go.Proofs.Ytlalbfpdelfnfaa
open Go.RowKit
set_option linter.unusedVariables false

/-- An event. -/
structure Ev where
  k : Int
  id : Int
  url : ByteArray
  frm : ByteArray
  mode : ByteArray
  med : Int
  st : Int
  hs : List (ByteArray × ByteArray)
  body : ByteArray
/-- Its cells, its headers' slice being hv. -/
def evc (e : Ev) (hv : Value) : List Value := [.int .i64 e.k, .int .i64 e.id, .string e.url, .string e.frm, .string e.mode, .int .i64 e.med, .int .i64 e.st, hv, .string e.body]
/-- Its value. -/
abbrev evv (e : Ev) (hv : Value) : Value := .agg #[.int .i64 e.k, .int .i64 e.id, .string e.url, .string e.frm, .string e.mode, .int .i64 e.med, .int .i64 e.st, hv, .string e.body]
def evp (p : Ev × Value) : List Value := evc p.1 p.2
def hdc (h : ByteArray × ByteArray) : List Value := [.string h.1, .string h.2]
theorem evp_len (p : Ev × Value) : (evp p).length = 9 := rfl
theorem hdc_len (p : ByteArray × ByteArray) : (hdc p).length = 2 := rfl

theorem flat_len {α : Type} {f : α → List Value} {k : Nat} (hf : ∀ a, (f a).length = k) (l : List α) : (l.flatMap f).length = l.length * k := by
  induction l with
  | nil => simp
  | cons a l ih => rw [List.flatMap_cons, List.length_append, ih, hf, List.length_cons, Nat.add_mul, Nat.one_mul]; omega
theorem flat_get {α : Type} {f : α → List Value} {k : Nat} (hf : ∀ a, (f a).length = k) : ∀ (l : List α) (j : Nat) (hj : j < l.length) (i : Nat), i < k → (l.flatMap f)[j * k + i]? = (f l[j])[i]?
  | [], j, hj, i, hi => absurd hj (by simp)
  | a :: l, 0, hj, i, hi => by
    rw [List.flatMap_cons, Nat.zero_mul, Nat.zero_add, List.getElem?_append_left (by rw [hf]; exact hi)]
    rfl
  | a :: l, j + 1, hj, i, hi => by
    rw [List.flatMap_cons, List.getElem?_append_right (by rw [hf, Nat.add_mul]; omega), hf, show (j + 1) * k + i - k = j * k + i by rw [Nat.add_mul]; omega]
    exact flat_get hf l j (by simpa using hj) i hi

/-- Headers, as they are read. -/
def Hdr (w : World) (lo : Nat) (hv : Value) (hs : List (ByteArray × ByteArray)) : Prop := Rd w lo 2 hv hs.length (hs.flatMap hdc)
/-- The same, in a block that there is. -/
def Hds (w : World) (lo : Nat) (hv : Value) (hs : List (ByteArray × ByteArray)) : Prop := Hdr w lo hv hs ∧ ∀ j, hv.ownBlock = some j → j < w.heap.size
/-- A slice of headers that lies below block B, or in a row of headers. -/
def Apart (w : World) (B : Nat) (hv : Value) : Prop := ∀ j, hv.ownBlock = some j → j < B ∨ ∃ (cs : Array Value) (_ : Unit), w.heap[j]? = some (.cells cs 34 (0, 0))
/-- Headers in a row of headers. -/
def Hdo (w : World) (lo : Nat) (hv : Value) (hs : List (ByteArray × ByteArray)) : Prop := Hdr w lo hv hs ∧ ∀ j, hv.ownBlock = some j → lo ≤ j ∧ ∃ (cs : Array Value) (_ : Unit), w.heap[j]? = some (.cells cs 34 (0, 0))
/-- Events, as they are read, H being said of their headers. -/
def EvsG (H : Value → List (ByteArray × ByteArray) → Prop) (w : World) (lo : Nat) (v : Value) (n : Nat) (es : List Ev) : Prop :=
  ∃ ps : List (Ev × Value), ps.map (·.1) = es ∧ es.length = n ∧ Rd w lo 9 v n (ps.flatMap evp) ∧ ∀ p ∈ ps, H p.2 p.1.hs
/-- Events that come in. -/
def EvsI (w : World) (lo : Nat) (v : Value) (n : Nat) (es : List Ev) : Prop := EvsG (Hdr w lo) w lo v n es
/-- Events. -/
def Evs (w : World) (lo : Nat) (v : Value) (n : Nat) (es : List Ev) : Prop := EvsG (Hds w lo) w lo v n es
/-- A list of events of the call's own, from block B on; its headers lie from block lo on. -/
def Outs (w : World) (B lo : Nat) (v : Value) (n : Nat) (es : List Ev) : Prop :=
  ∃ ps : List (Ev × Value), ps.map (·.1) = es ∧ es.length = n ∧ Rk w B 32 9 v n (ps.flatMap evp) ∧ ∀ p ∈ ps, Hds w lo p.2 p.1.hs ∧ Apart w B p.2
/-- An event's cells, at a place. -/
structure EvAt (w : World) (g o : Nat) (e : Ev) (hv : Value) : Prop where
  c0 : w.cell? ⟨g, o, none⟩ = some (.int .i64 e.k)
  c1 : w.cell? ⟨g, o + 1, none⟩ = some (.int .i64 e.id)
  c2 : w.cell? ⟨g, o + 2, none⟩ = some (.string e.url)
  c3 : w.cell? ⟨g, o + 3, none⟩ = some (.string e.frm)
  c4 : w.cell? ⟨g, o + 4, none⟩ = some (.string e.mode)
  c5 : w.cell? ⟨g, o + 5, none⟩ = some (.int .i64 e.med)
  c6 : w.cell? ⟨g, o + 6, none⟩ = some (.int .i64 e.st)
  c7 : w.cell? ⟨g, o + 7, none⟩ = some hv
  c8 : w.cell? ⟨g, o + 8, none⟩ = some (.string e.body)

section
variable {w w' : World} {lo B : Nat} {v : Value} {n : Nat} {es : List Ev} {hv : Value} {hs : List (ByteArray × ByteArray)}
theorem Hdr.below (h : Hdr w lo hv hs) (hb : Below w.heap.size w w') : Hdr w' lo hv hs := Rd.below h hb (Nat.le_refl _)
theorem Hds.below (h : Hds w lo hv hs) (hb : Below w.heap.size w w') : Hds w' lo hv hs := ⟨h.1.below hb, fun j hj => Nat.lt_of_lt_of_le (h.2 j hj) hb.size⟩
theorem Hds.base {lo' : Nat} (h : Hds w lo hv hs) (hb : lo' ≤ lo) : Hds w lo' hv hs := ⟨Rd.base h.1 hb, h.2⟩
theorem Apart.below (h : Apart w B hv) (hb : Below w.heap.size w w') : Apart w' B hv := fun j hj => (h j hj).imp id fun ⟨cs, m, hc⟩ => ⟨cs, m, (hb.block j (blk_lt hc)).trans hc⟩
theorem Apart.mono {B' : Nat} (h : Apart w B hv) (hb : B ≤ B') : Apart w B' hv := fun j hj => (h j hj).imp (fun h => Nat.lt_of_lt_of_le h hb) id
theorem Hdo.below (h : Hdo w lo hv hs) (hb : Below w.heap.size w w') : Hdo w' lo hv hs := ⟨h.1.below hb, fun j hj => ⟨(h.2 j hj).1, by obtain ⟨_, cs, m, hc⟩ := h.2 j hj; exact ⟨cs, m, (hb.block j (blk_lt hc)).trans hc⟩⟩⟩
theorem Hdo.apart (h : Hdo w lo hv hs) (B : Nat) : Apart w B hv := fun j hj => .inr (h.2 j hj).2
theorem Hdo.base {lo' : Nat} (h : Hdo w lo hv hs) (hb : lo' ≤ lo) : Hdo w lo' hv hs := ⟨Rd.base h.1 hb, fun j hj => ⟨Nat.le_trans hb (h.2 j hj).1, (h.2 j hj).2⟩⟩
theorem Hdo.hds (h : Hdo w lo hv hs) : Hds w lo hv hs := ⟨h.1, fun j hj => by obtain ⟨_, cs, m, hc⟩ := h.2 j hj; exact blk_lt hc⟩
theorem Hdo.slice (h : Hdo w lo hv hs) : ∃ A c, hv = .slice A hs.length c := h.1.slice
theorem Hds.slice (h : Hds w lo hv hs) : ∃ A c, hv = .slice A hs.length c := h.1.slice
theorem Hdr.slice (h : Hdr w lo hv hs) : ∃ A c, hv = .slice A hs.length c := Rd.slice h
/-- Headers, where a list of events has grown, or turned. -/
theorem Hds.grown (h : Hds w lo hv hs) (ha : Apart w B hv) {row : Option Nat} (hs2 : w.heap.size ≤ w'.heap.size) (hg : ∀ i, i < w.heap.size → some i ≠ row → w'.heap[i]? = w.heap[i]?) (hr : ∀ r, row = some r → B ≤ r ∧ ∃ cs m, w.heap[r]? = some (.cells cs 32 m)) : Hds w' lo hv hs ∧ Apart w' B hv := by
  have hne : ∀ j, hv.ownBlock = some j → w'.heap[j]? = w.heap[j]? := fun j hj => hg j (h.2 j hj) fun e => by
    obtain ⟨h1, cs, m, h2⟩ := hr j e.symm
    rcases ha j hj with h3 | ⟨cs', m', h3⟩
    · omega
    · rw [h2] at h3
      simp at h3
  exact ⟨⟨Rd.keep h.1 hs2 hne, fun j hj => Nat.lt_of_lt_of_le (h.2 j hj) hs2⟩, fun j hj => (ha j hj).imp id fun ⟨cs, m, hc⟩ => ⟨cs, m, (hne j hj).trans hc⟩⟩
theorem EvsI.below (h : EvsI w lo v n es) (hb : Below w.heap.size w w') : EvsI w' lo v n es := by
  obtain ⟨ps, h1, h2, h3, h4⟩ := h
  exact ⟨ps, h1, h2, h3.below hb (Nat.le_refl _), fun p hp => (h4 p hp).below hb⟩
theorem Evs.below (h : Evs w lo v n es) (hb : Below w.heap.size w w') : Evs w' lo v n es := by
  obtain ⟨ps, h1, h2, h3, h4⟩ := h
  exact ⟨ps, h1, h2, h3.below hb (Nat.le_refl _), fun p hp => (h4 p hp).below hb⟩
theorem Evs.base {lo' : Nat} (h : Evs w lo v n es) (hb : lo' ≤ lo) : Evs w lo' v n es := by
  obtain ⟨ps, h1, h2, h3, h4⟩ := h
  exact ⟨ps, h1, h2, h3.base hb, fun p hp => (h4 p hp).base hb⟩
theorem Evs.inn (h : Evs w lo v n es) : EvsI w lo v n es := by
  obtain ⟨ps, h1, h2, h3, h4⟩ := h
  exact ⟨ps, h1, h2, h3, fun p hp => (h4 p hp).1⟩
theorem EvsG.few {H : Value → List (ByteArray × ByteArray) → Prop} (h : EvsG H w lo v n es) : n ≤ maxLen := by
  obtain ⟨ps, h1, h2, h3, h4⟩ := h
  exact h3.few
theorem EvsG.len {H : Value → List (ByteArray × ByteArray) → Prop} (h : EvsG H w lo v n es) : es.length = n := by
  obtain ⟨ps, h1, h2, h3, h4⟩ := h
  exact h2
theorem EvsG.slice {H : Value → List (ByteArray × ByteArray) → Prop} (h : EvsG H w lo v n es) : ∃ A c, v = .slice A n c := by
  obtain ⟨ps, h1, h2, h3, h4⟩ := h
  exact h3.slice
theorem Outs.below (h : Outs w B lo v n es) (hb : Below w.heap.size w w') : Outs w' B lo v n es := by
  obtain ⟨ps, h1, h2, h3, h4⟩ := h
  exact ⟨ps, h1, h2, h3.below hb (Nat.le_refl _), fun p hp => ⟨(h4 p hp).1.below hb, (h4 p hp).2.below hb⟩⟩
theorem Outs.len (h : Outs w B lo v n es) : es.length = n := by
  obtain ⟨ps, h1, h2, h3, h4⟩ := h
  exact h2
theorem Outs.slice (h : Outs w B lo v n es) : ∃ A c, v = .slice A n c := by
  obtain ⟨ps, h1, h2, h3, h4⟩ := h
  exact h3.slice
theorem Outs.evs (h : Outs w B lo v n es) (hl : lo ≤ B) : Evs w lo v n es := by
  obtain ⟨ps, h1, h2, h3, h4⟩ := h
  exact ⟨ps, h1, h2, (h3.rd (.inl (by omega))).base hl, fun p hp => (h4 p hp).1⟩
theorem Outs.evs0 (h : Outs w B lo v n es) : Evs w 0 v n es := by
  obtain ⟨ps, h1, h2, h3, h4⟩ := h
  exact ⟨ps, h1, h2, (h3.rd (.inl (by omega))).base (Nat.zero_le _), fun p hp => (h4 p hp).1.base (Nat.zero_le _)⟩
theorem Outs.nil_ (w : World) (B lo : Nat) : Outs w B lo (.slice none 0 0) 0 [] := ⟨[], rfl, rfl, Rk.nil_ _ _ _ _, fun p hp => by simp at hp⟩
theorem Outs.fresh (w : World) (lo : Nat) : Outs (w.alloc (.cells #[] 32)) w.heap.size lo (.slice (some ⟨w.heap.size, 0, none⟩) 0 0) 0 [] := ⟨[], rfl, rfl, Rk.fresh w 32 9, fun p hp => by simp at hp⟩
/-- An event of a list. -/
theorem EvsG.get {H : Value → List (ByteArray × ByteArray) → Prop} (h : EvsG H w lo v n es) {j : Nat} (hj : j < n) :
    ∃ g off cap hv, v = .slice (some ⟨g, off, none⟩) n cap ∧ n ≤ cap ∧ cap ≤ maxLen ∧ lo ≤ g ∧ g < w.heap.size ∧ EvAt w g (off + j * 9) (es[j]'(by rw [h.len]; exact hj)) hv ∧ H hv (es[j]'(by rw [h.len]; exact hj)).hs := by
  obtain ⟨ps, h1, h2, h3, h4⟩ := h
  obtain ⟨g, off, cap, rfl, hl, hg, hx, hc1, hc2⟩ := h3.get hj
  have hjp : j < ps.length := by
    have := congrArg List.length h1
    simp at this
    omega
  have hej : es[j]'(by omega) = (ps[j]).1 := by
    simp only [← h1, List.getElem_map]
  have hat : ∀ i u, i < 9 → (evp ps[j])[i]? = some u → w.cell? ⟨g, off + j * 9 + i, none⟩ = some u := fun i u hi hu => by
    obtain ⟨u', hu', hcell⟩ := hx i hi
    rw [flat_get evp_len ps j hjp i hi] at hu'
    rw [hu] at hu'
    cases hu'
    exact hcell
  refine ⟨g, off, cap, (ps[j]).2, rfl, hc1, hc2, hl, hg, ?_, ?_⟩
  · rw [hej]
    exact ⟨hat 0 _ (by omega) rfl, hat 1 _ (by omega) rfl, hat 2 _ (by omega) rfl, hat 3 _ (by omega) rfl, hat 4 _ (by omega) rfl, hat 5 _ (by omega) rfl, hat 6 _ (by omega) rfl, hat 7 _ (by omega) rfl, hat 8 _ (by omega) rfl⟩
  · rw [hej]
    exact h4 _ (List.getElem_mem hjp)
/-- A header of a list. -/
theorem Hdr.get (h : Hdr w lo hv hs) {j : Nat} (hj : j < hs.length) :
    ∃ g off cap, hv = .slice (some ⟨g, off, none⟩) hs.length cap ∧ hs.length ≤ cap ∧ cap ≤ maxLen ∧ lo ≤ g ∧ g < w.heap.size ∧ w.cell? ⟨g, off + j * 2, none⟩ = some (.string hs[j].1) ∧ w.cell? ⟨g, off + j * 2 + 1, none⟩ = some (.string hs[j].2) := by
  obtain ⟨g, off, cap, rfl, hl, hg, hx, hc1, hc2⟩ := Rd.get h hj
  have hat : ∀ i u, i < 2 → (hdc hs[j])[i]? = some u → w.cell? ⟨g, off + j * 2 + i, none⟩ = some u := fun i u hi hu => by
    obtain ⟨u', hu', hcell⟩ := hx i hi
    rw [flat_get hdc_len hs j hj i hi] at hu'
    rw [hu] at hu'
    cases hu'
    exact hcell
  exact ⟨g, off, cap, rfl, hc1, hc2, hl, hg, hat 0 _ (by omega) rfl, hat 1 _ (by omega) rfl⟩
/-- One more event. -/
theorem Outs.snoc {A : Option Addr} {c : Nat} {e : Ev} {ps : List (Ev × Value)} {row : Option Nat} (h1 : ps.map (·.1) = es) (h2 : es.length = n) (h4 : ∀ p ∈ ps, Hds w lo p.2 p.1.hs ∧ Apart w B p.2) (hh : Hds w lo hv e.hs) (ha : Apart w B hv)
    (hr : Rk w' B 32 9 (.slice A (n + 1) c) (n + 1) (ps.flatMap evp ++ evc e hv)) (hg : w.grownBy w' row) (hrow : ∀ r, row = some r → B ≤ r ∧ ∃ cs m, w.heap[r]? = some (.cells cs 32 m)) : Outs w' B lo (.slice A (n + 1) c) (n + 1) (es ++ [e]) := by
  refine ⟨ps ++ [(e, hv)], by simp [h1], by simp [h2], ?_, fun p hp => ?_⟩
  · rw [List.flatMap_append]
    simpa [evp] using hr
  · rcases List.mem_append.1 hp with hp | hp
    · exact (h4 p hp).1.grown (h4 p hp).2 hg.size hg.block hrow
    · obtain rfl : p = (e, hv) := by simpa using hp
      exact hh.grown ha hg.size hg.block hrow
theorem Rk.typed {e : TypeId} {k : Nat} {xs : List Value} (h : Rk w B e k v n xs) : ∀ r, v.ownBlock = some r → B ≤ r ∧ ∃ cs m, w.heap[r]? = some (.cells cs e m) := by
  intro r hr
  rcases h.2 with ⟨rfl, _⟩ | ⟨g, off, cap, cur, rfl, hb, hg, _⟩
  · simp [Value.ownBlock] at hr
  · simp [Value.ownBlock] at hr
    subst hr
    exact ⟨hb, cur, _, hg⟩
theorem Rk.typed0 {e : TypeId} {k : Nat} {xs : List Value} (h : Rk w B e k v n xs) : ∀ r, v.ownBlock = some r → B ≤ r ∧ ∃ (cs : Array Value) (_ : Unit), w.heap[r]? = some (.cells cs e (0, 0)) := by
  intro r hr
  rcases h.2 with ⟨rfl, _⟩ | ⟨g, off, cap, cur, rfl, hb, hg, _⟩
  · simp [Value.ownBlock] at hr
  · simp [Value.ownBlock] at hr
    subst hr
    exact ⟨hb, cur, (), hg⟩
theorem EvAt.below {g o : Nat} {e : Ev} {hv : Value} (h : EvAt w g o e hv) (hb : Below w.heap.size w w') : EvAt w' g o e hv := by
  have hg := lt_of_cell h.c0
  have hc : ∀ i u, w.cell? ⟨g, i, none⟩ = some u → w'.cell? ⟨g, i, none⟩ = some u := fun i u hu => (hb.cell (p := ⟨g, i, none⟩) hg).trans hu
  exact ⟨hc _ _ h.c0, hc _ _ h.c1, hc _ _ h.c2, hc _ _ h.c3, hc _ _ h.c4, hc _ _ h.c5, hc _ _ h.c6, hc _ _ h.c7, hc _ _ h.c8⟩
/-- An event that lies in a block of its own. -/
theorem EvAt.row {b : Nat} {e : Ev} {hv : Value} (h : w.heap[b]? = some (.cells (evc e hv).toArray 32 (0, 0))) : EvAt w b 0 e hv := by
  have hc : ∀ i, w.cell? ⟨b, i, none⟩ = (evc e hv)[i]? := fun i => by rw [cell_of_row w b i _ 32 (0, 0) h]; simp
  exact ⟨hc 0, hc 1, hc 2, hc 3, hc 4, hc 5, hc 6, hc 7, hc 8⟩
end

theorem infoE : (Try.prog.info? 32).map (fun i => (i.zero, i.size, i.bytes)) = some (some (evv ⟨0, 0, ⟨#[]⟩, ⟨#[]⟩, ⟨#[]⟩, 0, 0, [], ⟨#[]⟩⟩ (.slice none 0 0)), 9, 120) := by kernel_rfl
theorem infoH : (Try.prog.info? 34).map (fun i => (i.zero, i.size, i.bytes)) = some (some (.agg #[.string ⟨#[]⟩, .string ⟨#[]⟩]), 2, 32) := by kernel_rfl
end Go.Proofs.Ytlalbfpdelfnfaa
