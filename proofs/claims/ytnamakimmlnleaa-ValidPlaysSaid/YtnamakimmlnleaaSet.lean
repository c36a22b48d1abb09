/-
  The set of keys in memory: its block, its map; a new one; whether a key is there, how many are, how many went; the one that came first. No condition but that the set is one.
-/
import Derived.Test.YtnamakimmlnleaaRows
import Derived.Test.YtnamakimmlnleaaKept
import Derived.Test.YtnamakimmlnleaaRow
import Derived.Maps.OwnIn
import Derived.Maps.RangeWalk
import Derived.Sort.MapsRangeIn
namespace Go.Proofs.Ytnamakimmlnleaa
open Go.RowKit Go.ChangeMaps
set_option linter.unusedVariables false

theorem law9 : Maps.Keyed Try.prog 9 := Maps.string_keyed Try.underlying9
theorem zero3 (w : World) : (zeroValue 3).run Try.prog w = .ok (.int .i64 0) w := by kernel_rfl

/-- The set whose block is g: its keys, with their numbers, are L; the next number; how many there may be; how many went. -/
structure Sett (w : World) (B g : Nat) (L : List (ByteArray × Nat)) (next most gone : Nat) : Prop where
  low : B ≤ g
  next_le : next ≤ 1000000
  most_le : most ≤ 10000
  gone_le : gone ≤ next
  keys : ∀ p ∈ L, p.1.size ≤ 1048576
  ex : ∃ mb D, B ≤ mb ∧ w.heap[g]? = some (.cells #[.map (some mb), .int .i64 next, .int .i64 most, .int .i64 gone] 47 (0, 0)) ∧ w.ownsMap Try.prog 9 (plainElem Try.prog 3) mb next D ∧ Kept D L next

/-- What a call may turn that writes to the set: its block, and its map, from block B on. -/
structure Turn (w w' : World) (B g : Nat) : Prop where
  below : Below B w w'
  keep : ∀ k cs t m, w.heap[k]? = some (.cells cs t m) → k ≠ g → w'.heap[k]? = w.heap[k]?
theorem Turn.refl (w : World) (B g : Nat) : Turn w w B g := ⟨Below.refl _ _, fun _ _ _ _ _ _ => rfl⟩
theorem Turn.trans {a b c : World} {B g : Nat} (h : Turn a b B g) (k : Turn b c B g) : Turn a c B g :=
  ⟨h.below.trans k.below, fun i cs t m hi hg => (k.keep i cs t m ((h.keep i cs t m hi hg).trans hi) hg).trans (h.keep i cs t m hi hg)⟩
theorem Turn.of {w w' : World} {B g : Nat} (h : Below w.heap.size w w') (hB : B ≤ w.heap.size) : Turn w w' B g :=
  ⟨h.mono hB, fun k _ _ _ hk _ => h.block k (blk_lt hk)⟩
theorem Turn.drewN {a b : World} {B g : Nat} (h : Turn a b B g) (n : Nat) : Turn a (b.drewN n) B g := ⟨below_drewN h.below n, h.keep⟩
theorem Turn.set_ {a b : World} {B g : Nat} (h : Turn a b B g) (hg : B ≤ g) (i : Nat) (u : Value) : Turn a (b.setCell ⟨g, i, none⟩ u) B g :=
  ⟨h.below.setCell (p := ⟨g, i, none⟩) hg u, fun k cs t m hk hkg => (Below.heap_setCell _ ⟨g, i, none⟩ _ k hkg).trans (h.keep k cs t m hk hkg)⟩
theorem Turn.map_ {a b c : World} {B g mb : Nat} (h : Turn a b B g) (hm : B ≤ mb) (ht : b.mapTurned c mb) : Turn a c B g := by
  obtain ⟨es, cl, es', cl', hb, rfl⟩ := ht
  refine ⟨h.below.trans ⟨rfl, rfl, rfl, by simp [setBlock], fun k hk => heap_setBlock_other hb _ (by omega)⟩, fun k cs t m hk hkg => ?_⟩
  refine (heap_setBlock_other hb _ ?_).trans (h.keep k cs t m hk hkg)
  rintro rfl
  have := (h.keep k cs t m hk hkg).trans hk
  rw [hb] at this
  cases this

theorem own_ne {w : World} {g mb n : Nat} {cs : Array Value} {t : TypeId} {m : Nat × Nat} {D : DataW Nat} (h : w.heap[g]? = some (.cells cs t m)) (ho : w.ownsMap Try.prog 9 (plainElem Try.prog 3) mb n D) : mb ≠ g := by
  rintro rfl
  obtain ⟨es, cl, hb, _⟩ := ho
  rw [h] at hb
  cases hb
theorem own_set {w : World} {g mb n : Nat} {D : DataW Nat} (ho : w.ownsMap Try.prog 9 (plainElem Try.prog 3) mb n D) (hne : mb ≠ g) (i : Nat) (u : Value) : (w.setCell ⟨g, i, none⟩ u).ownsMap Try.prog 9 (plainElem Try.prog 3) mb n D := by
  obtain ⟨es, cl, hb, rest⟩ := ho
  exact ⟨es, cl, (Below.heap_setCell w ⟨g, i, none⟩ u mb hne).trans hb, rest⟩
theorem blk_turned {w w' : World} {g mb : Nat} {o : Obj} (h : w.heap[g]? = some o) (hne : mb ≠ g) (ht : w.mapTurned w' mb) : w'.heap[g]? = some o := by
  obtain ⟨es, cl, es', cl', hb, rfl⟩ := ht
  exact (heap_setBlock_other hb _ (fun e => hne e.symm)).trans h

section
variable {w w' : World} {B g : Nat} {L : List (ByteArray × Nat)} {next most gone : Nat}
theorem Sett.lt (h : Sett w B g L next most gone) : g < w.heap.size := by
  obtain ⟨mb, D, _, hg, _⟩ := h.ex
  exact blk_lt hg
theorem Sett.below (h : Sett w B g L next most gone) (hb : Below w.heap.size w w') : Sett w' B g L next most gone := by
  have hlt := h.lt
  obtain ⟨h1, h2, h3, h4, h5, mb, D, hm, hg, ho, hk⟩ := h
  refine ⟨h1, h2, h3, h4, h5, mb, D, hm, (hb.block g hlt).trans hg, ?_, hk⟩
  have hlt2 := ho.lt
  obtain ⟨es, cl, hbb, rest⟩ := ho
  exact ⟨es, cl, (hb.block mb hlt2).trans hbb, rest⟩
end

theorem New_yes (n : Nat) (hn : n ≤ 10000) (B : Nat) (w : World) (hB : B ≤ w.heap.size) :
    Calls Try.prog 6 #[.int .i64 n] w fun e w' => ∃ g, e = .returned (.tuple #[.pointer (some ⟨g, 0, none⟩), .int .i64 0]) ∧ Sett w' B g [] 0 n 0 ∧ w.heap.size ≤ g ∧ Below w.heap.size w w' := by
  have hmm := @run_makeMap Try.prog
  go_enter Try.func6, Try.ntmps6
  go_wp2
  go_ret2
  refine ⟨_, rfl, ⟨?_, Nat.zero_le _, hn, Nat.le_refl _, (fun p h => by cases h), w.heap.size, .map [], hB, ?_, ?_, Kept.start⟩, ?_, ?_⟩
  · exact Nat.le_trans hB (by simp)
  · have := heap_alloc_new (w.alloc (.map #[] 0)) (.cells #[.map (some w.heap.size), .int .i64 0, .int .i64 n, .int .i64 0] 47)
    simpa using this
  · exact (World.ownsMap_made w Try.prog 9 _).alloc _
  · simp
  · exact ((Below.refl _ _).alloc (Nat.le_refl _) _).alloc (by simp) _
theorem New_no (n : Int) (hn : n < 0 ∨ 10000 < n) (w : World) :
    Calls Try.prog 6 #[.int .i64 n] w fun e w' => e = .returned (.tuple #[.pointer none, .int .i64 1]) ∧ w = w' := by
  rcases hn with hn | hn
  · go_enter Try.func6, Try.ntmps6
    go_wp2
    go_ret2
    exact ⟨rfl, rfl⟩
  · have h0 : ¬ n < 0 := by omega
    go_enter Try.func6, Try.ntmps6
    go_wp2
    go_ret2
    exact ⟨rfl, rfl⟩

theorem has_nil (k : ByteArray) (w : World) : Calls Try.prog 21 #[.pointer none, .string k] w fun e w' => e = .returned (.bool false) ∧ w = w' := by
  go_enter Try.func21, Try.ntmps21
  go_wp2
  go_ret
  exact ⟨rfl, rfl⟩
theorem has_any {w : World} {B g : Nat} {L : List (ByteArray × Nat)} {next most gone : Nat} (h : Sett w B g L next most gone) (k : ByteArray) (hk : k.size ≤ maxLen) :
    Calls Try.prog 21 #[.pointer (some ⟨g, 0, none⟩), .string k] w fun e w' => e = .returned (.bool (L.any fun p => decide (p.1 = k))) ∧ w = w' := by
  obtain ⟨h1, h2, h3, h4, h5, mb, D, hm, hg, ho, hK⟩ := h
  have hkey := WideMaps.keyOf_string_mk Try.underlying9 hk
  have c0 : w.cell? ⟨g, 0, none⟩ = some (.map (some mb)) := cell_of_row w g 0 _ _ _ hg
  have hh := hK.has k
  unfold klit at hh
  rw [← hh]
  clear hg hh
  go_enter Try.func21, Try.ntmps21
  go_wp2_with (first
    | (at_lookup; refine wpList_lookup_own_ok_int _ rfl _ _ 45 rfl 9 3 .i64 law9 Try.underlying45 Try.underlying3 (zero3 _) mb next D rfl ho _ _ rfl hkey ?_; intro c hat hwc)
    | go_in)
  all_goals (go_ret; exact ⟨rfl, rfl⟩)
theorem Has_nil (k : ByteArray) (w : World) : Calls Try.prog 20 #[.pointer none, .string k] w fun e w' => e = .returned (.bool false) ∧ w = w' := by
  have H1 := Lib.hid (has_nil k w)
  go_enter Try.func20, Try.ntmps20
  go_wp2_with (go_at_call 21; refine H1.out.mono ?_; rintro e w1 ⟨rfl, rfl⟩)
  go_ret
  exact ⟨rfl, rfl⟩
theorem Has_any {w : World} {B g : Nat} {L : List (ByteArray × Nat)} {next most gone : Nat} (h : Sett w B g L next most gone) (k : ByteArray) (hk : k.size ≤ maxLen) :
    Calls Try.prog 20 #[.pointer (some ⟨g, 0, none⟩), .string k] w fun e w' => e = .returned (.bool (L.any fun p => decide (p.1 = k))) ∧ w = w' := by
  have H1 := Lib.hid (has_any h k hk)
  go_enter Try.func20, Try.ntmps20
  go_wp2_with (go_at_call 21; refine H1.out.mono ?_; rintro e w1 ⟨rfl, rfl⟩)
  go_ret
  exact ⟨rfl, rfl⟩
theorem Len_nil (w : World) : Calls Try.prog 19 #[.pointer none] w fun e w' => e = .returned (.int .i64 0) ∧ w = w' := by
  go_enter Try.func19, Try.ntmps19
  go_wp2
  go_ret
  exact ⟨rfl, rfl⟩
theorem Len_any {w : World} {B g : Nat} {L : List (ByteArray × Nat)} {next most gone : Nat} (h : Sett w B g L next most gone) :
    Calls Try.prog 19 #[.pointer (some ⟨g, 0, none⟩)] w fun e w' => e = .returned (.int .i64 L.length) ∧ w = w' := by
  obtain ⟨h1, h2, h3, h4, h5, mb, D, hm, hg, ho, hK⟩ := h
  have c0 : w.cell? ⟨g, 0, none⟩ = some (.map (some mb)) := cell_of_row w g 0 _ _ _ hg
  rw [← hK.many]
  clear hg
  go_enter Try.func19, Try.ntmps19
  go_wp2_with (first
    | (at_len; refine wpList_len_own _ rfl _ 45 rfl 9 3 Try.underlying45 _ mb next D rfl ho ?_)
    | go_in)
  go_ret
  exact ⟨rfl, rfl⟩
theorem Gone_nil (w : World) : Calls Try.prog 10 #[.pointer none] w fun e w' => e = .returned (.int .i64 0) ∧ w = w' := by
  go_enter Try.func10, Try.ntmps10
  go_wp2
  go_ret
  exact ⟨rfl, rfl⟩
theorem Gone_any {w : World} {B g : Nat} {L : List (ByteArray × Nat)} {next most gone : Nat} (h : Sett w B g L next most gone) :
    Calls Try.prog 10 #[.pointer (some ⟨g, 0, none⟩)] w fun e w' => e = .returned (.int .i64 gone) ∧ w = w' := by
  obtain ⟨h1, h2, h3, h4, h5, mb, D, hm, hg, ho, hK⟩ := h
  have c3 : w.cell? ⟨g, 3, none⟩ = some (.int .i64 gone) := cell_of_row w g 3 _ _ _ hg
  clear hg ho
  go_enter Try.func10, Try.ntmps10
  go_wp2
  go_ret
  exact ⟨rfl, rfl⟩

end Go.Proofs.Ytnamakimmlnleaa
