/-
  The set of keys: a key comes. No condition but that the set is one.
-/
import Derived.Test.YtnamakimmlnleaaOld
namespace Go.Proofs.Ytnamakimmlnleaa
open Go.RowKit Go.ChangeMaps
set_option linter.unusedVariables false

theorem Add_nil (k : ByteArray) (w : World) : Calls Try.prog 7 #[.pointer none, .string k] w fun e w' => e = .returned (.tuple #[.string ⟨#[]⟩, .bool false]) ∧ w = w' := by
  go_enter Try.func7, Try.ntmps7
  go_wp2
  go_ret2
  exact ⟨rfl, rfl⟩
theorem Add_empty (A : Addr) (w : World) : Calls Try.prog 7 #[.pointer (some A), .string ⟨#[]⟩] w fun e w' => e = .returned (.tuple #[.string ⟨#[]⟩, .bool false]) ∧ w = w' := by
  go_enter Try.func7, Try.ntmps7
  go_wp2
  go_ret2
  exact ⟨rfl, rfl⟩
theorem Add_there {w : World} {B g : Nat} {L : List (ByteArray × Nat)} {next most gone : Nat} (h : Sett w B g L next most gone) (k : ByteArray) (hk : k.size ≤ maxLen) (h0 : k.toList.isEmpty = false) (hy : (L.any fun p => decide (p.1 = k)) = true) :
    Calls Try.prog 7 #[.pointer (some ⟨g, 0, none⟩), .string k] w fun e w' => e = .returned (.tuple #[.string ⟨#[]⟩, .bool false]) ∧ w = w' := by
  have H1 := has_any h k hk
  rw [hy] at H1
  have H1 := Lib.hid H1
  clear h hy
  go_enter Try.func7, Try.ntmps7
  go_wp2_with (go_at_call 21; refine H1.out.mono ?_; rintro e w1 ⟨rfl, rfl⟩)
  go_ret2
  exact ⟨rfl, rfl⟩

/-- What the set is when a key has come, and its count has gone on. -/
theorem Sett.came {w w1 : World} {B g mb : Nat} {D : DataW Nat} {L : List (ByteArray × Nat)} {next most gone : Nat} {k : ByteArray} (h1 : B ≤ g) (h2 : next + 1 ≤ 1000000) (h3 : most ≤ 10000) (h4 : gone ≤ next) (h5 : ∀ p ∈ L, p.1.size ≤ 1048576)
    (hm : B ≤ mb) (hg : w.heap[g]? = some (.cells #[.map (some mb), .int .i64 next, .int .i64 most, .int .i64 gone] 47 (0, 0))) (hne : mb ≠ g) (hK : Kept D L next)
    (hk : k.size ≤ 1048576) (hn : (L.any fun p => decide (p.1 = k)) = false) (ho : w1.ownsMap Try.prog 9 (plainElem Try.prog 3) mb (next + 1) (D.put (klit k) (.lit (.int .i64 next)))) (ht : w.mapTurned w1 mb) :
    Sett (w1.setCell ⟨g, 1, none⟩ (.int .i64 ((next : Int) + 1))) B g (L ++ [(k, next)]) (next + 1) most gone := by
  refine ⟨h1, h2, h3, by omega, ?_, mb, _, hm, ?_, own_set ho hne 1 _, hK.put k hn⟩
  · intro p hp
    rcases List.mem_append.1 hp with hp | hp
    · exact h5 p hp
    · simp at hp
      subst hp
      exact hk
  · have := blk_set (blk_turned hg hne ht) 1 (.int .i64 ((next : Int) + 1))
    rw [this]
    simp

theorem Turn.drew {a b : World} {B g : Nat} (h : Turn a b B g) : Turn a b.drew B g := ⟨h.below.drew, h.keep⟩
theorem Turn.came {w w1 : World} {B g mb : Nat} (h1 : B ≤ g) (hm : B ≤ mb) (ht : w.drew.mapTurned w1 mb) (u : Value) : Turn w (w1.setCell ⟨g, 1, none⟩ u) B g :=
  ((Turn.refl w B g).drew.map_ hm ht).set_ h1 1 u

/-- What a walk reads of a set. -/
theorem Sett.looks {w : World} {g : Nat} {L : List (ByteArray × Nat)} {next most gone mb : Nat} {D : DataW Nat} (hg : w.heap[g]? = some (.cells #[.map (some mb), .int .i64 next, .int .i64 most, .int .i64 gone] 47 (0, 0)))
    (ho : w.ownsMap Try.prog 9 (plainElem Try.prog 3) mb next D) (hK : Kept D L next) :
    w.cell? ⟨g, 0, none⟩ = some (.map (some mb)) ∧ w.cell? ⟨g, 2, none⟩ = some (.int .i64 most) ∧ ∀ n, (Builtin.len_ #[45] 3 #[.map (some mb)]).run Try.prog (w.drewN n) = .ok (.int .i64 L.length) (w.drewN n) := by
  refine ⟨cell_of_row w g 0 _ _ _ hg, cell_of_row w g 2 _ _ _ hg, ?_⟩
  rw [← hK.many]
  intro n
  have ho' : (w.drewN n).ownsMap Try.prog 9 (plainElem Try.prog 3) mb next D := ho
  exact ho'.len Try.underlying45 3

set_option maxHeartbeats 1000000 in
theorem Add_room {w : World} {B g : Nat} {L : List (ByteArray × Nat)} {next most gone : Nat} (h : Sett w B g L next most gone) (k : ByteArray) (hk : k.size ≤ 1048576) (h0 : k.toList.isEmpty = false) (hn : (L.any fun p => decide (p.1 = k)) = false)
    (hnext : next + 1 ≤ 1000000) (hr : L.length + 1 ≤ most) :
    Calls Try.prog 7 #[.pointer (some ⟨g, 0, none⟩), .string k] w fun e w' => e = .returned (.tuple #[.string ⟨#[]⟩, .bool false]) ∧ Sett w' B g (L ++ [(k, next)]) (next + 1) most gone ∧ Turn w w' B g := by
  have H1 := has_any h k (by unfold maxLen; omega)
  rw [hn] at H1
  have H1 := Lib.hid H1
  obtain ⟨h1, h2, h3, h4, h5, mb, D, hm, hg, ho, hK⟩ := h
  have hkey := WideMaps.keyOf_string_mk Try.underlying9 (s := k) (by unfold maxLen; omega)
  have c0 : w.drew.cell? ⟨g, 0, none⟩ = some (.map (some mb)) := cell_of_row w g 0 _ _ _ hg
  have c1 : w.drew.cell? ⟨g, 1, none⟩ = some (.int .i64 next) := cell_of_row w g 1 _ _ _ hg
  have f1 : w.drew.frozen? ⟨g, 1, none⟩ = false := blk_frozen hg 1
  have hne := own_ne hg ho
  obtain ⟨w1, hrun, ho1, ht1⟩ := (ho.drew).store law9 Try.underlying45 (by unfold maxLen; omega) hkey (plainElem_int (a := (next : Int)) (H := Nat) Try.underlying3 (WalkArith.wf_i64 (by omega)))
  have g1 := blk_turned (w := w.drew) hg hne ht1
  have d1 : w1.cell? ⟨g, 1, none⟩ = some (.int .i64 next) := cell_of_row w1 g 1 _ _ _ g1
  have e1 : w1.frozen? ⟨g, 1, none⟩ = false := blk_frozen g1 1
  have hS := Sett.came (w := w.drew) h1 hnext h3 h4 h5 hm hg hne hK hk hn ho1 ht1
  have hT := Turn.came (w := w) h1 hm ht1 (.int .i64 ((next : Int) + 1))
  obtain ⟨w3, hw3⟩ : ∃ w3, w1.setCell ⟨g, 1, none⟩ (.int .i64 ((next : Int) + 1)) = w3 := ⟨_, rfl⟩
  rw [hw3] at hS hT
  obtain ⟨mb3, D3, _, hg3, ho3, hK3⟩ := hS.ex
  obtain ⟨d0, d2, hlen⟩ := Sett.looks hg3 ho3 hK3
  have HS := Lib.hid hS
  have HT := Lib.hid hT
  have hle : (((L ++ [(k, next)]).length : Nat) : Int) ≤ most := by rw [List.length_append]; simp; omega
  obtain ⟨N, hN⟩ : ∃ N, (L ++ [(k, next)]).length = N := ⟨_, rfl⟩
  rw [hN] at hlen hle
  clear hS hT ho1 ht1 ho hK h5 hg g1 hn hN hg3 ho3 hK3
  go_enter Try.func7, Try.ntmps7
  go_wp2_with (go_at_call 21; refine H1.out.mono ?_; rintro e w1 ⟨rfl, rfl⟩)
  go_still_tail 9, (by kernel_rfl)
  change wpList _ _ _ _ _ w.drew
  go_wp2
  go_quiet (fail)
  go_wp2
  go_ret2
  exact ⟨rfl, HS.out.below (below_drewN (Below.refl _ _) _), HT.out.drewN _⟩

/-- What the set is when the first key has gone, and its count has gone on. -/
theorem Sett.left {w w5 : World} {B g mb : Nat} {D : DataW Nat} {p : ByteArray × Nat} {t : List (ByteArray × Nat)} {next most gone : Nat} (h : Sett w B g (p :: t) next most gone) (hm : B ≤ mb)
    (hg : w5.heap[g]? = some (.cells #[.map (some mb), .int .i64 next, .int .i64 most, .int .i64 gone] 47 (0, 0))) (hne : mb ≠ g) (ho : w5.ownsMap Try.prog 9 (plainElem Try.prog 3) mb next (D.del (.string p.1.data.toList))) (hK : Kept D (p :: t) next) (h4 : gone + 1 ≤ next) :
    Sett (w5.setCell ⟨g, 3, none⟩ (.int .i64 ((gone : Int) + 1))) B g t next most (gone + 1) := by
  have hd := hK.del p.1
  rw [hK.first] at hd
  refine ⟨h.low, h.next_le, h.most_le, h4, fun q hq => h.keys q (List.mem_cons_of_mem _ hq), mb, _, hm, ?_, own_set ho hne 3 _, hd⟩
  rw [blk_set hg 3]
  simp

set_option maxHeartbeats 1000000 in
theorem Add_full {w : World} {B g : Nat} {L : List (ByteArray × Nat)} {next most gone : Nat} (h : Sett w B g L next most gone) (k : ByteArray) (hk : k.size ≤ 1048576) (h0 : k.toList.isEmpty = false) (hn : (L.any fun p => decide (p.1 = k)) = false)
    (hnext : next + 1 ≤ 1000000) (hr : most < L.length + 1) {p : ByteArray × Nat} {t : List (ByteArray × Nat)} (hpt : L ++ [(k, next)] = p :: t) :
    Calls Try.prog 7 #[.pointer (some ⟨g, 0, none⟩), .string k] w fun e w' => e = .returned (.tuple #[.string p.1, .bool true]) ∧ Sett w' B g t (next + 1) most (gone + 1) ∧ Turn w w' B g := by
  have H1 := has_any h k (by unfold maxLen; omega)
  rw [hn] at H1
  have H1 := Lib.hid H1
  obtain ⟨h1, h2, h3, h4, h5, mb, D, hm, hg, ho, hK⟩ := h
  have hkey := WideMaps.keyOf_string_mk Try.underlying9 (s := k) (by unfold maxLen; omega)
  have c0 : w.drew.cell? ⟨g, 0, none⟩ = some (.map (some mb)) := cell_of_row w g 0 _ _ _ hg
  have c1 : w.drew.cell? ⟨g, 1, none⟩ = some (.int .i64 next) := cell_of_row w g 1 _ _ _ hg
  have f1 : w.drew.frozen? ⟨g, 1, none⟩ = false := blk_frozen hg 1
  have hne := own_ne hg ho
  obtain ⟨w1, hrun, ho1, ht1⟩ := (ho.drew).store law9 Try.underlying45 (by unfold maxLen; omega) hkey (plainElem_int (a := (next : Int)) (H := Nat) Try.underlying3 (WalkArith.wf_i64 (by omega)))
  have g1 := blk_turned (w := w.drew) hg hne ht1
  have d1 : w1.cell? ⟨g, 1, none⟩ = some (.int .i64 next) := cell_of_row w1 g 1 _ _ _ g1
  have e1 : w1.frozen? ⟨g, 1, none⟩ = false := blk_frozen g1 1
  have hS := Sett.came (w := w.drew) h1 hnext h3 h4 h5 hm hg hne hK hk hn ho1 ht1
  have hT := Turn.came (w := w) h1 hm ht1 (.int .i64 ((next : Int) + 1))
  obtain ⟨w3, hw3⟩ : ∃ w3, w1.setCell ⟨g, 1, none⟩ (.int .i64 ((next : Int) + 1)) = w3 := ⟨_, rfl⟩
  rw [hw3] at hS hT
  rw [hpt] at hS
  have hkeyp := WideMaps.keyOf_string_mk Try.underlying9 (s := p.1) (by have := hS.keys p (List.mem_cons_self ..); unfold maxLen; omega)
  have HLO : ∀ {n : Nat}, Hid (B ≤ (w3.drewN n).heap.size) := fun {n} => Lib.hid (Nat.le_trans h1 (Nat.le_of_lt hS.lt))
  obtain ⟨mb3, D3, _, hg3, ho3, hK3⟩ := hS.ex
  obtain ⟨d0, d2, hlen⟩ := Sett.looks hg3 ho3 hK3
  have HS := Lib.hid hS
  have HT := Lib.hid hT
  have hle : ¬ ((((L ++ [(k, next)]).length : Nat) : Int) ≤ most) := by rw [List.length_append]; simp; omega
  rw [hpt] at hle
  obtain ⟨N, hN⟩ : ∃ N, (p :: t).length = N := ⟨_, rfl⟩
  have H2 : ∀ n, Hid (Calls Try.prog 22 #[.pointer (some ⟨g, 0, none⟩)] (w3.drewN n) fun e w' => e = .returned (.string p.1) ∧ Below (w3.drewN n).heap.size (w3.drewN n) w') := fun n => Lib.hid (oldest_any (hS.below (below_drewN (Below.refl _ _) n)))
  rw [hN] at hlen hle
  clear hS hT ho1 ht1 ho hK h5 hg g1 hn hN hg3 ho3 hK3
  go_enter Try.func7, Try.ntmps7
  go_wp2_with (go_at_call 21; refine H1.out.mono ?_; rintro e w1 ⟨rfl, rfl⟩)
  go_still_tail 9, (by kernel_rfl)
  change wpList _ _ _ _ _ w.drew
  go_wp2
  go_quiet (fail)
  go_wp2_with (first
    | (go_at_call 22; refine (H2 _).out.mono ?_; rintro e w4 ⟨rfl, hb4⟩; have hS4 := (HS.out.below (below_drewN (Below.refl _ _) _)).below hb4; have HT4 := Lib.hid ((HT.out.drewN _).trans (Turn.of hb4 HLO.out)); have HS4 := Lib.hid hS4
       obtain ⟨mb4, D4, hm4, hg4, ho4, hK4⟩ := hS4.ex; have c04 : w4.cell? ⟨g, 0, none⟩ = some (.map (some mb4)) := cell_of_row w4 g 0 _ _ _ hg4
       have HG4 := Lib.hid hg4; have HO4 := Lib.hid ho4; have HK4 := Lib.hid hK4; have HM4 := Lib.hid hm4; clear hb4 hS4 hg4 ho4 hK4 hm4)
    | (at_delete; refine wpList_delete_own _ rfl _ _ 45 9 rfl 3 law9 Try.underlying45 _ mb4 (next + 1) D4 rfl HO4.out _ _ rfl hkeyp ?_; intro w5 ho5 ht5
       have hg5 := blk_turned HG4.out (own_ne HG4.out HO4.out) ht5
       have c35 : w5.cell? ⟨g, 3, none⟩ = some (.int .i64 gone) := cell_of_row w5 g 3 _ _ _ hg5
       have f35 : w5.frozen? ⟨g, 3, none⟩ = false := blk_frozen hg5 3
       have HG5 := Lib.hid hg5; have HO5 := Lib.hid ho5; have HT5 := Lib.hid (HT4.out.map_ HM4.out ht5); clear hg5 ho5 ht5)
    | go_in)
  go_ret2
  exact ⟨rfl, HS4.out.left HM4.out HG5.out (own_ne HG4.out HO4.out) HO5.out HK4.out (by omega), HT5.out.set_ h1 3 _⟩

end Go.Proofs.Ytnamakimmlnleaa
