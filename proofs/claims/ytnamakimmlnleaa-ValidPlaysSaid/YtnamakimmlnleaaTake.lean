/-
  The set of keys: a key is cut; all are cleared. No condition but that the set is one.
-/
import Derived.Test.YtnamakimmlnleaaList
namespace Go.Proofs.Ytnamakimmlnleaa
open Go.RowKit Go.ChangeMaps Go.MapKept
set_option linter.unusedVariables false

/-- What the set is when some keys have gone. -/
theorem Sett.less {w w5 : World} {B g mb : Nat} {D : DataW Nat} {L L' : List (ByteArray × Nat)} {next most gone : Nat} (h : Sett w B g L next most gone) (hm : B ≤ mb)
    (hg : w5.heap[g]? = some (.cells #[.map (some mb), .int .i64 next, .int .i64 most, .int .i64 gone] 47 (0, 0))) (ho : w5.ownsMap Try.prog 9 (plainElem Try.prog 3) mb next D) (hK : Kept D L' next) (hs : ∀ p ∈ L', p ∈ L) :
    Sett w5 B g L' next most gone := ⟨h.low, h.next_le, h.most_le, h.gone_le, fun q hq => h.keys q (hs q hq), mb, D, hm, hg, ho, hK⟩

theorem Cut_any {w : World} {B g : Nat} {L : List (ByteArray × Nat)} {next most gone : Nat} (h : Sett w B g L next most gone) (k : ByteArray) (hk : k.size ≤ maxLen) :
    Calls Try.prog 13 #[.pointer (some ⟨g, 0, none⟩), .string k] w fun e w' => e = .returned (.bool (L.any fun p => decide (p.1 = k))) ∧ Sett w' B g (L.filter fun p => !decide (p.1 = k)) next most gone ∧ Turn w w' B g := by
  have H1 := has_any h k hk
  have HS := Lib.hid h
  by_cases hb : (L.any fun p => decide (p.1 = k)) = true
  · rw [hb] at H1 ⊢
    have H1 := Lib.hid H1
    obtain ⟨h1, h2, h3, h4, h5, mb, D, hm, hg, ho, hK⟩ := h
    have hkey := WideMaps.keyOf_string_mk Try.underlying9 hk
    have c0 : w.cell? ⟨g, 0, none⟩ = some (.map (some mb)) := cell_of_row w g 0 _ _ _ hg
    have HG := Lib.hid hg
    have HO := Lib.hid ho
    clear hg ho
    go_enter Try.func13, Try.ntmps13
    go_wp2_with (first
      | (go_at_call 21; refine H1.out.mono ?_; rintro e w1 ⟨rfl, rfl⟩)
      | (at_delete; refine wpList_delete_own _ rfl _ _ 45 9 rfl 3 law9 Try.underlying45 _ mb next D rfl HO.out _ _ rfl hkey ?_; intro w5 ho5 ht5; have HO5 := Lib.hid ho5; have HT5 := Lib.hid ht5; clear ho5 ht5)
      | go_in)
    go_ret
    exact ⟨rfl, HS.out.less hm (blk_turned HG.out (own_ne HG.out HO.out) HT5.out) HO5.out (hK.del k) (fun p hp => (List.mem_filter.1 hp).1), (Turn.refl w B g).map_ hm HT5.out⟩
  · have hb : (L.any fun p => decide (p.1 = k)) = false := Bool.eq_false_iff.2 hb
    have e : (L.filter fun p => !decide (p.1 = k)) = L := List.filter_eq_self.2 fun p hp => by simpa using List.any_eq_false.1 hb p hp
    rw [e]
    rw [hb] at H1 ⊢
    have H1 := Lib.hid H1
    clear h e
    go_enter Try.func13, Try.ntmps13
    go_wp2_with (go_at_call 21; refine H1.out.mono ?_; rintro e w1 ⟨rfl, rfl⟩)
    go_ret
    exact ⟨rfl, HS.out, Turn.refl _ _ _⟩

theorem run_clear_map {w : World} {mb n : Nat} {D : DataW Nat} (ho : w.ownsMap Try.prog 9 (plainElem Try.prog 3) mb n D) (ty : TypeId) :
    ∃ w', (Builtin.clear_ #[45] ty #[.map (some mb)]).run Try.prog w = .ok (.tuple #[]) w' ∧ w'.ownsMap Try.prog 9 (plainElem Try.prog 3) mb n (.map [] : DataW Nat) ∧ w.mapTurned w' mb := by
  obtain ⟨es, clock, hb, F, hs, _⟩ := ho
  refine ⟨setBlock w mb (.map #[] clock), ?_, ⟨#[], clock, heap_setBlock_same hb _, ⟨by simp, stamped_empty clock, by simp⟩, by simp, rfl⟩, ⟨es, clock, #[], clock, hb, rfl⟩⟩
  simp [Builtin.clear_, run_underlying Try.underlying45, MapKept.run_getObj_map hb, MapKept.run_setObj_map _ hb, Result.andThen, setBlock]

theorem Clear_any {w : World} {B g : Nat} {L : List (ByteArray × Nat)} {next most gone : Nat} (h : Sett w B g L next most gone) :
    Calls Try.prog 16 #[.pointer (some ⟨g, 0, none⟩)] w fun e w' => e = .returned (.int .i64 L.length) ∧ Sett w' B g [] next most gone ∧ Turn w w' B g := by
  have H1 := Lib.hid (Len_any h)
  have HS := Lib.hid h
  obtain ⟨h1, h2, h3, h4, h5, mb, D, hm, hg, ho, hK⟩ := h
  have c0 : w.cell? ⟨g, 0, none⟩ = some (.map (some mb)) := cell_of_row w g 0 _ _ _ hg
  obtain ⟨w5, hrun, ho5, ht5⟩ := run_clear_map ho 0
  have HG := Lib.hid hg
  have HO := Lib.hid ho
  have HO5 := Lib.hid ho5
  have HT5 := Lib.hid ht5
  clear hg ho ho5 ht5
  go_enter Try.func16, Try.ntmps16
  go_wp2_with (go_at_call 19; refine H1.out.mono ?_; rintro e w1 ⟨rfl, rfl⟩)
  go_ret
  exact ⟨rfl, HS.out.less hm (blk_turned HG.out (own_ne HG.out HO.out) HT5.out) HO5.out ⟨⟨[], rfl, List.Perm.refl _⟩, List.Pairwise.nil, (fun p h => by cases h), List.Pairwise.nil⟩ (fun p hp => by cases hp), (Turn.refl w B g).map_ hm HT5.out⟩

end Go.Proofs.Ytnamakimmlnleaa
