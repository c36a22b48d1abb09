/-
  The set of keys: List. No condition but that the set is one.
-/
import Derived.Test.YtnamakimmlnleaaListed
import Derived.Shelf.SlSortCmp.NoneTotal
namespace Go.Proofs.Ytnamakimmlnleaa
open Go.RowKit Go.ChangeMaps Go.Sort
set_option linter.unusedVariables false

/-- What List hands back: a row of the keys. -/
def Told (w w' : World) (L : List (ByteArray × Nat)) (e : Ending) : Prop :=
  ∃ (A : Option Addr) (cap : Nat), e = .returned (.slice A L.length cap) ∧ Row w' w.heap.size 9 (.slice A L.length cap) L.length (L.map fun p => .string p.1) ∧ RowKit.Below w.heap.size w w'

theorem collect_any {w : World} {g mb next most gone : Nat} {D : DataW Nat} {L : List (ByteArray × Nat)} (hlt : g < w.heap.size)
    (hg : w.heap[g]? = some (.cells #[.map (some mb), .int .i64 next, .int .i64 most, .int .i64 gone] 47 (0, 0))) (ho : w.ownsMap Try.prog 9 (plainElem Try.prog 3) mb next D) (hK : Kept D L next) (hn : next ≤ 1000000) (hkeys : ∀ p ∈ L, p.1.size ≤ 1048576) (hL : L ≠ []) :
    Calls Try.prog 23 #[.func (.func 28) #[] #[.pointer (some ⟨w.heap.size + 1, 0, none⟩)]] ((w.alloc (.cells #[.pointer (some ⟨g, 0, none⟩)] 22)).alloc (.cells #[.map (some mb)] 45)) fun e w2 =>
      ∃ g2 cap, e = .returned (.slice (some ⟨g2, 0, none⟩) L.length cap) ∧
      Hid (Calls Try.prog 25 #[.slice (some ⟨g2, 0, none⟩) L.length cap, .func (.func 26) #[] #[.pointer (some ⟨w.heap.size, 0, none⟩)]] w2 fun e w3 => e = .returned (.tuple #[]) ∧
        Row w3 w.heap.size 9 (.slice (some ⟨g2, 0, none⟩) L.length cap) L.length (L.map fun p => .string p.1) ∧ RowKit.Below w.heap.size w w3) := by
  have hsz := ho.size_le
  rw [hK.many] at hsz
  have hcell : ((w.alloc (.cells #[.pointer (some ⟨g, 0, none⟩)] 22)).alloc (.cells #[.map (some mb)] 45)).cell? ⟨w.heap.size + 1, 0, none⟩ = some (.map (some mb)) := by
    have := heap_alloc_new (w.alloc (.cells #[.pointer (some ⟨g, 0, none⟩)] 22)) (.cells #[.map (some mb)] 45)
    rw [World.size_alloc] at this
    exact cell_of_row _ _ 0 _ _ _ this
  have hseq := Try.keys_gives 4 (by omega) (w.heap.size + 1) mb next D ((w.alloc (.cells #[.pointer (some ⟨g, 0, none⟩)] 22)).alloc (.cells #[.map (some mb)] 45)) (by simp) hcell ((ho.alloc _).alloc _)
  have hcol := callsIn_wide.1 (Try.collect_in 6 (by omega) 28 #[.pointer (some ⟨w.heap.size + 1, 0, none⟩)] (enters_of Try.func28 (by kernel_rfl) rfl) _ (Maps.size D) (by rw [hK.many]; unfold maxLen; omega) (by rw [hK.many]; omega) _ hseq)
  refine hcol.mono ?_
  rintro e w2 ⟨v, ss, rfl, hS, hrow, hnil, hb⟩
  obtain ⟨M, hM, rfl⟩ := perm_map_inv (hS.trans (strKeys_perm hK)) L rfl
  have hlen : (M.map fun p : ByteArray × Nat => p.1.data.toList).length = L.length := by rw [List.length_map, hM.length_eq]
  rw [hlen] at hrow
  rcases hrow.2 with ⟨_, h0⟩ | ⟨g2, cap, cur, rfl, hg2, hb2, hc1, hc2, hc3, hcur⟩
  · exact absurd (List.eq_nil_of_length_eq_zero h0) hL
  · refine ⟨g2, cap, rfl, Lib.hid (sort_any hlt ho.lt hg ho hK hn hkeys hb hL (by omega) hM (by simpa using hg2) hb2 hc1 hc2 (by simpa using hc3) ?_)⟩
    rw [Nat.mul_one] at hcur
    rw [hcur, List.map_map]
    congr 1

theorem List_some {w : World} {B g : Nat} {L : List (ByteArray × Nat)} {next most gone : Nat} (h : Sett w B g L next most gone) (hL : L ≠ []) :
    Calls Try.prog 9 #[.pointer (some ⟨g, 0, none⟩)] w fun e w' => Told w w' L e := by
  obtain ⟨h1, h2, h3, h4, h5, mb, D, hm, hg, ho, hK⟩ := h
  have hlt := blk_lt hg
  have c0 : w.cell? ⟨g, 0, none⟩ = some (.map (some mb)) := cell_of_row w g 0 _ _ _ hg
  have d0 : (w.alloc (.cells #[.pointer (some ⟨g, 0, none⟩)] 22)).cell? ⟨g, 0, none⟩ = some (.map (some mb)) := (World.cell?_of_block (w := w) (Below.heap_alloc _ _ _ hlt)).trans c0
  have d1 : (w.alloc (.cells #[.pointer (some ⟨g, 0, none⟩)] 22)).cell? ⟨w.heap.size, 0, none⟩ = some (.pointer (some ⟨g, 0, none⟩)) := cell_of_row _ _ 0 _ _ _ (heap_alloc_new w _)
  have H1 := callsIn_wide.1 (Try.keys_in 6 (some mb) (w.alloc (.cells #[.pointer (some ⟨g, 0, none⟩)] 22)))
  rw [World.size_alloc] at H1
  have H1 := Lib.hid H1
  have H2 := Lib.hid (collect_any hlt hg ho hK h2 h5 hL)
  clear hg ho hK
  go_enter Try.func9, Try.ntmps9
  go_wp2_with (first
    | (go_at_call 24; refine H1.out.mono ?_; rintro e w1 ⟨rfl, rfl⟩)
    | (go_at_call 23; refine H2.out.mono ?_; rintro e w2 ⟨g2, cap, rfl, H3⟩)
    | (go_at_call 25; refine H3.out.mono ?_; rintro e w3 ⟨rfl, hr3, hb3⟩; have HR3 := Lib.hid hr3; have HB3 := Lib.hid hb3; clear hr3 hb3))
  go_ret
  exact ⟨_, _, rfl, HR3.out, HB3.out⟩

theorem sort_none (p : Option Addr) (cap : Nat) (fv : Value) (w : World) : Calls Try.prog 25 #[.slice p 0 cap, fv] w fun e w' => e = .returned (.tuple #[]) ∧ w' = w :=
  AnyF.slices_SortFunc_none (ρ := Try.laysSlF6_f25_ren) { Try.laysSlF6_f25 with } p cap fv w

theorem List_none {w : World} {B g : Nat} {next most gone : Nat} (h : Sett w B g [] next most gone) :
    Calls Try.prog 9 #[.pointer (some ⟨g, 0, none⟩)] w fun e w' => Told w w' [] e := by
  obtain ⟨h1, h2, h3, h4, h5, mb, D, hm, hg, ho, hK⟩ := h
  have hlt := blk_lt hg
  have c0 : w.cell? ⟨g, 0, none⟩ = some (.map (some mb)) := cell_of_row w g 0 _ _ _ hg
  have d0 : (w.alloc (.cells #[.pointer (some ⟨g, 0, none⟩)] 22)).cell? ⟨g, 0, none⟩ = some (.map (some mb)) := (World.cell?_of_block (w := w) (Below.heap_alloc _ _ _ hlt)).trans c0
  have d1 : (w.alloc (.cells #[.pointer (some ⟨g, 0, none⟩)] 22)).cell? ⟨w.heap.size, 0, none⟩ = some (.pointer (some ⟨g, 0, none⟩)) := cell_of_row _ _ 0 _ _ _ (heap_alloc_new w _)
  have H1 := callsIn_wide.1 (Try.keys_in 6 (some mb) (w.alloc (.cells #[.pointer (some ⟨g, 0, none⟩)] 22)))
  rw [World.size_alloc] at H1
  have H1 := Lib.hid H1
  have H2 : Hid (Calls Try.prog 23 #[.func (.func 28) #[] #[.pointer (some ⟨w.heap.size + 1, 0, none⟩)]] ((w.alloc (.cells #[.pointer (some ⟨g, 0, none⟩)] 22)).alloc (.cells #[.map (some mb)] 45)) fun e w2 => e = .returned (.slice none 0 0) ∧ RowKit.Below w.heap.size w w2) := by
    have hcell : ((w.alloc (.cells #[.pointer (some ⟨g, 0, none⟩)] 22)).alloc (.cells #[.map (some mb)] 45)).cell? ⟨w.heap.size + 1, 0, none⟩ = some (.map (some mb)) := by
      have := heap_alloc_new (w.alloc (.cells #[.pointer (some ⟨g, 0, none⟩)] 22)) (.cells #[.map (some mb)] 45)
      rw [World.size_alloc] at this
      exact cell_of_row _ _ 0 _ _ _ this
    have hseq := Try.keys_gives 4 (by omega) (w.heap.size + 1) mb next D ((w.alloc (.cells #[.pointer (some ⟨g, 0, none⟩)] 22)).alloc (.cells #[.map (some mb)] 45)) (by simp) hcell ((ho.alloc _).alloc _)
    have hcol := callsIn_wide.1 (Try.collect_in 6 (by omega) 28 #[.pointer (some ⟨w.heap.size + 1, 0, none⟩)] (enters_of Try.func28 (by kernel_rfl) rfl) _ (Maps.size D) (by rw [hK.many]; unfold maxLen; simp) (by rw [hK.many]; simp) _ hseq)
    refine Lib.hid (hcol.mono ?_)
    rintro e w2 ⟨v, ss, rfl, hS, hrow, hnil, hb⟩
    have : ss = [] := List.eq_nil_of_length_eq_zero (by rw [(hS.trans (strKeys_perm hK)).length_eq]; rfl)
    rw [hnil.2 this]
    exact ⟨rfl, ((RowKit.Below.refl _ w).alloc (Nat.le_refl _) _ |>.alloc (by simp) _).trans (hb.mono (by simp; omega))⟩
  have H3 := fun W => Lib.hid (sort_none none 0 (.func (.func 26) #[] #[.pointer (some ⟨w.heap.size, 0, none⟩)]) W)
  clear hg ho hK
  go_enter Try.func9, Try.ntmps9
  go_wp2_with (first
    | (go_at_call 24; refine H1.out.mono ?_; rintro e w1 ⟨rfl, rfl⟩)
    | (go_at_call 23; refine H2.out.mono ?_; rintro e w2 ⟨rfl, hb2⟩; have HB2 := Lib.hid hb2; clear hb2)
    | (go_at_call 25; refine (H3 _).out.mono ?_; rintro e w3 ⟨rfl, rfl⟩))
  go_ret
  exact ⟨none, 0, rfl, Row.nil_ _ _ _, HB2.out⟩
theorem List_any {w : World} {B g : Nat} {L : List (ByteArray × Nat)} {next most gone : Nat} (h : Sett w B g L next most gone) :
    Calls Try.prog 9 #[.pointer (some ⟨g, 0, none⟩)] w fun e w' => Told w w' L e := by
  by_cases hL : L = []
  · subst hL
    exact List_none h
  · exact List_some h hL

end Go.Proofs.Ytnamakimmlnleaa
