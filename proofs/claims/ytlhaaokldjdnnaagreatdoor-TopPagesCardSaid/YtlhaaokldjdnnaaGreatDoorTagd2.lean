/-
  Layer 20 (unknown): isHtml. No condition but that a text is not too long, and that the tables lie as they were laid.
-/
import Derived.Test.YtlhaaokldjdnnaaGreatDoorSt2All
import Derived.Deep.RegionWith
namespace Go.Proofs.YtlhaaokldjdnnaaGreatDoor
open Go.RowKit
set_option linter.unusedVariables false
set_option linter.unusedSimpArgs false
set_option linter.all false

def tagAt (i : Nat) : List UInt8 := (tagsL[i]?).getD []
theorem tagAt_mem {i : Nat} (hi : i < 16) : tagAt i ∈ tagsL ∧ Ev.tagNames[i]? = some (tagAt i) := by
  have h : ∀ i, i < 16 → tagAt i ∈ tagsL ∧ Ev.tagNames[i]? = some (tagAt i) := by decide
  exact h i hi
theorem tagAt_of {t : List UInt8} (ht : t ∈ tagsL) : ∃ i, i < 16 ∧ tagAt i = t := by
  have h : ∀ t ∈ tagsL, ∃ i, i < 16 ∧ tagAt i = t := by decide
  exact h t ht
/-- ContainsFunc over the tags. -/
theorem tags_contain (s : ByteArray) (hs : s.size ≤ 1000) (h : ∃ t ∈ tagsL, TagFit (skipL s.data.toList) t) (g off cap : Nat) (p : Addr) (w : World) (hw : Ev.Told w) (hp : w.cell? p = some (.string s))
    (hc : ∀ j t, Ev.tagNames[j]? = some t → w.cell? ⟨g, off + j, none⟩ = some (.string ⟨t.toArray⟩)) :
    Calls Tryz.prog 216 #[.slice (some ⟨g, off, none⟩) 16 cap, .func (.func 297) #[] #[.pointer (some p)]] w fun e w' => e = .returned (.bool true) ∧ Below w.heap.size w w' := by
  refine (contains_any g off 16 cap 297 #[.pointer (some p)] (fun i => taggedB s (tagAt i)) w (by decide) (fun i => ⟨(tagAt i).toArray⟩) (fun i hi => hc i _ (tagAt_mem hi).2) (fun t W => by kernel_rfl) ?_).mono ?_
  · intro i hi W hb
    have hpw : W.cell? p = some (.string s) := (World.cell?_of_block (hb.block _ (lt_of_cell hp))).trans hp
    exact clos_is s hs (tagAt i) (tagAt_mem hi).1 p W (told_below hw hb) hpw
  · rintro e w1 ⟨⟨b, rfl, hb⟩, hb1⟩
    obtain ⟨t, ht, hf⟩ := h
    obtain ⟨i, hi, rfl⟩ := tagAt_of ht
    rw [hb.1 ⟨i, hi, tagged_yes ht hf⟩]
    exact ⟨rfl, hb1⟩
set_option maxRecDepth 100000 in
set_option maxHeartbeats 4000000 in
theorem isHtml_yes {s : ByteArray} (hs : s.size ≤ 1000) (h : HtmlL (skipL s.data.toList)) (w : World) (hw : Ev.Told w) : Calls Tryz.prog 219 #[.string s] w fun e w' => e = .returned (.bool true) ∧ Below w.heap.size w w' := by
  have hmf : ∀ (fn : Fn) (first cap : Array Value) (w : World), (Instr.makeFunc fn first cap).run Tryz.prog w = .ok (.func fn first cap) w := fun _ _ _ _ => rfl
  have HM := Lib.hid (fun W => Match_is s ⟨#[60, 33, 45, 45]⟩ ⟨#[255, 255, 255, 255]⟩ whiteT htmlT W (by omega))
  have HT0 : Hid (∀ W, Ev.Told W → Calls Tryz.prog 295 #[.string ⟨#[60, 33, 45, 45]⟩, .string ⟨#[116, 101, 120, 116, 47, 104, 116, 109, 108]⟩] W fun e w' => e = .returned (patV ⟨#[60, 33, 45, 45]⟩ ⟨#[255, 255, 255, 255]⟩ whiteT htmlT) ∧ Below W.heap.size W w') := Lib.hid fun W hW => tag_remark W
  have hb0 : Below w.heap.size w (w.alloc (.cells #[.string s] 9)) := (Below.refl _ _).alloc (Nat.le_refl _) _
  have hp0 : (w.alloc (.cells #[.string s] 9)).cell? ⟨w.heap.size, 0, none⟩ = some (.string s) := by rw [World.cell?_alloc_new]; rfl
  have HW0 := Lib.hid (told_below hw hb0)
  have HB0 := Lib.hid hb0
  obtain ⟨x, hx⟩ : ∃ x, matchB s ⟨#[60, 33, 45, 45]⟩ ⟨#[255, 255, 255, 255]⟩ whiteT = x := ⟨_, rfl⟩
  rw [hx] at HM
  have HC : Hid (x = false → ∃ t ∈ tagsL, TagFit (skipL s.data.toList) t) := Lib.hid fun e => by
    rcases h with h | h
    · rw [remark_match h] at hx
      rw [← hx] at e
      cases e
    · exact h
  clear h hw hb0 hx
  cases x
  · have HCC := Lib.hid (HC.out rfl)
    have HTG := Lib.hid Ev.tags_is
    have HCT := Lib.hid (tags_contain s hs HCC.out)
    clear HC
    have hlen : Ev.tagNames.length = 16 := rfl
    rw [hlen] at HTG
    go_enter Tryz.func219, Tryz.ntmps219
    go_wp2_with fail
    go_region_with (first
      | (go_at_call 295; refine (HT0.out _ (told_below HW0.out (Below.drew (Below.refl _ _)))).mono ?_; rintro e w1 ⟨rfl, hb1⟩; have HB1 := Lib.hid (below_then HB0.out (Nat.le_refl _) (below_then (Below.drew (Below.refl _ _)) (Nat.le_refl _) hb1)); have HW1 := Lib.hid (told_below HW0.out (below_then (Below.drew (Below.refl _ _)) (Nat.le_refl _) hb1)); have hp1 : w1.cell? ⟨w.heap.size, 0, none⟩ = some (.string s) := (World.cell?_of_block (hb1.block _ (by simp))).trans hp0; clear hb1)
      | (go_at_call 294; refine (HM.out _).mono ?_; rintro e w2 ⟨rfl, hb2⟩; have HB2 := Lib.hid (below_then HB1.out (Nat.le_refl _) hb2); have HW2 := Lib.hid (told_below HW1.out hb2); have hp2 : w2.cell? ⟨w.heap.size, 0, none⟩ = some (.string s) := (World.cell?_of_block (hb2.block _ (lt_of_cell hp1))).trans hp1; clear hb2)
      | (go_at_call 296; refine (HTG.out _ HW2.out).mono ?_; rintro e w3 ⟨⟨g, off, cap, rfl, hg, hc⟩, hb3⟩; have HB3 := Lib.hid (below_then HB2.out (Nat.le_refl _) hb3); have HW3 := Lib.hid (told_below HW2.out hb3); have hp3 : w3.cell? ⟨w.heap.size, 0, none⟩ = some (.string s) := (World.cell?_of_block (hb3.block _ (lt_of_cell hp2))).trans hp2; have HC3 := Lib.hid hc; clear hb3 hc hg)
      | (go_at_call 216; refine (HCT.out _ _ _ _ _ HW3.out hp3 HC3.out).mono ?_; rintro e w4 ⟨rfl, hb4⟩; have HB4 := Lib.hid (below_then HB3.out (Nat.le_refl _) hb4); clear hb4))
    all_goals
      go_wp2
      go_ret
      exact ⟨rfl, HB4.out⟩
  · go_enter Tryz.func219, Tryz.ntmps219
    go_wp2_with fail
    go_region_with (first
      | (go_at_call 295; refine (HT0.out _ (told_below HW0.out (Below.drew (Below.refl _ _)))).mono ?_; rintro e w1 ⟨rfl, hb1⟩; have HB1 := Lib.hid (below_then HB0.out (Nat.le_refl _) (below_then (Below.drew (Below.refl _ _)) (Nat.le_refl _) hb1)); have hp1 : w1.cell? ⟨w.heap.size, 0, none⟩ = some (.string s) := (World.cell?_of_block (hb1.block _ (by simp))).trans hp0; clear hb1)
      | (go_at_call 294; refine (HM.out _).mono ?_; rintro e w2 ⟨rfl, hb2⟩; have HB2 := Lib.hid (below_then HB1.out (Nat.le_refl _) hb2); clear hb2))
    all_goals
      go_wp2
      go_ret
      exact ⟨rfl, HB2.out⟩
theorem Html_yes {s : ByteArray} (hs : s.size ≤ 1000) (h : HtmlL (skipL s.data.toList)) (w : World) (hw : Ev.Told w) : Calls Tryz.prog 168 #[.string s] w fun e w' => e = .returned (.bool true) ∧ Below w.heap.size w w' := by
  have H := Lib.hid (isHtml_yes hs h w hw)
  clear hw h
  go_enter Tryz.func168, Tryz.ntmps168
  go_wp2_with (go_at_call 219; refine H.out.mono ?_; rintro e w1 ⟨rfl, hb1⟩; have HB := Lib.hid hb1; clear hb1)
  go_ret
  exact ⟨rfl, HB.out⟩
end Go.Proofs.YtlhaaokldjdnnaaGreatDoor
