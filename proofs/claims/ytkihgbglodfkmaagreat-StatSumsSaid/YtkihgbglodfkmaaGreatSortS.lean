/-
  Layer 41: words sorted: cmp.Compare and slices.SortedFunc at texts, over a map's keys. No condition but that the map is one.
-/
import Derived.Test.YtkihgbglodfkmaaGreatWords
import Derived.Sort.Walk0
namespace Go.Proofs.YtkihgbglodfkmaaGreat
open Go.RowKit Go.Sort Go.Maps
set_option linter.unusedVariables false

theorem toList_bts (s : ByteArray) : s.toList = bts s := Lib.toList_data s
theorem less_bts (a b : ByteArray) : Op.bytesLess a.toList b.toList = decide (bts a < bts b) := by
  rw [toList_bts, toList_bts]
  exact bytesLess_eq _ _
theorem eq_bts (a b : ByteArray) : (a.toList == b.toList) = decide (bts a = bts b) := by
  rw [toList_bts, toList_bts]
  rw [Bool.eq_iff_iff]
  simp
theorem nanS_any (a : ByteArray) (w : World) : Calls Tryz.prog 47 #[.string a] w fun e w' => e = .returned (.bool false) ∧ w = w' := by
  have h : (a.toList == a.toList) = true := by simp
  go_enter Tryz.func47, Tryz.ntmps47
  go_wp2
  go_ret
  exact ⟨rfl, rfl⟩
def scf (x y : Bs) : Int := if x < y then -1 else if y < x then 1 else 0
set_option maxRecDepth 100000 in
theorem Compare_any (a b : ByteArray) (w : World) : Calls Tryz.prog 28 #[.string a, .string b] w fun e w' => e = .returned (.int .i64 (scf (bts a) (bts b))) ∧ w = w' := by
  have H1 := Lib.hid (nanS_any a w)
  have H2 := Lib.hid (nanS_any b w)
  have hl := less_bts a b
  have he := eq_bts a b
  by_cases h1 : bts a < bts b
  · have hs : Hid (scf (bts a) (bts b) = -1) := if_pos h1
    rw [decide_eq_true h1] at hl
    clear h1 he
    go_enter Tryz.func28, Tryz.ntmps28
    go_wp2_with (go_at_call 47; first | (refine H1.out.mono ?_; rintro e w1 ⟨rfl, rfl⟩) | (refine H2.out.mono ?_; rintro e w1 ⟨rfl, rfl⟩))
    go_ret
    exact ⟨by rw [hs.out]; rfl, rfl⟩
  · rw [decide_eq_false h1] at hl
    by_cases h2 : bts b < bts a
    · have hs : Hid (scf (bts a) (bts b) = 1) := (if_neg h1).trans (if_pos h2)
      rw [decide_eq_false (fun e => by rw [e] at h2; exact bs_irrefl _ h2)] at he
      clear h1 h2
      go_enter Tryz.func28, Tryz.ntmps28
      go_wp2_with (go_at_call 47; first | (refine H1.out.mono ?_; rintro e w1 ⟨rfl, rfl⟩) | (refine H2.out.mono ?_; rintro e w1 ⟨rfl, rfl⟩))
      go_ret
      exact ⟨by rw [hs.out]; rfl, rfl⟩
    · have hs : Hid (scf (bts a) (bts b) = 0) := (if_neg h1).trans (if_neg h2)
      rw [decide_eq_true (Classical.byContradiction fun hne => h2 (bs_tri h1 hne))] at he
      clear h1 h2
      go_enter Tryz.func28, Tryz.ntmps28
      go_wp2_with (go_at_call 47; first | (refine H1.out.mono ?_; rintro e w1 ⟨rfl, rfl⟩) | (refine H2.out.mono ?_; rintro e w1 ⟨rfl, rfl⟩))
      go_ret
      exact ⟨by rw [hs.out]; rfl, rfl⟩

theorem sone : OneCell encStr := fun _ => rfl
theorem slt (x y : Bs) : ltOf scf x y = decide (x < y) := by
  unfold ltOf scf
  by_cases h : x < y
  · rw [if_pos h, decide_eq_true h]
    rfl
  · rw [if_neg h, decide_eq_false h]
    split <;> rfl
theorem sswo : SWO (ltOf scf) where
  irrefl x := by rw [slt]; exact decide_eq_false (bs_irrefl x)
  trans x y z h1 h2 := by
    rw [slt] at *
    exact decide_eq_true (bs_trans (of_decide_eq_true h1) (of_decide_eq_true h2))
  ntrans x y z h1 h2 := by
    rw [slt] at *
    have g1 := of_decide_eq_false h1
    have g2 := of_decide_eq_false h2
    refine decide_eq_false fun h => ?_
    have e1 : y ≤ x := List.not_lt.1 g1
    have e2 : z ≤ y := List.not_lt.1 g2
    exact absurd h (List.not_lt.2 (List.le_trans e2 e1))
theorem bts_arr (x : Bs) : bts ⟨x.toArray⟩ = x := by simp [bts]
theorem scmp (blk off size : Nat) (w : World) : CmpReads Tryz.prog 28 #[] encStr scf blk off size w := fun m os dk _ x y => by
  refine (Compare_any ⟨x.toArray⟩ ⟨y.toArray⟩ _).mono fun _ _ h => ⟨?_, 0, h.2.symm⟩
  rw [h.1, bts_arr, bts_arr]

/-- The row behind a sort. -/
theorem sorted_rowG {α : Type} [Inhabited α] {enc : α → Value} {t : TypeId} {w : World} {B g cap n : Nat} {d0 d' : Array α} {os : Array Obj} {cur : Array Value} (hH : Holds enc w g 0 d0) (hs : d'.size = d0.size) (hb : w.heap[g]? = some (.cells cur t (0, 0))) (hB : B ≤ g)
    (h1 : d0.size ≤ cap) (h2 : cap ≤ maxLen) (h3 : cap ≤ cur.size) :
    Row (sortWorld enc w g 0 n d' os) B t (.slice (some ⟨g, 0, none⟩) d0.size cap) d0.size (d'.toList.map enc) := by
  have hlt := blk_lt hb
  have hblk : (sortWorld enc w g 0 n d' os).heap[g]? = some (.cells (putCells enc 0 d' cur) t (0, 0)) := by
    unfold sortWorld
    rw [heap_grow_old _ _ (by show g < (w.heap.modify g _).size; simpa using hlt)]
    unfold putRow mapBlock Sort.ahead
    simp [Array.getElem?_modify, hb, onCells]
  refine ⟨by simp [hs], .inr ⟨g, 0, cap, _, rfl, hB, hblk, h1, h2, ?_, fun j u hu => ?_⟩⟩
  · unfold putCells
    simpa using h3
  · have hj : j < d'.size := by
      rcases Nat.lt_or_ge j d'.size with h | h
      · exact h
      · rw [List.getElem?_eq_none (by simpa using h)] at hu
        cases hu
    rw [List.getElem?_map, List.getElem?_eq_getElem (by simpa using hj)] at hu
    have hc := cell?_putRow enc (Sort.ahead w n) g 0 d0 d' hH hs j hj
    rw [getElem!_pos d' j hj] at hc
    have hb' : (putRow enc (Sort.ahead w n) g 0 d').heap[g]? = some (.cells (putCells enc 0 d' cur) t (0, 0)) := by
      unfold putRow mapBlock Sort.ahead
      simp [Array.getElem?_modify, hb, onCells]
    rw [cell_of_row _ g _ _ _ _ hb'] at hc
    rw [hc]
    simpa using hu
theorem sorted_belowG {α : Type} [Inhabited α] {enc : α → Value} {w : World} {B g n : Nat} {d' : Array α} {os : Array Obj} (hB : B ≤ g) (hg : g < w.heap.size) : RowKit.Below B w (sortWorld enc w g 0 n d' os) := by
  refine ⟨rfl, rfl, rfl, ?_, fun k hk => ?_⟩
  · unfold sortWorld putRow mapBlock Sort.ahead grow
    simp
  · unfold sortWorld
    rw [heap_grow_old _ _ (by show k < (w.heap.modify g _).size; simp; omega)]
    unfold putRow mapBlock Sort.ahead
    simp [Array.getElem?_modify, show ¬ g = k by omega]

/-- A row of texts. -/
def RowS (w : World) (B : Nat) (v : Value) (n : Nat) (ws : List Bs) : Prop := Row w B 9 v n (ws.map encStr)
/-- What is told of the keys, sorted. -/
structure SortedS (D : DataW Unit) (ws : List Bs) : Prop where
  rise : ws.Pairwise (· < ·)
  mem : ∀ b, b ∈ ws ↔ Maps.has D (.string b) = true
  few : ws.length ≤ Maps.size D
theorem sorted_of {D : DataW Unit} {w : World} {mb cnt : Nat} (ho : w.ownsMap Tryz.prog 9 (plainElem Tryz.prog 3) mb cnt D) {ss ws : List Bs} (hp : ss.Perm (strKeys D)) (hw : ws.Perm ss) (hs : ws.Pairwise fun a b => ¬ b < a) : SortedS D ws := by
  obtain ⟨es1, rfl, hk⟩ := ho.keysOf
  obtain ⟨es2, he2, hpw, _⟩ := ho.entries law9
  cases he2
  have hk' : ∀ p ∈ es1, ∃ x, p.1 = .string x := fun p hp => by
    obtain ⟨v, hv⟩ := hk p hp
    obtain ⟨x, _, hx, _⟩ := Maps.keyOf_str Tryz.underlying9 hv
    exact ⟨x, hx⟩
  have hnd : (strKeys (.map es1)).Nodup := by
    show (es1.map fun p => Go.strOf p.1).Nodup
    refine List.pairwise_map.2 (hpw.imp_of_mem fun {p q} hp' hq' hne e => hne ?_)
    obtain ⟨a, ha⟩ := hk' p hp'
    obtain ⟨b, hb⟩ := hk' q hq'
    rw [ha, hb] at e ⊢
    exact congrArg _ e
  have hmem : ∀ x, x ∈ strKeys (.map es1) ↔ Maps.has (.map es1) (.string x) = true := by
    intro x
    show x ∈ es1.map (fun p => Go.strOf p.1) ↔ _
    rw [List.mem_map, Maps.has_eq, List.any_eq_true]
    constructor
    · rintro ⟨p, hp', rfl⟩
      obtain ⟨a, ha⟩ := hk' p hp'
      exact ⟨p, hp', by rw [ha]; simp [Lit.sameKey, Go.strOf]⟩
    · rintro ⟨p, hp', hs⟩
      obtain ⟨a, ha⟩ := hk' p hp'
      rw [ha] at hs
      exact ⟨p, hp', by rw [ha]; simpa [Lit.sameKey, Go.strOf] using hs⟩
  have hp2 := hw.trans hp
  refine ⟨?_, fun b => hp2.mem_iff.trans (hmem b), ?_⟩
  · have hnd2 : ws.Nodup := hp2.nodup_iff.2 hnd
    refine (hs.and hnd2).imp fun {a b} h => ?_
    exact bs_tri h.1 (fun e => h.2 e.symm)
  · rw [hp2.length_eq, Maps.size_eq]
    show (es1.map _).length ≤ _
    rw [List.length_map]
    exact Nat.le_refl _

theorem strKeys_len {D : DataW Unit} {w : World} {mb cnt : Nat} (ho : w.ownsMap Tryz.prog 9 (plainElem Tryz.prog 3) mb cnt D) : (strKeys D).length ≤ Maps.size D := by
  obtain ⟨es1, rfl, hk⟩ := ho.keysOf
  rw [Maps.size_eq]
  show (es1.map _).length ≤ _
  rw [List.length_map]
  exact Nat.le_refl _
set_option maxHeartbeats 1000000 in
/-- slices.SortedFunc at texts, over the keys of a map. -/
theorem SortedFunc_any {w : World} {mb cnt : Nat} {D : DataW Unit} (ho : w.ownsMap Tryz.prog 9 (plainElem Tryz.prog 3) mb cnt D) (hc : cnt ≤ 1000) :
    Calls Tryz.prog 26 #[.func (.func 46) #[] #[.pointer (some ⟨w.heap.size, 0, none⟩)], .func (.func 28) #[] #[]] (w.alloc (.cells #[.map (some mb)] 62)) fun e w' => ∃ A c ws, e = .returned (.slice A (List.length ws) c) ∧ SortedS D ws ∧ RowS w' w.heap.size (.slice A ws.length c) ws.length ws ∧ Below w.heap.size w w' := by
  have hsz := ho.size_le
  have hcell : (w.alloc (.cells #[.map (some mb)] 62)).cell? ⟨w.heap.size, 0, none⟩ = some (.map (some mb)) := cell_of_row _ _ 0 _ _ _ (heap_alloc_new w _)
  have hseq := Tryz.keysS_gives 4 (by omega) w.heap.size mb cnt D (w.alloc (.cells #[.map (some mb)] 62)) (by simp) hcell (ho.alloc _)
  have hcol := callsIn_wide.1 (Tryz.collectS_in 6 (by omega) 46 #[.pointer (some ⟨w.heap.size, 0, none⟩)] (enters_of Tryz.func46 (by kernel_rfl) rfl) _ (Maps.size D) (by unfold maxLen; omega) (by omega) _ hseq)
  have hb0 : RowKit.Below w.heap.size w (w.alloc (.cells #[.map (some mb)] 62)) := (RowKit.Below.refl _ _).alloc (Nat.le_refl _) _
  have HB0 := Lib.hid hb0
  have HCOL := Lib.hid hcol
  have HO := Lib.hid ho
  clear hcol hseq hcell hb0 ho
  go_enter Tryz.func26, Tryz.ntmps26
  go_wp2_with fail
  refine HCOL.out.mono ?_
  rintro e w2 ⟨v, ss, rfl, hS, hrow, hnil, hb⟩
  have HB2 : Hid (RowKit.Below w.heap.size w w2) := Lib.hid (HB0.out.trans (hb.mono (by simp)))
  rcases hrow.2 with ⟨rfl, h0⟩ | ⟨g, cap, cur, rfl, hg, hb2, hc1, hc2, hc3, hcur⟩
  · have hss : ss = [] := List.eq_nil_of_length_eq_zero h0
    subst hss
    have HN := Lib.hid (Tryz.slices_SortFunc_none_f45 (α := Nat) none 0 (.func (.func 28) #[] #[]) w2)
    have HS := Lib.hid (sorted_of HO.out hS (List.Perm.refl _) List.Pairwise.nil)
    clear hS hrow hnil hb h0
    go_wp2_with (go_at_call 45; refine HN.out.mono ?_; rintro e w3 ⟨rfl, rfl⟩)
    go_ret
    exact ⟨none, 0, [], rfl, HS.out, Row.nil_ _ _ _, HB2.out⟩
  · obtain ⟨m, hm⟩ : ∃ m, ss.length = m := ⟨_, rfl⟩
    have hH : Holds encStr w2 g 0 ss.toArray := by
      intro j hj
      have hj' : j < ss.length := by simpa using hj
      refine ⟨?_, by rw [Nat.zero_add]; exact blk_frozen hb2 j⟩
      rw [cell_of_row w2 g _ _ _ _ hb2, Nat.zero_add]
      have e := congrArg (fun l => l[j]?) hcur
      simp only [List.getElem?_take, List.getElem?_map] at e
      rw [if_pos (by omega), List.getElem?_eq_getElem hj'] at e
      have e2 : cur[j]? = some (encStr ss[j]) := by simpa using e
      rw [e2]
      simp [hj']
    have hlt := blk_lt hb2
    have hsf := Tryz.slices_SortFunc_f45 encStr sone scf sswo 28 #[] g 0 cap ss.toArray w2 (enters_of Tryz.func28 (by kernel_rfl) rfl) (scmp g 0 ss.toArray.size w2).lays hH hlt (by have := hS.length_eq; have := strKeys_len HO.out; simp; omega)
    have HSF : Hid (Calls Tryz.prog 45 #[.slice (some ⟨g, 0, none⟩) m cap, .func (.func 28) #[] #[]] w2 fun e w3 => e = .returned (.tuple #[]) ∧ ∃ ws : List Bs, SortedS D ws ∧ ws.length = m ∧ Row w3 w.heap.size 9 (.slice (some ⟨g, 0, none⟩) m cap) m (ws.map encStr) ∧ RowKit.Below w.heap.size w w3) := by
      unfold Hid
      rw [← hm]
      have e0 : ss.toArray.size = ss.length := by simp
      rw [e0] at hsf
      refine hsf.mono ?_
      rintro e w3 ⟨rfl, d', n, os, hp, hso, rfl⟩
      have hds : d'.size = ss.length := by simpa using hp.1
      refine ⟨rfl, d'.toList, ?_, by simpa using hds, ?_, HB2.out.trans (sorted_belowG (by have := hg; simp at this; omega) hlt)⟩
      · have hperm : d'.toList.Perm ss := by
          have h3 := hp.2.2
          have e1 : d'.extract 0 ss.length = d' := by rw [← hds]; simp
          have e2 : ss.toArray.extract 0 ss.length = ss.toArray := by simp
          rw [e1, e2] at h3
          simpa using h3
        refine sorted_of HO.out hS hperm ?_
        rw [List.pairwise_iff_getElem]
        intro i j hi hj hij
        have hi' : i < d'.size := by simpa using hi
        have hj' : j < d'.size := by simpa using hj
        have := hso i j (Nat.zero_le _) hij (by omega)
        rw [slt, getElem!_pos d' i hi', getElem!_pos d' j hj'] at this
        have := of_decide_eq_false this
        simpa using this
      · have := sorted_rowG (t := 9) (B := w.heap.size) (n := n) (os := os) (d' := d') hH (by simpa using hds) hb2 (by have := hg; simp at this; omega) (by simpa using hc1) hc2 (by omega)
        simpa using this
    rw [hm]
    clear hS hrow hnil hb hH hsf hb2 hcur hc1 hc2 hc3 hg hlt hm
    go_wp2_with (go_at_call 45; refine HSF.out.mono ?_; rintro e w3 ⟨rfl, ws, h1, h2, h3, h4⟩; have HS1 := Lib.hid h1; have HS2 := Lib.hid h2; have HS3 := Lib.hid h3; have HS4 := Lib.hid h4; clear h1 h2 h3 h4)
    go_ret
    refine ⟨_, cap, ws, by rw [HS2.out]; rfl, HS1.out, ?_, HS4.out⟩
    unfold RowS
    rw [HS2.out]
    exact HS3.out
end Go.Proofs.YtkihgbglodfkmaaGreat
