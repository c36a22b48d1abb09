/-
  Layer 41: the numbers of a series in order, by the program: what is sorted, and the number at a place. No condition but that a series is one, or none.
-/
import Derived.Test.YtkihgbglodfkmaaGreatSrt
import Derived.Test.YtkihgbglodfkmaaGreatColl
import Derived.Test.YtkihgbglodfkmaaGreatVars
namespace Go.Proofs.YtkihgbglodfkmaaGreat
open Go.RowKit Go.Sort
set_option linter.unusedVariables false

theorem snoc_ind {P : List Nat → Prop} (h0 : P []) (h1 : ∀ l x, P l → P (l ++ [x])) (l : List Nat) : P l := by
  have h : ∀ r : List Nat, P r.reverse := fun r => by
    induction r with
    | nil => exact h0
    | cons x r ih => rw [List.reverse_cons]; exact h1 _ _ ih
  have := h l.reverse
  rwa [List.reverse_reverse] at this
theorem own_slice {w : World} {B n : Nat} {v : Value} {xs : List Value} (h : w.ownsRow B 40 1 v n xs) : ∃ A c, v = .slice A n c := by
  rcases h.2 with ⟨h0, h1⟩ | ⟨g, cap, cur, hv, _⟩
  · exact ⟨none, 0, by rw [h0, h1]⟩
  · exact ⟨_, _, hv⟩

/-- The same numbers, in order. -/
def Sorts (xs ys : List Nat) : Prop := ys.Perm xs ∧ (ys.map placeN).Pairwise (· ≤ ·)
theorem Sorts.len {xs ys : List Nat} (h : Sorts xs ys) : ys.length = xs.length := h.1.length_eq
theorem Sorts.lt {xs ys : List Nat} (h : Sorts xs ys) (hw : ∀ x ∈ xs, x < W64) : ∀ y ∈ ys, y < W64 := fun y hy => hw y (h.1.mem_iff.1 hy)
theorem Sorts.nil : Sorts [] [] := ⟨List.Perm.refl _, List.Pairwise.nil⟩
theorem Sorts.bits {xs ys zs : List Nat} (h : Sorts xs ys) (k : Sorts xs zs) (hw : ∀ x ∈ xs, x < W64) : ys.map bitsN = zs.map bitsN := by
  have e := rising_is (((h.1.trans k.1.symm).map placeN)) h.2 k.2
  have hy := h.lt hw
  have hz := k.lt hw
  clear h k
  induction ys generalizing zs with
  | nil => cases zs with
    | nil => rfl
    | cons _ _ => cases e
  | cons y ys ih =>
    cases zs with
    | nil => cases e
    | cons z zs =>
      simp only [List.map_cons, List.cons.injEq] at e ⊢
      exact ⟨(place_inj (hy y (by simp)) (hz z (by simp))).1 e.1, ih e.2 (fun a ha => hy a (by simp [ha])) (fun a ha => hz a (by simp [ha]))⟩

/-- One more number, behind all that are not greater. -/
def spot (x : Nat) (out : List Nat) : Nat := (out.reverse.dropWhile fun y => decide (placeN x < placeN y)).length
def ins (x : Nat) (out : List Nat) : List Nat := out.take (spot x out) ++ x :: out.drop (spot x out)
def srt (xs : List Nat) : List Nat := xs.foldl (fun out x => ins x out) []
theorem srt_snoc (xs : List Nat) (x : Nat) : srt (xs ++ [x]) = ins x (srt xs) := by simp [srt]
theorem spot_le (x : Nat) (out : List Nat) : spot x out ≤ out.length := by
  unfold spot
  have := (List.dropWhile_sublist (fun y => decide (placeN x < placeN y)) (l := out.reverse)).length_le
  simpa using this
theorem spot_snoc (x y : Nat) (out : List Nat) : spot x (out ++ [y]) = if placeN x < placeN y then spot x out else out.length + 1 := by
  unfold spot
  rw [List.reverse_append, List.reverse_cons, List.reverse_nil, List.nil_append, List.singleton_append, List.dropWhile_cons]
  by_cases h : placeN x < placeN y
  · rw [if_pos h, if_pos (decide_eq_true h)]
  · rw [if_neg h, if_neg (by simpa using h)]
    simp
/-- What stands behind the place is greater; what stands just ahead is not. -/
theorem spot_after (x : Nat) (out : List Nat) : ∀ j (hj : j < out.length), spot x out ≤ j → placeN x < placeN out[j] := by
  induction out using snoc_ind with
  | h0 => intro j hj; simp at hj
  | h1 out y ih =>
    intro j hj hs
    rw [spot_snoc] at hs
    by_cases h : placeN x < placeN y
    · rw [if_pos h] at hs
      rcases Nat.lt_or_ge j out.length with hl | hl
      · rw [List.getElem_append_left hl]
        exact ih j hl hs
      · have hj' : j < out.length + 1 := by simpa using hj
        obtain rfl : j = out.length := by omega
        rw [List.getElem_append_right (by omega)]
        simpa using h
    · rw [if_neg h] at hs
      have hj' : j < out.length + 1 := by simpa using hj
      omega
theorem spot_before (x : Nat) (out : List Nat) (h : 0 < spot x out) : ∃ hl : spot x out - 1 < out.length, ¬ placeN x < placeN out[spot x out - 1] := by
  induction out using snoc_ind with
  | h0 => simp [spot] at h
  | h1 out y ih =>
    have e := spot_snoc x y out
    by_cases hc : placeN x < placeN y
    · rw [if_pos hc] at e
      rw [e] at h
      obtain ⟨hl, hn⟩ := ih h
      simp only [e]
      refine ⟨by simp; omega, ?_⟩
      rw [List.getElem_append_left hl]
      exact hn
    · rw [if_neg hc] at e
      simp only [e]
      refine ⟨by simp, ?_⟩
      rw [List.getElem_append_right (by omega)]
      simpa using hc
theorem ins_perm (x : Nat) (out : List Nat) : (ins x out).Perm (out ++ [x]) := by
  unfold ins
  have e : out ++ [x] = out.take (spot x out) ++ (out.drop (spot x out) ++ [x]) := by rw [← List.append_assoc, List.take_append_drop]
  rw [e]
  exact List.Perm.append_left _ (List.perm_append_comm (l₁ := [x]) (l₂ := out.drop (spot x out)))
theorem ins_rise (x : Nat) (out : List Nat) (h : (out.map placeN).Pairwise (· ≤ ·)) : ((ins x out).map placeN).Pairwise (· ≤ ·) := by
  rw [List.pairwise_map] at h ⊢
  have hp := List.pairwise_iff_getElem.1 h
  have hle := spot_le x out
  unfold ins
  rw [List.pairwise_append]
  refine ⟨h.sublist (List.take_sublist _ _), ?_, ?_⟩
  · rw [List.pairwise_cons]
    refine ⟨fun y hy => ?_, h.sublist (List.drop_sublist _ _)⟩
    obtain ⟨j, hj, rfl⟩ := List.getElem_of_mem hy
    rw [List.getElem_drop]
    have hj' : j < out.length - spot x out := by simpa using hj
    exact Nat.le_of_lt (spot_after x out _ (by omega) (by omega))
  · intro a ha b hb
    obtain ⟨j, hj, rfl⟩ := List.getElem_of_mem ha
    rw [List.getElem_take]
    have hj' : j < spot x out ∧ j < out.length := by
      rw [List.length_take] at hj
      omega
    rcases List.mem_cons.1 hb with rfl | hb
    · obtain ⟨hl, hn⟩ := spot_before b out (by omega)
      rcases Nat.lt_or_ge j (spot b out - 1) with h1 | h1
      · have := hp j (spot b out - 1) hj'.2 hl h1
        omega
      · obtain rfl : j = spot b out - 1 := by omega
        omega
    · obtain ⟨k, hk, rfl⟩ := List.getElem_of_mem hb
      rw [List.getElem_drop]
      have hk' : k < out.length - spot x out := by simpa using hk
      exact hp j _ hj'.2 (by omega) (by omega)
theorem srt_sorts (xs : List Nat) : Sorts xs (srt xs) := by
  induction xs using snoc_ind with
  | h0 => exact Sorts.nil
  | h1 xs x ih =>
    rw [srt_snoc]
    exact ⟨(ins_perm x _).trans (ih.1.append_right _), ins_rise x _ ih.2⟩
theorem srt_len (xs : List Nat) : (srt xs).length = xs.length := (srt_sorts xs).len

/-- The bits of the number at a place; none, if there is no such place. -/
def atB (xs : List Nat) (i : Int) : Nat := if 0 ≤ i ∧ i < xs.length then bitsN ((srt xs)[i.toNat]?.getD 0) else NN
theorem atB_in {xs ys : List Nat} (h : Sorts xs ys) (hw : ∀ x ∈ xs, x < W64) {k : Nat} (hk : k < ys.length) : bitsN ys[k] = atB xs (k : Int) := by
  have hl := h.len
  have e := h.bits (srt_sorts xs) hw
  have e2 := congrArg (fun l => l[k]?) e
  simp only [List.getElem?_map, List.getElem?_eq_getElem hk] at e2
  rw [List.getElem?_eq_getElem (by rw [srt_len]; omega)] at e2
  unfold atB
  rw [if_pos ⟨by omega, by omega⟩, Int.toNat_natCast, List.getElem?_eq_getElem (by rw [srt_len]; omega)]
  simpa using e2
theorem atB_out {xs : List Nat} {i : Int} (h : ¬ (0 ≤ i ∧ i < xs.length)) : atB xs i = NN := by
  unfold atB
  rw [if_neg h]
theorem bits_nn : bitsN NN = NN := by decide +kernel
theorem nn_lt : NN < W64 := by decide +kernel

/-- The sort of numbers that the call has made. -/
theorem sortFn_any {w : World} {B : Nat} {A : Option Addr} {c n : Nat} {xs : List Nat} (hN : xs.length = n) (h : w.ownsRow B 40 1 (.slice A n c) n (xs.map fun b => Value.float .f64 b)) (hw : ∀ x ∈ xs, x < W64) (hn : n ≤ 1000000000) :
    Calls Tryz.prog 64 #[.slice A n c, .func (.func 51) #[] #[]] w fun e w' => e = .returned (.tuple #[]) ∧ ∃ ys, Sorts xs ys ∧ Nums w' B A c ys ∧ RowKit.Below B w w' := by
  subst hN
  rcases h.2 with ⟨hv, h0⟩ | ⟨g, cap, cur, hv, hb, hg, h1, h2, h3, h4⟩
  · obtain rfl : xs = [] := List.eq_nil_of_length_eq_zero h0
    cases hv
    refine (Tryz.slices_SortFunc_none_f64 (α := Nat) none 0 (.func (.func 51) #[] #[]) w).mono ?_
    rintro e w' ⟨rfl, rfl⟩
    exact ⟨rfl, [], Sorts.nil, Row.nil_ _ _ _, Below.refl _ _⟩
  · cases hv
    by_cases h0 : xs = []
    · subst h0
      refine (Tryz.slices_SortFunc_none_f64 (α := Nat) (some ⟨g, 0, none⟩) c (.func (.func 51) #[] #[]) w).mono ?_
      rintro e w' ⟨rfl, rfl⟩
      exact ⟨rfl, [], Sorts.nil, ⟨rfl, .inr ⟨g, 0, c, cur, rfl, hb, hg, h1, h2, by omega, fun j u hu => by simp at hu⟩⟩, Below.refl _ _⟩
    · have hlt := blk_lt hg
      obtain ⟨d, hd⟩ : ∃ d : Array Fl, d.toList.map Subtype.val = xs := ⟨(xs.attachWith (· < W64) hw).toArray, by simp⟩
      have hds : d.size = xs.length := by rw [← hd]; simp
      have hH : Holds fenc w g 0 d := by
        intro j hj
        refine ⟨?_, by rw [Nat.zero_add]; exact blk_frozen hg j⟩
        rw [cell_of_row w g _ _ _ _ hg, Nat.zero_add, getElem!_pos d j hj]
        have e := congrArg (fun l => l[j]?) h4
        simp only [Nat.mul_one] at e
        rw [List.getElem?_take, if_pos (show j < xs.length by omega), List.getElem?_map] at e
        have e3 : xs[j]? = some d[j].val := by
          have e4 : (d.toList.map Subtype.val)[j]? = xs[j]? := by rw [hd]
          rw [← e4, List.getElem?_map, List.getElem?_eq_getElem (by simpa using hj)]
          simp
        rw [e3] at e
        have e' : cur[j]? = some (Value.float .f64 d[j].val) := by simpa using e
        exact e'
      have hs := Tryz.slices_SortFunc_f64 fenc fone fcf fswo 51 #[] g 0 c d w (enters_of Tryz.func51 (by kernel_rfl) rfl) (fcmp g 0 d.size w).lays hH hlt (by rw [hds]; omega)
      rw [hds] at hs
      refine hs.mono ?_
      rintro e w3 ⟨rfl, d', m, os, hp, hso, rfl⟩
      obtain ⟨p1, _, p3⟩ := hp
      have hds' : d'.size = xs.length := by first | exact p1.trans hds | omega
      have hrow := sorted_row (B := B) (n := m) (os := os) (d' := d') hH (by rw [hds, hds']) hg hb (by rw [hds]; exact h1) h2 (by omega)
      have e1 : d'.extract 0 xs.length = d' := by rw [← hds']; simp
      have e2 : d.extract 0 xs.length = d := by rw [← hds]; simp
      rw [e1, e2] at p3
      have hperm : (d'.toList.map Subtype.val).Perm xs := by
        have := p3.map (Subtype.val : Fl → Nat)
        rw [hd] at this
        exact this
      refine ⟨rfl, d'.toList.map Subtype.val, ⟨hperm, ?_⟩, ?_, sorted_below hb hlt⟩
      · have := sorted_rise d' (by rw [hds']; exact hso)
        rw [List.map_map]
        exact this
      · unfold Nums
        have e3 : (d'.toList.map Subtype.val).map fl = d'.toList.map fenc := by
          rw [List.map_map]
          rfl
        rw [e3, show (d'.toList.map (Subtype.val : Fl → Nat)).length = d.size by simp; omega]
        exact hrow

set_option maxHeartbeats 1000000 in
theorem SortedFuncF_any {w : World} {Bs : Nat} {sv : Value} {xs : List Nat} (hBs : Bs < w.heap.size) (hc : w.cell? ⟨Bs, 0, none⟩ = some sv) (hI : Fls w.heap.size w sv xs) (hw : ∀ x ∈ xs, x < W64) (hn : xs.length ≤ 1000000000) :
    Calls Tryz.prog 49 #[.func (.func 65) #[] #[.pointer (some ⟨Bs, 0, none⟩)], .func (.func 51) #[] #[]] w fun e w' => ∃ A c ys, e = .returned (.slice A ys.length c) ∧ Sorts xs ys ∧ Nums w' w.heap.size A c ys ∧ RowKit.Below w.heap.size w w' := by
  have H1 := Lib.hid (Collect_any Bs sv xs hn w hBs hc hI)
  obtain ⟨n, hN⟩ : ∃ n, xs.length = n := ⟨_, rfl⟩
  have HN := Lib.hid hN
  have HW := Lib.hid hw
  rw [hN] at hn
  clear hc hI hw hN
  go_enter Tryz.func49, Tryz.ntmps49
  go_wp2_with (first
    | (go_at_call 63; refine H1.out.mono ?_; rintro e w1 ⟨v, rfl, hrow, hb⟩; rw [HN.out] at hrow; obtain ⟨A, c, rfl⟩ := own_slice hrow; have HO := Lib.hid hrow; have HB := Lib.hid hb; clear hrow hb)
    | (go_at_call 64; refine (sortFn_any HN.out HO.out HW.out hn).mono ?_; rintro e w2 ⟨rfl, ys, hs, hr, hb2⟩; have HS := Lib.hid hs; have HR := Lib.hid hr; have HB2 := Lib.hid hb2; clear hs hr hb2))
  go_ret
  exact ⟨A, c, ys, by rw [HS.out.len, HN.out]; rfl, HS.out, HR.out, HB.out.trans HB2.out⟩

theorem sorted_any {w : World} {B : Nat} {p : Value} {A : Option Addr} {cap : Nat} {xs : List Nat} (h : Has w B p A cap xs) (hw : ∀ x ∈ xs, x < W64) :
    Calls Tryz.prog 32 #[p] w fun e w' => ∃ A c ys, e = .returned (.slice A ys.length c) ∧ Sorts xs ys ∧ Nums w' w.heap.size A c ys ∧ RowKit.Below w.heap.size w w' := by
  have H1 := Lib.hid (h.all w (Below.refl _ _))
  have hal : RowKit.Below w.heap.size w (w.alloc (.cells #[.slice A xs.length cap] 33)) := (Below.refl _ w).alloc (Nat.le_refl _) _
  have H2 := SortedFuncF_any (w := w.alloc (.cells #[.slice A xs.length cap] 33)) (Bs := w.heap.size) (sv := .slice A xs.length cap) (xs := xs) (by simp) (by rw [World.cell?_alloc_new]; rfl)
    (Fls.of_row (B := B) (h.row.below hal)) hw (Nat.le_trans h.few (by decide))
  obtain ⟨n, hN⟩ : ∃ n, xs.length = n := ⟨_, rfl⟩
  rw [hN] at H1 H2
  have HB := Lib.hid hal
  rw [hN] at HB
  have H2 := Lib.hid H2
  clear hw hN h hal
  go_enter Tryz.func32, Tryz.ntmps32
  go_wp2_with (first
    | (go_at_call 30; refine H1.out.mono ?_; rintro e w1 ⟨rfl, rfl⟩)
    | (go_at_call 50; refine (Values_any _ _ _ _).mono ?_; rintro e w1 ⟨rfl, rfl⟩)
    | (go_at_call 49; refine H2.out.mono ?_; rintro e w1 ⟨A', c, ys, rfl, hs, hr, hb⟩; have HS := Lib.hid hs; have HR := Lib.hid hr; have HB2 := Lib.hid hb; clear hs hr hb))
  go_ret
  refine ⟨A', c, ys, rfl, HS.out, ?_, HB.out.trans (HB2.out.mono (by simp))⟩
  exact ⟨HR.out.1, by
    rcases HR.out.2 with h | ⟨g, off, cap, cur, hv, hb, rest⟩
    · exact .inl h
    · exact .inr ⟨g, off, cap, cur, hv, by simp at hb; omega, rest⟩⟩
theorem Sorted_any {w : World} {B : Nat} {p : Value} {A : Option Addr} {cap : Nat} {xs : List Nat} (h : Has w B p A cap xs) (hw : ∀ x ∈ xs, x < W64) :
    Calls Tryz.prog 12 #[p] w fun e w' => ∃ A c ys, e = .returned (.slice A ys.length c) ∧ Sorts xs ys ∧ Nums w' w.heap.size A c ys ∧ RowKit.Below w.heap.size w w' := by
  have H1 := Lib.hid (sorted_any h hw)
  clear h hw
  go_enter Tryz.func12, Tryz.ntmps12
  go_wp2_with (go_at_call 32; refine H1.out.mono ?_; rintro e w1 ⟨A', c, ys, rfl, hs, hr, hb⟩; have HS := Lib.hid hs; have HR := Lib.hid hr; have HB2 := Lib.hid hb; clear hs hr hb)
  go_ret
  exact ⟨A', c, ys, rfl, HS.out, HR.out, HB2.out⟩
end Go.Proofs.YtkihgbglodfkmaaGreat
