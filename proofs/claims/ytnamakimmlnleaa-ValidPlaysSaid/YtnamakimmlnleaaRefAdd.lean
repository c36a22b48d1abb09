/-
  Layer 34: the document's Add. No condition.
-/
import Derived.Test.YtnamakimmlnleaaRefs
import Derived.Test.YtnamakimmlnleaaMany
namespace Go.Proofs.Ytnamakimmlnleaa
open Go.RowKit
set_option linter.unusedVariables false

theorem infoS : (Try.prog.info? 9).map (fun i => (i.zero, i.size, i.bytes)) = some (some (.string ByteArray.empty), 1, 16) := by kernel_rfl

/-- A new row that holds nothing. -/
theorem row_new (w : World) (q : Nat) : Row ((w.drewN q).alloc (.cells #[] 9)) w.heap.size 9 (.slice (some ⟨w.heap.size, 0, none⟩) 0 0) 0 [] :=
  ⟨rfl, .inr ⟨w.heap.size, 0, 0, #[], rfl, Nat.le_refl _, heap_alloc_new (w.drewN q) _, Nat.le_refl _, Nat.zero_le _, Nat.le_refl _, fun j u hj => by simp at hj⟩⟩

theorem cell_new1 (w : World) (k : ByteArray) : (w.alloc (.cells #[.string k] 9)).cell? ⟨w.heap.size, 0, none⟩ = some (.string k) := by rw [World.cell?_alloc_new]; rfl
theorem new_below {w w1 : World} {q : Nat} (hg : ((w.drewN q).alloc (.cells #[] 9)).grownBy w1 (some w.heap.size)) : Below w.heap.size w w1 :=
  ((below_drewN (Below.refl _ w) q).alloc (Nat.le_refl _) _).grown hg (by simp) (fun b hb => by cases hb; exact Nat.le_refl _)
theorem _root_.Go.RowKit.Below.alloc1 {w w1 : World} (h : Below w.heap.size w w1) (o : Obj) : w.heap.size ≤ (w1.alloc o).heap.size := by
  have := h.size
  simp
  omega
theorem _root_.Go.RowKit.Below.then_alloc {w w1 : World} (h : Below w.heap.size w w1) (o : Obj) : Below w.heap.size w (w1.alloc o) := h.alloc h.size o

theorem map_snoc (xs : List ByteArray) (k : ByteArray) : xs.map Value.string ++ [.string k] = (xs ++ [k]).map Value.string := by simp

theorem RAdd_empty {w : World} (A : Option Addr) (n cap : Nat) (most : Int) :
    Calls Try.prog 17 #[.slice A n cap, .string ⟨#[]⟩, .int .i64 most] w fun e w' => e = .returned (.tuple #[.slice A n cap, .string ⟨#[]⟩, .bool false]) ∧ w = w' := by
  go_enter Try.func17, Try.ntmps17
  go_wp2
  go_ret3
  exact ⟨rfl, rfl⟩
theorem RAdd_there {w : World} {B : Nat} {A : Option Addr} {cap : Nat} {xs : List ByteArray} (h : Texts w B A cap xs) (k : ByteArray) (h0 : k.toList.isEmpty = false) (hn : xs.length ≤ 1000000) (hk : 0 ≤ atv xs k) (most : Int) :
    Calls Try.prog 17 #[.slice A xs.length cap, .string k, .int .i64 most] w fun e w' => e = .returned (.tuple #[.slice A xs.length cap, .string ⟨#[]⟩, .bool false]) ∧ ∃ q, w' = w.drewN q := by
  have H1 := Lib.hid (At_any h k hn)
  go_enter Try.func17, Try.ntmps17
  go_wp2_with (go_at_call 14; refine H1.out.mono ?_; rintro e w1 ⟨rfl, q, rfl⟩)
  go_ret3
  exact ⟨rfl, q, rfl⟩

set_option maxHeartbeats 1000000 in
theorem RAdd_room {w : World} {B : Nat} {A : Option Addr} {cap : Nat} {xs : List ByteArray} (h : Texts w B A cap xs) (k : ByteArray) (h0 : k.toList.isEmpty = false) (hn : xs.length ≤ 1000000) (hk : ¬ 0 ≤ atv xs k) (most : Nat) (hr : xs.length + 1 ≤ most) :
    Calls Try.prog 17 #[.slice A xs.length cap, .string k, .int .i64 most] w fun e w' => ∃ A' c', e = .returned (.tuple #[.slice A' (xs.length + 1) c', .string ⟨#[]⟩, .bool false]) ∧ Row w' w.heap.size 9 (.slice A' (xs.length + 1) c') (xs.length + 1) ((xs ++ [k]).map Value.string) ∧ Below w.heap.size w w' := by
  have H1 := Lib.hid (At_any h k hn)
  have HT := Lib.hid h
  obtain ⟨i, hi, hz0, hz1, hz2⟩ := info_parts infoS
  have HI := Lib.hid hi
  have HZ := Lib.hid hz0
  have HZ1 := Lib.hid hz1
  have HZ2 : Hid (i.bytes ≤ 1000) := by unfold Hid; omega
  have HSRC : Hid (∀ q, Src Try.prog 1 29 (.slice A xs.length cap) xs.length (xs.map Value.string) ((w.drewN q).alloc (.cells #[] 9))) := Lib.hid fun q => Row.src (B := B) ((h.keep (w' := w.drewN q) fun _ _ => rfl).alloc _) Try.underlying29 fun x hx => by
    obtain ⟨y, _, rfl⟩ := List.mem_map.1 hx
    rfl
  obtain ⟨n, hN⟩ : ∃ n, xs.length = n := ⟨_, rfl⟩
  have HN := Lib.hid hN
  rw [hN] at H1 HSRC hn hr ⊢
  clear hi hz0 hz1 hz2 hN h
  go_enter Try.func17, Try.ntmps17
  go_wp2_with (first
    | (go_at_call 14; refine H1.out.mono ?_; rintro e w1 ⟨rfl, q, rfl⟩)
    | (at_builtin; refine wpList_append_rows rfl (.tmp 18) (.tmp 19) 29 rfl w.heap.size 9 i (.string ByteArray.empty) Try.underlying29 HI.out HZ.out HZ1.out HZ2.out rfl w.heap.size 0 0 0 [] rfl (row_new w q) _ n (xs.map Value.string) rfl (HSRC.out q) (by omega) (by simp) ?_; intro A1 c1 w1 hr1 hg1; have HR1 : Hid (Row w1 w.heap.size 9 (.slice (some A1) n c1) n (xs.map Value.string)) := Lib.hid (by simpa using hr1); have HLO := Lib.hid (new_below hg1); clear hr1 hg1)
    | (at_builtin; refine wpList_append_row rfl (.tmp 20) (.tmp 22) 29 rfl w.heap.size 9 i (.string ByteArray.empty) Try.underlying29 HI.out HZ.out HZ1.out HZ2.out rfl _ n _ rfl (HR1.out.alloc _) ⟨w1.heap.size, 0, none⟩ 1 (.string k) rfl (cell_new1 w1 k) rfl (by omega) (HLO.out.alloc1 _) ?_; intro A2 c2 w2 hr2 hg2
       skip
       have HR2 := Lib.hid hr2; have HB2 := Lib.hid ((HLO.out.then_alloc _).grown hg2 (HLO.out.alloc1 _) (fun b hb => (HR1.out.lt b hb).1)); clear hr2 hg2)
    | go_in)
  go_ret3
  exact ⟨_, _, rfl, by simpa using HR2.out, HB2.out⟩

set_option maxHeartbeats 1000000 in
theorem RAdd_full {w : World} {B : Nat} {A : Option Addr} {cap : Nat} {xs : List ByteArray} (h : Texts w B A cap xs) (k : ByteArray) (h0 : k.toList.isEmpty = false) (hn : xs.length ≤ 1000000) (hk : ¬ 0 ≤ atv xs k) (most : Nat) (hr : most < xs.length + 1) {x0 : ByteArray} {t : List ByteArray} (hpt : xs ++ [k] = x0 :: t) :
    Calls Try.prog 17 #[.slice A xs.length cap, .string k, .int .i64 most] w fun e w' => ∃ A' c', e = .returned (.tuple #[.slice A' xs.length c', .string x0, .bool true]) ∧ Row w' w.heap.size 9 (.slice A' xs.length c') xs.length (t.map Value.string) ∧ Below w.heap.size w w' := by
  have H1 := Lib.hid (At_any h k hn)
  have HT := Lib.hid h
  obtain ⟨i, hi, hz0, hz1, hz2⟩ := info_parts infoS
  have HI := Lib.hid hi
  have HZ := Lib.hid hz0
  have HZ1 := Lib.hid hz1
  have HZ2 : Hid (i.bytes ≤ 1000) := by unfold Hid; omega
  have HSRC : Hid (∀ q, Src Try.prog 1 29 (.slice A xs.length cap) xs.length (xs.map Value.string) ((w.drewN q).alloc (.cells #[] 9))) := Lib.hid fun q => Row.src (B := B) ((h.keep (w' := w.drewN q) fun _ _ => rfl).alloc _) Try.underlying29 fun x hx => by
    obtain ⟨y, _, rfl⟩ := List.mem_map.1 hx
    rfl
  obtain ⟨n, hN⟩ : ∃ n, xs.length = n := ⟨_, rfl⟩
  have HN := Lib.hid hN
  rw [hN] at H1 HSRC hn hr ⊢
  clear hi hz0 hz1 hz2 hN h
  go_enter Try.func17, Try.ntmps17
  go_wp2_with (first
    | (go_at_call 14; refine H1.out.mono ?_; rintro e w1 ⟨rfl, q, rfl⟩)
    | (at_builtin; refine wpList_append_rows rfl (.tmp 18) (.tmp 19) 29 rfl w.heap.size 9 i (.string ByteArray.empty) Try.underlying29 HI.out HZ.out HZ1.out HZ2.out rfl w.heap.size 0 0 0 [] rfl (row_new w q) _ n (xs.map Value.string) rfl (HSRC.out q) (by omega) (by simp) ?_; intro A1 c1 w1 hr1 hg1; have HR1 : Hid (Row w1 w.heap.size 9 (.slice (some A1) n c1) n (xs.map Value.string)) := Lib.hid (by simpa using hr1); have HLO := Lib.hid (new_below hg1); clear hr1 hg1)
    | (at_builtin; refine wpList_append_row rfl (.tmp 20) (.tmp 22) 29 rfl w.heap.size 9 i (.string ByteArray.empty) Try.underlying29 HI.out HZ.out HZ1.out HZ2.out rfl _ n _ rfl (HR1.out.alloc _) ⟨w1.heap.size, 0, none⟩ 1 (.string k) rfl (cell_new1 w1 k) rfl (by omega) (HLO.out.alloc1 _) ?_; intro A2 c2 w2 hr2 hg2
       skip
       have HR2 := Lib.hid hr2; have HB2 := Lib.hid ((HLO.out.then_alloc _).grown hg2 (HLO.out.alloc1 _) (fun b hb => (HR1.out.lt b hb).1)); clear hr2 hg2)
    | go_in)
  have hr2 := HR2.out
  rw [map_snoc, hpt, List.map_cons] at hr2
  obtain ⟨g2, off2, c3, hA2, hc2, hc3, hc4⟩ := Row.get hr2 (j := 0) (by omega)
  injection hA2 with hA2 _ hA3
  subst hA2 hA3
  have hc5 : w2.cell? ⟨g2, off2, none⟩ = some (.string x0) := by simpa using hc2
  have HR3 := Lib.hid hr2
  unfold maxLen at hc4
  clear hr2 hc2 HR2
  have HR4 := HR3.out.tail
  by_cases hc1 : c2 = 1
  · rw [if_pos hc1] at HR4
    have HR4 := Lib.hid HR4
    obtain rfl : n = 0 := by omega
    subst hc1
    go_quiet (fail)
    go_wp2
    go_ret3
    exact ⟨_, _, rfl, HR4.out.keep fun _ _ => rfl, below_drewN HB2.out _⟩
  · rw [if_neg hc1] at HR4
    have HR4 := Lib.hid HR4
    go_quiet (fail)
    go_wp2
    go_ret3
    exact ⟨_, _, rfl, HR4.out.keep fun _ _ => rfl, below_drewN HB2.out _⟩

end Go.Proofs.Ytnamakimmlnleaa
