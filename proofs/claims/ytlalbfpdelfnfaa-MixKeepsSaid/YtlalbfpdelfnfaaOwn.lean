/-
  Layer 43 (mix): an event in memory of its own. No condition but that its headers lie in memory.
-/
import Derived.Test.YtlalbfpdelfnfaaEv
import Derived.Lib.SliceRun
import Derived.Laws.CopyOwn
namespace Go.Proofs.Ytlalbfpdelfnfaa
open Go.RowKit
set_option linter.unusedVariables false

theorem hdc_one {hs : List (ByteArray × ByteArray)} : ∀ x ∈ hs.flatMap hdc, x.oneCell' = true := fun x hx => by
  obtain ⟨h, _, hh⟩ := List.mem_flatMap.1 hx
  simp [hdc] at hh
  rcases hh with rfl | rfl <;> rfl
theorem Hdo.up {w : World} {lo : Nat} {A : Option Addr} {c : Nat} {hs : List (ByteArray × ByteArray)} (h : Rk w lo 34 2 (.slice A hs.length c) hs.length (hs.flatMap hdc)) : Hdo w lo (.slice A hs.length c) hs :=
  ⟨h.rd (.inl (by omega)), fun j hj => h.typed0 j hj⟩

theorem Hdr.src {w : World} {lo n : Nat} {v : Value} {hs : List (ByteArray × ByteArray)} (h : Hdr w lo v hs) (hn : hs.length = n) : Src Try.prog 2 28 v n (hs.flatMap hdc) w := by
  subst hn
  exact Rd.src h Try.underlying28 hdc_one
theorem Hdo.keepLo {w w' : World} {lo lo' : Nat} {hv : Value} {hs : List (ByteArray × ByteArray)} (h : Hdo w lo hv hs) (hs2 : w.heap.size ≤ w'.heap.size) (hl : lo' ≤ lo) (hk : ∀ j, lo ≤ j → w'.heap[j]? = w.heap[j]?) : Hdo w' lo' hv hs := by
  refine ⟨Rd.base (Rd.keepLo h.1 hs2 fun j hj _ => hk j hj) hl, fun j hj => ?_⟩
  obtain ⟨h1, cs, m, hc⟩ := h.2 j hj
  exact ⟨Nat.le_trans hl h1, cs, m, (hk j h1).trans hc⟩
theorem nil28 (w : World) (a : Option Addr) (n c : Nat) : (binOp .eql 28 (.slice a n c) (.slice none 0 0)).run Try.prog w = .ok (.bool a.isNone) w := Lib.run_eql_slice_nil w 28 34 a n c 0 0 Try.underlying28
/-- slices.Clone at headers. -/
theorem Clone_any {w : World} {lo : Nat} {hv : Value} {hs : List (ByteArray × ByteArray)} (h : Hdr w lo hv hs) (hn : hs.length ≤ 1000000) :
    Calls Try.prog 42 #[hv] w fun e w' => ∃ hv', e = .returned hv' ∧ Hdo w' w.heap.size hv' hs ∧ Below w.heap.size w w' := by
  obtain ⟨i0, hi, hz0, hz1, hz2⟩ := info_parts infoH
  have HI := Lib.hid hi
  have HZ := Lib.hid hz0
  have HZ1 := Lib.hid hz1
  have HZ2 : Hid (i0.bytes ≤ 1000) := by unfold Hid; omega
  have HH := Lib.hid h
  obtain ⟨A, c, rfl⟩ := h.slice
  obtain ⟨n, hN⟩ : ∃ n, hs.length = n := ⟨_, rfl⟩
  have HN := Lib.hid hN
  rw [hN] at hn
  rw [hN] at HH ⊢
  clear hi hz0 hz1 hz2
  cases A with
  | none =>
    have hc : c = 0 ∧ hs = [] := by
      rcases h.at_ with ⟨h0, A, c', hv, hh⟩ | ⟨g, off, cap, hv, _⟩
      · injection hv with e1 e2 e3
        subst e3
        exact ⟨hh e1.symm, List.eq_nil_of_length_eq_zero h0⟩
      · cases hv
    obtain ⟨rfl, rfl⟩ := hc
    obtain rfl : n = 0 := by simpa using hN.symm
    clear h hN HH HI HZ HZ1 HZ2 HN hn
    have q := nil28
    go_enter Try.func42, Try.ntmps42
    go_wp2
    go_ret
    exact ⟨_, rfl, ⟨⟨by simp, Nat.zero_le _, .inl ⟨rfl, none, 0, rfl, fun _ => rfl⟩⟩, fun j hj => by simp [Value.ownBlock] at hj⟩, Below.refl _ _⟩
  | some a =>
    have hF := Lib.hid (Rk.fresh w 34 2)
    have HB0 : Hid (Below w.heap.size w (w.alloc (.cells #[] 34))) := (Below.refl _ _).alloc (Nat.le_refl _) _
    clear h hN
    have q := nil28
    go_enter Try.func42, Try.ntmps42
    go_wp2_with (at_builtin; (refine wpList_append_rk rfl (.tmp 5) (.tmp 6) 28 rfl w.heap.size 34 i0 _ 2 Try.underlying28 HI.out HZ.out HZ1.out HZ2.out rfl _ _ _ rfl hF.out _ n (hs.flatMap hdc) rfl (Hdr.src (Hdr.below HH.out HB0.out) HN.out) (by omega) (by simp) ?_); intro A' c' w' hr hg _; have HR := Lib.hid hr; have HG := Lib.hid hg; clear hr hg)
    go_ret
    refine ⟨_, rfl, ?_, HB0.out.grown HG.out (by simp) (fun b hb => by cases hb; exact Nat.le_refl _)⟩
    have hr2 := HR.out
    rw [Nat.zero_add, List.nil_append] at hr2
    have := Hdo.up (hs := hs) (lo := w.heap.size) (w := w') (A := A') (c := c') (by rw [HN.out]; exact hr2)
    rw [HN.out] at this
    simpa using this

/-- An event that lies in a block of its own. -/
def EvRow (w : World) (b : Nat) (e : Ev) (hv : Value) : Prop := w.heap[b]? = some (.cells (evc e hv).toArray 32 (0, 0))
def ev0 : Ev := ⟨0, 0, ⟨#[]⟩, ⟨#[]⟩, ⟨#[]⟩, 0, 0, [], ⟨#[]⟩⟩
section
variable {w w' : World} {b : Nat} {e : Ev} {hv : Value}
theorem EvRow.new (w : World) (e : Ev) (hv : Value) : EvRow (w.alloc (.cells #[.int .i64 e.k, .int .i64 e.id, .string e.url, .string e.frm, .string e.mode, .int .i64 e.med, .int .i64 e.st, hv, .string e.body] 32)) w.heap.size e hv := heap_alloc_new w _
theorem EvRow.zero (w : World) : EvRow (w.alloc (.cells #[.int .i64 0, .int .i64 0, .string ⟨#[]⟩, .string ⟨#[]⟩, .string ⟨#[]⟩, .int .i64 0, .int .i64 0, .slice none 0 0, .string ⟨#[]⟩] 32)) w.heap.size ev0 (.slice none 0 0) := heap_alloc_new w _
theorem EvRow.lt (h : EvRow w b e hv) : b < w.heap.size := blk_lt h
theorem EvRow.keep (h : EvRow w b e hv) (hk : w'.heap[b]? = w.heap[b]?) : EvRow w' b e hv := hk.trans h
theorem EvRow.below (h : EvRow w b e hv) (hb : Below w.heap.size w w') : EvRow w' b e hv := h.keep (hb.block b h.lt)
theorem EvRow.alloc (h : EvRow w b e hv) (o : Obj) : EvRow (w.alloc o) b e hv := h.keep (Below.heap_alloc w o b h.lt)
theorem EvRow.frozen (h : EvRow w b e hv) (j : Nat) : w.frozen? ⟨b, j, none⟩ = false := blk_frozen h j
theorem EvRow.cells (h : EvRow w b e hv) : w.cell? ⟨b, 0, none⟩ = some (.int .i64 e.k) ∧ w.cell? ⟨b, 1, none⟩ = some (.int .i64 e.id) ∧ w.cell? ⟨b, 2, none⟩ = some (.string e.url) ∧ w.cell? ⟨b, 3, none⟩ = some (.string e.frm) ∧
    w.cell? ⟨b, 4, none⟩ = some (.string e.mode) ∧ w.cell? ⟨b, 5, none⟩ = some (.int .i64 e.med) ∧ w.cell? ⟨b, 6, none⟩ = some (.int .i64 e.st) ∧ w.cell? ⟨b, 7, none⟩ = some hv ∧ w.cell? ⟨b, 8, none⟩ = some (.string e.body) :=
  ⟨cell_of_row w b 0 _ _ _ h, cell_of_row w b 1 _ _ _ h, cell_of_row w b 2 _ _ _ h, cell_of_row w b 3 _ _ _ h, cell_of_row w b 4 _ _ _ h, cell_of_row w b 5 _ _ _ h, cell_of_row w b 6 _ _ _ h, cell_of_row w b 7 _ _ _ h, cell_of_row w b 8 _ _ _ h⟩
theorem EvRow.set7 (h : EvRow w b e hv) (u : Value) : EvRow (w.setCell ⟨b, 7, none⟩ u) b e u := by
  unfold EvRow
  rw [blk_set h 7]
  rfl
end
theorem info32 : (Try.prog.info? 32).map (·.size) = some 9 := by kernel_rfl
/-- An event, stored whole over another one. -/
theorem wpList_store_ev {ops : Array Oper} {rest : List Oper} {o : Oper} {a : Act} {w : World} {Q : Exit → Act → World → Prop} (hgd : o.guard = none) (x y : Operand) (ho : o.op = .store 32 x y)
    (g : Nat) (e0 : Ev) (hv0 : Value) (hF : EvRow w g e0 hv0) (e : Ev) (hv : Value) (h1 : hv.oneCell' = true) (hx : a.eval x = .pointer (some ⟨g, 0, none⟩))
    (hy : a.eval y = evv e hv)
    (h : ∀ w2, EvRow w2 g e hv → (∀ B a, Below B a w → B ≤ g → Below B a w2) → (w2.heap.size = w.heap.size ∧ ∀ j, j ≠ g → w2.heap[j]? = w.heap[j]?) → wpList Try.prog ops Q rest (a.put o.dst undef) w2) : wpList Try.prog ops Q (o :: rest) a w :=
  wpList_store_row hgd 32 x y ho g _ hx hy 32 _ hF info32 rfl (by have h2 := h1; unfold Value.oneCell' at h2 ⊢; simpa using h2) (h _ (setRow_heap w g _ _ 32 (0, 0) hF) (fun B a hb hg => below_setRow hb hg _) ⟨setRow_size w g _, fun j hj => setRow_other w g j _ hj⟩)
/-- An event in memory of its own. -/
theorem own_any {w : World} {lo : Nat} {hv : Value} {e : Ev} (h : Hdr w lo hv e.hs) (hn : e.hs.length ≤ 1000000) :
    Calls Try.prog 26 #[evv e hv] w fun o w' => ∃ hv', o = .returned (evv e hv') ∧ Hdo w' w.heap.size hv' e.hs ∧ Below w.heap.size w w' := by
  have hb0 : Below w.heap.size w ((w.alloc (.cells #[.int .i64 e.k, .int .i64 e.id, .string e.url, .string e.frm, .string e.mode, .int .i64 e.med, .int .i64 e.st, hv, .string e.body] 32)).alloc (.cells #[.int .i64 0, .int .i64 0, .string ⟨#[]⟩, .string ⟨#[]⟩, .string ⟨#[]⟩, .int .i64 0, .int .i64 0, .slice none 0 0, .string ⟨#[]⟩] 32)) := ((Below.refl _ _).alloc (Nat.le_refl _) _).alloc (by simp) _
  have HC := Lib.hid (Clone_any (h.below hb0) hn)
  have HR1 := Lib.hid ((EvRow.new w e hv).alloc (.cells #[.int .i64 0, .int .i64 0, .string ⟨#[]⟩, .string ⟨#[]⟩, .string ⟨#[]⟩, .int .i64 0, .int .i64 0, .slice none 0 0, .string ⟨#[]⟩] 32))
  have hz := EvRow.zero (w.alloc (.cells #[.int .i64 e.k, .int .i64 e.id, .string e.url, .string e.frm, .string e.mode, .int .i64 e.med, .int .i64 e.st, hv, .string e.body] 32))
  rw [World.size_alloc] at hz
  have HZ := Lib.hid hz
  have HB0 := Lib.hid hb0
  clear hz hb0 h hn
  change Calls Try.prog 26 #[.agg #[.int .i64 e.k, .int .i64 e.id, .string e.url, .string e.frm, .string e.mode, .int .i64 e.med, .int .i64 e.st, hv, .string e.body]] w _
  go_enter Try.func26, Try.ntmps26
  go_wp2_with fail
  refine HC.out.mono ?_
  rintro o w1 ⟨hv', rfl, hh, hb⟩
  obtain ⟨A', c', rfl⟩ := hh.slice
  have HH := Lib.hid hh
  have HB := Lib.hid hb
  have HR1 := Lib.hid (HR1.out.below hb)
  have HZ := Lib.hid (HZ.out.below hb)
  have f7 := HR1.out.frozen 7
  obtain ⟨d0, d1, d2, d3, d4, d5, d6, d7, d8⟩ := HR1.out.cells
  have HZ := Lib.hid (show EvRow (w1.setCell ⟨w.heap.size, 7, none⟩ (.slice A' e.hs.length c')) (w.heap.size + 1) ev0 (.slice none 0 0) from HZ.out.keep (Below.heap_setCell _ _ _ _ (by simp)))
  clear hh hb
  go_wp2_with (first | (refine wpList_store_ev rfl (.tmp 2) (.tmp 9) rfl _ _ _ HZ.out e _ rfl rfl rfl ?_; intro w2 hF hB hO; have HF := Lib.hid hF; have HB2 := Lib.hid hB; have HO := Lib.hid hO; clear hF hB hO))
  obtain ⟨c0, c1, c2, c3, c4, c5, c6, c7, c8⟩ := HF.out.cells
  refine bodyPost_ret (v := evv e (.slice A' e.hs.length c')) (by simp [results, Try.results26, go_sem, c0, c1, c2, c3, c4, c5, c6, c7, c8]) rfl ⟨_, rfl, ?_, ?_⟩
  · have h1 := HH.out
    simp only [World.size_alloc] at h1
    exact h1.keepLo (by rw [HO.out.1]; simp [World.setCell]) (by omega) fun j hj => by
      rw [HO.out.2 _ (by omega)]
      exact Below.heap_setCell _ _ _ _ (by simp; omega)
  · exact HB2.out _ _ ((below_then HB0.out (Nat.le_refl _) HB.out).setCell (p := ⟨w.heap.size, 7, none⟩) (Nat.le_refl _) _) (by omega)
end Go.Proofs.Ytlalbfpdelfnfaa
