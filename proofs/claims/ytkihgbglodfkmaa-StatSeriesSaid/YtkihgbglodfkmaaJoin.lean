/-
  Layer 41: two series together: what Join makes of them, and what it leaves as it was. No condition but that both are series.
-/
import Derived.Test.YtkihgbglodfkmaaKinds
namespace Go.Proofs.Ytkihgbglodfkmaa
open Go.RowKit
set_option linter.unusedVariables false
attribute [local go_sem ↓] Go.wp_at_zero Go.wp_at_succ

section
variable {P : Program}
/-- An append of a whole slice to a slice anywhere in its row, or to none. -/
theorem run_append_any (w : World) (B : Nat) (t ty e : TypeId) (i : TypeInfo) (z : Value) (ht : P.underlying t = some (.slice e)) (hi : P.info? e = some i) (hz : i.zero = some z) (hsize : i.size = 1)
    (hby : i.bytes ≤ 1000) (hzs : z.cells.size = 1) (v : Value) (n : Nat) (xs : List Value) (h : Row w B e v n xs) (x : Value) (m : Nat) (ys : List Value) (hs : Src P 1 t x m ys w)
    (hn : n + m ≤ 1000000000) (hB : B ≤ w.heap.size) :
    ∃ A' c' w', (Builtin.append_ #[t, t] ty #[v, x]).run P w = .ok (.slice A' (n + m) c') w' ∧ Row w' B e (.slice A' (n + m) c') (n + m) (xs ++ ys) ∧ w.grownBy w' v.ownBlock ∧
      ∀ k, (Value.slice A' (n + m) c').ownBlock = some k → v.ownBlock = some k ∨ w.heap.size ≤ k := by
  have hl := h.1
  have hlen : (xs ++ ys).length = n + m := by rw [List.length_append, hl, hs.newsLen, Nat.mul_one]
  have hs' : Src P i.size t x m ys w := by rw [hsize]; exact hs
  have hyl : ys.length = m := by rw [hs.newsLen, Nat.mul_one]
  have grown : ∀ (base : Option Addr) (old : Nat), old < n + m → v = .slice base n old → (Builtin.firstCells i.size n (.slice base n old)).run P w.drew = .ok xs.toArray w.drew →
      ∃ A' c' w', (Builtin.append_ #[t, t] ty #[v, x]).run P w = .ok (.slice A' (n + m) c') w' ∧ Row w' B e (.slice A' (n + m) c') (n + m) (xs ++ ys) ∧ w.grownBy w' v.ownBlock ∧
      ∀ k, (Value.slice A' (n + m) c').ownBlock = some k → v.ownBlock = some k ∨ w.heap.size ≤ k := by
    intro base old ho hv hold
    have hm : (n + m) * i.bytes ≤ 140737488355328 * 8 := Nat.le_trans (Nat.mul_le_mul hn hby) (by decide)
    have hr := run_append_grow_src (P := P) (w := w) t t ty e i z ht hi hz base n old xs hold x m ys hs' (by omega) (by omega) (growslice_fits (by omega) (Nat.le_trans (Nat.mul_le_mul hn hby) (by decide)))
    have hge := grownCap_ge w (n + m) old e
    have hcm : grownCap w (n + m) old e ≤ maxLen := grownCap_le_maxLen w (n + m) old e (by unfold maxLen; omega)
    subst hv
    refine ⟨_, _, _, hr, ⟨hlen, .inr ⟨w.heap.size, 0, _, _, rfl, hB, heap_alloc_new w.drew _, hge, hcm, ?_, ?_⟩⟩, ⟨rfl, rfl, rfl, by simp, fun k hk _ => Below.heap_alloc w.drew _ k hk⟩, fun k hk => .inr ?_⟩
    · simp only [Array.size_append, List.size_toArray, size_zeroCells, hzs, hlen]
      omega
    · intro j u hj
      have hlt : j < (xs ++ ys).length := by
        rcases Nat.lt_or_ge j (xs ++ ys).length with hl | hl
        · exact hl
        · rw [List.getElem?_eq_none hl] at hj
          cases hj
      rw [Nat.zero_add, Array.getElem?_append_left (by simpa using hlt)]
      simpa using hj
    · simp [Value.ownBlock] at hk
      omega
  rcases h.2 with ⟨rfl, rfl⟩ | ⟨g, off, cap, cur, rfl, hb, hg, hc1, hc2, hc3, hx⟩
  · have hx : xs = [] := List.eq_nil_of_length_eq_zero h.1
    subst hx
    rcases Nat.eq_zero_or_pos m with hm | hm
    · subst hm
      have hy : ys = [] := List.eq_nil_of_length_eq_zero hyl
      subst hy
      refine ⟨none, 0, w, ?_, Row.nil_ _ _ _, ⟨rfl, rfl, rfl, Nat.le_refl _, fun _ _ _ => rfl⟩, fun k hk => by simp [Value.ownBlock] at hk⟩
      rcases hs'.kind with ⟨e', hk⟩ | hk <;> simp [Builtin.append_, run_underlying ht, sizeOf, typeInfo, hi, hs'.len, hs'.cells]
    · exact grown none 0 (by omega) rfl (run_firstCells_none w.drew i.size 0 0 0)
  · by_cases hroom : n + m ≤ cap
    · have hcell : ∀ j, w.cell? ⟨g, j, none⟩ = cur[j]? := fun j => cell_of_row w g j cur e (0, 0) hg
      have hr := run_append_room_src (P := P) (w := w) t t ty e i ht hi g off n cap x m ys hs' hroom
        (fun j hj => by
          rw [hcell, hsize, Array.getElem?_eq_getElem (by omega)]
          rfl)
        (fun j _ => by simp [World.frozen?, hg])
      rw [hsize, Nat.mul_one] at hr
      obtain ⟨cs', h1, h2, h3, h4⟩ := blk_sets ys (off + n) w cur hg
      refine ⟨_, _, _, hr, ⟨hlen, .inr ⟨g, off, cap, cs', rfl, hb, h1, hroom, hc2, by omega, fun j u hj => ?_⟩⟩, ⟨(World.os_setCells w g _ ys), ?_, World.output_setCells w g _ ys, ?_, fun k hk hne => World.heap_setCells_other w g _ ys hk fun e => hne (by simp [Value.ownBlock, e])⟩, fun k hk => .inl hk⟩
      · rcases Nat.lt_or_ge j n with hjn | hjn
        · rw [h3 _ (by omega)]
          rw [List.getElem?_append_left (by omega)] at hj
          exact hx j u hj
        · have hjl : j < n + m := by
            rcases Nat.lt_or_ge j (n + m) with hlt | hge
            · exact hlt
            · rw [List.getElem?_eq_none (by omega)] at hj
              cases hj
          rw [List.getElem?_append_right (by omega), hl] at hj
          have := h4 (j - n) u hj (by omega)
          rwa [show off + n + (j - n) = off + j by omega] at this
      · exact run_append_rows.tape_sets g ys (off + n) w
      · exact run_append_rows.size_sets g ys (off + n) w
    · refine grown (some ⟨g, off, none⟩) cap (by omega) rfl ?_
      refine run_firstCells_some w.drew i.size n ⟨g, off, none⟩ n cap xs (by rw [hsize, hl, Nat.mul_one]) (fun j u' hj => ?_)
      rw [Addr.add_lit]
      show w.cell? ⟨g, off + j, none⟩ = some u'
      rw [cell_of_row w g _ cur e (0, 0) hg]
      exact hx j u' hj
end

/-- A series, with its slice. -/
structure SerAt (w : World) (g : Nat) (A : Option Addr) (cap : Nat) (xs : List Nat) : Prop where
  few : xs.length ≤ 10000
  blk : w.heap[g]? = some (.cells #[.slice A xs.length cap] 56 (0, 0))
  row : Row w 0 28 (.slice A xs.length cap) xs.length (xs.map fl)
theorem Ser.at_ {w : World} {B g : Nat} {xs : List Nat} (h : Ser w B g xs) : ∃ A cap, SerAt w g A cap xs ∧ B ≤ g ∧ ∀ k, (Value.slice A xs.length cap).ownBlock = some k → B ≤ k := by
  obtain ⟨h1, h2, A, cap, hg, hr⟩ := h
  exact ⟨A, cap, ⟨h2, hg, hr.base (Nat.zero_le _)⟩, h1, fun k hk => (hr.lt k hk).1⟩
theorem SerAt.ser {w : World} {g : Nat} {A : Option Addr} {cap : Nat} {xs : List Nat} (h : SerAt w g A cap xs) : Ser w 0 g xs := ⟨Nat.zero_le _, h.few, A, cap, h.blk, h.row⟩
theorem SerAt.keep {w w' : World} {g : Nat} {A : Option Addr} {cap : Nat} {xs : List Nat} (h : SerAt w g A cap xs) (h1 : w'.heap[g]? = w.heap[g]?) (h2 : ∀ k, (Value.slice A xs.length cap).ownBlock = some k → w'.heap[k]? = w.heap[k]?) : SerAt w' g A cap xs :=
  ⟨h.few, h1.trans h.blk, h.row.keep h2⟩
theorem SerAt.below {w w' : World} {g : Nat} {A : Option Addr} {cap : Nat} {xs : List Nat} (h : SerAt w g A cap xs) (hb : Below w.heap.size w w') : SerAt w' g A cap xs :=
  h.keep (hb.block g (blk_lt h.blk)) fun k hk => hb.block k (h.row.lt k hk).2
/-- A world in which a block, and a row, may have turned, and in which new blocks lie. -/
structure Touch (w w' : World) (g : Nat) (ro : Option Nat) : Prop where
  os : w'.os = w.os
  tape : w'.tape = w.tape
  output : w'.output = w.output
  size : w.heap.size ≤ w'.heap.size
  block : ∀ k, k < w.heap.size → k ≠ g → ro ≠ some k → w'.heap[k]? = w.heap[k]?
theorem Touch.below {w w' : World} {g B : Nat} {ro : Option Nat} (h : Touch w w' g ro) (hB : B ≤ w.heap.size) (hg : B ≤ g) (hr : ∀ k, ro = some k → B ≤ k) : Below B w w' :=
  ⟨h.os, h.tape, h.output, h.size, fun k hk => h.block k (by omega) (by omega) (fun e => by have := hr k e; omega)⟩

theorem Clone_any {w : World} {B : Nat} {A : Option Addr} {cap : Nat} {xs : List Nat} (h : Nums w B A cap xs) (hn : xs.length ≤ 1000000) :
    Calls Try.prog 38 #[.slice A xs.length cap] w fun e w' => ∃ A' c', e = .returned (.slice A' xs.length c') ∧ Nums w' w.heap.size A' c' xs ∧ Below w.heap.size w w' := by
  rcases h.2 with ⟨h0, h1⟩ | ⟨g, off, cap', cur, hv, hb, hg, hc1, hc2, hc3, hx⟩
  · have hxs : xs = [] := List.eq_nil_of_length_eq_zero h1
    subst hxs
    cases h0
    refine (Try.slices_Clone_nil 0 0 w).mono ?_
    rintro e w' ⟨rfl, rfl⟩
    exact ⟨none, 0, rfl, Row.nil_ _ _ _, Below.refl _ _⟩
  · cases hv
    obtain ⟨i, hi, hz0, hz1, hz2⟩ := info_parts infoF
    refine (Try.slices_Clone i (.float .f64 0) 1 8 hi hz0 hz1 hz2 rfl (by decide) Try.sizeOf28 g off xs.length cap (xs.map fl) w (by simp) (by unfold maxLen; omega) (by omega) (fun j u hu => ?_) fl_one).mono ?_
    · rw [cell_of_row w g _ cur 28 (0, 0) hg]
      exact hx j u hu
    · rintro e w' ⟨v', rfl, hown, _, hb2⟩
      obtain ⟨A', c', rfl⟩ := own_slice hown
      exact ⟨A', c', rfl, own_row hown, hb2⟩

theorem Join_nil (o : Option Addr) (w : World) : Calls Try.prog 20 #[.pointer none, .pointer o] w fun e w' => e = .returned (.int .i64 1) ∧ w = w' := by
  go_enter Try.func20, Try.ntmps20
  go_wp2
  go_ret
  exact ⟨rfl, rfl⟩
theorem Join_none (g : Nat) (w : World) : Calls Try.prog 20 #[.pointer (some ⟨g, 0, none⟩), .pointer none] w fun e w' => e = .returned (.int .i64 1) ∧ w = w' := by
  go_enter Try.func20, Try.ntmps20
  go_wp2
  go_ret
  exact ⟨rfl, rfl⟩
theorem Join_full {w : World} {g g2 : Nat} {A A2 : Option Addr} {cap cap2 : Nat} {xs ys : List Nat} (h : SerAt w g A cap xs) (h2 : SerAt w g2 A2 cap2 ys) (hf : 10000 < xs.length + ys.length) :
    Calls Try.prog 20 #[.pointer (some ⟨g, 0, none⟩), .pointer (some ⟨g2, 0, none⟩)] w fun e w' => e = .returned (.int .i64 3) ∧ ∃ q, w' = w.drewN q := by
  have c0 : w.cell? ⟨g, 0, none⟩ = some (.slice A xs.length cap) := cell_of_row w g 0 _ _ _ h.blk
  have c1 : w.cell? ⟨g2, 0, none⟩ = some (.slice A2 ys.length cap2) := cell_of_row w g2 0 _ _ _ h2.blk
  have hl1 := h.few
  have hl2 := h2.few
  obtain ⟨n, hN⟩ : ∃ n, xs.length = n := ⟨_, rfl⟩
  obtain ⟨m, hM⟩ : ∃ m, ys.length = m := ⟨_, rfl⟩
  rw [hN] at c0 hl1 hf
  rw [hM] at c1 hl2 hf
  clear h h2 hN hM
  have e1 : IntKind.i64.wrap (10000 - (n : Int)) = 10000 - (n : Int) := wrap_small _ (by omega) (by omega)
  have hlt : (10000 : Int) - (n : Int) < (m : Int) := by omega
  go_enter Try.func20, Try.ntmps20
  go_wp2
  go_quiet (fail)
  go_wp2
  go_ret
  exact ⟨rfl, _, rfl⟩

/-- The append behind the clone. -/
theorem join_run {w w2 : World} {g g2 : Nat} {A A2 A3 : Option Addr} {cap cap2 c3 n m q : Nat} {xs ys : List Nat} (hN : xs.length = n) (hM : ys.length = m) (h : SerAt w g A cap xs) (hh : SerAt w g2 A2 cap2 ys) (hb : Below w.heap.size (w.drewN q) w2) (hr : Nums w2 w.heap.size A3 c3 ys) (hs : n + m ≤ 10000) :
    ∃ A' c' w3, (Builtin.append_ #[23, 23] 23 #[.slice A n cap, .slice A3 m c3]).run Try.prog w2 = .ok (.slice A' (n + m) c') w3 ∧
      w2.cell? ⟨g, 0, none⟩ = some (.slice A n cap) ∧ w3.cell? ⟨g, 0, none⟩ = some (.slice A n cap) ∧ w3.frozen? ⟨g, 0, none⟩ = false ∧ w2.cell? ⟨g2, 0, none⟩ = some (.slice A2 m cap2) ∧ w3.cell? ⟨g2, 0, none⟩ = some (.slice A2 m cap2) ∧
      Hid (SerAt (w3.setCell ⟨g, 0, none⟩ (.slice A' (n + m) c')) g A' c' (xs ++ ys) ∧ Touch w (w3.setCell ⟨g, 0, none⟩ (.slice A' (n + m) c')) g (Value.slice A n cap).ownBlock ∧
        ∀ k, (Value.slice A' (xs ++ ys).length c').ownBlock = some k → (Value.slice A n cap).ownBlock = some k ∨ w.heap.size ≤ k) := by
  subst hN hM
  obtain ⟨i, hi, hz0, hz1, hz2⟩ := info_parts infoF
  have hb0 : Below w.heap.size w w2 := (below_drewN (Below.refl _ _) q).trans hb
  have h2 := h.below hb0
  obtain ⟨A', c', w3, hrun, hr3, hg3, hown⟩ := run_append_any w2 0 23 23 28 i (.float .f64 0) Try.underlying23 hi hz0 hz1 (by omega) rfl _ _ _ h2.row _ _ _ (Row.src hr Try.underlying23 fl_one) (by omega) (Nat.zero_le _)
  have hap := h2.row.apart h2.blk (by decide)
  have hg : w3.heap[g]? = _ := (hg3.block g (blk_lt h2.blk) (fun e => hap e.symm)).trans h2.blk
  have hh2 := hh.below hb0
  have hap2 := h2.row.apart hh2.blk (by decide)
  have hg2 : w3.heap[g2]? = _ := (hg3.block g2 (blk_lt hh2.blk) (fun e => hap2 e.symm)).trans hh2.blk
  have hl : (xs ++ ys).length = xs.length + ys.length := List.length_append
  refine ⟨A', c', w3, hrun, cell_of_row w2 g 0 _ _ _ h2.blk, cell_of_row w3 g 0 _ _ _ hg, blk_frozen hg 0, cell_of_row w2 g2 0 _ _ _ hh2.blk, cell_of_row w3 g2 0 _ _ _ hg2, ⟨by rw [hl]; exact hs, ?_, ?_⟩, ⟨?_, ?_, ?_, ?_, ?_⟩, ?_⟩
  · rw [blk_set hg 0, hl]
    simp
  · rw [hl, List.map_append]
    exact hr3.setCell (p := ⟨g, 0, none⟩) (hr3.apart hg (by decide)) _
  · exact (show w3.os = w.os from hg3.os.trans hb0.os)
  · exact (show w3.tape = w.tape from hg3.tape.trans hb0.tape)
  · exact (show w3.output = w.output from hg3.output.trans hb0.output)
  · have e : (w3.setCell ⟨g, 0, none⟩ (.slice A' (xs.length + ys.length) c')).heap.size = w3.heap.size := by simp [World.setCell]
    rw [e]
    exact Nat.le_trans hb0.size hg3.size
  · intro k hk hne hro
    rw [Below.heap_setCell w3 _ _ k (by intro e; exact hne (show k = g from e))]
    exact (hg3.block k (Nat.lt_of_lt_of_le hk hb0.size) (fun e => hro e.symm)).trans (hb0.block k hk)
  · intro k hk
    rw [hl] at hk
    rcases hown k hk with h1 | h1
    · exact .inl h1
    · exact .inr (Nat.le_trans hb0.size h1)

set_option maxHeartbeats 2000000 in
theorem Join_room {w : World} {g g2 : Nat} {A A2 : Option Addr} {cap cap2 : Nat} {xs ys : List Nat} (h : SerAt w g A cap xs) (h2 : SerAt w g2 A2 cap2 ys) (hf : xs.length + ys.length ≤ 10000) :
    Calls Try.prog 20 #[.pointer (some ⟨g, 0, none⟩), .pointer (some ⟨g2, 0, none⟩)] w fun e w' => e = .returned (.int .i64 0) ∧ ∃ A' c', SerAt w' g A' c' (xs ++ ys) ∧ Touch w w' g (Value.slice A xs.length cap).ownBlock ∧
        ∀ k, (Value.slice A' (xs ++ ys).length c').ownBlock = some k → (Value.slice A xs.length cap).ownBlock = some k ∨ w.heap.size ≤ k := by
  have c0 : w.cell? ⟨g, 0, none⟩ = some (.slice A xs.length cap) := cell_of_row w g 0 _ _ _ h.blk
  have c1 : w.cell? ⟨g2, 0, none⟩ = some (.slice A2 ys.length cap2) := cell_of_row w g2 0 _ _ _ h2.blk
  have HC := fun q => Lib.hid (Clone_any (w := w.drewN q) (B := 0) (A := A2) (cap := cap2) (xs := ys) (h2.row.keep fun _ _ => rfl) (Nat.le_trans h2.few (by decide)))
  have HS := Lib.hid h
  have HS2 := Lib.hid h2
  have hl1 := h.few
  have hl2 := h2.few
  obtain ⟨n, hN⟩ : ∃ n, xs.length = n := ⟨_, rfl⟩
  obtain ⟨m, hM⟩ : ∃ m, ys.length = m := ⟨_, rfl⟩
  have HN := Lib.hid hN
  have HM := Lib.hid hM
  rw [hN] at c0 hl1 hf ⊢
  rw [hM] at c1 hl2 hf HC
  have HF := Lib.hid hf
  clear h h2 hN hM
  have e1 : IntKind.i64.wrap (10000 - (n : Int)) = 10000 - (n : Int) := wrap_small _ (by omega) (by omega)
  have hlt : ¬ (10000 : Int) - (n : Int) < (m : Int) := by omega
  have hle : (m : Int) ≤ (10000 : Int) - (n : Int) := by omega
  clear hf
  go_enter Try.func20, Try.ntmps20
  go_wp2
  go_quiet (fail)
  go_wp2
  go_region_law (first
    | ((with_reducible refine step_append_run ?_ (.tmp 29) (.tmp 34) 23 ?_ _ _ _ _ ?_ ?_ HRUN.out ?_); rfl; rfl; rfl; rfl)
    | (go_simp; go_at_call 38; refine (HC _).out.mono ?_; rintro e w2 ⟨A3, c3, rfl, hr, hb⟩; obtain ⟨A', c', w3, hrun, d0, d1, d2, d3, d4, hfin⟩ := join_run HN.out HM.out HS.out HS2.out hb hr HF.out; have HFIN := Lib.hid hfin; have HRUN := Lib.hid hrun; clear hr hb hrun hfin))
  all_goals go_wp2
  all_goals go_ret
  all_goals exact ⟨rfl, _, _, HFIN.out.out.1, HFIN.out.out.2.1, HFIN.out.out.2.2⟩
end Go.Proofs.Ytkihgbglodfkmaa
