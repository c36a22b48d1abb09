/-
  Layer 41: what was told in all, by the program. No condition but that the list is no longer than thirty, and the texts are not long.
-/
import Derived.Test.YtkihgbglodfkmaaGreatSortS
import Derived.Deep.DeepCutAuto
import Derived.Deep.CutBlock
namespace Go.Proofs.YtkihgbglodfkmaaGreat
open Go.RowKit Go.Maps Go.Sort
set_option linter.unusedVariables false

theorem why_any (e : Ou) (w : World) : Calls Tryz.prog 25 #[ouv e] w fun o w' => o = .returned (.bool (whyB e)) ∧ Below w.heap.size w w' := by
  have hb : Below w.heap.size w (w.alloc (.cells #[.int .i64 e.k, .int .i64 e.id, .int .i64 e.st, .slice e.ha e.hn e.hc, .string e.body, .string e.rs] 48)) := (Below.refl _ _).alloc (Nat.le_refl _) _
  have HB := Lib.hid hb
  have HW : Hid (whyB e = (e.k == 4 || e.k == 5 || e.k == 6)) := by
    unfold Hid whyB
    rw [Bool.eq_iff_iff]
    simp
    omega
  change Calls Tryz.prog 25 #[.agg #[.int .i64 e.k, .int .i64 e.id, .int .i64 e.st, .slice e.ha e.hn e.hc, .string e.body, .string e.rs]] w _
  clear hb
  obtain ⟨k4, h4⟩ : ∃ b, (e.k == 4) = b := ⟨_, rfl⟩
  obtain ⟨k5, h5⟩ : ∃ b, (e.k == 5) = b := ⟨_, rfl⟩
  obtain ⟨k6, h6⟩ : ∃ b, (e.k == 6) = b := ⟨_, rfl⟩
  rw [h4, h5, h6] at HW
  rw [HW.out]
  clear HW
  cases k4
  · cases k5
    · go_enter Tryz.func25, Tryz.ntmps25
      go_wp2
      go_ret
      exact ⟨rfl, HB.out⟩
    · go_enter Tryz.func25, Tryz.ntmps25
      go_wp2
      go_ret
      exact ⟨rfl, HB.out⟩
  · go_enter Tryz.func25, Tryz.ntmps25
    go_wp2
    go_ret
    exact ⟨rfl, HB.out⟩

theorem infoC : (Tryz.prog.info? 61).map (fun i => (i.zero, i.size, i.bytes)) = some (some (.agg #[.string ⟨#[]⟩, .int .i64 0]), 2, 24) := by kernel_rfl
theorem info30 : (Tryz.prog.info? 30).map (·.size) = some 9 := by kernel_rfl
theorem row_base {w : World} {B B' n : Nat} {e : TypeId} {v : Value} {xs : List Value} (h : Row w B e v n xs) (hb : B' ≤ B) : Row w B' e v n xs :=
  ⟨h.1, h.2.imp id fun ⟨g, off, cap, cur, hv, h1, rest⟩ => ⟨g, off, cap, cur, hv, Nat.le_trans hb h1, rest⟩⟩
/-- What an append to a row leaves. -/
theorem keepsO {w w' : World} {B n k : Nat} {e : TypeId} {v : Value} {xs : List Value} (h : Rk w B e k v n xs) (hg : w.grownBy w' v.ownBlock) {j : Nat} {o : Obj} (hj : w.heap[j]? = some o) (hne : ∀ cs m, o ≠ .cells cs e m) : w'.heap[j]? = some o := by
  refine (hg.block j (blk_lt hj) fun e' => ?_).trans hj
  rcases h.2 with ⟨rfl, _⟩ | ⟨g2, off2, cap2, cur2, rfl, _, hb2, _⟩
  · simp [Value.ownBlock] at e'
  · simp [Value.ownBlock] at e'
    subst e'
    rw [hj] at hb2
    exact hne _ _ (Option.some.inj hb2)
theorem keeps61 {w w' : World} {B n k : Nat} {e : TypeId} {v : Value} {xs : List Value} (h : Rk w B e k v n xs) (hg : w.grownBy w' v.ownBlock) {g b : Nat} {es : List Ou} {u : Value} (hs : SmRow w g es b u) (hne : (30 : TypeId) ≠ e) : SmRow w' g es b u :=
  keepsO h hg hs fun cs m h => by
    injection h with _ h
    exact hne h
theorem rk_ne {w : World} {B n k : Nat} {e : TypeId} {v : Value} {xs : List Value} (h : Rk w B e k v n xs) {g b : Nat} {es : List Ou} {u : Value} (hs : SmRow w g es b u) (hne : (30 : TypeId) ≠ e) : v.ownBlock ≠ some g := fun e' => by
  rcases h.2 with ⟨rfl, _⟩ | ⟨g2, off2, cap2, cur2, rfl, _, hb2, _⟩
  · simp [Value.ownBlock] at e'
  · simp [Value.ownBlock] at e'
    subst e'
    unfold SmRow at hs
    rw [hs] at hb2
    have h2 := Option.some.inj hb2
    injection h2 with _ h2
    exact hne h2
theorem row_keep {w w' : World} {B B2 n n2 k : Nat} {e e2 : TypeId} {v v2 : Value} {xs ys : List Value} (h : Rk w B e k v n xs) (hg : w.grownBy w' v.ownBlock) (hr : Row w B2 e2 v2 n2 ys) (hne : e2 ≠ e) : Row w' B2 e2 v2 n2 ys := by
  refine ⟨hr.1, ?_⟩
  rcases hr.2 with h0 | ⟨g, off, cap, cur, hv, hb, hg2, rest⟩
  · exact .inl h0
  · refine .inr ⟨g, off, cap, cur, hv, hb, keepsO h hg hg2 fun cs m h => ?_, rest⟩
    injection h with _ h
    exact hne h
theorem row_set {w : World} {B2 n2 : Nat} {e2 : TypeId} {v2 : Value} {ys : List Value} (hr : Row w B2 e2 v2 n2 ys) {g b j : Nat} {es : List Ou} {u : Value} (hs : SmRow w g es b u) (hne : e2 ≠ 30) (x : Value) : Row (w.setCell ⟨g, j, none⟩ x) B2 e2 v2 n2 ys := by
  refine ⟨hr.1, ?_⟩
  rcases hr.2 with h0 | ⟨g2, off, cap, cur, hv, hb, hg2, rest⟩
  · exact .inl h0
  · refine .inr ⟨g2, off, cap, cur, hv, hb, (Below.heap_setCell _ _ _ _ fun e => ?_).trans hg2, rest⟩
    simp at e
    subst e
    unfold SmRow at hs
    rw [hs] at hg2
    have h2 := Option.some.inj hg2
    injection h2 with _ h2
    exact hne h2.symm
theorem wpList_store_sm {ops : Array Oper} {rest : List Oper} {o : Oper} {a : Act} {w : World} {Q : Exit → Act → World → Prop} (hgd : o.guard = none) (x y : Operand) (ho : o.op = .store 30 x y)
    (g : Nat) (es0 : List Ou) (b0 : Nat) (v0 : Value) (hF : SmRow w g es0 b0 v0) (es : List Ou) (b : Nat) (v : Value) (hv : v.oneCell' = true) (hx : a.eval x = .pointer (some ⟨g, 0, none⟩)) (hy : a.eval y = .agg (sumc (kcO es 0) (kcO es 1) (kcO es 2) (kcO es 3) (kcO es 4) (kcO es 5) (kcO es 6) b v))
    (h : ∀ w2, SmRow w2 g es b v → (∀ B a, Below B a w → B ≤ g → Below B a w2) → (w2.heap.size = w.heap.size ∧ ∀ j, j ≠ g → w2.heap[j]? = w.heap[j]?) → wpList Tryz.prog ops Q rest (a.put o.dst undef) w2) : wpList Tryz.prog ops Q (o :: rest) a w :=
  wpList_store_row hgd 30 x y ho g _ hx hy 30 _ hF info30 rfl (by simp [sumc]; exact ⟨rfl, rfl, rfl, rfl, rfl, rfl, rfl, rfl, hv⟩) (h _ (setRow_heap w g _ _ 30 (0, 0) hF) (fun B a hb hg => below_setRow hb hg _) ⟨setRow_size w g _, fun j hj => setRow_other w g j _ hj⟩)

set_option maxRecDepth 100000 in
set_option maxHeartbeats 8000000 in
theorem Sums_any {w : World} {lo n : Nat} {v : Value} {es : List Ou} (h : Os w lo v n es) (hn : n ≤ 30) (hbs : ∀ e ∈ es, e.body.size ≤ 40) (hrs : ∀ e ∈ es, e.rs.size ≤ 20) :
    Calls Tryz.prog 7 #[v] w fun o w' => ∃ A c ws, o = .returned (.agg (sumc (kcO es 0) (kcO es 1) (kcO es 2) (kcO es 3) (kcO es 4) (kcO es 5) (kcO es 6) (byO es) (.slice A (List.length ws) c))) ∧ Rk w' w.heap.size 61 2 (.slice A ws.length c) ws.length ((whyL ws es).flatMap ctc) ∧ ws.length ≤ n ∧ UpS ws (rW es) ∧ Below w.heap.size w w' := by
  have HH := Lib.hid (h.base (Nat.zero_le _))
  have HN := Lib.hid h.1
  have HBS := Lib.hid hbs
  have HRS := Lib.hid hrs
  obtain ⟨A0, c0, rfl⟩ := h.slice
  have hmm := @run_makeMap Tryz.prog
  clear h hbs hrs
  go_enter Tryz.func7, Tryz.ntmps7
  go_wp2
  clear hmm
  go_loopw [12] (fun iv wr => ∃ i : Nat, iv = .int .i64 i ∧ i ≤ n ∧ Hid (SmRow wr (w.heap.size + 1) (es.take i) (byO (es.take i)) (.slice none 0 0)) ∧ Hid (WMap wr (w.heap.size + 2) i (es.take i)) ∧ Hid (SmRow wr w.heap.size [] 0 (.slice none 0 0)) ∧ Hid (Below w.heap.size w wr)) (fun iv _ => n - (intOf iv).toNat)
  case atStart =>
    refine ⟨0, rfl, Nat.zero_le _, Lib.hid ?_, Lib.hid ⟨.map [], ?_, fun b => rfl, fun b => rfl⟩, Lib.hid ?_, Lib.hid ((((Below.refl _ _).alloc (Nat.le_refl _) _).alloc (by simp) _).alloc (by simp; omega) _)⟩
    · refine (Below.heap_alloc _ _ _ (by simp)).trans ?_
      have := SmRow.zero (w.alloc (.cells #[.int .i64 0, .int .i64 0, .int .i64 0, .int .i64 0, .int .i64 0, .int .i64 0, .int .i64 0, .int .i64 0, .slice none 0 0] 30))
      rwa [World.size_alloc] at this
    · have := World.ownsMap_made ((w.alloc (.cells #[.int .i64 0, .int .i64 0, .int .i64 0, .int .i64 0, .int .i64 0, .int .i64 0, .int .i64 0, .int .i64 0, .slice none 0 0] 30)).alloc (.cells #[.int .i64 0, .int .i64 0, .int .i64 0, .int .i64 0, .int .i64 0, .int .i64 0, .int .i64 0, .int .i64 0, .slice none 0 0] 30)) Tryz.prog 9 (plainElem (H := Unit) Tryz.prog 3)
      rwa [World.size_alloc, World.size_alloc] at this
    · exact (Below.heap_alloc _ _ _ (by simp; omega)).trans ((Below.heap_alloc _ _ _ (by simp)).trans (SmRow.zero w))
  case round =>
    obtain ⟨i, rfl, hi, HSM, HWM, HZR, HB⟩ := hrel
    by_cases hl : i < n
    · obtain ⟨g, off, hix, rfl, hc1, hc2, hg, he0⟩ := HH.out.get hl
      have he := OuAt.below he0 (HB.out.mono (Nat.le_refl _))
      clear he0
      unfold maxLen at hc2
      have HT : Hid (es.take (i + 1) = es.take i ++ [es[i]]) := List.take_succ_eq_append_getElem hix
      have HLT : Hid (i ≤ 30 ∧ (es.take i).length ≤ 30) := by unfold Hid; rw [List.length_take]; omega
      have hbe := HBS.out _ (List.getElem_mem hix)
      have HRE := Lib.hid (HRS.out _ (List.getElem_mem hix))
      have hby := byO_le (es.take i) (fun e he => HBS.out e (List.mem_of_mem_take he))
      generalize es[i]'hix = e at he HT hbe HRE
      generalize hTT : es.take i = T at *
      clear hTT
      have hby2 : byO T ≤ 1200 := by have := HLT.out; omega
      have HZ := Lib.hid (OuRow.zero wr)
      obtain ⟨d0, d1, d2, d3, d4, d5⟩ := he
      obtain ⟨L, hL⟩ : ∃ L, e.body.size = L := ⟨_, rfl⟩
      have HLL := Lib.hid hL
      obtain ⟨b, hb⟩ : ∃ b, byO T = b := ⟨_, rfl⟩
      have HBY := Lib.hid hb
      rw [hb] at HSM hby2
      obtain ⟨g1, hg1⟩ : ∃ g1, w.heap.size + 1 = g1 := ⟨_, rfl⟩
      have hmb : w.heap.size + 2 = g1 + 1 := by omega
      rw [hg1] at HSM
      rw [hmb] at HWM
      have HGE : Hid (w.heap.size < g1 ∧ g1 < wr.heap.size ∧ w.heap.size < g1 + 1 ∧ g1 + 1 ≠ g1 ∧ g1 + 1 < wr.heap.size) := by unfold Hid; have := blk_lt HSM.out; have := HWM.out.lt; omega
      have hne1 : ¬ g1 = wr.heap.size := by have := HGE.out; omega
      have hne2 : ¬ wr.heap.size = g1 := by have := HGE.out; omega
      obtain ⟨kn, hkn⟩ : ∃ kn, kdO e = kn := ⟨_, rfl⟩
      have hk7 : kn < 7 := by rw [← hkn]; exact kdO_lt e
      have hkc := kcO_le T kn
      have HKN := Lib.hid hkn
      have HMB : Hid (w.heap.size + 2 = g1 + 1) := hmb
      clear hmb
      have HCK : Hid (kcO T kn ≤ 30) := by unfold Hid; have := HLT.out; omega
      clear hix hg hby hkc hb
      by_cases hin : 1 ≤ e.k ∧ e.k ≤ 6
      · have hek : e.k = (kn : Int) := by rw [← hkn]; unfold kdO; rw [if_pos ⟨by omega, hin.2⟩]; omega
        have HEK := Lib.hid hek
        have i1 : (1 : Int) ≤ (kn : Int) := by omega
        have i2 : (kn : Int) ≤ 6 := by omega
        have i3 : (0 : Int) ≤ (kn : Int) := by omega
        have i4 : (kn : Int) < 7 := by omega
        by_cases h2 : e.k = 2
        · have HK2 := Lib.hid h2
          have hk2 : ((kn : Int) == 2) = true := by simp; omega
          have HWB : Hid (whyB e = false) := by unfold Hid whyB; simp; omega
          have hby3 : b + L ≤ 1240 := by omega
          clear h2 hin hkn hek
          go_upto_region 9 with (first | (refine wpList_store_ou rfl (.tmp 6) (.tmp 15) rfl _ _ HZ.out e rfl rfl ?_; intro w2 hF hB hO; have HBW := Lib.hid (hB wr.heap.size wr ((Below.refl _ _).alloc (Nat.le_refl _) _) (Nat.le_refl _)); have HOR := Lib.hid hF; clear d0 d1 d2 d3 d4 d5; obtain ⟨x0, x1, x2, x3, x4, x5⟩ := hF.cells; rw [HEK.out] at x0; have HS2 := Lib.hid (SmRow.below HSM.out HBW.out); have hck := HS2.out.kind hk7; have hfr := HS2.out.frozen kn; have HM := Lib.hid (HS2.out.more HKN.out); have hc30 := HCK.out; generalize kcO T kn = cc at hck HM hc30; clear hF hB hO))
          obtain ⟨W1, hW1⟩ : ∃ W1, w2.setCell ⟨g1, kn, none⟩ (.int .i64 ((cc : Int) + 1)) = W1 := ⟨_, rfl⟩
          rw [hW1] at HM ⊢
          have HO1 : Hid (OuRow W1 wr.heap.size e) := by unfold Hid; rw [← hW1]; exact HOR.out.keep (Below.heap_setCell _ _ _ _ hne2)
          have HB1 : Hid (Below w.heap.size w W1) := by unfold Hid; rw [← hW1]; exact (below_then HB.out (Nat.le_refl _) HBW.out).setCell (p := ⟨g1, kn, none⟩) (Nat.le_of_lt HGE.out.1) _
          have HW1 : Hid (WMap W1 (g1 + 1) i T) := by unfold Hid; rw [← hW1]; exact HWM.out.keep ((Below.heap_setCell _ _ _ _ HGE.out.2.2.2.1).trans (HBW.out.block _ HWM.out.lt))
          have HZ1 : Hid (SmRow W1 w.heap.size [] 0 (.slice none 0 0)) := by unfold Hid; rw [← hW1]; exact (Below.heap_setCell _ _ _ _ (by have := HGE.out; simp <;> omega)).trans ((HBW.out.block _ (blk_lt HZR.out)).trans HZR.out)
          have HSZ1 : Hid (wr.heap.size ≤ W1.heap.size) := by unfold Hid; rw [← hW1]; simpa [World.setCell] using HBW.out.size
          clear hW1 hck hfr hc30 HS2 HOR HBW x0 x1 x2 x3 x4 x5
          obtain ⟨x0, x1, x2, x3, x4, x5⟩ := HO1.out.cells
          rw [HEK.out] at x0
          have hy7 := HM.out.bytes
          have f7 := HM.out.frozen 7
          skip
          go_upto_region 11 with fail
          obtain ⟨W2, hW2⟩ : ∃ W2, W1.setCell ⟨g1, 7, none⟩ (.int .i64 ((b : Int) + (L : Int))) = W2 := ⟨_, rfl⟩
          rw [hW2]
          have HM2 : Hid (SmRow W2 g1 (T ++ [e]) (byO (T ++ [e])) (.slice none 0 0)) := by unfold Hid; rw [← hW2, byO_snoc, if_pos HK2.out, HBY.out, HLL.out]; exact HM.out.setB (b + L)
          have HO2 : Hid (OuRow W2 wr.heap.size e) := by unfold Hid; rw [← hW2]; exact HO1.out.keep (Below.heap_setCell _ _ _ _ hne2)
          have HB2 : Hid (Below w.heap.size w W2) := by unfold Hid; rw [← hW2]; exact HB1.out.setCell (p := ⟨g1, 7, none⟩) (Nat.le_of_lt HGE.out.1) _
          have HW2 : Hid (WMap W2 (g1 + 1) i T) := by unfold Hid; rw [← hW2]; exact HW1.out.keep (Below.heap_setCell _ _ _ _ HGE.out.2.2.2.1)
          have HZ2 : Hid (SmRow W2 w.heap.size [] 0 (.slice none 0 0)) := by unfold Hid; rw [← hW2]; exact (Below.heap_setCell _ _ _ _ (by have := HGE.out; simp <;> omega)).trans HZ1.out
          clear hW2
          clear x0 x1 x2 x3 x4 x5
          obtain ⟨x0, x1, x2, x3, x4, x5⟩ := HO2.out.cells
          have HWY := Lib.hid (why_any e W2)
          rw [HWB.out] at HWY
          go_wp2_with (go_at_call 25; refine HWY.out.mono ?_; rintro o w5 ⟨rfl, hb5⟩; have HB5 := Lib.hid hb5; clear hb5)
          subst hg1
          go_roundw
          case rel =>
            refine ⟨i + 1, by go_num, by omega, ?_, ?_, Lib.hid (SmRow.below HZ2.out HB5.out), Lib.hid (below_then HB2.out (Nat.le_refl _) HB5.out)⟩
            · unfold Hid; rw [HT.out]; exact SmRow.below HM2.out HB5.out
            · unfold Hid; rw [HMB.out, HT.out]; exact ((HW2.out.keep (HB5.out.block _ HW2.out.lt)).skip (by rw [HWB.out]; decide)).mono
          case measure => simp [intOf]; omega
        · have HK2 := Lib.hid h2
          have hk2 : ((kn : Int) == 2) = false := by simp; omega
          by_cases hwy : whyB e = true
          · have HWB := Lib.hid hwy
            clear h2 hin hkn hwy hek
            go_upto_region 9 with (first | (refine wpList_store_ou rfl (.tmp 6) (.tmp 15) rfl _ _ HZ.out e rfl rfl ?_; intro w2 hF hB hO; have HBW := Lib.hid (hB wr.heap.size wr ((Below.refl _ _).alloc (Nat.le_refl _) _) (Nat.le_refl _)); have HOR := Lib.hid hF; clear d0 d1 d2 d3 d4 d5; obtain ⟨x0, x1, x2, x3, x4, x5⟩ := hF.cells; rw [HEK.out] at x0; have HS2 := Lib.hid (SmRow.below HSM.out HBW.out); have hck := HS2.out.kind hk7; have hfr := HS2.out.frozen kn; have HM := Lib.hid (HS2.out.more HKN.out); have hc30 := HCK.out; generalize kcO T kn = cc at hck HM hc30; clear hF hB hO))
            obtain ⟨W1, hW1⟩ : ∃ W1, w2.setCell ⟨g1, kn, none⟩ (.int .i64 ((cc : Int) + 1)) = W1 := ⟨_, rfl⟩
            rw [hW1] at HM ⊢
            have HO1 : Hid (OuRow W1 wr.heap.size e) := by unfold Hid; rw [← hW1]; exact HOR.out.keep (Below.heap_setCell _ _ _ _ hne2)
            have HB1 : Hid (Below w.heap.size w W1) := by unfold Hid; rw [← hW1]; exact (below_then HB.out (Nat.le_refl _) HBW.out).setCell (p := ⟨g1, kn, none⟩) (Nat.le_of_lt HGE.out.1) _
            have HW1 : Hid (WMap W1 (g1 + 1) i T) := by unfold Hid; rw [← hW1]; exact HWM.out.keep ((Below.heap_setCell _ _ _ _ HGE.out.2.2.2.1).trans (HBW.out.block _ HWM.out.lt))
            have HZ1 : Hid (SmRow W1 w.heap.size [] 0 (.slice none 0 0)) := by unfold Hid; rw [← hW1]; exact (Below.heap_setCell _ _ _ _ (by have := HGE.out; simp <;> omega)).trans ((HBW.out.block _ (blk_lt HZR.out)).trans HZR.out)
            have HSZ1 : Hid (wr.heap.size ≤ W1.heap.size) := by unfold Hid; rw [← hW1]; simpa [World.setCell] using HBW.out.size
            clear hW1 hck hfr hc30 HS2 HOR HBW x0 x1 x2 x3 x4 x5
            obtain ⟨x0, x1, x2, x3, x4, x5⟩ := HO1.out.cells
            rw [HEK.out] at x0
            have hy7 := HM.out.bytes
            have f7 := HM.out.frozen 7
            go_upto_region 11 with fail
            have HM2 : Hid (SmRow W1 g1 (T ++ [e]) (byO (T ++ [e])) (.slice none 0 0)) := by unfold Hid; rw [byO_snoc, if_neg HK2.out, HBY.out]; exact HM.out
            have HB2 := HB1; have HW2 := HW1; have HZ2 := HZ1; have HO2 := HO1
            clear x0 x1 x2 x3 x4 x5
            obtain ⟨x0, x1, x2, x3, x4, x5⟩ := HO2.out.cells
            obtain ⟨W2, hW2⟩ : ∃ W2, W1 = W2 := ⟨_, rfl⟩
            subst hW2
            have HWY := Lib.hid (why_any e W1)
            rw [HWB.out] at HWY
            go_wp2_with (go_at_call 25; refine HWY.out.mono ?_; rintro o w5 ⟨rfl, hb5⟩; have HB5 := Lib.hid hb5; have HO5 := Lib.hid (HO2.out.below hb5); clear x0 x1 x2 x3 x4 x5; obtain ⟨x0, x1, x2, x3, x4, x5⟩ := HO5.out.cells; have hN5 := HW2.out.keep (hb5.block _ HW2.out.lt); have hlook := hN5.look (s := e.rs) (Nat.le_trans HRE.out (by decide +kernel)); obtain ⟨w6, hrun, hN6, hg6⟩ := hN5.put (e := e) (by have := HLT.out; omega) HWB.out (Nat.le_trans HRE.out (by decide +kernel)) (by have := HLT.out; omega); have HN6 := Lib.hid hN6; have HG6 := Lib.hid hg6; have hct := ctW_le T (bts e.rs); have hct2 : ctW T (bts e.rs) ≤ 30 := (by have := HLT.out; omega); generalize ctW T (bts e.rs) = ct at hlook hrun hct2; clear hb5 hN5 hN6 hg6 hct)
            subst hg1
            go_roundw
            case rel =>
              have hlt1 := blk_lt HM2.out
              have hlt0 := blk_lt HZ2.out
              refine ⟨i + 1, by go_num, by omega, ?_, ?_, ?_, ?_⟩
              · unfold Hid; rw [HT.out]; exact (HG6.out.block _ (Nat.lt_of_lt_of_le hlt1 HB5.out.size) (by have := HGE.out; simp <;> omega)).trans ((HB5.out.block _ hlt1).trans HM2.out)
              · unfold Hid; rw [HMB.out, HT.out]; exact HN6.out
              · unfold Hid; exact (HG6.out.block _ (Nat.lt_of_lt_of_le hlt0 HB5.out.size) (by have := HGE.out; simp <;> omega)).trans ((HB5.out.block _ hlt0).trans HZ2.out)
              · unfold Hid; exact (below_then HB2.out (Nat.le_refl _) HB5.out).grown HG6.out (Nat.le_trans HB2.out.size HB5.out.size) fun b hb => by cases hb; exact Nat.le_of_lt HGE.out.2.2.1
            case measure => simp [intOf]; omega
          · have HWB : Hid (whyB e = false) := Lib.hid (by simpa using hwy)
            clear h2 hin hkn hwy hek
            go_upto_region 9 with (first | (refine wpList_store_ou rfl (.tmp 6) (.tmp 15) rfl _ _ HZ.out e rfl rfl ?_; intro w2 hF hB hO; have HBW := Lib.hid (hB wr.heap.size wr ((Below.refl _ _).alloc (Nat.le_refl _) _) (Nat.le_refl _)); have HOR := Lib.hid hF; clear d0 d1 d2 d3 d4 d5; obtain ⟨x0, x1, x2, x3, x4, x5⟩ := hF.cells; rw [HEK.out] at x0; have HS2 := Lib.hid (SmRow.below HSM.out HBW.out); have hck := HS2.out.kind hk7; have hfr := HS2.out.frozen kn; have HM := Lib.hid (HS2.out.more HKN.out); have hc30 := HCK.out; generalize kcO T kn = cc at hck HM hc30; clear hF hB hO))
            obtain ⟨W1, hW1⟩ : ∃ W1, w2.setCell ⟨g1, kn, none⟩ (.int .i64 ((cc : Int) + 1)) = W1 := ⟨_, rfl⟩
            rw [hW1] at HM ⊢
            have HO1 : Hid (OuRow W1 wr.heap.size e) := by unfold Hid; rw [← hW1]; exact HOR.out.keep (Below.heap_setCell _ _ _ _ hne2)
            have HB1 : Hid (Below w.heap.size w W1) := by unfold Hid; rw [← hW1]; exact (below_then HB.out (Nat.le_refl _) HBW.out).setCell (p := ⟨g1, kn, none⟩) (Nat.le_of_lt HGE.out.1) _
            have HW1 : Hid (WMap W1 (g1 + 1) i T) := by unfold Hid; rw [← hW1]; exact HWM.out.keep ((Below.heap_setCell _ _ _ _ HGE.out.2.2.2.1).trans (HBW.out.block _ HWM.out.lt))
            have HZ1 : Hid (SmRow W1 w.heap.size [] 0 (.slice none 0 0)) := by unfold Hid; rw [← hW1]; exact (Below.heap_setCell _ _ _ _ (by have := HGE.out; simp <;> omega)).trans ((HBW.out.block _ (blk_lt HZR.out)).trans HZR.out)
            have HSZ1 : Hid (wr.heap.size ≤ W1.heap.size) := by unfold Hid; rw [← hW1]; simpa [World.setCell] using HBW.out.size
            clear hW1 hck hfr hc30 HS2 HOR HBW x0 x1 x2 x3 x4 x5
            obtain ⟨x0, x1, x2, x3, x4, x5⟩ := HO1.out.cells
            rw [HEK.out] at x0
            have hy7 := HM.out.bytes
            have f7 := HM.out.frozen 7
            go_upto_region 11 with fail
            have HM2 : Hid (SmRow W1 g1 (T ++ [e]) (byO (T ++ [e])) (.slice none 0 0)) := by unfold Hid; rw [byO_snoc, if_neg HK2.out, HBY.out]; exact HM.out
            have HB2 := HB1; have HW2 := HW1; have HZ2 := HZ1; have HO2 := HO1
            clear x0 x1 x2 x3 x4 x5
            obtain ⟨x0, x1, x2, x3, x4, x5⟩ := HO2.out.cells
            obtain ⟨W2, hW2⟩ : ∃ W2, W1 = W2 := ⟨_, rfl⟩
            subst hW2
            have HWY := Lib.hid (why_any e W1)
            rw [HWB.out] at HWY
            go_wp2_with (go_at_call 25; refine HWY.out.mono ?_; rintro o w5 ⟨rfl, hb5⟩; have HB5 := Lib.hid hb5; clear hb5)
            subst hg1
            go_roundw
            case rel =>
              refine ⟨i + 1, by go_num, by omega, ?_, ?_, Lib.hid (SmRow.below HZ2.out HB5.out), Lib.hid (below_then HB2.out (Nat.le_refl _) HB5.out)⟩
              · unfold Hid; rw [HT.out]; exact SmRow.below HM2.out HB5.out
              · unfold Hid; rw [HMB.out, HT.out]; exact ((HW2.out.keep (HB5.out.block _ HW2.out.lt)).skip (by rw [HWB.out]; decide)).mono
            case measure => simp [intOf]; omega
      · have hk0 : kn = 0 := by
          rw [← hkn]
          unfold kdO
          split
          · omega
          · rfl
        subst hk0
        have HK2 : Hid (¬ e.k = 2) := by unfold Hid; omega
        have hk2 : (e.k == 2) = false := by simp; omega
        have HWB : Hid (whyB e = false) := by unfold Hid whyB; simp; omega
        by_cases h1 : 1 ≤ e.k
        · have h6 : ¬ e.k ≤ 6 := by omega
          clear hin hkn
          go_upto_region 9 with (first | (refine wpList_store_ou rfl (.tmp 6) (.tmp 15) rfl _ _ HZ.out e rfl rfl ?_; intro w2 hF hB hO; have HBW := Lib.hid (hB wr.heap.size wr ((Below.refl _ _).alloc (Nat.le_refl _) _) (Nat.le_refl _)); have HOR := Lib.hid hF; clear d0 d1 d2 d3 d4 d5; obtain ⟨x0, x1, x2, x3, x4, x5⟩ := hF.cells; have HS2 := Lib.hid (SmRow.below HSM.out HBW.out); have hck := HS2.out.kind hk7; have hfr := HS2.out.frozen 0; have HM := Lib.hid (HS2.out.more HKN.out); have hc30 := HCK.out; generalize kcO T 0 = cc at hck HM hc30; clear hF hB hO))
          obtain ⟨W1, hW1⟩ : ∃ W1, w2.setCell ⟨g1, 0, none⟩ (.int .i64 ((cc : Int) + 1)) = W1 := ⟨_, rfl⟩
          rw [hW1] at HM ⊢
          have HO1 : Hid (OuRow W1 wr.heap.size e) := by unfold Hid; rw [← hW1]; exact HOR.out.keep (Below.heap_setCell _ _ _ _ hne2)
          have HB1 : Hid (Below w.heap.size w W1) := by unfold Hid; rw [← hW1]; exact (below_then HB.out (Nat.le_refl _) HBW.out).setCell (p := ⟨g1, 0, none⟩) (Nat.le_of_lt HGE.out.1) _
          have HW1 : Hid (WMap W1 (g1 + 1) i T) := by unfold Hid; rw [← hW1]; exact HWM.out.keep ((Below.heap_setCell _ _ _ _ HGE.out.2.2.2.1).trans (HBW.out.block _ HWM.out.lt))
          have HZ1 : Hid (SmRow W1 w.heap.size [] 0 (.slice none 0 0)) := by unfold Hid; rw [← hW1]; exact (Below.heap_setCell _ _ _ _ (by have := HGE.out; simp <;> omega)).trans ((HBW.out.block _ (blk_lt HZR.out)).trans HZR.out)
          have HSZ1 : Hid (wr.heap.size ≤ W1.heap.size) := by unfold Hid; rw [← hW1]; simpa [World.setCell] using HBW.out.size
          clear hW1 hck hfr hc30 HS2 HOR HBW x0 x1 x2 x3 x4 x5
          obtain ⟨x0, x1, x2, x3, x4, x5⟩ := HO1.out.cells
          have hy7 := HM.out.bytes
          have f7 := HM.out.frozen 7
          go_upto_region 11 with fail
          have HM2 : Hid (SmRow W1 g1 (T ++ [e]) (byO (T ++ [e])) (.slice none 0 0)) := by unfold Hid; rw [byO_snoc, if_neg HK2.out, HBY.out]; exact HM.out
          have HB2 := HB1; have HW2 := HW1; have HZ2 := HZ1; have HO2 := HO1
          clear x0 x1 x2 x3 x4 x5
          obtain ⟨x0, x1, x2, x3, x4, x5⟩ := HO2.out.cells
          obtain ⟨W2, hW2⟩ : ∃ W2, W1 = W2 := ⟨_, rfl⟩
          subst hW2
          have HWY := Lib.hid (why_any e W1)
          rw [HWB.out] at HWY
          go_wp2_with (go_at_call 25; refine HWY.out.mono ?_; rintro o w5 ⟨rfl, hb5⟩; have HB5 := Lib.hid hb5; clear hb5)
          subst hg1
          go_roundw
          case rel =>
            refine ⟨i + 1, by go_num, by omega, ?_, ?_, Lib.hid (SmRow.below HZ2.out HB5.out), Lib.hid (below_then HB2.out (Nat.le_refl _) HB5.out)⟩
            · unfold Hid; rw [HT.out]; exact SmRow.below HM2.out HB5.out
            · unfold Hid; rw [HMB.out, HT.out]; exact ((HW2.out.keep (HB5.out.block _ HW2.out.lt)).skip (by rw [HWB.out]; decide)).mono
          case measure => simp [intOf]; omega
        · clear hin hkn
          go_upto_region 9 with (first | (refine wpList_store_ou rfl (.tmp 6) (.tmp 15) rfl _ _ HZ.out e rfl rfl ?_; intro w2 hF hB hO; have HBW := Lib.hid (hB wr.heap.size wr ((Below.refl _ _).alloc (Nat.le_refl _) _) (Nat.le_refl _)); have HOR := Lib.hid hF; clear d0 d1 d2 d3 d4 d5; obtain ⟨x0, x1, x2, x3, x4, x5⟩ := hF.cells; have HS2 := Lib.hid (SmRow.below HSM.out HBW.out); have hck := HS2.out.kind hk7; have hfr := HS2.out.frozen 0; have HM := Lib.hid (HS2.out.more HKN.out); have hc30 := HCK.out; generalize kcO T 0 = cc at hck HM hc30; clear hF hB hO))
          obtain ⟨W1, hW1⟩ : ∃ W1, w2.setCell ⟨g1, 0, none⟩ (.int .i64 ((cc : Int) + 1)) = W1 := ⟨_, rfl⟩
          rw [hW1] at HM ⊢
          have HO1 : Hid (OuRow W1 wr.heap.size e) := by unfold Hid; rw [← hW1]; exact HOR.out.keep (Below.heap_setCell _ _ _ _ hne2)
          have HB1 : Hid (Below w.heap.size w W1) := by unfold Hid; rw [← hW1]; exact (below_then HB.out (Nat.le_refl _) HBW.out).setCell (p := ⟨g1, 0, none⟩) (Nat.le_of_lt HGE.out.1) _
          have HW1 : Hid (WMap W1 (g1 + 1) i T) := by unfold Hid; rw [← hW1]; exact HWM.out.keep ((Below.heap_setCell _ _ _ _ HGE.out.2.2.2.1).trans (HBW.out.block _ HWM.out.lt))
          have HZ1 : Hid (SmRow W1 w.heap.size [] 0 (.slice none 0 0)) := by unfold Hid; rw [← hW1]; exact (Below.heap_setCell _ _ _ _ (by have := HGE.out; simp <;> omega)).trans ((HBW.out.block _ (blk_lt HZR.out)).trans HZR.out)
          have HSZ1 : Hid (wr.heap.size ≤ W1.heap.size) := by unfold Hid; rw [← hW1]; simpa [World.setCell] using HBW.out.size
          clear hW1 hck hfr hc30 HS2 HOR HBW x0 x1 x2 x3 x4 x5
          obtain ⟨x0, x1, x2, x3, x4, x5⟩ := HO1.out.cells
          have hy7 := HM.out.bytes
          have f7 := HM.out.frozen 7
          go_upto_region 11 with fail
          have HM2 : Hid (SmRow W1 g1 (T ++ [e]) (byO (T ++ [e])) (.slice none 0 0)) := by unfold Hid; rw [byO_snoc, if_neg HK2.out, HBY.out]; exact HM.out
          have HB2 := HB1; have HW2 := HW1; have HZ2 := HZ1; have HO2 := HO1
          clear x0 x1 x2 x3 x4 x5
          obtain ⟨x0, x1, x2, x3, x4, x5⟩ := HO2.out.cells
          obtain ⟨W2, hW2⟩ : ∃ W2, W1 = W2 := ⟨_, rfl⟩
          subst hW2
          have HWY := Lib.hid (why_any e W1)
          rw [HWB.out] at HWY
          go_wp2_with (go_at_call 25; refine HWY.out.mono ?_; rintro o w5 ⟨rfl, hb5⟩; have HB5 := Lib.hid hb5; clear hb5)
          subst hg1
          go_roundw
          case rel =>
            refine ⟨i + 1, by go_num, by omega, ?_, ?_, Lib.hid (SmRow.below HZ2.out HB5.out), Lib.hid (below_then HB2.out (Nat.le_refl _) HB5.out)⟩
            · unfold Hid; rw [HT.out]; exact SmRow.below HM2.out HB5.out
            · unfold Hid; rw [HMB.out, HT.out]; exact ((HW2.out.keep (HB5.out.block _ HW2.out.lt)).skip (by rw [HWB.out]; decide)).mono
          case measure => simp [intOf]; omega
    · obtain rfl : i = n := by omega
      have HE : Hid (es.take i = es) := by unfold Hid; rw [List.take_of_length_le (by rw [HN.out]; exact Nat.le_refl _)]
      rw [HE.out] at HSM HWM
      obtain ⟨D, ho, ha, hh⟩ := HWM.out.ex
      have hsz := ho.size_le
      have HK := Lib.hid (callsIn_wide.1 (Tryz.keysS_in 6 (some (w.heap.size + 2)) wr))
      have HSO := Lib.hid (SortedFunc_any ho (by omega))
      have HUPS : Hid (∀ ws, SortedS D ws → UpS ws (rW es) ∧ ws.length ≤ i) := by
        unfold Hid
        refine fun ws hs => ⟨⟨hs.rise, fun b => ?_⟩, Nat.le_trans hs.few hsz⟩
        rw [hs.mem, hh b, decide_eq_true_iff]
      obtain ⟨i0, hi0, hz0, hz1, hz2⟩ := info_parts infoC
      have HI := Lib.hid hi0
      have HZ0 := Lib.hid hz0
      have HZ1 := Lib.hid hz1
      have HZ2 : Hid (i0.bytes ≤ 1000) := by unfold Hid; omega
      clear ho ha hh hsz hi0 hz0 hz1 hz2
      go_wp2_with (first
        | (go_at_call 27; refine HK.out.mono ?_; rintro o w2 ⟨rfl, rfl⟩)
        | (go_at_call 26; refine HSO.out.mono ?_; rintro o w3 ⟨A2, c2, ws, rfl, hs, hr, hb⟩; have hup := HUPS.out ws hs; obtain ⟨m, hm⟩ : ∃ m, ws.length = m := ⟨_, rfl⟩; rw [hm] at hr hup; have HUP := Lib.hid hup.1; have hmi := hup.2; have HRS2 := Lib.hid hr; have HB3 := Lib.hid hb; have HML := Lib.hid hm; rw [hm]; clear hs hr hb hup hm))
      have HM3 := Lib.hid (SmRow.below HSM.out HB3.out)
      have HW3 := Lib.hid (HWM.out.keep (HB3.out.block _ HWM.out.lt))
      have HZ3 := Lib.hid (SmRow.below HZR.out HB3.out)
      have HBW := Lib.hid (below_then HB.out (Nat.le_refl _) HB3.out)
      have HXS : Hid (∀ x ∈ ws, x.length ≤ 20) := by
        unfold Hid
        intro x hx
        have := (HUP.out.2 x).1 hx
        unfold rW at this
        obtain ⟨e, he, rfl⟩ := List.mem_map.1 this
        have := HRS.out e (List.mem_filter.1 he).1
        simpa [bts] using this
      have hmi2 : m ≤ 30 := by omega
      have HMI : Hid (m ≤ i) := hmi
      have HBR := Lib.hid (show w.heap.size ≤ wr.heap.size from HB.out.size)
      have HRS3 : Hid (RowS w3 w.heap.size (.slice A2 m c2) m ws) := Lib.hid (row_base HRS2.out HBR.out)
      clear HK HSO HUPS hmi HRS2 HSM HWM HZR HB HB3 HBR
      go_loopw [60] (fun iv wx => ∃ (k c : Nat) (A : Option Addr), iv = .int .i64 k ∧ k ≤ m ∧ Hid (SmRow wx (w.heap.size + 1) es (byO es) (.slice A k c)) ∧ Hid (Rk wx w.heap.size 61 2 (.slice A k c) k ((whyL (ws.take k) es).flatMap ctc)) ∧ Hid (RowS wx w.heap.size (.slice A2 m c2) m ws) ∧ Hid (WMap wx (w.heap.size + 2) i es) ∧ Hid (SmRow wx w.heap.size [] 0 (.slice none 0 0)) ∧ Hid (Below w.heap.size w wx)) (fun iv _ => m - (intOf iv).toNat)
      case atStart => exact ⟨0, 0, none, rfl, Nat.zero_le _, HM3, Lib.hid (Rk.nil_ _ _ _ _), HRS3, HW3, HZ3, HBW⟩
      case round =>
        clear HM3 HRS3 HW3 HZ3 HBW
        obtain ⟨k, c, A, rfl, hk, HM, HC, HRW, HWM, HZR, HB⟩ := hrel
        by_cases hkm : k < m
        · obtain ⟨gw, ow, cw, hA2, hcw, hd1, hd2⟩ := Row.get HRW.out (j := k) hkm
          injection hA2 with q1 _ q3
          subst q1
          subst q3
          have hkw : k < ws.length := by rw [HML.out]; exact hkm
          have hcw' : wr.cell? ⟨gw, ow + k, none⟩ = some (.string ⟨(ws[k]'hkw).toArray⟩) := by simpa [encStr] using hcw
          have hlook := HWM.out.look (s := ⟨(ws[k]'hkw).toArray⟩) (Nat.le_trans (show (ws[k]'hkw).toArray.size ≤ 20 by have := HXS.out _ (List.getElem_mem hkw); simpa using this) (by decide +kernel))
          rw [bts_arr] at hlook
          have HT : Hid ((whyL (ws.take (k + 1)) es).flatMap ctc = (whyL (ws.take k) es).flatMap ctc ++ [.string ⟨(ws[k]'hkw).toArray⟩, .int .i64 (ctW es (ws[k]'hkw) : Nat)]) := by
            unfold Hid whyL
            rw [List.take_succ_eq_append_getElem hkw, List.map_append, List.flatMap_append]
            rfl
          generalize (⟨(ws[k]'hkw).toArray⟩ : ByteArray) = x at hcw' hlook HT
          generalize ctW es (ws[k]'hkw) = ct at hlook HT
          unfold maxLen at hd2
          have y8 := HM.out.why
          clear hcw hkw
          have HBA : Hid (Below wr.heap.size wr (wr.alloc (.cells #[.string x, .int .i64 ct] 61))) := (Below.refl _ _).alloc (Nat.le_refl _) _
          have HC2 := Lib.hid (HC.out.below HBA.out (Nat.le_refl _))
          have HSR : Hid (Src Tryz.prog 2 28 (.slice (some ⟨wr.heap.size, 0, none⟩) 1 1) 1 [.string x, .int .i64 ct] (wr.alloc (.cells #[.string x, .int .i64 ct] 61))) :=
            Src.lit (b := wr.heap.size) (cs := #[.string x, .int .i64 ct]) (m := (0, 0)) Tryz.underlying28 (heap_alloc_new wr _) 1 1 rfl (fun u hu => by simp at hu; rcases hu with rfl | rfl <;> rfl)
          have HLK : Hid (k + 1 ≤ 1000000000) := by unfold Hid; omega
          have HSZ : Hid (w.heap.size ≤ (wr.alloc (.cells #[.string x, .int .i64 ct] 61)).heap.size) := Lib.hid (Nat.le_trans HB.out.size HBA.out.size)
          go_wp2_with (at_builtin; refine wpList_append_rk rfl (.tmp 65) (.tmp 71) 28 rfl w.heap.size 61 i0 _ 2 Tryz.underlying28 HI.out HZ0.out HZ1.out HZ2.out rfl _ k _ rfl HC2.out _ 1 _ rfl HSR.out HLK.out HSZ.out ?_; intro A' c' w5 hr hg5 _; have HR := Lib.hid hr; have HG := Lib.hid hg5; have hS5 : SmRow w5 (w.heap.size + 1) es (byO es) (.slice A k c) := keeps61 HC2.out hg5 (SmRow.below HM.out HBA.out) (by decide); have HS5 := Lib.hid hS5; have z8 := hS5.why; have f8 := hS5.frozen 8; clear hr hg5 hS5)
          go_roundw
          case rel =>
            have hb5 : Below w.heap.size w w5 := (below_then HB.out (Nat.le_refl _) HBA.out).grown HG.out HSZ.out fun b hb => (HC2.out.lt b hb).1
            refine ⟨k + 1, c', A', by go_num, by omega, Lib.hid (HS5.out.setV _), ?_, ?_, ?_, ?_, Lib.hid (hb5.setCell (p := ⟨w.heap.size + 1, 8, none⟩) (Nat.le_succ _) _)⟩
            · unfold Hid
              rw [HT.out]
              exact HR.out.setCell (rk_ne HR.out HS5.out (by decide)) _
            · unfold Hid RowS
              have h1 : Row w5 w.heap.size 9 (.slice (some ⟨gw, ow, none⟩) m c2) m (ws.map encStr) := row_keep HC2.out HG.out (Row.below HRW.out HBA.out (Nat.le_refl _)) (by decide)
              exact row_set h1 HS5.out (by decide) _
            · unfold Hid
              refine HWM.out.keep ((Below.heap_setCell _ _ _ _ (by simp)).trans ?_)
              obtain ⟨D, ho, _⟩ := HWM.out.ex
              obtain ⟨es1, cl, hb1, _⟩ := ho
              have h2 := (HBA.out.block _ (blk_lt hb1)).trans hb1
              exact (keepsO HC2.out HG.out h2 (fun cs m h => by cases h)).trans hb1.symm
            · unfold Hid
              exact (Below.heap_setCell _ _ _ _ (by simp)).trans (keeps61 HC2.out HG.out (SmRow.below HZR.out HBA.out) (by decide))
          case measure => simp [intOf]; omega
        · obtain rfl : k = m := by omega
          have HE2 : Hid (ws.take k = ws) := by unfold Hid; rw [List.take_of_length_le (by rw [HML.out]; exact Nat.le_refl _)]
          rw [HE2.out] at HC
          have y7 := HM.out.bytes
          have y8 := HM.out.why
          have y0 := HM.out.kind (k := 0) (by omega)
          have y1 := HM.out.kind (k := 1) (by omega)
          have y2 := HM.out.kind (k := 2) (by omega)
          have y3 := HM.out.kind (k := 3) (by omega)
          have y4 := HM.out.kind (k := 4) (by omega)
          have y5 := HM.out.kind (k := 5) (by omega)
          have y6 := HM.out.kind (k := 6) (by omega)
          have HLT0 : Hid (w.heap.size < wr.heap.size) := blk_lt HZR.out
          go_wp2_with (refine wpList_store_sm rfl (.tmp 2) (.tmp 75) rfl _ _ _ _ HZR.out es (byO es) (.slice A k c) rfl rfl rfl ?_; intro w6 hF hB hO; have HF := Lib.hid hF; have HB6 := Lib.hid (hB w.heap.size w HB.out (Nat.le_refl _)); have HO6 := Lib.hid hO; clear hF hB hO)
          clear y0 y1 y2 y3 y4 y5 y6 y7 y8
          have y7 := HF.out.bytes
          have y8 := HF.out.why
          have y0 := HF.out.kind (k := 0) (by omega)
          have y1 := HF.out.kind (k := 1) (by omega)
          have y2 := HF.out.kind (k := 2) (by omega)
          have y3 := HF.out.kind (k := 3) (by omega)
          have y4 := HF.out.kind (k := 4) (by omega)
          have y5 := HF.out.kind (k := 5) (by omega)
          have y6 := HF.out.kind (k := 6) (by omega)
          refine bodyPost_ret (v := .agg (sumc (kcO es 0) (kcO es 1) (kcO es 2) (kcO es 3) (kcO es 4) (kcO es 5) (kcO es 6) (byO es) (.slice A k c))) (by simp [results, Tryz.results7, go_sem, y0, y1, y2, y3, y4, y5, y6, y7, y8, sumc]) rfl ?_
          refine ⟨A, c, ws, by rw [HML.out], ?_, by rw [HML.out]; exact HMI.out, HUP.out, HB6.out⟩
          rw [HML.out]
          refine HC.out.keep fun j hj => HO6.out.2 j fun e => ?_
          exact rk_ne HC.out HZR.out (by decide) (by rw [hj, e])
end Go.Proofs.YtkihgbglodfkmaaGreat
