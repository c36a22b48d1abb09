/-
  Layer 41: one more reason, by the document. No condition but that the words rise.
-/
import Derived.Test.YtkihgbglodfkmaaGreatSortS
namespace Go.Proofs.YtkihgbglodfkmaaGreat
open Go.RowKit Go.Maps Go.Sort
set_option linter.unusedVariables false
attribute [local go_sem ↓] Go.wp_at_zero Go.wp_at_succ

theorem flat_take {α : Type} {f : α → List Value} {k : Nat} (hf : ∀ a, (f a).length = k) : ∀ (l : List α) (p : Nat), (l.flatMap f).take (p * k) = (l.take p).flatMap f
  | [], p => by simp
  | a :: l, 0 => by simp
  | a :: l, p + 1 => by
    rw [List.flatMap_cons, List.take_succ_cons, List.flatMap_cons, List.take_append, List.take_of_length_le (by rw [hf, Nat.add_mul]; omega), hf, show (p + 1) * k - k = p * k by rw [Nat.add_mul]; omega, flat_take hf l p]
theorem flat_drop {α : Type} {f : α → List Value} {k : Nat} (hf : ∀ a, (f a).length = k) : ∀ (l : List α) (p : Nat), (l.flatMap f).drop (p * k) = (l.drop p).flatMap f
  | [], p => by simp
  | a :: l, 0 => by simp
  | a :: l, p + 1 => by
    rw [List.flatMap_cons, List.drop_succ_cons, List.drop_append, List.drop_eq_nil_of_le (by rw [hf, Nat.add_mul]; omega), List.nil_append, hf, show (p + 1) * k - k = p * k by rw [Nat.add_mul]; omega, flat_drop hf l p]
theorem whyL_more {ws : List Bs} {es : List Ou} {e : Ou} (hx : ∀ y ∈ ws, y ≠ bts e.rs) : whyL ws (es ++ [e]) = whyL ws es := by
  unfold whyL
  refine List.map_congr_left fun b hb => ?_
  rw [ctW_snoc, if_neg fun h => hx b hb h.2.symm]
  rfl
/-- A new word. -/
theorem whyL_put {ws : List Bs} {es : List Ou} {e : Ou} (hU : UpS ws (rW es)) (hw : whyB e = true) {k : Nat} (hk : k ≤ ws.length) (hl : ∀ y ∈ ws.take k, y < bts e.rs) (hr : ∀ y ∈ ws.drop k, bts e.rs < y) :
    UpS (ws.take k ++ bts e.rs :: ws.drop k) (rW (es ++ [e])) ∧ (whyL (ws.take k ++ bts e.rs :: ws.drop k) (es ++ [e])).flatMap ctc = (whyL (ws.take k) es).flatMap ctc ++ [.string e.rs, .int .i64 1] ++ (whyL (ws.drop k) es).flatMap ctc := by
  have h1 : UpS (ws.take k ++ bts e.rs :: ws.drop k) (rW (es ++ [e])) := by
    rw [rW_snoc, if_pos hw]
    exact hU.put hk hl hr
  refine ⟨h1, ?_⟩
  have hno : bts e.rs ∉ ws := fun hx => by
    rw [← List.take_append_drop k ws, List.mem_append] at hx
    rcases hx with hx | hx
    · exact bs_irrefl _ (hl _ hx)
    · exact bs_irrefl _ (hr _ hx)
  have e1 : whyL (ws.take k ++ bts e.rs :: ws.drop k) (es ++ [e]) = whyL (ws.take k) es ++ (bts e.rs, 1) :: whyL (ws.drop k) es := by
    have a1 := whyL_more (ws := ws.take k) (es := es) (e := e) fun y hy he => bs_irrefl _ (he ▸ hl y hy)
    have a2 := whyL_more (ws := ws.drop k) (es := es) (e := e) fun y hy he => bs_irrefl _ (he ▸ hr y hy)
    have a3 : ctW (es ++ [e]) (bts e.rs) = 1 := by
      rw [ctW_snoc, if_pos ⟨hw, rfl⟩]
      unfold ctW
      rw [List.count_eq_zero.2 fun h => hno ((hU.2 _).2 h)]
    rw [← a1, ← a2]
    unfold whyL
    rw [List.map_append, List.map_cons, a3]
  rw [e1, List.flatMap_append, List.flatMap_cons]
  simp [ctc, bts_mk]
/-- A word that is there. -/
theorem whyL_same {ws : List Bs} {es : List Ou} {e : Ou} (hU : UpS ws (rW es)) (hw : whyB e = true) {k : Nat} (hk : k < ws.length) (hx : ws[k] = bts e.rs) :
    UpS ws (rW (es ++ [e])) ∧ whyL ws (es ++ [e]) = (whyL ws es).set k (bts e.rs, ctW es (bts e.rs) + 1) := by
  refine ⟨by rw [rW_snoc, if_pos hw]; exact hU.keep (by rw [← hx]; exact List.getElem_mem hk), ?_⟩
  refine List.ext_getElem (by simp [whyL]) fun i h1 h2 => ?_
  have hi : i < ws.length := by simpa [whyL] using h1
  rw [List.getElem_set]
  by_cases hik : k = i
  · subst hik
    rw [if_pos rfl]
    simp only [whyL, List.getElem_map]
    rw [hx, ctW_snoc, if_pos ⟨hw, rfl⟩]
  · rw [if_neg hik]
    simp only [whyL, List.getElem_map]
    have hne : bts e.rs ≠ ws[i] := fun h => by
      have h2 : ws[k] = ws[i] := hx.trans h
      have hp := List.pairwise_iff_getElem.1 hU.1
      rcases Nat.lt_or_ge k i with hlt | hge
      · exact bs_irrefl _ (h2 ▸ hp k i hk hi hlt)
      · exact bs_irrefl _ (h2 ▸ hp i k hi hk (by omega))
    rw [ctW_snoc, if_neg fun h => hne h.2]
    rfl
theorem flat_set {α : Type} {f : α → List Value} {k : Nat} (hf : ∀ a, (f a).length = k) : ∀ (l : List α) (j i : Nat) (a : α) (u : Value) (hj : j < l.length), i < k → f a = (f l[j]).set i u → (l.set j a).flatMap f = (l.flatMap f).set (j * k + i) u
  | [], j, i, a, u, hj, hi, h => absurd hj (by simp)
  | b :: l, 0, i, a, u, hj, hi, h => by
    simp only [List.getElem_cons_zero] at h
    rw [List.set_cons_zero, List.flatMap_cons, List.flatMap_cons, Nat.zero_mul, Nat.zero_add, List.set_append_left _ _ (by rw [hf]; exact hi), h]
  | b :: l, j + 1, i, a, u, hj, hi, h => by
    simp only [List.getElem_cons_succ] at h
    rw [List.set_cons_succ, List.flatMap_cons, List.flatMap_cons, List.set_append_right _ _ (by rw [hf, Nat.add_mul]; omega), hf, show (j + 1) * k + i - k = j * k + i by rw [Nat.add_mul]; omega]
    rw [flat_set hf l j i a u (by simpa using hj) hi h]
theorem Rk.set {w : World} {B : Nat} {e : TypeId} {k g off n c : Nat} {xs : List Value} (h : Rk w B e k (.slice (some ⟨g, off, none⟩) n c) n xs) (j : Nat) (u : Value) : Rk (w.setCell ⟨g, off + j, none⟩ u) B e k (.slice (some ⟨g, off, none⟩) n c) n (xs.set j u) := by
  refine ⟨by rw [List.length_set]; exact h.1, .inr ?_⟩
  rcases h.2 with ⟨h0, _⟩ | ⟨g', off', cap', cur, hv, hb, hg, h1, h2, h3, hx⟩
  · cases h0
  · cases hv
    refine ⟨g, off, c, cur.setIfInBounds (off + j) u, rfl, hb, blk_set hg _ _, h1, h2, by simpa using h3, fun i v hi => ?_⟩
    rw [List.getElem?_set] at hi
    rw [Array.getElem?_setIfInBounds]
    by_cases hij : j = i
    · subst hij
      rw [if_pos rfl] at hi
      split at hi
      · rename_i hjl
        rw [if_pos rfl]
        have : cur[off + j]? = some xs[j] := hx j _ (List.getElem?_eq_getElem hjl)
        rw [if_pos (Array.getElem?_eq_some_iff.1 this).1]
        exact hi
      · cases hi
    · rw [if_neg hij] at hi
      rw [if_neg (by omega)]
      exact hx i v hi
theorem count_at {w : World} {B g off c j k ct : Nat} {ws : List Bs} {es : List Ou} {b : Bs} (h : Rk w B 61 2 (.slice (some ⟨g, off, none⟩) j c) j ((whyL ws es).flatMap ctc)) (hk : k < ws.length) (hc : ctW es b = ct) (hb : ws[k] = b) :
    w.cell? ⟨g, off + k * 2 + 1, none⟩ = some (.int .i64 ct) ∧ w.frozen? ⟨g, off + k * 2 + 1, none⟩ = false ∧ j ≤ c ∧ c ≤ 9223372036854775807 := by
  rcases h.2 with ⟨h0, _⟩ | ⟨g', off', cap', cur, hv, hB, hg, h1, h2, h3, hx⟩
  · cases h0
  · cases hv
    refine ⟨?_, blk_frozen hg _, h1, h2⟩
    rw [cell_of_row w g _ _ _ _ hg, Nat.add_assoc]
    refine hx _ _ ?_
    rw [flat_get ctc_len (whyL ws es) k (by rw [whyL_len]; exact hk) 1 (by omega)]
    simp [whyL, ctc, hb, hc]
theorem count_set {w : World} {B g off c j k ct : Nat} {ws : List Bs} {es : List Ou} {b : Bs} (h : Rk w B 61 2 (.slice (some ⟨g, off, none⟩) j c) j ((whyL ws es).flatMap ctc)) (hk : k < ws.length) (hb : ws[k] = b) :
    Rk (w.setCell ⟨g, off + k * 2 + 1, none⟩ (.int .i64 ((ct : Int) + 1))) B 61 2 (.slice (some ⟨g, off, none⟩) j c) j (((whyL ws es).set k (b, ct + 1)).flatMap ctc) := by
  rw [flat_set ctc_len (whyL ws es) k 1 _ (.int .i64 ((ct : Int) + 1)) (by rw [whyL_len]; exact hk) (by omega) (by simp [whyL, ctc, hb]), Nat.add_assoc]
  exact h.set (k * 2 + 1) _
/-- What add hands back. -/
def Added (w : World) (es : List Ou) (e : Ou) (n : Nat) (o : Ending) (w' : World) : Prop :=
  ∃ A c ws, o = .returned (.slice A (List.length ws) c) ∧ Rk w' w.heap.size 61 2 (.slice A ws.length c) ws.length ((whyL ws (es ++ [e])).flatMap ctc) ∧ ws.length ≤ n + 1 ∧ UpS ws (rW (es ++ [e])) ∧ Below w.heap.size w w'
theorem put_end {w w3 : World} {es : List Ou} {e : Ou} {zs : List Value} {ws' : List Bs} {j g off c : Nat} (h : Ends w 61 2 (j + 1) zs g off c w3) (hp : UpS ws' (rW (es ++ [e])) ∧ (whyL ws' (es ++ [e])).flatMap ctc = zs) (hl : ws'.length = j + 1) : Added w es e j (.returned (.slice (some ⟨g, off, none⟩) (j + 1) c)) w3 := by
  refine ⟨_, c, ws', by rw [hl], ?_, by omega, hp.1, h.2⟩
  rw [hl, hp.2]
  exact h.1

set_option maxRecDepth 100000 in
set_option maxHeartbeats 8000000 in
theorem add_any {w : World} {lo j : Nat} {v : Value} {ws : List Bs} {es : List Ou} {e : Ou} (h : Rk w lo 61 2 v j ((whyL ws es).flatMap ctc)) (hj : ws.length = j) (hj1 : j ≤ 1000) (hU : UpS ws (rW es)) (hw : whyB e = true) (hes : es.length ≤ 1000) :
    Calls Tryz.prog 29 #[v, .string e.rs] w (Added w es e j) := by
  have HRK := Lib.hid h
  have HRD := Lib.hid (h.rd (.inl (by omega)))
  have HJ := Lib.hid hj
  have HU := Lib.hid hU
  have HW := Lib.hid hw
  have HES := Lib.hid hes
  obtain ⟨A0, c0, rfl⟩ := h.slice
  obtain ⟨s, hs⟩ : ∃ s, e.rs = s := ⟨_, rfl⟩
  have HS := Lib.hid hs
  obtain ⟨x, hx⟩ : ∃ x, bts s = x := ⟨_, rfl⟩
  have HX := Lib.hid hx
  rw [hs]
  clear h hj hU hw hes hs hx
  go_enter Tryz.func29, Tryz.ntmps29
  go_wp2
  go_loop [5] (fun a => ∃ k : Nat, a = .int .i64 k ∧ k ≤ j ∧ Hid (∀ y ∈ ws.take k, y < x)) (fun a => j - (intOf a).toNat)
  case atStart => exact ⟨0, rfl, Nat.zero_le _, Lib.hid (fun y hy => by simp at hy)⟩
  case round =>
    obtain ⟨k, rfl, hk, HSP⟩ := hrel
    by_cases hk0 : k < j
    · obtain ⟨g, off, cap, hv, _, _, hcell, hc1, hc2⟩ := HRD.out.get hk0
      injection hv with q1 _ q3
      subst q1
      subst q3
      unfold maxLen at hc2
      have hkw : k < ws.length := by rw [HJ.out]; exact hk0
      have hce : ∀ i u, i < 2 → (ctc (ws[k], ctW es ws[k]))[i]? = some u → w.cell? ⟨g, off + k * 2 + i, none⟩ = some u := fun i u hi hu => by
        obtain ⟨u', hu', hc⟩ := hcell i hi
        rw [flat_get ctc_len (whyL ws es) k (by rw [whyL_len]; exact hkw) i hi] at hu'
        rw [show (whyL ws es)[k]'(by rw [whyL_len]; exact hkw) = (ws[k], ctW es ws[k]) by simp [whyL]] at hu'
        rw [hu] at hu'
        cases hu'
        exact hc
      have y0 : w.cell? ⟨g, off + k * 2, none⟩ = some (.string ⟨(ws[k]).toArray⟩) := hce 0 _ (by omega) rfl
      have y1 : w.cell? ⟨g, off + k * 2 + 1, none⟩ = some (.int .i64 (ctW es ws[k] : Nat)) := hce 1 _ (by omega) rfl
      clear hcell hce
      by_cases hc : ws[k] < x
      · have HS2 := Lib.hid (upS_take HU.out.1 hkw HSP.out hc)
        have hlt : Op.bytesLess (⟨(ws[k]).toArray⟩ : ByteArray).toList s.toList = true := by rw [less_bts, bts_arr, HX.out]; exact decide_eq_true hc
        generalize (⟨(ws[k]'hkw).toArray⟩ : ByteArray) = y at y0 hlt
        generalize ctW es (ws[k]'hkw) = ct at y1
        clear hkw hc
        go_wp2
        go_round
        case rel => exact ⟨k + 1, by go_num, by omega, HS2⟩
        case measure => simp [intOf]; omega
      · have hlt : Op.bytesLess (⟨(ws[k]).toArray⟩ : ByteArray).toList s.toList = false := by rw [less_bts, bts_arr, HX.out]; exact decide_eq_false hc
        by_cases hxy : ws[k] = x
        · have heq : ((⟨(ws[k]).toArray⟩ : ByteArray).toList == s.toList) = true := by rw [eq_bts, bts_arr, HX.out]; exact decide_eq_true hxy
          obtain ⟨hU2, hset⟩ := whyL_same HU.out HW.out hkw (by rw [HS.out, HX.out]; exact hxy)
          have HU2 := Lib.hid hU2
          have hcts : ctW es ws[k] = ctW es (bts e.rs) := by rw [hxy, HS.out, HX.out]
          rw [hcts] at y1
          have hct : ctW es (bts e.rs) ≤ 1000 := Nat.le_trans (ctW_le _ _) HES.out
          obtain ⟨i0, z, ht, hi, hz, hs1, hby, hzc⟩ := elC.ex
          have HI := Lib.hid hi
          have HZ := Lib.hid hz
          have HZ1 := Lib.hid hs1
          have HZ2 := Lib.hid hby
          have HZ3 := Lib.hid hzc
          have hb0 : Below w.heap.size w (w.alloc (.cells #[] 61)) := (Below.refl _ _).alloc (Nat.le_refl _) _
          have HR0 := Lib.hid (Rk.fresh w 61 2)
          have HSRC := Lib.hid (Rd.src (e := 61) (HRD.out.below hb0 (Nat.le_refl _)) ht (flat_one ctc_one _))
          have HB0 := Lib.hid hb0
          have HLK : Hid (0 + j ≤ 1000000000) := by unfold Hid; omega
          have HSET := Lib.hid hset
          generalize (⟨(ws[k]'hkw).toArray⟩ : ByteArray) = y at y0 hlt heq
          have HYC : Hid (ws[k]'hkw = bts e.rs) := by unfold Hid; rw [HS.out, HX.out]; exact hxy
          have HKW : Hid (k < ws.length) := hkw
          generalize hcc : ctW es (bts e.rs) = ct at y1 hct
          have HCC := Lib.hid hcc
          clear hc hxy hU2 hset hcts ht hi hz hs1 hby hzc hb0 hcc
          go_wp2_with (at_builtin; refine wpList_append_rk rfl (.tmp 35) (.tmp 36) 28 rfl w.heap.size 61 i0 z 2 Tryz.underlying28 HI.out HZ.out HZ1.out HZ2.out HZ3.out _ 0 _ rfl HR0.out _ j _ rfl HSRC.out HLK.out HB0.out.size ?_; intro A' c' w5 hr hg5 _; rw [Nat.zero_add, List.nil_append] at hr; rw [Nat.zero_add]; obtain ⟨g5, o5, rfl⟩ := hr.addr (by omega); have HR := Lib.hid hr; have HB5 := Lib.hid (HB0.out.grown hg5 HB0.out.size fun b hb => by cases hb; exact Nat.le_refl _); obtain ⟨u1, f1, hcap1, hcap2⟩ := count_at hr HKW.out HCC.out HYC.out; clear hr hg5)
          go_ret
          refine ⟨some ⟨g5, o5, none⟩, c', ws, by rw [HJ.out]; rfl, ?_, by rw [HJ.out]; omega, HU2.out, HB5.out.setCell (p := ⟨g5, o5 + k * 2 + 1, none⟩) (HR.out.lt g5 rfl).1 _⟩
          rw [HJ.out, HSET.out, HCC.out]
          exact count_set HR.out HKW.out HYC.out
        · have heq : ((⟨(ws[k]).toArray⟩ : ByteArray).toList == s.toList) = false := by rw [eq_bts, bts_arr, HX.out]; exact decide_eq_false hxy
          have HPUT := Lib.hid (whyL_put HU.out HW.out (k := k) (by omega) (by rw [HS.out, HX.out]; exact HSP.out) (by rw [HS.out, HX.out]; exact upS_drop HU.out.1 hkw (bs_tri hc hxy)))
          have HLL : Hid ((ws.take k ++ bts e.rs :: ws.drop k).length = j + 1) := by unfold Hid; rw [List.length_append, List.length_cons, List.length_take, List.length_drop]; have := HJ.out; omega
          rw [HS.out] at HPUT HLL
          have T1 : Hid (Rd w lo 2 (.slice (some ⟨g, off, none⟩) k c0) k ((whyL (ws.take k) es).flatMap ctc)) := by
            have := HRD.out.take (p := k) (by omega)
            rw [flat_take ctc_len] at this
            unfold Hid whyL
            rw [List.map_take]
            exact this
          have T3 : Hid (Rd w lo 2 (.slice (if c0 = k then some ⟨g, off, none⟩ else some ⟨g, off + k * 2, none⟩) (j - k) (c0 - k)) (j - k) ((whyL (ws.drop k) es).flatMap ctc)) := by
            have := HRD.out.drop (p := k) (by omega)
            rw [flat_drop ctc_len] at this
            unfold Hid whyL
            rw [List.map_drop]
            exact this
          rw [if_neg (by omega)] at T3
          have hkl : k + 1 + (j - k) = j + 1 := by omega
          generalize (⟨(ws[k]'hkw).toArray⟩ : ByteArray) = y at y0 hlt heq
          generalize ctW es (ws[k]'hkw) = ct at y1
          have i1 : (0 : Int) ≤ (k : Int) := by omega
          have i2 : (k : Int) ≤ (j : Int) := by omega
          have i3 : (k : Int) ≤ (c0 : Int) := by omega
          have i4 : (j : Int) ≤ (c0 : Int) := by omega
          have i5 : ¬ c0 = k := by omega
          clear hc hxy hkw
          go_wp2
          obtain ⟨va1, wa1, va2, wa2, ga3, oa3, ca3, wa3, ra1, ra2, ra3, hxa, HEA⟩ := runs1 elC (xs := [.string s, .int .i64 1]) rfl T1.out T3.out (flat_one ctc_one _) (by simp; exact ⟨rfl, rfl⟩) (flat_one ctc_one _) (by omega) 28 1
          rw [hkl] at ra3 HEA
          rw [← World.drew_is_drewN] at ra1
          obtain ⟨vb1, wb1, vb2, wb2, gb3, ob3, cb3, wb3, rb1, rb2, rb3, HEB⟩ := runs2 elC (xs := [.string s, .int .i64 1]) rfl T1.out T3.out (flat_one ctc_one _) (by simp; exact ⟨rfl, rfl⟩) (flat_one ctc_one _) (by omega) 28 1
          rw [hkl] at rb3 HEB
          rw [← World.drew_is_drewN] at rb1
          obtain ⟨vc1, wc1, vc2, wc2, gc3, oc3, cc3, wc3, rc1, rc2, rc3, HEC⟩ := runs3 elC (xs := [.string s, .int .i64 1]) rfl T1.out T3.out (flat_one ctc_one _) (by simp; exact ⟨rfl, rfl⟩) (flat_one ctc_one _) (by omega) 28 1
          rw [hkl] at rc3 HEC
          rw [← World.drew_is_drewN] at rc1
          clear hxa hkl T1 T3
          have RA1 := Lib.hid ra1
          have RA2 := Lib.hid ra2
          have RA3 := Lib.hid ra3
          have RB1 := Lib.hid rb1
          have RB2 := Lib.hid rb2
          have RB3 := Lib.hid rb3
          have RC1 := Lib.hid rc1
          have RC2 := Lib.hid rc2
          have RC3 := Lib.hid rc3
          clear ra1 ra2 rb1 rb2 rc1 rc2 ra3 rb3 rc3
          go_region_law (first | ((with_reducible refine step_run ?_ (.tmp 49) (.tmp 52) 28 ?_ _ _ _ _ ?_ ?_ RA1.out ?_); rfl; rfl; rfl; rfl) | ((with_reducible refine step_run ?_ (.tmp 49) (.tmp 52) 28 ?_ _ _ _ _ ?_ ?_ RB1.out ?_); rfl; rfl; rfl; rfl) | ((with_reducible refine step_run ?_ (.tmp 49) (.tmp 52) 28 ?_ _ _ _ _ ?_ ?_ RC1.out ?_); rfl; rfl; rfl; rfl) | ((with_reducible refine step_run ?_ (.tmp 53) (.tmp 56) 28 ?_ _ _ _ _ ?_ ?_ RA2.out ?_); rfl; rfl; rfl; rfl) | ((with_reducible refine step_run ?_ (.tmp 53) (.tmp 56) 28 ?_ _ _ _ _ ?_ ?_ RB2.out ?_); rfl; rfl; rfl; rfl) | ((with_reducible refine step_run ?_ (.tmp 53) (.tmp 56) 28 ?_ _ _ _ _ ?_ ?_ RC2.out ?_); rfl; rfl; rfl; rfl) | ((with_reducible refine step_run ?_ (.tmp 57) (.tmp 60) 28 ?_ _ _ _ _ ?_ ?_ RA3.out ?_); rfl; rfl; rfl; rfl) | ((with_reducible refine step_run ?_ (.tmp 57) (.tmp 60) 28 ?_ _ _ _ _ ?_ ?_ RB3.out ?_); rfl; rfl; rfl; rfl) | ((with_reducible refine step_run ?_ (.tmp 57) (.tmp 60) 28 ?_ _ _ _ _ ?_ ?_ RC3.out ?_); rfl; rfl; rfl; rfl))
          all_goals go_wp2
          all_goals go_ret
          all_goals (first | exact put_end HEA.out HPUT.out HLL.out | exact put_end HEB.out HPUT.out HLL.out | exact put_end HEC.out HPUT.out HLL.out)
    · obtain rfl : k = j := by omega
      have HPUT := Lib.hid (whyL_put HU.out HW.out (k := k) (by rw [HJ.out]; exact Nat.le_refl _) (by rw [HS.out, HX.out]; exact HSP.out) (fun y hy => by rw [List.drop_of_length_le (by rw [HJ.out]; exact Nat.le_refl _)] at hy; simp at hy))
      have HLL : Hid ((ws.take k ++ bts e.rs :: ws.drop k).length = k + 1) := by unfold Hid; rw [List.length_append, List.length_cons, List.length_take, List.length_drop]; have := HJ.out; omega
      rw [HS.out] at HPUT HLL
      have T1 : Hid (Rd w lo 2 (.slice A0 k c0) k ((whyL (ws.take k) es).flatMap ctc)) := by
        have := HRD.out.take (p := k) (Nat.le_refl _)
        rw [flat_take ctc_len] at this
        unfold Hid whyL
        rw [List.map_take]
        exact this
      cases A0 with
      | none =>
        obtain ⟨hk0', hc0⟩ : k = 0 ∧ c0 = 0 := by
          rcases HRD.out.at_ with ⟨h0, A', cap', hv, hn⟩ | ⟨g, off, cap', hv, _⟩
          · cases hv
            exact ⟨rfl, hn rfl⟩
          · cases hv
        subst hk0'
        subst hc0
        have T3 : Hid (Rd w lo 2 (.slice none 0 0) 0 ((whyL (ws.drop 0) es).flatMap ctc)) := by
          have hws : ws = [] := List.eq_nil_of_length_eq_zero HJ.out
          unfold Hid
          rw [hws]
          exact ⟨rfl, Nat.zero_le _, .inl ⟨rfl, none, 0, rfl, fun _ => rfl⟩⟩
        go_wp2
        obtain ⟨va1, wa1, va2, wa2, ga3, oa3, ca3, wa3, ra1, ra2, ra3, hxa, HEA⟩ := runs1 elC (xs := [.string s, .int .i64 1]) rfl T1.out T3.out (flat_one ctc_one _) (by simp; exact ⟨rfl, rfl⟩) (flat_one ctc_one _) (by omega) 28 1
        rw [← World.drew_is_drewN] at ra1
        obtain ⟨vb1, wb1, vb2, wb2, gb3, ob3, cb3, wb3, rb1, rb2, rb3, HEB⟩ := runs2 elC (xs := [.string s, .int .i64 1]) rfl T1.out T3.out (flat_one ctc_one _) (by simp; exact ⟨rfl, rfl⟩) (flat_one ctc_one _) (by omega) 28 1
        rw [← World.drew_is_drewN] at rb1
        obtain ⟨vc1, wc1, vc2, wc2, gc3, oc3, cc3, wc3, rc1, rc2, rc3, HEC⟩ := runs3 elC (xs := [.string s, .int .i64 1]) rfl T1.out T3.out (flat_one ctc_one _) (by simp; exact ⟨rfl, rfl⟩) (flat_one ctc_one _) (by omega) 28 1
        rw [← World.drew_is_drewN] at rc1
        clear hxa T1 T3
        have RA1 := Lib.hid ra1
        have RA2 := Lib.hid ra2
        have RA3 := Lib.hid ra3
        have RB1 := Lib.hid rb1
        have RB2 := Lib.hid rb2
        have RB3 := Lib.hid rb3
        have RC1 := Lib.hid rc1
        have RC2 := Lib.hid rc2
        have RC3 := Lib.hid rc3
        clear ra1 ra2 rb1 rb2 rc1 rc2 ra3 rb3 rc3
        go_region_law (first | ((with_reducible refine step_run ?_ (.tmp 49) (.tmp 52) 28 ?_ _ _ _ _ ?_ ?_ RA1.out ?_); rfl; rfl; rfl; rfl) | ((with_reducible refine step_run ?_ (.tmp 49) (.tmp 52) 28 ?_ _ _ _ _ ?_ ?_ RB1.out ?_); rfl; rfl; rfl; rfl) | ((with_reducible refine step_run ?_ (.tmp 49) (.tmp 52) 28 ?_ _ _ _ _ ?_ ?_ RC1.out ?_); rfl; rfl; rfl; rfl) | ((with_reducible refine step_run ?_ (.tmp 53) (.tmp 56) 28 ?_ _ _ _ _ ?_ ?_ RA2.out ?_); rfl; rfl; rfl; rfl) | ((with_reducible refine step_run ?_ (.tmp 53) (.tmp 56) 28 ?_ _ _ _ _ ?_ ?_ RB2.out ?_); rfl; rfl; rfl; rfl) | ((with_reducible refine step_run ?_ (.tmp 53) (.tmp 56) 28 ?_ _ _ _ _ ?_ ?_ RC2.out ?_); rfl; rfl; rfl; rfl) | ((with_reducible refine step_run ?_ (.tmp 57) (.tmp 60) 28 ?_ _ _ _ _ ?_ ?_ RA3.out ?_); rfl; rfl; rfl; rfl) | ((with_reducible refine step_run ?_ (.tmp 57) (.tmp 60) 28 ?_ _ _ _ _ ?_ ?_ RB3.out ?_); rfl; rfl; rfl; rfl) | ((with_reducible refine step_run ?_ (.tmp 57) (.tmp 60) 28 ?_ _ _ _ _ ?_ ?_ RC3.out ?_); rfl; rfl; rfl; rfl))
        all_goals go_wp2
        all_goals go_ret
        all_goals (first | exact put_end HEA.out HPUT.out HLL.out | exact put_end HEB.out HPUT.out HLL.out | exact put_end HEC.out HPUT.out HLL.out)
      | some a =>
        obtain ⟨g, off, rfl, hc1, hc2⟩ : ∃ g off, a = ⟨g, off, none⟩ ∧ k ≤ c0 ∧ c0 ≤ 9223372036854775807 := by
          rcases HRK.out.2 with ⟨h0, _⟩ | ⟨g, off, cap', cur, hv, _, _, h1, h2, _⟩
          · cases h0
          · cases hv
            exact ⟨g, off, rfl, h1, h2⟩
        have T3 : Hid (Rd w lo 2 (.slice (if c0 = k then some ⟨g, off, none⟩ else some ⟨g, off + k * 2, none⟩) 0 (c0 - k)) 0 ((whyL (ws.drop k) es).flatMap ctc)) := by
          have := HRD.out.drop (p := k) (Nat.le_refl _)
          rw [flat_drop ctc_len, Nat.sub_self] at this
          unfold Hid whyL
          rw [List.map_drop]
          exact this
        have i1 : (0 : Int) ≤ (k : Int) := by omega
        have i3 : (k : Int) ≤ (c0 : Int) := by omega
        by_cases hcap : c0 = k
        · rw [if_pos hcap] at T3
          subst hcap
          rw [Nat.sub_self] at T3
          go_wp2
          obtain ⟨va1, wa1, va2, wa2, ga3, oa3, ca3, wa3, ra1, ra2, ra3, hxa, HEA⟩ := runs1 elC (xs := [.string s, .int .i64 1]) rfl T1.out T3.out (flat_one ctc_one _) (by simp; exact ⟨rfl, rfl⟩) (flat_one ctc_one _) (by omega) 28 1
          rw [← World.drew_is_drewN] at ra1
          obtain ⟨vb1, wb1, vb2, wb2, gb3, ob3, cb3, wb3, rb1, rb2, rb3, HEB⟩ := runs2 elC (xs := [.string s, .int .i64 1]) rfl T1.out T3.out (flat_one ctc_one _) (by simp; exact ⟨rfl, rfl⟩) (flat_one ctc_one _) (by omega) 28 1
          rw [← World.drew_is_drewN] at rb1
          obtain ⟨vc1, wc1, vc2, wc2, gc3, oc3, cc3, wc3, rc1, rc2, rc3, HEC⟩ := runs3 elC (xs := [.string s, .int .i64 1]) rfl T1.out T3.out (flat_one ctc_one _) (by simp; exact ⟨rfl, rfl⟩) (flat_one ctc_one _) (by omega) 28 1
          rw [← World.drew_is_drewN] at rc1
          clear hxa T1 T3
          have RA1 := Lib.hid ra1
          have RA2 := Lib.hid ra2
          have RA3 := Lib.hid ra3
          have RB1 := Lib.hid rb1
          have RB2 := Lib.hid rb2
          have RB3 := Lib.hid rb3
          have RC1 := Lib.hid rc1
          have RC2 := Lib.hid rc2
          have RC3 := Lib.hid rc3
          clear ra1 ra2 rb1 rb2 rc1 rc2 ra3 rb3 rc3
          go_region_law (first | ((with_reducible refine step_run ?_ (.tmp 49) (.tmp 52) 28 ?_ _ _ _ _ ?_ ?_ RA1.out ?_); rfl; rfl; rfl; rfl) | ((with_reducible refine step_run ?_ (.tmp 49) (.tmp 52) 28 ?_ _ _ _ _ ?_ ?_ RB1.out ?_); rfl; rfl; rfl; rfl) | ((with_reducible refine step_run ?_ (.tmp 49) (.tmp 52) 28 ?_ _ _ _ _ ?_ ?_ RC1.out ?_); rfl; rfl; rfl; rfl) | ((with_reducible refine step_run ?_ (.tmp 53) (.tmp 56) 28 ?_ _ _ _ _ ?_ ?_ RA2.out ?_); rfl; rfl; rfl; rfl) | ((with_reducible refine step_run ?_ (.tmp 53) (.tmp 56) 28 ?_ _ _ _ _ ?_ ?_ RB2.out ?_); rfl; rfl; rfl; rfl) | ((with_reducible refine step_run ?_ (.tmp 53) (.tmp 56) 28 ?_ _ _ _ _ ?_ ?_ RC2.out ?_); rfl; rfl; rfl; rfl) | ((with_reducible refine step_run ?_ (.tmp 57) (.tmp 60) 28 ?_ _ _ _ _ ?_ ?_ RA3.out ?_); rfl; rfl; rfl; rfl) | ((with_reducible refine step_run ?_ (.tmp 57) (.tmp 60) 28 ?_ _ _ _ _ ?_ ?_ RB3.out ?_); rfl; rfl; rfl; rfl) | ((with_reducible refine step_run ?_ (.tmp 57) (.tmp 60) 28 ?_ _ _ _ _ ?_ ?_ RC3.out ?_); rfl; rfl; rfl; rfl))
          all_goals go_wp2
          all_goals go_ret
          all_goals (first | exact put_end HEA.out HPUT.out HLL.out | exact put_end HEB.out HPUT.out HLL.out | exact put_end HEC.out HPUT.out HLL.out)
        · rw [if_neg hcap] at T3
          go_wp2
          obtain ⟨va1, wa1, va2, wa2, ga3, oa3, ca3, wa3, ra1, ra2, ra3, hxa, HEA⟩ := runs1 elC (xs := [.string s, .int .i64 1]) rfl T1.out T3.out (flat_one ctc_one _) (by simp; exact ⟨rfl, rfl⟩) (flat_one ctc_one _) (by omega) 28 1
          rw [← World.drew_is_drewN] at ra1
          obtain ⟨vb1, wb1, vb2, wb2, gb3, ob3, cb3, wb3, rb1, rb2, rb3, HEB⟩ := runs2 elC (xs := [.string s, .int .i64 1]) rfl T1.out T3.out (flat_one ctc_one _) (by simp; exact ⟨rfl, rfl⟩) (flat_one ctc_one _) (by omega) 28 1
          rw [← World.drew_is_drewN] at rb1
          obtain ⟨vc1, wc1, vc2, wc2, gc3, oc3, cc3, wc3, rc1, rc2, rc3, HEC⟩ := runs3 elC (xs := [.string s, .int .i64 1]) rfl T1.out T3.out (flat_one ctc_one _) (by simp; exact ⟨rfl, rfl⟩) (flat_one ctc_one _) (by omega) 28 1
          rw [← World.drew_is_drewN] at rc1
          clear hxa T1 T3
          have RA1 := Lib.hid ra1
          have RA2 := Lib.hid ra2
          have RA3 := Lib.hid ra3
          have RB1 := Lib.hid rb1
          have RB2 := Lib.hid rb2
          have RB3 := Lib.hid rb3
          have RC1 := Lib.hid rc1
          have RC2 := Lib.hid rc2
          have RC3 := Lib.hid rc3
          clear ra1 ra2 rb1 rb2 rc1 rc2 ra3 rb3 rc3
          go_region_law (first | ((with_reducible refine step_run ?_ (.tmp 49) (.tmp 52) 28 ?_ _ _ _ _ ?_ ?_ RA1.out ?_); rfl; rfl; rfl; rfl) | ((with_reducible refine step_run ?_ (.tmp 49) (.tmp 52) 28 ?_ _ _ _ _ ?_ ?_ RB1.out ?_); rfl; rfl; rfl; rfl) | ((with_reducible refine step_run ?_ (.tmp 49) (.tmp 52) 28 ?_ _ _ _ _ ?_ ?_ RC1.out ?_); rfl; rfl; rfl; rfl) | ((with_reducible refine step_run ?_ (.tmp 53) (.tmp 56) 28 ?_ _ _ _ _ ?_ ?_ RA2.out ?_); rfl; rfl; rfl; rfl) | ((with_reducible refine step_run ?_ (.tmp 53) (.tmp 56) 28 ?_ _ _ _ _ ?_ ?_ RB2.out ?_); rfl; rfl; rfl; rfl) | ((with_reducible refine step_run ?_ (.tmp 53) (.tmp 56) 28 ?_ _ _ _ _ ?_ ?_ RC2.out ?_); rfl; rfl; rfl; rfl) | ((with_reducible refine step_run ?_ (.tmp 57) (.tmp 60) 28 ?_ _ _ _ _ ?_ ?_ RA3.out ?_); rfl; rfl; rfl; rfl) | ((with_reducible refine step_run ?_ (.tmp 57) (.tmp 60) 28 ?_ _ _ _ _ ?_ ?_ RB3.out ?_); rfl; rfl; rfl; rfl) | ((with_reducible refine step_run ?_ (.tmp 57) (.tmp 60) 28 ?_ _ _ _ _ ?_ ?_ RC3.out ?_); rfl; rfl; rfl; rfl))
          all_goals go_wp2
          all_goals go_ret
          all_goals (first | exact put_end HEA.out HPUT.out HLL.out | exact put_end HEB.out HPUT.out HLL.out | exact put_end HEC.out HPUT.out HLL.out)
end Go.Proofs.YtkihgbglodfkmaaGreat
