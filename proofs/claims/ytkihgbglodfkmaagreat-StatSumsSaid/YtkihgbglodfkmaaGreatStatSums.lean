/-
  Layer 41: the walk of StatSums. No condition but that what comes in lies in memory.
-/
import Derived.Test.YtkihgbglodfkmaaGreatSameS
import Derived.Test.YtkihgbglodfkmaaGreatRBodies
import Derived.Test.YtkihgbglodfkmaaGreatBodies
import Derived.Test.YtkihgbglodfkmaaGreatRatio
import Derived.Test.YtkihgbglodfkmaaGreatLives
import Derived.Test.YtkihgbglodfkmaaGreatRAt
namespace Go.Proofs.YtkihgbglodfkmaaGreat
open Go.RowKit
set_option linter.unusedVariables false

theorem is_true (a b : Nat) (h : bitsN a = bitsN b) (w : World) : Calls Tryz.prog 14 #[.float .f64 a, .float .f64 b] w fun e w' => e = .returned (.bool true) ∧ w = w' :=
  (is_any a b w).mono fun e w' ⟨he, hw⟩ => ⟨by rw [he, h]; simp, hw⟩
theorem Len_n {w : World} {B g n : Nat} {xs : List Nat} (h : Ser w B g xs) (hn : xs.length = n) : Calls Tryz.prog 10 #[.pointer (some ⟨g, 0, none⟩)] w fun e w' => e = .returned (.int .i64 n) ∧ w = w' := by
  subst hn
  exact Len_any h
theorem rMean_n {w : World} {B n : Nat} {A : Option Addr} {cap : Nat} {xs : List Nat} (h : Nums w B A cap xs) (hn : xs.length = n) (hf : n ≤ 10000) :
    Calls Tryz.prog 16 #[.slice A n cap] w fun e w' => ∃ y, e = .returned (.float .f64 y) ∧ Sum_ y (meanO xs) ∧ Below w.heap.size w w' := by
  subst hn
  exact rMean_any h (Nat.le_trans hf (by decide))
theorem rSorted_n {w : World} {B n : Nat} {A : Option Addr} {cap : Nat} {xs : List Nat} (h : Nums w B A cap xs) (hn : xs.length = n) (hf : n ≤ 10000) (hw : ∀ x ∈ xs, x < W64) :
    Calls Tryz.prog 13 #[.slice A n cap] w fun e w' => ∃ A' c', e = .returned (.slice A' n c') ∧ Nums w' w.heap.size A' c' (srt xs) ∧ Below w.heap.size w w' := by
  subst hn
  exact rSorted_any h (Nat.le_trans hf (by decide)) hw
theorem Same_n {w : World} {B B2 n : Nat} {A A2 : Option Addr} {cap cap2 : Nat} {xs ys : List Nat} (h : Nums w B A cap xs) (h2 : Nums w B2 A2 cap2 ys) (he : xs.map bitsN = ys.map bitsN) (hn : xs.length = n) (hf : n ≤ 1000000) :
    Calls Tryz.prog 11 #[.slice A n cap, .slice A2 n cap2] w fun e w' => e = .returned (.bool true) ∧ Below w.heap.size w w' := by
  have hl : ys.length = n := by
    have := congrArg List.length he
    simp at this
    omega
  have := Same_yes h h2 he (by omega)
  rw [hn, hl] at this
  exact this.mono fun e w' ⟨he, q, hq⟩ => ⟨he, by rw [hq]; exact below_drewN (Below.refl _ _) q⟩
theorem Sorted_n {w : World} {B n : Nat} {p : Value} {A : Option Addr} {cap : Nat} {xs : List Nat} (h : Has w B p A cap xs) (hn : xs.length = n) (hw : ∀ x ∈ xs, x < W64) :
    Calls Tryz.prog 12 #[p] w fun e w' => ∃ A c ys, e = .returned (.slice A n c) ∧ ys.length = n ∧ ys.map bitsN = (srt xs).map bitsN ∧ Nums w' w.heap.size A c ys ∧ Below w.heap.size w w' :=
  (Sorted_any h hw).mono fun e w' ⟨A, c, ys, he, hs, hr, hb⟩ => ⟨A, c, ys, by rw [he, hs.len, hn], by rw [hs.len, hn], hs.bits (srt_sorts xs) hw, hr, hb⟩
theorem fewm {w : World} {lo n : Nat} {v : Value} {es : List Ou} (h : Os w lo v n es) (hc : CutO es) (hn : es.length = n) :
    Calls Tryz.prog 4 #[v] w fun o w' => ∃ A c, o = .returned (.slice A n c) ∧ Os w' 0 (.slice A n c) n es ∧ Below w.heap.size w w' := by
  have := few_any h hc.fine
  rw [hc.twice, hn] at this
  exact this.mono fun o w' ⟨A, c, ho, hO, hb⟩ => ⟨A, c, ho, hO.os.base (Nat.zero_le _), hb⟩
theorem few_wf {es : List Ou} (h : ∀ e ∈ es, WfI e.id) : ∀ e ∈ fewO es, WfI e.id := fun e he => by
  obtain ⟨x, hx, rfl⟩ := List.mem_map.1 he
  exact h x (List.mem_of_mem_take hx)
theorem xsB_wf (ks : List Int) (es : List Ou) : ∀ x ∈ xsB ks es, x < W64 := fun x hx => by
  obtain ⟨k, _, rfl⟩ := List.mem_map.1 hx
  exact foi_wf _

set_option maxRecDepth 100000 in
set_option maxHeartbeats 4000000 in
theorem StatSums_any {w : World} {v : Value} {n0 : Nat} {es0 : List Ou} (a b : Int) (ha1 : -9223372036854775808 ≤ a) (ha2 : a ≤ 9223372036854775807) (hb1 : -9223372036854775808 ≤ b) (hb2 : b ≤ 9223372036854775807)
    (h : Os w 0 v n0 es0) (hf : ∀ e ∈ es0, FineO e) (hw : ∀ e ∈ es0, WfI e.id) :
    Calls Tryz.prog 3 #[v, .int .i64 a, .int .i64 b] w fun o w' => o = .returned (.bool true) ∧ Below w.heap.size w w' := by
  have HX := Lib.hid (few_any h hf)
  have hc := fewO_cut es0
  have hwf := few_wf hw
  have HQ := Lib.hid (quo_ok a b ha1 ha2 hb1 hb2)
  obtain ⟨A0, c0, rfl⟩ := h.slice
  generalize fewO es0 = es at HX hc hwf
  obtain ⟨n, hn⟩ : ∃ n, es.length = n := ⟨_, rfl⟩
  have hn30 : n ≤ 30 := by rw [← hn]; exact hc.len
  rw [hn] at HX
  have HN := Lib.hid hn
  have HC := Lib.hid hc
  have HWF := Lib.hid hwf
  clear h hf hw hc hn hwf ha1 ha2 hb1 hb2
  go_enter Tryz.func3, Tryz.ntmps3
  go_wp2_with fail
  refine HX.out.mono ?_
  rintro o w1 ⟨A1, c1, rfl, hO, hb⟩
  have HO1 := Lib.hid (hO.os.base (Nat.zero_le _))
  have HB1 := Lib.hid hb
  clear hO hb HX
  go_wp2_with fail
  refine (fewm HO1.out HC.out HN.out).mono ?_
  rintro o w2 ⟨A2, c2, rfl, hO, hb⟩
  have HO2 := Lib.hid hO
  have HB2 := Lib.hid (below_then HB1.out (Nat.le_refl _) hb)
  have HM2 := Lib.hid (HO1.out.below hb)
  clear hO hb HB1 HO1
  go_wp2_with fail
  refine (Bodies_any HO2.out hn30 HC.out.body HWF.out).mono ?_
  rintro o w3 ⟨g, ks, rfl, hs, hkl, hu, hb⟩
  have HS3 := Lib.hid hs
  have HU := Lib.hid hu
  have HB3 := Lib.hid (below_then HB2.out (Nat.le_refl _) hb)
  have HM3 := Lib.hid (HM2.out.below hb)
  clear hs hu hb HB2 HM2 HO2
  go_wp2_with fail
  refine (fewm HM3.out HC.out HN.out).mono ?_
  rintro o w4 ⟨A4, c4, rfl, hO, hb⟩
  have HO4 := Lib.hid hO
  have HB4 := Lib.hid (below_then HB3.out (Nat.le_refl _) hb)
  have HM4 := Lib.hid (HM3.out.below hb)
  have HS4 := Lib.hid (HS3.out.below hb)
  clear hO hb HB3 HM3 HS3
  go_wp2_with fail
  refine (Sums_any HO4.out hn30 HC.out.body HC.out.rs).mono ?_
  rintro o w5 ⟨A5, c5, ws, rfl, hr, hwl, hu, hb⟩
  have HR5 := Lib.hid hr
  have HW5 := Lib.hid hu
  have HB5 := Lib.hid (below_then HB4.out (Nat.le_refl _) hb)
  have HM5 := Lib.hid (HM4.out.below hb)
  have HS5 := Lib.hid (HS4.out.below hb)
  clear hr hu hb HB4 HM4 HS4 HO4
  go_wp2_with fail
  refine (rSums_any HM5.out hn30 HC.out.body).mono ?_
  rintro o w6 ⟨A6, c6, ws2, rfl, hr, hwl2, hu, hb⟩
  obtain rfl := HW5.out.same hu
  have HR6 := Lib.hid hr
  have HR5 := Lib.hid (HR5.out.below hb (Nat.le_refl _))
  have HB6 := Lib.hid (below_then HB5.out (Nat.le_refl _) hb)
  have HM6 := Lib.hid (HM5.out.below hb)
  have HS6 := Lib.hid (HS5.out.below hb)
  clear hr hu hb HB5 HM5 HS5 HW5
  go_wp2_with fail
  refine (SameSums_any HR5.out HR6.out (whyL_len _ _) (by omega)).mono ?_
  rintro o w7 ⟨rfl, hb⟩
  have HB7 := Lib.hid (below_then HB6.out (Nat.le_refl _) hb)
  have HM7 := Lib.hid (HM6.out.below hb)
  have HS7 := Lib.hid (HS6.out.below hb)
  clear hb HB6 HM6 HS6 HR5 HR6
  go_wp2_with fail
  refine (rBodies_any HM7.out hn30 HC.out.body).mono ?_
  rintro o w8 ⟨A8, c8, ks2, rfl, hr, hkl2, hu, hb⟩
  obtain rfl := HU.out.same hu
  obtain ⟨m, hm⟩ : ∃ m, ks.length = m := ⟨_, rfl⟩
  have hxl : (xsB ks es).length = m := by rw [xsB_len, hm]
  have HXW := Lib.hid (xsB_wf ks es)
  have HR8 : Hid (Nums w8 w7.heap.size A8 c8 (xsB ks es)) := by unfold Hid Nums; rw [xsB_len]; exact hr
  have HB8 := Lib.hid (below_then HB7.out (Nat.le_refl _) hb)
  have HS8 := Lib.hid (HS7.out.below hb)
  rw [hm] at hkl ⊢
  clear hr hu hb HB7 HM7 HS7 HU hkl2 hm
  generalize xsB ks es = xs at HXW HR8 HS8 hxl
  have HXL := Lib.hid hxl
  clear hxl
  go_wp2_with fail
  refine (Len_n HS8.out HXL.out).mono ?_
  rintro e wn ⟨rfl, rfl⟩
  go_wp2_with fail
  obtain ⟨Ah, ch, hh⟩ := Has.ser HS8.out
  have HH := Lib.hid hh
  clear hh
  refine (Sorted_n HH.out HXL.out HXW.out).mono ?_
  rintro e w9 ⟨As, cs, vs, rfl, hvl, hvb, hv, hb⟩
  have HVL := Lib.hid hvl
  have HVB := Lib.hid hvb
  have HV := Lib.hid hv
  have HB9 := Lib.hid (below_then HB8.out (Nat.le_refl _) hb)
  have HS9 := Lib.hid (HS8.out.below hb)
  have HR9 := Lib.hid (HR8.out.below hb)
  clear hvl hvb hv hb HB8 HS8 HR8 HH
  go_wp2_with fail
  refine (rSorted_n HR9.out HXL.out (by omega) HXW.out).mono ?_
  rintro e w10 ⟨At, ct, rfl, hr, hb⟩
  have HV10 := Lib.hid (HV.out.below hb)
  have HR10 := Lib.hid hr
  have HB10 := Lib.hid (below_then HB9.out (Nat.le_refl _) hb)
  have HS10 := Lib.hid (HS9.out.below hb)
  have HN10 := Lib.hid (HR9.out.below hb)
  clear hr hb HV HB9 HS9 HR9
  go_wp2_with fail
  refine (Same_n HV10.out HR10.out HVB.out HVL.out (by omega)).mono ?_
  rintro e w11 ⟨rfl, hb⟩
  have HB11 := Lib.hid (below_then HB10.out (Nat.le_refl _) hb)
  have HS11 := Lib.hid (HS10.out.below hb)
  have HN11 := Lib.hid (HN10.out.below hb)
  clear hb HB10 HS10 HN10 HV10 HR10
  go_wp2_with fail
  refine (Mean_any HS11.out).mono ?_
  rintro e w12 ⟨y1, rfl, hs, hb⟩
  have HY1 := Lib.hid hs
  have HB12 := Lib.hid (below_then HB11.out (Nat.le_refl _) hb)
  have HN12 := Lib.hid (HN11.out.below hb)
  clear hs hb HB11 HN11 HS11
  go_wp2_with fail
  refine (rMean_n HN12.out HXL.out (by omega)).mono ?_
  rintro e w13 ⟨y2, rfl, hs, hb⟩
  have HY2 := Lib.hid hs
  have HB13 := Lib.hid (below_then HB12.out (Nat.le_refl _) hb)
  clear hs hb HB12 HN12
  go_wp2_with fail
  refine (is_true _ _ (HY1.out.bits HY2.out) _).mono ?_
  rintro e wn ⟨rfl, rfl⟩
  go_wp2_with fail
  refine (Share_any a b HQ.out _).mono ?_
  rintro e wn ⟨rfl, rfl⟩
  go_wp2_with fail
  refine (rRatio_any a b HQ.out _).mono ?_
  rintro e wn ⟨rfl, rfl⟩
  go_wp2_with fail
  refine (is_true _ _ rfl _).mono ?_
  rintro e wn ⟨rfl, rfl⟩
  go_wp2_with fail
  refine (lives_any _).mono ?_
  rintro e w14 ⟨rfl, hb⟩
  have HB14 := Lib.hid (below_then HB13.out (Nat.le_refl _) hb)
  go_wp2_with fail
  go_ret
  exact ⟨rfl, HB14.out⟩
end Go.Proofs.YtkihgbglodfkmaaGreat
