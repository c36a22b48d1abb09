/-
  Layer 41: how far numbers lie from their mean, by the program and by the document. No condition but that a series is one, or none.
-/
import Derived.Test.YtkihgbglodfkmaaSums
namespace Go.Proofs.Ytkihgbglodfkmaa
open Go.RowKit
set_option linter.unusedVariables false

/-- A series, or none: its numbers lie in a slice. -/
structure Has (w : World) (B : Nat) (p : Value) (A : Option Addr) (cap : Nat) (xs : List Nat) : Prop where
  few : xs.length ≤ 10000
  row : Nums w B A cap xs
  all : ∀ w', Below w.heap.size w w' → Calls Try.prog 32 #[p] w' fun e w'' => e = .returned (.slice A xs.length cap) ∧ w' = w''
theorem Has.nil (w : World) : Has w 0 (.pointer none) none 0 [] := ⟨by decide, Row.nil_ _ _ _, fun w' _ => all_nil w'⟩
theorem Has.ser {w : World} {B g : Nat} {xs : List Nat} (h : Ser w B g xs) : ∃ A cap, Has w B (.pointer (some ⟨g, 0, none⟩)) A cap xs := by
  have h0 := h
  obtain ⟨h1, h2, A, cap, hg, hr⟩ := h
  refine ⟨A, cap, h2, hr, fun w' hb => ?_⟩
  have hg' : w'.heap[g]? = _ := (hb.block g (blk_lt hg)).trans hg
  have c0 : w'.cell? ⟨g, 0, none⟩ = some (.slice A xs.length cap) := cell_of_row w' g 0 _ _ _ hg'
  clear hg hr h0 hg' h2 hb
  go_enter Try.func32, Try.ntmps32
  go_wp2
  go_ret
  exact ⟨rfl, rfl⟩
theorem Has.below {w w' : World} {B : Nat} {p : Value} {A : Option Addr} {cap : Nat} {xs : List Nat} (h : Has w B p A cap xs) (hb : Below w.heap.size w w') : Has w' B p A cap xs :=
  ⟨h.few, h.row.below hb, fun w'' hb2 => h.all w'' (below_then hb (Nat.le_refl _) hb2)⟩

theorem sub_op {x m d : Nat} {mo : Option Nat} (hx : x < W64) (h : Sum_ m mo) (hr : d < W64) (h1 : ∀ v, floatBits .sub .f64 x m = some v → d = v) (h2 : floatBits .sub .f64 x m = none → nanB d = true) :
    Sum_ d (mo.bind fun v => floatBits .sub .f64 x v) := by
  have := Sum_.op (Sum_.num hx) h (sub_nan m) (sub_nan2 x) hr h1 h2
  exact this
theorem mul_op {x m d p : Nat} {mo : Option Nat} (hd : Sum_ d (mo.bind fun v => floatBits .sub .f64 x v)) (hr : p < W64) (h1 : ∀ v, floatBits .mul .f64 d d = some v → p = v) (h2 : floatBits .mul .f64 d d = none → nanB p = true) :
    Sum_ p (sqO mo x) := by
  have := Sum_.op hd hd (mul_nan d) (mul_nan d) hr h1 h2
  exact this

/-- These words are those, some of which may be none. -/
def Each (es : List Nat) (os : List (Option Nat)) : Prop := es.length = os.length ∧ ∀ j (h1 : j < es.length) (h2 : j < os.length), Sum_ es[j] os[j]
theorem Each.nil : Each [] [] := ⟨rfl, fun j h1 => absurd h1 (by simp)⟩
theorem Each.snoc {es : List Nat} {os : List (Option Nat)} {e : Nat} {o : Option Nat} (h : Each es os) (he : Sum_ e o) : Each (es ++ [e]) (os ++ [o]) := by
  refine ⟨by simp [h.1], fun j h1 h2 => ?_⟩
  have hl := h.1
  rcases Nat.lt_or_ge j es.length with hj | hj
  · rw [List.getElem_append_left hj, List.getElem_append_left (by omega)]
    exact h.2 j hj (by omega)
  · have h1' : j < es.length + 1 := by simpa using h1
    obtain rfl : j = es.length := by omega
    rw [List.getElem_append_right (by omega), List.getElem_append_right (by omega)]
    simpa using he

set_option maxHeartbeats 4000000 in
theorem Var_any {w : World} {B : Nat} {p : Value} {A : Option Addr} {cap : Nat} {xs : List Nat} (h : Has w B p A cap xs) (hw : ∀ x ∈ xs, x < W64) :
    Calls Try.prog 24 #[p] w fun e w' => ∃ y, e = .returned (.float .f64 y) ∧ Sum_ y (varO xs) ∧ Below w.heap.size w w' := by
  have hlen := h.few
  have H1 := Lib.hid h.all
  have HM := Lib.hid (mean_any h.row (Nat.le_trans h.few (by decide)))
  have HR := Lib.hid h.row
  have HW := Lib.hid hw
  obtain ⟨i0, hi, hz0, hz1, hz2⟩ := info_parts infoF
  have HI := Lib.hid hi
  have HZ := Lib.hid hz0
  have HZ1 := Lib.hid hz1
  have HZ2 : Hid (i0.bytes ≤ 1000) := by unfold Hid; omega
  obtain ⟨n, hN⟩ : ∃ n, xs.length = n := ⟨_, rfl⟩
  have HN := Lib.hid hN
  rw [hN] at H1 HM hlen
  clear h hw hN hi hz0 hz1 hz2
  go_enter Try.func24, Try.ntmps24
  go_wp2_with (first
    | (go_at_call 39; refine HM.out.mono ?_; rintro e w1 ⟨m, rfl, hs, hb⟩; have HS := Lib.hid hs; have HB1 := Lib.hid hb; clear hs hb)
    | (have t1 := HB1; go_at_call 32; refine (H1.out _ HB1.out).mono ?_; rintro e w1 ⟨rfl, rfl⟩)
    | (go_at_call 32; refine (H1.out _ (Below.refl _ _)).mono ?_; rintro e w1 ⟨rfl, rfl⟩))
  go_loopw [3, 14] (fun o iv wr => ∃ (i c : Nat) (A' : Option Addr) (es : List Nat), o = .slice A' i c ∧ iv = .int .i64 i ∧ i ≤ n ∧ Hid (Each es ((xs.take i).map (sqO (meanO xs)))) ∧ Hid (Row wr w.heap.size 28 (.slice A' i c) i (es.map fl)) ∧ Hid (Below w.heap.size w wr)) (fun _ iv _ => n - (intOf iv).toNat)
  case atStart => exact ⟨0, 0, none, [], rfl, rfl, Nat.zero_le _, Lib.hid Each.nil, Lib.hid (Row.nil_ _ _ _), HB1⟩
  case round =>
    obtain ⟨i, c, A', es, rfl, rfl, hi, HE, HO, HB⟩ := hrel
    by_cases hin : i < n
    · have hix : i < xs.length := by rw [HN.out]; exact hin
      obtain ⟨g, off, rfl, _, hcell, hc1, hc2⟩ := (HR.out.below HB.out).get (j := i) hix
      have HT := Lib.hid (take_more hix)
      have hxw := HW.out _ (List.getElem_mem hix)
      generalize xs[i]'hix = x at hcell HT hxw
      rw [HN.out] at hc1
      obtain ⟨d, w3, hrun3, hb3, -, hr1, hr2, hr3⟩ := arith_run .sub (Or.inr (Or.inl rfl)) x m wr
      have HD := Lib.hid (sub_op hxw HS.out hr1 hr2 hr3)
      have HB3 := Lib.hid (below_then HB.out (Nat.le_refl _) hb3)
      have HO3 := Lib.hid (HO.out.below hb3 (Nat.le_refl _))
      clear hr1 hr2 hr3 hb3 hix hxw
      obtain ⟨sq, w4, hrun4, hb4, -, hr1, hr2, hr3⟩ := arith_run .mul (Or.inr (Or.inr (Or.inl rfl))) d d w3
      have HQ := Lib.hid (mul_op (m := m) HD.out hr1 hr2 hr3)
      have HB4 := Lib.hid (below_then HB3.out (Nat.le_refl _) hb4)
      have HO4 := Lib.hid ((HO3.out.below hb4 (Nat.le_refl _)).alloc (.cells #[.float .f64 sq] 28))
      clear hr1 hr2 hr3 hb4
      have HCN : Hid ((w4.alloc (.cells #[.float .f64 sq] 28)).cell? ⟨w4.heap.size, 0, none⟩ = some (.float .f64 sq)) := by unfold Hid; rw [World.cell?_alloc_new]; rfl
      have HSZ : Hid (w.heap.size ≤ (w4.alloc (.cells #[.float .f64 sq] 28)).heap.size) := by unfold Hid; have := HB4.out.size; simp; omega
      have HL : Hid (i ≤ 1000000000) := by unfold Hid; omega
      go_wp2_with (at_builtin; refine wpList_append_row rfl (.tmp 21) (.tmp 25) 23 rfl w.heap.size 28 i0 (.float .f64 0) Try.underlying23 HI.out HZ.out HZ1.out HZ2.out rfl _ _ _ rfl HO4.out _ _ _ rfl HCN.out rfl HL.out HSZ.out ?_; intro A1 e1 w5 hr5 hgr5; have HR5 := Lib.hid hr5; have HG5 := Lib.hid hgr5; clear hr5 hgr5)
      go_roundw
      case rel =>
        refine ⟨i + 1, e1, A1, es ++ [sq], rfl, by go_num, by omega, ?_, ?_, ?_⟩
        · unfold Hid
          rw [HT.out, List.map_append]
          exact HE.out.snoc HQ.out
        · unfold Hid
          rw [List.map_append]
          exact HR5.out
        · exact Lib.hid ((HB4.out.alloc HB4.out.size _).grown HG5.out HSZ.out fun b hb => (HO.out.lt b hb).1)
      case measure => simp [intOf]; omega
    · obtain rfl : i = n := by omega
      have hel : es.length = i := by
        have := HE.out.1
        rw [List.length_map, List.length_take, HN.out] at this
        omega
      have HO2 : Hid (Nums wr w.heap.size A' c es) := by
        unfold Hid Nums
        rw [hel]
        exact HO.out
      have hm2 := mean_any HO2.out (by omega)
      rw [hel] at hm2
      have HM2 := Lib.hid hm2
      have HEL := Lib.hid hel
      clear hm2 hel
      go_wp2_with (go_at_call 39; refine HM2.out.mono ?_; rintro e w2 ⟨y, rfl, hs, hb⟩; have HS2 := Lib.hid hs; have HB2 := Lib.hid hb; clear hs hb)
      go_ret
      refine ⟨y, rfl, ?_, below_then HB.out (Nat.le_refl _) HB2.out⟩
      have e1 : meanO es = varO xs := by
        unfold meanO varO
        rw [HEL.out, HN.out]
        by_cases h0 : i = 0
        · rw [if_pos h0, if_pos h0]
        · rw [if_neg h0, if_neg h0]
          have := HE.out
          rw [List.take_of_length_le (by rw [HN.out]; exact Nat.le_refl _)] at this
          rw [sumO_eq this.1 this.2]
      rw [← e1]
      exact HS2.out

set_option maxHeartbeats 4000000 in
theorem rVar_any {w : World} {B : Nat} {A : Option Addr} {cap : Nat} {xs : List Nat} (h : Nums w B A cap xs) (hn : xs.length ≤ 1000000000) (hw : ∀ x ∈ xs, x < W64) :
    Calls Try.prog 25 #[.slice A xs.length cap] w fun e w' => ∃ y, e = .returned (.float .f64 y) ∧ Sum_ y (varO xs) ∧ Below w.heap.size w w' := by
  have HM := Lib.hid (rMean_any h hn)
  have H2 := Lib.hid rNaN_any
  have HR := Lib.hid h
  have HW := Lib.hid hw
  obtain ⟨n, hN⟩ : ∃ n, xs.length = n := ⟨_, rfl⟩
  have HN := Lib.hid hN
  rw [hN] at HM hn ⊢
  clear h hw hN
  go_enter Try.func25, Try.ntmps25
  go_wp2_with (go_at_call 23; refine HM.out.mono ?_; rintro e w1 ⟨m, rfl, hs, hb⟩; have HS := Lib.hid hs; have HB1 := Lib.hid hb; clear hs hb)
  go_loopw [4, 5] (fun s iv wr => ∃ (i y : Nat), s = .float .f64 y ∧ iv = .int .i64 i ∧ i ≤ n ∧ Hid (Sum_ y (sumP ((xs.take i).map (sqO (meanO xs))))) ∧ Hid (Below w.heap.size w wr)) (fun _ iv _ => n - (intOf iv).toNat)
  case atStart => exact ⟨0, 0, rfl, rfl, Nat.zero_le _, Lib.hid Sum_.start, HB1⟩
  case round =>
    obtain ⟨i, y, rfl, rfl, hi, HE, HB⟩ := hrel
    by_cases hin : i < n
    · have hix : i < xs.length := by rw [HN.out]; exact hin
      obtain ⟨g, off, rfl, _, hcell, hc1, hc2⟩ := (HR.out.below HB.out).get (j := i) hix
      have HT := Lib.hid (take_more hix)
      have hxw := HW.out _ (List.getElem_mem hix)
      generalize xs[i]'hix = x at hcell HT hxw
      rw [HN.out] at hc1
      obtain ⟨d, w3, hrun3, hb3, -, hr1, hr2, hr3⟩ := arith_run .sub (Or.inr (Or.inl rfl)) x m wr
      have HD := Lib.hid (sub_op hxw HS.out hr1 hr2 hr3)
      have HB3 := Lib.hid (below_then HB.out (Nat.le_refl _) hb3)
      clear hr1 hr2 hr3 hb3 hix hxw
      obtain ⟨sq, w4, hrun4, hb4, -, hr1, hr2, hr3⟩ := arith_run .mul (Or.inr (Or.inr (Or.inl rfl))) d d w3
      have HQ := Lib.hid (mul_op (m := m) HD.out hr1 hr2 hr3)
      have HB4 := Lib.hid (below_then HB3.out (Nat.le_refl _) hb4)
      clear hr1 hr2 hr3 hb4
      obtain ⟨r, w5, hrun5, hb5, -, hr1, hr2, hr3⟩ := arith_run .add (Or.inl rfl) y sq w4
      have HA := Lib.hid (Sum_.op HE.out HQ.out (add_nan sq) (add_nan2 y) hr1 hr2 hr3)
      have HB5 := Lib.hid (below_then HB4.out (Nat.le_refl _) hb5)
      clear hr1 hr2 hr3 hb5
      go_wp2
      go_roundw
      case rel =>
        refine ⟨i + 1, r, rfl, by go_num, by omega, ?_, HB5⟩
        unfold Hid
        rw [HT.out, List.map_append, List.map_cons, List.map_nil, sumP_snoc]
        exact HA.out
      case measure => simp [intOf]; omega
    · obtain rfl : i = n := by omega
      have HE2 : Hid (Sum_ y (sumP (xs.map (sqO (meanO xs))))) := by
        have := HE.out
        rwa [List.take_of_length_le (by rw [HN.out]; exact Nat.le_refl _)] at this
      by_cases h0 : i = 0
      · subst h0
        go_wp2_with (go_at_call 35; refine (H2.out _).mono ?_; rintro e w1 ⟨rfl, rfl⟩)
        go_ret
        refine ⟨_, rfl, ?_, HB.out⟩
        unfold varO
        rw [if_pos HN.out]
        exact Sum_.nan
      · have hz : ((i : Int) == 0) = false := by rw [beq_eq_false_iff_ne]; omega
        clear h0
        obtain ⟨r, w3, hrun, hb3, -, hr1, hr2, hr3⟩ := arith_run .quo (Or.inr (Or.inr (Or.inr rfl))) y (floatOfInt .f64 i) wr
        have HX := Lib.hid (HE2.out.quo hr1 hr2 hr3)
        have HB3 := Lib.hid (below_then HB.out (Nat.le_refl _) hb3)
        clear hr1 hr2 hr3 hb3
        go_wp2
        go_ret
        refine ⟨_, rfl, ?_, HB3.out⟩
        unfold varO
        rw [if_neg (by rw [HN.out]; intro h; rw [h] at hz; cases hz), HN.out]
        exact HX.out
end Go.Proofs.Ytkihgbglodfkmaa
