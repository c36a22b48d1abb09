/-
  Layer 41: sums, means and how far numbers lie from their mean: what they are, and that the program and the document reckon the same. No condition but that a slice is no longer than a thousand million.
-/
import Derived.Test.YtkihgbglodfkmaaGreatFlSum
import Derived.Test.YtkihgbglodfkmaaGreatSer
namespace Go.Proofs.YtkihgbglodfkmaaGreat
open Go.RowKit
set_option linter.unusedVariables false

theorem read_nan_some {y : Nat} (hy : nanB y = true) : ∃ s t, FloatKind.f64.format.read y = .nan s t := read_nan hy
theorem add_nan2 {y : Nat} (x : Nat) (hy : nanB y = true) : floatBits .add .f64 x y = none := by
  obtain ⟨s, t, e⟩ := read_nan hy
  change ((Ieee.double.read x).sum (Ieee.double.read y)).map Ieee.double.write = none
  rw [e]
  cases Ieee.double.read x <;> rfl
theorem sub_nan {y : Nat} (x : Nat) (hy : nanB y = true) : floatBits .sub .f64 y x = none := by
  obtain ⟨s, t, e⟩ := read_nan hy
  change ((Ieee.double.read y).sum (Ieee.double.read x).opposite).map Ieee.double.write = none
  rw [e]
  rfl
theorem sub_nan2 {y : Nat} (x : Nat) (hy : nanB y = true) : floatBits .sub .f64 x y = none := by
  obtain ⟨s, t, e⟩ := read_nan hy
  change ((Ieee.double.read x).sum (Ieee.double.read y).opposite).map Ieee.double.write = none
  rw [e]
  cases Ieee.double.read x <;> rfl
theorem mul_nan {y : Nat} (x : Nat) (hy : nanB y = true) : floatBits .mul .f64 y x = none := by
  obtain ⟨s, t, e⟩ := read_nan hy
  change ((Ieee.double.read y).product (Ieee.double.read x)).map Ieee.double.write = none
  rw [e]
  rfl
theorem quo_nan {y : Nat} (x : Nat) (hy : nanB y = true) : floatBits .quo .f64 y x = none := by
  obtain ⟨s, t, e⟩ := read_nan hy
  change ((Ieee.double.read y).quotient (Ieee.double.fractionBits + 2) (Ieee.double.read x)).map Ieee.double.write = none
  rw [e]
  rfl

/-- An operation on what may be no number. -/
theorem Sum_.op {y x r : Nat} {o p : Option Nat} {op : BinOp} (h : Sum_ y o) (k : Sum_ x p) (hn1 : nanB y = true → floatBits op .f64 y x = none) (hn2 : nanB x = true → floatBits op .f64 y x = none)
    (hr : r < W64) (h1 : ∀ v, floatBits op .f64 y x = some v → r = v) (h2 : floatBits op .f64 y x = none → nanB r = true) : Sum_ r (o.bind fun v => p.bind fun u => floatBits op .f64 v u) := by
  obtain ⟨hy, ho⟩ := h
  obtain ⟨hx, hp⟩ := k
  cases o with
  | none => exact ⟨hr, h2 (hn1 ho)⟩
  | some v =>
    cases p with
    | none => exact ⟨hr, h2 (hn2 hp)⟩
    | some u =>
      have e1 : y = v := ho
      have e2 : x = u := hp
      subst e1 e2
      refine ⟨hr, ?_⟩
      show match floatBits op .f64 y x with | some v => r = v | none => nanB r = true
      cases hf : floatBits op .f64 y x with
      | some a => exact h1 a hf
      | none => exact h2 hf
theorem Sum_.num {y : Nat} (h : y < W64) : Sum_ y (some y) := ⟨h, rfl⟩

/-- The sum of numbers, some of which may be none. -/
def sumP (l : List (Option Nat)) : Option Nat := l.foldl (fun s x => s.bind fun v => x.bind fun u => floatBits .add .f64 v u) (some 0)
theorem sumP_snoc (l : List (Option Nat)) (x : Option Nat) : sumP (l ++ [x]) = (sumP l).bind fun v => x.bind fun u => floatBits .add .f64 v u := by simp [sumP]
theorem sumO_eq {xs : List Nat} {os : List (Option Nat)} (hl : xs.length = os.length) (h : ∀ j (h1 : j < xs.length) (h2 : j < os.length), Sum_ xs[j] os[j]) : sumO xs = sumP os := by
  have key : ∀ (xs : List Nat) (os : List (Option Nat)) (s : Option Nat), xs.length = os.length → (∀ j (h1 : j < xs.length) (h2 : j < os.length), Sum_ xs[j] os[j]) →
      xs.foldl (fun s x => s.bind fun v => floatBits .add .f64 v x) s = os.foldl (fun s x => s.bind fun v => x.bind fun u => floatBits .add .f64 v u) s := by
    intro xs
    induction xs with
    | nil => intro os s hl _; cases os with
      | nil => rfl
      | cons _ _ => cases hl
    | cons x xs ih =>
      intro os s hl h
      cases os with
      | nil => cases hl
      | cons o os =>
        have h0 := h 0 (by simp) (by simp)
        simp only [List.getElem_cons_zero] at h0
        have hs : (s.bind fun v => floatBits .add .f64 v x) = (s.bind fun v => o.bind fun u => floatBits .add .f64 v u) := by
          obtain ⟨hx, ho⟩ := h0
          cases o with
          | some u => rw [show x = u from ho]; rfl
          | none =>
            cases s with
            | none => rfl
            | some v => exact add_nan2 v ho
        simp only [List.foldl_cons]
        rw [hs]
        refine ih os _ (by simpa using hl) fun j h1 h2 => ?_
        have := h (j + 1) (by simpa using h1) (by simpa using h2)
        simpa using this
  exact key xs os _ hl h
theorem sumP_some (xs : List Nat) : sumP (xs.map some) = sumO xs := by
  unfold sumP sumO
  rw [List.foldl_map]
  rfl

/-- A sum that is divided; the mean; how far. -/
def quoO (o : Option Nat) (n : Nat) : Option Nat := o.bind fun v => floatBits .quo .f64 v (floatOfInt .f64 (n : Int))
def meanO (xs : List Nat) : Option Nat := if xs.length = 0 then none else quoO (sumO xs) xs.length
def sqO (m : Option Nat) (x : Nat) : Option Nat :=
  let d := m.bind fun v => floatBits .sub .f64 x v
  d.bind fun v => d.bind fun u => floatBits .mul .f64 v u
def varO (xs : List Nat) : Option Nat := if xs.length = 0 then none else quoO (sumP (xs.map (sqO (meanO xs)))) xs.length
theorem foi_wf (n : Int) : floatOfInt .f64 n < W64 := by
  have := floatOfInt_wf .f64 n
  simpa [Lit.wf, W64] using this
theorem Sum_.quo {y r : Nat} {o : Option Nat} {n : Nat} (h : Sum_ y o) (hr : r < W64) (h1 : ∀ v, floatBits .quo .f64 y (floatOfInt .f64 (n : Int)) = some v → r = v)
    (h2 : floatBits .quo .f64 y (floatOfInt .f64 (n : Int)) = none → nanB r = true) : Sum_ r (quoO o n) := by
  obtain ⟨hy, ho⟩ := h
  unfold quoO
  cases o with
  | none => exact ⟨hr, h2 (quo_nan _ ho)⟩
  | some v =>
    have e1 : y = v := ho
    subst e1
    refine ⟨hr, ?_⟩
    show match floatBits .quo .f64 y (floatOfInt .f64 (n : Int)) with | some v => r = v | none => nanB r = true
    cases hf : floatBits .quo .f64 y (floatOfInt .f64 (n : Int)) with
    | some a => exact h1 a hf
    | none => exact h2 hf
theorem Sum_.nan : Sum_ NN none := ⟨by decide +kernel, by show nanB NN = true; decide +kernel⟩

theorem rNaN_any (w : World) : Calls Tryz.prog 35 #[] w fun e w' => e = .returned (.float .f64 NN) ∧ w = w' := by
  have h := Of_any 9221120237041090561
  go_enter Tryz.func35, Tryz.ntmps35
  go_wp2_with (go_at_call 38; refine (h _).mono ?_; rintro e w1 ⟨rfl, rfl⟩)
  go_ret
  exact ⟨rfl, rfl⟩

/-- A slice of numbers. -/
def Nums (w : World) (B : Nat) (A : Option Addr) (cap : Nat) (xs : List Nat) : Prop := Row w B 40 (.slice A xs.length cap) xs.length (xs.map fl)
theorem Nums.get {w : World} {B : Nat} {A : Option Addr} {cap : Nat} {xs : List Nat} (h : Nums w B A cap xs) {j : Nat} (hj : j < xs.length) :
    ∃ g off, A = some ⟨g, off, none⟩ ∧ g < w.heap.size ∧ w.cell? ⟨g, off + j, none⟩ = some (.float .f64 xs[j]) ∧ xs.length ≤ cap ∧ cap ≤ 4611686018427387904 * 2 := by
  obtain ⟨g, off, cap', hA, hcell, hc1, hc2⟩ := Row.get h hj
  injection hA with hA1 _ hA3
  subst hA1 hA3
  refine ⟨g, off, rfl, (h.lt g rfl).2, by simpa [fl] using hcell, hc1, ?_⟩
  unfold maxLen at hc2
  omega
theorem Nums.below {w w' : World} {B : Nat} {A : Option Addr} {cap : Nat} {xs : List Nat} (h : Nums w B A cap xs) (hb : Below w.heap.size w w') : Nums w' B A cap xs := Row.below h hb (Nat.le_refl _)
theorem take_more {xs : List Nat} {k : Nat} (h : k < xs.length) : xs.take (k + 1) = xs.take k ++ [xs[k]] := List.take_succ_eq_append_getElem h

set_option maxHeartbeats 1000000 in
theorem Sum_any {w : World} {B : Nat} {A : Option Addr} {cap : Nat} {xs : List Nat} (h : Nums w B A cap xs) (hn : xs.length ≤ 1000000000) :
    Calls Tryz.prog 54 #[.slice A xs.length cap] w fun e w' => ∃ y, e = .returned (.float .f64 y) ∧ Sum_ y (sumO xs) ∧ Below w.heap.size w w' := by
  have HT := Lib.hid h
  obtain ⟨n, hN⟩ : ∃ n, xs.length = n := ⟨_, rfl⟩
  have HN := Lib.hid hN
  rw [hN] at hn ⊢
  clear h hN
  go_enter Tryz.func54, Tryz.ntmps54
  go_wp2
  go_loopw [3, 8] (fun s iv wr => ∃ (i y : Nat), s = .float .f64 y ∧ iv = .int .i64 i ∧ i ≤ n ∧ Hid (Sum_ y (sumO (xs.take i))) ∧ Below w.heap.size w wr) (fun _ iv _ => n - (intOf iv).toNat)
  case atStart => exact ⟨0, 0, rfl, rfl, Nat.zero_le _, Lib.hid Sum_.start, Below.refl _ _⟩
  case round =>
    obtain ⟨i, y, rfl, rfl, hi, HS, hb⟩ := hrel
    have HB := Lib.hid hb
    clear hb
    by_cases hin : i < n
    · have hix : i < xs.length := by rw [HN.out]; exact hin
      obtain ⟨g, off, rfl, _, hcell, hc1, hc2⟩ := (HT.out.below HB.out).get (j := i) hix
      have HE := Lib.hid (take_more hix)
      generalize xs[i]'hix = x at hcell HE
      rw [HN.out] at hc1
      obtain ⟨r, w3, hrun, hb3, -, hr1, hr2, hr3⟩ := arith_run .add (Or.inl rfl) y x wr
      have HX := Lib.hid (HS.out.next hr1 hr2 hr3)
      have HB3 := Lib.hid hb3
      clear hr1 hr2 hr3 hb3 hix
      go_wp2
      go_roundw
      case rel =>
        refine ⟨i + 1, r, rfl, by go_num, by omega, ?_, below_then HB.out (Nat.le_refl _) HB3.out⟩
        unfold Hid
        rw [HE.out, sumO_snoc]
        exact HX.out
      case measure => simp [intOf]; omega
    · obtain rfl : i = n := by omega
      go_wp2
      go_ret
      refine ⟨y, rfl, ?_, HB.out⟩
      have := HS.out
      rwa [List.take_of_length_le (by rw [HN.out]; exact Nat.le_refl _)] at this

set_option maxHeartbeats 1000000 in
theorem rSum_any {w : World} {B : Nat} {A : Option Addr} {cap : Nat} {xs : List Nat} (h : Nums w B A cap xs) (hn : xs.length ≤ 1000000000) :
    Calls Tryz.prog 36 #[.slice A xs.length cap] w fun e w' => ∃ y, e = .returned (.float .f64 y) ∧ Sum_ y (sumO xs) ∧ Below w.heap.size w w' := by
  have HT := Lib.hid h
  obtain ⟨n, hN⟩ : ∃ n, xs.length = n := ⟨_, rfl⟩
  have HN := Lib.hid hN
  rw [hN] at hn ⊢
  clear h hN
  go_enter Tryz.func36, Tryz.ntmps36
  go_wp2
  go_loopw [3, 4] (fun s iv wr => ∃ (i y : Nat), s = .float .f64 y ∧ iv = .int .i64 i ∧ i ≤ n ∧ Hid (Sum_ y (sumO (xs.take i))) ∧ Below w.heap.size w wr) (fun _ iv _ => n - (intOf iv).toNat)
  case atStart => exact ⟨0, 0, rfl, rfl, Nat.zero_le _, Lib.hid Sum_.start, Below.refl _ _⟩
  case round =>
    obtain ⟨i, y, rfl, rfl, hi, HS, hb⟩ := hrel
    have HB := Lib.hid hb
    clear hb
    by_cases hin : i < n
    · have hix : i < xs.length := by rw [HN.out]; exact hin
      obtain ⟨g, off, rfl, _, hcell, hc1, hc2⟩ := (HT.out.below HB.out).get (j := i) hix
      have HE := Lib.hid (take_more hix)
      generalize xs[i]'hix = x at hcell HE
      rw [HN.out] at hc1
      obtain ⟨r, w3, hrun, hb3, -, hr1, hr2, hr3⟩ := arith_run .add (Or.inl rfl) y x wr
      have HX := Lib.hid (HS.out.next hr1 hr2 hr3)
      have HB3 := Lib.hid hb3
      clear hr1 hr2 hr3 hb3 hix
      go_wp2
      go_roundw
      case rel =>
        refine ⟨i + 1, r, rfl, by go_num, by omega, ?_, below_then HB.out (Nat.le_refl _) HB3.out⟩
        unfold Hid
        rw [HE.out, sumO_snoc]
        exact HX.out
      case measure => simp [intOf]; omega
    · obtain rfl : i = n := by omega
      go_wp2
      go_ret
      refine ⟨y, rfl, ?_, HB.out⟩
      have := HS.out
      rwa [List.take_of_length_le (by rw [HN.out]; exact Nat.le_refl _)] at this

/-- The program's mean of a slice. -/
theorem mean_any {w : World} {B : Nat} {A : Option Addr} {cap : Nat} {xs : List Nat} (h : Nums w B A cap xs) (hn : xs.length ≤ 1000000000) :
    Calls Tryz.prog 34 #[.slice A xs.length cap] w fun e w' => ∃ y, e = .returned (.float .f64 y) ∧ Sum_ y (meanO xs) ∧ Below w.heap.size w w' := by
  have H1 := Lib.hid (Sum_any h hn)
  have H2 := Lib.hid NaN_any
  obtain ⟨n, hN⟩ : ∃ n, xs.length = n := ⟨_, rfl⟩
  have HN := Lib.hid hN
  rw [hN] at hn H1 ⊢
  clear h hN
  by_cases h0 : n = 0
  · subst h0
    go_enter Tryz.func34, Tryz.ntmps34
    go_wp2_with (go_at_call 53; refine (H2.out _).mono ?_; rintro e w1 ⟨rfl, rfl⟩)
    go_ret
    refine ⟨_, rfl, ?_, Below.refl _ _⟩
    unfold meanO
    rw [if_pos HN.out]
    exact Sum_.nan
  · have hz : ((n : Int) == 0) = false := by rw [beq_eq_false_iff_ne]; omega
    clear h0
    go_enter Tryz.func34, Tryz.ntmps34
    go_wp2_with (go_at_call 54; refine H1.out.mono ?_; rintro e w1 ⟨y, rfl, hs, hb⟩; have HS := Lib.hid hs; have HB := Lib.hid hb; obtain ⟨r, w3, hrun, hb3, -, hr1, hr2, hr3⟩ := arith_run .quo (Or.inr (Or.inr (Or.inr rfl))) y (floatOfInt .f64 n) w1; have HX := Lib.hid (HS.out.quo hr1 hr2 hr3); have HB3 := Lib.hid hb3; clear hr1 hr2 hr3 hb3 hs hb)
    go_ret
    refine ⟨_, rfl, ?_, below_then HB.out (Nat.le_refl _) HB3.out⟩
    unfold meanO
    rw [if_neg (by rw [HN.out]; intro h; rw [h] at hz; cases hz), HN.out]
    exact HX.out
/-- The document's. -/
theorem rMean_any {w : World} {B : Nat} {A : Option Addr} {cap : Nat} {xs : List Nat} (h : Nums w B A cap xs) (hn : xs.length ≤ 1000000000) :
    Calls Tryz.prog 16 #[.slice A xs.length cap] w fun e w' => ∃ y, e = .returned (.float .f64 y) ∧ Sum_ y (meanO xs) ∧ Below w.heap.size w w' := by
  have H1 := Lib.hid (rSum_any h hn)
  have H2 := Lib.hid rNaN_any
  obtain ⟨n, hN⟩ : ∃ n, xs.length = n := ⟨_, rfl⟩
  have HN := Lib.hid hN
  rw [hN] at hn H1 ⊢
  clear h hN
  by_cases h0 : n = 0
  · subst h0
    go_enter Tryz.func16, Tryz.ntmps16
    go_wp2_with (go_at_call 35; refine (H2.out _).mono ?_; rintro e w1 ⟨rfl, rfl⟩)
    go_ret
    refine ⟨_, rfl, ?_, Below.refl _ _⟩
    unfold meanO
    rw [if_pos HN.out]
    exact Sum_.nan
  · have hz : ((n : Int) == 0) = false := by rw [beq_eq_false_iff_ne]; omega
    clear h0
    go_enter Tryz.func16, Tryz.ntmps16
    go_wp2_with (go_at_call 36; refine H1.out.mono ?_; rintro e w1 ⟨y, rfl, hs, hb⟩; have HS := Lib.hid hs; have HB := Lib.hid hb; obtain ⟨r, w3, hrun, hb3, -, hr1, hr2, hr3⟩ := arith_run .quo (Or.inr (Or.inr (Or.inr rfl))) y (floatOfInt .f64 n) w1; have HX := Lib.hid (HS.out.quo hr1 hr2 hr3); have HB3 := Lib.hid hb3; clear hr1 hr2 hr3 hb3 hs hb)
    go_ret
    refine ⟨_, rfl, ?_, below_then HB.out (Nat.le_refl _) HB3.out⟩
    unfold meanO
    rw [if_neg (by rw [HN.out]; intro h; rw [h] at hz; cases hz), HN.out]
    exact HX.out
/-- The mean of a series, of none too. -/
theorem Mean_nil (w : World) : Calls Tryz.prog 15 #[.pointer none] w fun e w' => ∃ y, e = .returned (.float .f64 y) ∧ Sum_ y (meanO []) ∧ Below w.heap.size w w' := by
  have H1 := Lib.hid (all_nil w)
  have H2 := Lib.hid (mean_any (w := w) (B := 0) (A := none) (cap := 0) (xs := []) (Row.nil_ _ _ _) (by decide))
  go_enter Tryz.func15, Tryz.ntmps15
  go_wp2_with (first | (go_at_call 30; refine H1.out.mono ?_; rintro e w1 ⟨rfl, rfl⟩) | (go_at_call 34; refine H2.out.mono ?_; rintro e w1 ⟨y, rfl, hs, hb⟩))
  go_ret
  exact ⟨y, rfl, hs, hb⟩
theorem Mean_any {w : World} {B g : Nat} {xs : List Nat} (h : Ser w B g xs) : Calls Tryz.prog 15 #[.pointer (some ⟨g, 0, none⟩)] w fun e w' => ∃ y, e = .returned (.float .f64 y) ∧ Sum_ y (meanO xs) ∧ Below w.heap.size w w' := by
  obtain ⟨A, cap, hr, hc⟩ := all_any h
  have H1 := Lib.hid hc
  have H2 := Lib.hid (mean_any hr (Nat.le_trans h.few (by decide)))
  clear hc hr h
  go_enter Tryz.func15, Tryz.ntmps15
  go_wp2_with (first | (go_at_call 30; refine H1.out.mono ?_; rintro e w1 ⟨rfl, rfl⟩) | (go_at_call 34; refine H2.out.mono ?_; rintro e w1 ⟨y, rfl, hs, hb⟩; have HS := Lib.hid hs; clear hs))
  go_ret
  exact ⟨y, rfl, HS.out, hb⟩
end Go.Proofs.YtkihgbglodfkmaaGreat
