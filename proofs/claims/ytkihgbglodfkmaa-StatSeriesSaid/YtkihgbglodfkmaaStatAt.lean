/-
  Layer 41: the law on the number at a share, walked. No condition but that what comes in lies in memory.
-/
import Derived.Test.YtkihgbglodfkmaaLives
namespace Go.Proofs.Ytkihgbglodfkmaa
open Go.RowKit
set_option linter.unusedVariables false

theorem is_true {a b o : Nat} (ha : bitsN a = o) (hb : bitsN b = o) (w : World) : Calls Try.prog 10 #[.float .f64 a, .float .f64 b] w fun e w' => e = .returned (.bool true) ∧ w = w' :=
  (is_any a b w).mono fun e w' ⟨he, hw⟩ => ⟨by rw [he, ha, hb]; simp, hw⟩
theorem kind_none {y : Nat} (h : bitsN y = NN) : kindI y = 0 := by
  have : nanB y = true := by
    cases hn : nanB y with
    | true => rfl
    | false =>
      unfold bitsN at h
      rw [hn] at h
      simp only [Bool.false_eq_true, if_false] at h
      rw [h] at hn
      exact absurd hn (by decide +kernel)
  unfold kindI
  rw [this]
  rfl
theorem place_bits {a b : Nat} (ha : a < W64) (hb : b < W64) (h : bitsN a = bitsN b) : placeN a = placeN b := (place_inj ha hb).2 h
theorem place_at {xs : List Nat} (hw : ∀ x ∈ xs, x < W64) {y k : Nat} (hk : k < xs.length) (hy : bitsN y = atB xs (k : Int)) (hl : y < W64) : placeN y = placeN ((srt xs)[k]'(by rw [srt_len]; exact hk)) := by
  have hk' : k < (srt xs).length := by rw [srt_len]; exact hk
  refine place_bits hl ((srt_sorts xs).lt hw _ (List.getElem_mem hk')) ?_
  rw [hy, atB_in (srt_sorts xs) hw hk']
theorem cmp_le {xs : List Nat} (hw : ∀ x ∈ xs, x < W64) {i j a b : Nat} (hij : i ≤ j) (hj : j < xs.length) (ha : bitsN a = atB xs (i : Int)) (hal : a < W64) (hb : bitsN b = atB xs (j : Int)) (hbl : b < W64) : cmpI a b ≤ 0 := by
  have e1 := place_at hw (Nat.lt_of_le_of_lt hij hj) ha hal
  have e2 := place_at hw hj hb hbl
  have hp := (srt_sorts xs).2
  rw [List.pairwise_map] at hp
  have hle : placeN a ≤ placeN b := by
    rw [e1, e2]
    rcases Nat.lt_or_ge i j with h | h
    · exact List.pairwise_iff_getElem.1 hp i j _ _ h
    · obtain rfl : i = j := by omega
      exact Nat.le_refl _
  unfold cmpI
  split
  · omega
  · split
    · omega
    · omega

/-- What has been made of the numbers: the numbers themselves, and the series. -/
structure Made (w W : World) (A : Option Addr) (c : Nat) (g : Nat) (A2 : Option Addr) (c2 : Nat) (xs : List Nat) : Prop where
  below : Below w.heap.size w W
  nums : Nums W w.heap.size A c xs
  ser : Ser W w.heap.size g xs
  has : Has W w.heap.size (.pointer (some ⟨g, 0, none⟩)) A2 c2 xs
theorem Made.then {w W W' : World} {A : Option Addr} {c : Nat} {g : Nat} {A2 : Option Addr} {c2 : Nat} {xs : List Nat} (h : Made w W A c g A2 c2 xs) (hb : Below W.heap.size W W') : Made w W' A c g A2 c2 xs :=
  ⟨below_then h.below (Nat.le_refl _) hb, h.nums.below hb, h.ser.below hb, h.has.below hb⟩
theorem Row.base' {w : World} {B B' : Nat} {A : Option Addr} {cap : Nat} {xs : List Nat} (h : Nums w B A cap xs) (hb : B' ≤ B) : Nums w B' A cap xs := Row.base h hb
theorem Ser.base {w : World} {B B' g : Nat} {xs : List Nat} (h : Ser w B g xs) (hb : B' ≤ B) : Ser w B' g xs := by
  obtain ⟨h1, h2, A, cap, hg, hr⟩ := h
  exact ⟨Nat.le_trans hb h1, h2, A, cap, hg, Row.base hr hb⟩
theorem Made.mk' {w W W' : World} {A : Option Addr} {c g : Nat} {xs : List Nat} (hb : Below w.heap.size w W) (hn : Nums W w.heap.size A c xs) (hs : Ser W' W.heap.size g xs) (hb2 : Below W.heap.size W W') : ∃ A2 c2, Made w W' A c g A2 c2 xs := by
  have hs' := hs.base hb.size
  obtain ⟨A2, c2, hh⟩ := Has.ser hs'
  exact ⟨A2, c2, below_then hb (Nat.le_refl _) hb2, hn.below hb2, hs', hh⟩

theorem of_n {w : World} {B n : Nat} {A : Option Addr} {cap : Nat} {xs : List Nat} (h : Nums w B A cap xs) (hn : xs.length = n) (hf : n ≤ 10000) :
    Calls Try.prog 9 #[.slice A n cap] w fun e w' => e = .returned (.pointer (some ⟨w.heap.size, 0, none⟩)) ∧ Ser w' w.heap.size w.heap.size xs ∧ Below w.heap.size w w' := by
  subst hn
  exact of_any h hf
theorem rAt_n {w : World} {B n : Nat} {A : Option Addr} {cap : Nat} {xs : List Nat} (h : Nums w B A cap xs) (hn : xs.length = n) (hf : n ≤ 10000) (hw : ∀ x ∈ xs, x < W64) (num den : Int) :
    Calls Try.prog 12 #[.slice A n cap, .int .i64 num, .int .i64 den] w (Flt (shareB xs num den) w) := by
  subst hn
  exact rAt_any h hf hw num den
theorem kind_nn {y : Nat} (h : bitsN y = NN) (w : World) : Calls Try.prog 13 #[.float .f64 y] w fun e w' => e = .returned (.int .i64 0) ∧ w = w' :=
  (rKind_any y w).mono fun e w' ⟨he, hw⟩ => ⟨by rw [he, kind_none h], hw⟩

set_option maxRecDepth 100000 in
set_option maxHeartbeats 4000000 in
theorem StatAt_no {w : World} {a : Option Addr} {len : Nat} {zs : List Nat} (cap : Nat) (h : Words w a len zs) (num den : Int) (hno : ¬ Share_ (few zs len 40) num den) :
    Calls Try.prog 3 #[.slice a len cap, .int .i64 num, .int .i64 den] w fun e w' => e = .returned (.bool true) ∧ Below w.heap.size w w' := by
  have H8 := Lib.hid (numbers_any cap h 40 (by decide))
  have HW := Lib.hid (few_lt h 40)
  have HL := Lib.hid lives_any
  have hf : (few zs len 40).length ≤ 40 := by rw [few_len h]; omega
  obtain ⟨xs, hxs⟩ : ∃ xs, few zs len 40 = xs := ⟨_, rfl⟩
  rw [hxs] at H8 HW hf hno
  have HS : Hid (shareB xs num den = NN) := by unfold Hid shareB; rw [if_neg hno]
  have hno2 : ¬ (xs.length ≠ 0 ∧ 1 ≤ den ∧ den ≤ 1000 ∧ 0 ≤ num ∧ num ≤ den) := hno
  obtain ⟨n, hN⟩ : ∃ n, xs.length = n := ⟨_, rfl⟩
  have HN := Lib.hid hN
  rw [hN] at hno2 hf
  rw [hN] at H8
  have HF : Hid (n ≤ 10000) := by unfold Hid; omega
  clear h hxs hN hno hf
  have key : n = 0 ∨ (n ≠ 0 ∧ den < 1) ∨ (n ≠ 0 ∧ ¬ den < 1 ∧ 1000 < den) ∨ (n ≠ 0 ∧ ¬ den < 1 ∧ ¬ 1000 < den ∧ num < 0) ∨ (n ≠ 0 ∧ ¬ den < 1 ∧ ¬ 1000 < den ∧ ¬ num < 0 ∧ den < num) := by omega
  clear hno2
  rcases key with h0 | ⟨h0, h1⟩ | ⟨h0, h1, h2⟩ | ⟨h0, h1, h2, h3⟩ | ⟨h0, h1, h2, h3, h4⟩
  · have hz : ((n : Int) == 0) = true := by rw [beq_iff_eq]; omega
    clear h0
    go_enter Try.func3, Try.ntmps3
    go_wp2_with (first
      | (go_at_call 8; refine H8.out.mono ?_; rintro e w1 ⟨A, c, rfl, hn, hb⟩; have HNU := Lib.hid hn; have HB1 := Lib.hid hb; clear hn hb)
      | (go_at_call 9; refine (of_n HNU.out HN.out HF.out).mono ?_; rintro e w2 ⟨rfl, hs, hb⟩; obtain ⟨A2, c2, hm⟩ := Made.mk' HB1.out HNU.out hs hb; have HM := Lib.hid hm; clear hs hb hm)
      | (go_at_call 11; refine (At_any HM.out.has HW.out num den).mono ?_; rintro e w3 ⟨y, rfl, hy, hb⟩; rw [HS.out] at hy; have HY := Lib.hid hy; have HM := Lib.hid (HM.out.then hb); clear hy hb)
      | (go_at_call 12; refine (rAt_n HM.out.nums HN.out HF.out HW.out num den).mono ?_; rintro e w4 ⟨y2, rfl, hy, hb⟩; rw [HS.out] at hy; have HY2 := Lib.hid hy; have HM := Lib.hid (HM.out.then hb); clear hy hb)
      | (go_at_call 10; refine (is_true HY.out.1 HY2.out.1 _).mono ?_; rintro e w5 ⟨rfl, rfl⟩)
      | (go_at_call 13; refine (kind_nn HY.out.1 _).mono ?_; rintro e w5 ⟨rfl, rfl⟩)
      | (go_at_call 14; refine (HL.out _).mono ?_; rintro e w6 ⟨rfl, hb⟩; have HM := Lib.hid (HM.out.then hb); clear hb))
    go_ret
    exact ⟨rfl, HM.out.below⟩
  · have hz : ((n : Int) == 0) = false := by rw [beq_eq_false_iff_ne]; omega
    clear h0
    go_enter Try.func3, Try.ntmps3
    go_wp2_with (first
      | (go_at_call 8; refine H8.out.mono ?_; rintro e w1 ⟨A, c, rfl, hn, hb⟩; have HNU := Lib.hid hn; have HB1 := Lib.hid hb; clear hn hb)
      | (go_at_call 9; refine (of_n HNU.out HN.out HF.out).mono ?_; rintro e w2 ⟨rfl, hs, hb⟩; obtain ⟨A2, c2, hm⟩ := Made.mk' HB1.out HNU.out hs hb; have HM := Lib.hid hm; clear hs hb hm)
      | (go_at_call 11; refine (At_any HM.out.has HW.out num den).mono ?_; rintro e w3 ⟨y, rfl, hy, hb⟩; rw [HS.out] at hy; have HY := Lib.hid hy; have HM := Lib.hid (HM.out.then hb); clear hy hb)
      | (go_at_call 12; refine (rAt_n HM.out.nums HN.out HF.out HW.out num den).mono ?_; rintro e w4 ⟨y2, rfl, hy, hb⟩; rw [HS.out] at hy; have HY2 := Lib.hid hy; have HM := Lib.hid (HM.out.then hb); clear hy hb)
      | (go_at_call 10; refine (is_true HY.out.1 HY2.out.1 _).mono ?_; rintro e w5 ⟨rfl, rfl⟩)
      | (go_at_call 13; refine (kind_nn HY.out.1 _).mono ?_; rintro e w5 ⟨rfl, rfl⟩)
      | (go_at_call 14; refine (HL.out _).mono ?_; rintro e w6 ⟨rfl, hb⟩; have HM := Lib.hid (HM.out.then hb); clear hb))
    go_ret
    exact ⟨rfl, HM.out.below⟩
  · have hz : ((n : Int) == 0) = false := by rw [beq_eq_false_iff_ne]; omega
    clear h0
    go_enter Try.func3, Try.ntmps3
    go_wp2_with (first
      | (go_at_call 8; refine H8.out.mono ?_; rintro e w1 ⟨A, c, rfl, hn, hb⟩; have HNU := Lib.hid hn; have HB1 := Lib.hid hb; clear hn hb)
      | (go_at_call 9; refine (of_n HNU.out HN.out HF.out).mono ?_; rintro e w2 ⟨rfl, hs, hb⟩; obtain ⟨A2, c2, hm⟩ := Made.mk' HB1.out HNU.out hs hb; have HM := Lib.hid hm; clear hs hb hm)
      | (go_at_call 11; refine (At_any HM.out.has HW.out num den).mono ?_; rintro e w3 ⟨y, rfl, hy, hb⟩; rw [HS.out] at hy; have HY := Lib.hid hy; have HM := Lib.hid (HM.out.then hb); clear hy hb)
      | (go_at_call 12; refine (rAt_n HM.out.nums HN.out HF.out HW.out num den).mono ?_; rintro e w4 ⟨y2, rfl, hy, hb⟩; rw [HS.out] at hy; have HY2 := Lib.hid hy; have HM := Lib.hid (HM.out.then hb); clear hy hb)
      | (go_at_call 10; refine (is_true HY.out.1 HY2.out.1 _).mono ?_; rintro e w5 ⟨rfl, rfl⟩)
      | (go_at_call 13; refine (kind_nn HY.out.1 _).mono ?_; rintro e w5 ⟨rfl, rfl⟩)
      | (go_at_call 14; refine (HL.out _).mono ?_; rintro e w6 ⟨rfl, hb⟩; have HM := Lib.hid (HM.out.then hb); clear hb))
    go_ret
    exact ⟨rfl, HM.out.below⟩
  · have hz : ((n : Int) == 0) = false := by rw [beq_eq_false_iff_ne]; omega
    clear h0
    go_enter Try.func3, Try.ntmps3
    go_wp2_with (first
      | (go_at_call 8; refine H8.out.mono ?_; rintro e w1 ⟨A, c, rfl, hn, hb⟩; have HNU := Lib.hid hn; have HB1 := Lib.hid hb; clear hn hb)
      | (go_at_call 9; refine (of_n HNU.out HN.out HF.out).mono ?_; rintro e w2 ⟨rfl, hs, hb⟩; obtain ⟨A2, c2, hm⟩ := Made.mk' HB1.out HNU.out hs hb; have HM := Lib.hid hm; clear hs hb hm)
      | (go_at_call 11; refine (At_any HM.out.has HW.out num den).mono ?_; rintro e w3 ⟨y, rfl, hy, hb⟩; rw [HS.out] at hy; have HY := Lib.hid hy; have HM := Lib.hid (HM.out.then hb); clear hy hb)
      | (go_at_call 12; refine (rAt_n HM.out.nums HN.out HF.out HW.out num den).mono ?_; rintro e w4 ⟨y2, rfl, hy, hb⟩; rw [HS.out] at hy; have HY2 := Lib.hid hy; have HM := Lib.hid (HM.out.then hb); clear hy hb)
      | (go_at_call 10; refine (is_true HY.out.1 HY2.out.1 _).mono ?_; rintro e w5 ⟨rfl, rfl⟩)
      | (go_at_call 13; refine (kind_nn HY.out.1 _).mono ?_; rintro e w5 ⟨rfl, rfl⟩)
      | (go_at_call 14; refine (HL.out _).mono ?_; rintro e w6 ⟨rfl, hb⟩; have HM := Lib.hid (HM.out.then hb); clear hb))
    go_ret
    exact ⟨rfl, HM.out.below⟩
  · have hz : ((n : Int) == 0) = false := by rw [beq_eq_false_iff_ne]; omega
    clear h0
    go_enter Try.func3, Try.ntmps3
    go_wp2_with (first
      | (go_at_call 8; refine H8.out.mono ?_; rintro e w1 ⟨A, c, rfl, hn, hb⟩; have HNU := Lib.hid hn; have HB1 := Lib.hid hb; clear hn hb)
      | (go_at_call 9; refine (of_n HNU.out HN.out HF.out).mono ?_; rintro e w2 ⟨rfl, hs, hb⟩; obtain ⟨A2, c2, hm⟩ := Made.mk' HB1.out HNU.out hs hb; have HM := Lib.hid hm; clear hs hb hm)
      | (go_at_call 11; refine (At_any HM.out.has HW.out num den).mono ?_; rintro e w3 ⟨y, rfl, hy, hb⟩; rw [HS.out] at hy; have HY := Lib.hid hy; have HM := Lib.hid (HM.out.then hb); clear hy hb)
      | (go_at_call 12; refine (rAt_n HM.out.nums HN.out HF.out HW.out num den).mono ?_; rintro e w4 ⟨y2, rfl, hy, hb⟩; rw [HS.out] at hy; have HY2 := Lib.hid hy; have HM := Lib.hid (HM.out.then hb); clear hy hb)
      | (go_at_call 10; refine (is_true HY.out.1 HY2.out.1 _).mono ?_; rintro e w5 ⟨rfl, rfl⟩)
      | (go_at_call 13; refine (kind_nn HY.out.1 _).mono ?_; rintro e w5 ⟨rfl, rfl⟩)
      | (go_at_call 14; refine (HL.out _).mono ?_; rintro e w6 ⟨rfl, hb⟩; have HM := Lib.hid (HM.out.then hb); clear hb))
    go_ret
    exact ⟨rfl, HM.out.below⟩

theorem cmp_n {a b : Nat} (ha : a < W64) (hb : b < W64) {z : Int} (hz : cmpI a b = z) (w : World) : Calls Try.prog 15 #[.float .f64 a, .float .f64 b] w fun e w' => e = .returned (.int .i64 z) ∧ w = w' := by
  subst hz
  exact rCmp_any a b ha hb w

set_option maxRecDepth 100000 in
set_option maxHeartbeats 4000000 in
theorem StatAt_yes {w : World} {a : Option Addr} {len : Nat} {zs : List Nat} (cap : Nat) (h : Words w a len zs) (num den : Int) (hyes : Share_ (few zs len 40) num den) :
    Calls Try.prog 3 #[.slice a len cap, .int .i64 num, .int .i64 den] w fun e w' => e = .returned (.bool true) ∧ Below w.heap.size w w' := by
  have H8 := Lib.hid (numbers_any cap h 40 (by decide))
  have HW := Lib.hid (few_lt h 40)
  have HL := Lib.hid lives_any
  have hf : (few zs len 40).length ≤ 40 := by rw [few_len h]; omega
  obtain ⟨xs, hxs⟩ : ∃ xs, few zs len 40 = xs := ⟨_, rfl⟩
  rw [hxs] at H8 HW hf hyes
  have hyes2 : xs.length ≠ 0 ∧ 1 ≤ den ∧ den ≤ 1000 ∧ 0 ≤ num ∧ num ≤ den := hyes
  have hsh : ∀ m : Int, 0 ≤ m → m ≤ den → shareB xs m den = atB xs (m * ((xs.length : Int) - 1) / den) := fun m h1 h2 => by
    unfold shareB
    rw [if_pos ⟨hyes2.1, hyes2.2.1, hyes2.2.2.1, h1, h2⟩]
  obtain ⟨n, hN⟩ : ∃ n, xs.length = n := ⟨_, rfl⟩
  have HN := Lib.hid hN
  rw [hN] at hyes2 hf hsh
  rw [hN] at H8
  obtain ⟨h0, h1, h2, h3, h4⟩ := hyes2
  obtain ⟨hp1, hp2⟩ := prod_le h3 (by omega : num ≤ 1000) (by omega : (0 : Int) ≤ (n : Int) - 1) (by omega)
  have hden : ¬ den = 0 := by omega
  have hq : 0 ≤ num * ((n : Int) - 1) / den ∧ num * ((n : Int) - 1) / den ≤ (n : Int) - 1 := by
    refine ⟨Int.ediv_nonneg hp1 (by omega), ?_⟩
    have hm : num * ((n : Int) - 1) ≤ den * ((n : Int) - 1) := Int.mul_le_mul_of_nonneg_right h4 (by omega)
    have := Int.ediv_le_ediv (by omega : 0 < den) hm
    rwa [Int.mul_ediv_cancel_left _ hden] at this
  obtain ⟨k, hk⟩ : ∃ k : Nat, num * ((n : Int) - 1) / den = k := ⟨(num * ((n : Int) - 1) / den).toNat, by omega⟩
  have HS1 : Hid (shareB xs num den = atB xs (k : Int)) := by unfold Hid; rw [hsh num h3 h4, hk]
  have HS0 : Hid (shareB xs 0 den = atB xs 0) := by unfold Hid; rw [hsh 0 (by omega) (by omega), Int.zero_mul, Int.zero_ediv]
  have HSN : Hid (shareB xs den den = atB xs ((xs.length : Int) - 1)) := by unfold Hid; rw [hsh den (by omega) (by omega), Int.mul_ediv_cancel_left _ hden, hN]
  have HSM : Hid (atB xs ((xs.length : Int) - 1) = atB xs ((n - 1 : Nat) : Int)) := by unfold Hid; rw [hN]; congr 1; omega
  have HK : Hid (0 ≤ k ∧ k ≤ n - 1 ∧ k < n ∧ n - 1 < n) := by unfold Hid; omega
  have HF : Hid (n ≤ 10000) := by unfold Hid; omega
  have hz : ((n : Int) == 0) = false := by rw [beq_eq_false_iff_ne]; omega
  rw [hk] at hq
  clear h hxs hN hyes hf hsh hp1 hp2 hk hq h0 hden
  go_enter Try.func3, Try.ntmps3
  go_wp2_with (first
    | (go_at_call 8; refine H8.out.mono ?_; rintro e w1 ⟨A, c, rfl, hn, hb⟩; have HNU := Lib.hid hn; have HB1 := Lib.hid hb; clear hn hb)
    | (go_at_call 9; refine (of_n HNU.out HN.out HF.out).mono ?_; rintro e w2 ⟨rfl, hs, hb⟩; obtain ⟨A2, c2, hm⟩ := Made.mk' HB1.out HNU.out hs hb; have HM := Lib.hid hm; clear hs hb hm))
  refine (At_any HM.out.has HW.out num den).mono ?_
  rintro e wn ⟨y1, rfl, hy, hb⟩
  have Hy1 := Lib.hid hy
  have HM := Lib.hid (HM.out.then hb)
  clear hy hb
  go_wp2_with fail
  refine (rAt_n HM.out.nums HN.out HF.out HW.out num den).mono ?_
  rintro e wn ⟨y2, rfl, hy, hb⟩
  have Hy2 := Lib.hid hy
  have HM := Lib.hid (HM.out.then hb)
  clear hy hb
  go_wp2_with fail
  refine (is_true Hy1.out.1 Hy2.out.1 _).mono ?_
  rintro e wn ⟨rfl, rfl⟩
  go_wp2_with fail
  refine (Least_any HM.out.has HW.out).mono ?_
  rintro e wn ⟨y3, rfl, hy, hb⟩
  have Hy3 := Lib.hid hy
  have HM := Lib.hid (HM.out.then hb)
  clear hy hb
  go_wp2_with fail
  refine (At_any HM.out.has HW.out num den).mono ?_
  rintro e wn ⟨y4, rfl, hy, hb⟩
  have Hy4 := Lib.hid hy
  have HM := Lib.hid (HM.out.then hb)
  clear hy hb
  go_wp2_with fail
  obtain ⟨z1, hz1⟩ : ∃ z, cmpI y3 y4 = z := ⟨_, rfl⟩
  have hzl1 : z1 ≤ 0 := by rw [← hz1]; exact cmp_le (i := 0) (j := k) HW.out HK.out.1 (by rw [HN.out]; exact HK.out.2.2.1) Hy3.out.1 Hy3.out.2 (Hy4.out.1.trans HS1.out) Hy4.out.2
  refine (cmp_n Hy3.out.2 Hy4.out.2 hz1 _).mono ?_
  rintro e wn ⟨rfl, rfl⟩
  clear hz1
  go_wp2_with fail
  refine (At_any HM.out.has HW.out num den).mono ?_
  rintro e wn ⟨y5, rfl, hy, hb⟩
  have Hy5 := Lib.hid hy
  have HM := Lib.hid (HM.out.then hb)
  clear hy hb
  go_wp2_with fail
  refine (Most_any HM.out.has HW.out).mono ?_
  rintro e wn ⟨y6, rfl, hy, hb⟩
  have Hy6 := Lib.hid hy
  have HM := Lib.hid (HM.out.then hb)
  clear hy hb
  go_wp2_with fail
  obtain ⟨z2, hz2⟩ : ∃ z, cmpI y5 y6 = z := ⟨_, rfl⟩
  have hzl2 : z2 ≤ 0 := by rw [← hz2]; exact cmp_le (i := k) (j := n - 1) HW.out HK.out.2.1 (by rw [HN.out]; exact HK.out.2.2.2) (Hy5.out.1.trans HS1.out) Hy5.out.2 (Hy6.out.1.trans HSM.out) Hy6.out.2
  refine (cmp_n Hy5.out.2 Hy6.out.2 hz2 _).mono ?_
  rintro e wn ⟨rfl, rfl⟩
  clear hz2
  go_wp2_with fail
  refine (At_any HM.out.has HW.out 0 den).mono ?_
  rintro e wn ⟨y7, rfl, hy, hb⟩
  have Hy7 := Lib.hid hy
  have HM := Lib.hid (HM.out.then hb)
  clear hy hb
  go_wp2_with fail
  refine (Least_any HM.out.has HW.out).mono ?_
  rintro e wn ⟨y8, rfl, hy, hb⟩
  have Hy8 := Lib.hid hy
  have HM := Lib.hid (HM.out.then hb)
  clear hy hb
  go_wp2_with fail
  refine (is_true (Hy7.out.1.trans HS0.out) Hy8.out.1 _).mono ?_
  rintro e wn ⟨rfl, rfl⟩
  go_wp2_with fail
  refine (At_any HM.out.has HW.out den den).mono ?_
  rintro e wn ⟨y9, rfl, hy, hb⟩
  have Hy9 := Lib.hid hy
  have HM := Lib.hid (HM.out.then hb)
  clear hy hb
  go_wp2_with fail
  refine (Most_any HM.out.has HW.out).mono ?_
  rintro e wn ⟨ya, rfl, hy, hb⟩
  have Hya := Lib.hid hy
  have HM := Lib.hid (HM.out.then hb)
  clear hy hb
  go_wp2_with fail
  refine (is_true (Hy9.out.1.trans HSN.out) Hya.out.1 _).mono ?_
  rintro e wn ⟨rfl, rfl⟩
  go_wp2_with fail
  refine (HL.out _).mono ?_
  rintro e wn ⟨rfl, hb⟩
  have HM := Lib.hid (HM.out.then hb)
  clear hb
  go_wp2_with fail
  go_ret
  exact ⟨rfl, HM.out.below⟩

/-- The law. -/
theorem StatAt_walk (a0 : Option Addr) (len0 cap0 : Nat) (z0 : List Int) (a1 a2 : Int) (W : World) (w0 : IsRow .u64 W a0 len0 cap0 z0) (w1 : (Lit.int .i64 a1).wf = true) (w2 : (Lit.int .i64 a2).wf = true) :
    Calls Try.prog 3 #[.slice a0 len0 cap0, .int .i64 a1, .int .i64 a2] W fun e w' => e = .returned (.bool true) ∧ Below W.heap.size W w' := by
  obtain ⟨zs, hz⟩ := words_of w0
  by_cases h : Share_ (few zs len0 40) a1 a2
  · exact StatAt_yes cap0 hz a1 a2 h
  · exact StatAt_no cap0 hz a1 a2 h
end Go.Proofs.Ytkihgbglodfkmaa
