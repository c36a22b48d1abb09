/-
  Layer 08 (float): the law on quotients, tens and sums, walked. No condition but that a word has 64 bits.
-/
import Derived.Test.YtanekkcfkahinaaRatios
import Derived.Deep.RegionWith
namespace Go.Proofs.Ytanekkcfkahinaa
open Go.RowKit
set_option linter.unusedVariables false

/-- A slice of numbers that comes in. -/
def IsRow (k : IntKind) (w : World) (a : Option Addr) (len cap : Nat) (zs : List Int) : Prop :=
  (a = none ∧ len = 0 ∧ cap = 0 ∧ zs = []) ∨
  ∃ x, a = some x ∧ len ≤ cap ∧ cap ≤ maxLen ∧ zs.length = cap ∧ (∀ i, i < zs.length → w.cell? (x.add i) = some (.int k (zs.getD i 0))) ∧ ∀ n ∈ zs, (Lit.int k n).wf = true
/-- The words, as they lie in memory. -/
structure Words (w : World) (a : Option Addr) (len : Nat) (zs : List Nat) : Prop where
  le : len ≤ maxLen
  long : len ≤ zs.length
  at_ : ∀ j (hj : j < len), ∃ b off, a = some ⟨b, off, none⟩ ∧ b < w.heap.size ∧ w.cell? ⟨b, off + j, none⟩ = some (.int .u64 (zs[j]'(Nat.lt_of_lt_of_le hj long)))
theorem words_of {w : World} {a : Option Addr} {len cap : Nat} {zs : List Int} (h : IsRow .u64 w a len cap zs) : ∃ l, Words w a len l := by
  rcases h with ⟨rfl, rfl, rfl, rfl⟩ | ⟨x, rfl, h1, h2, h3, h4, h5⟩
  · exact ⟨[], Nat.zero_le _, Nat.le_refl _, fun j hj => absurd hj (by omega)⟩
  · refine ⟨zs.map Int.toNat, Nat.le_trans h1 h2, by simp; omega, fun j hj => ?_⟩
    have hcell : ∀ i, i < len → ∃ n : Nat, w.cell? (x.add i) = some (.int .u64 (n : Int)) ∧ (zs.getD i 0).toNat = n := fun i hi => by
      have hm : zs.getD i 0 ∈ zs := by
        rw [List.getD_eq_getElem?_getD, List.getElem?_eq_getElem (by omega)]
        exact List.getElem_mem _
      obtain ⟨n, hn, _⟩ := u64_of _ (h5 _ hm)
      exact ⟨n, by rw [h4 i (by omega), hn], by rw [hn]; rfl⟩
    obtain ⟨b, off, spot⟩ := x
    obtain ⟨n0, hc0, _⟩ := hcell 0 (by omega)
    have hspot : spot = none := by simpa [Addr.add] using World.cell?_spot hc0
    subst hspot
    obtain ⟨n, hc, hn⟩ := hcell j hj
    rw [Go.WideShapes.add_plain] at hc
    refine ⟨b, off, rfl, lt_of_cell (p := ⟨b, off + j, none⟩) hc, ?_⟩
    rw [hc, ← hn, List.getElem_map]
    congr 3
    rw [List.getD_eq_getElem?_getD, List.getElem?_eq_getElem (by omega)]
    rfl
theorem ret_flt {a b : Nat} (h : a = b) : Value.float .f64 a = .float .f64 b := by rw [h]
theorem Try.infoF : (Try.prog.info? 23).map (fun i => (i.zero, i.size, i.bytes)) = some (some (.float .f64 0), 1, 8) := by kernel_rfl

set_option maxRecDepth 100000 in
set_option maxHeartbeats 4000000 in
theorem ratios_low (a b : Int) (A : Option Addr) (len cap : Nat) (zs : List Nat) (w : World) (hq : Quo a b) (hb : b ≤ 22) (hA : Words w A len zs) :
    Calls Try.prog 3 #[.int .i64 a, .int .i64 b, .slice A len cap] w fun e w' => e = .returned (.bool true) ∧ Below w.heap.size w w' := by
  obtain ⟨K, hK⟩ : ∃ K, limI b = K := ⟨_, rfl⟩
  have hKb : (0 ≤ b → (K : Int) = b) := fun h => by rw [← hK]; unfold limI; omega
  have hKb' : (b < 0 → K = 0) := fun h => by rw [← hK]; unfold limI; omega
  have H9 := Lib.hid (fun w => pRatio_any a b hq w)
  have H11 := Lib.hid (fun w => rRatio_any a b hq w)
  have hlt : ratioN a b < W64 := by
    unfold ratioN
    split
    · split
      · decide +kernel
      · split <;> decide +kernel
    · rename_i hb0
      have := floatBits_wf (hq hb0)
      simpa [Lit.wf, W64] using this
  obtain ⟨Q, hQ⟩ : ∃ Q, ratioN a b = Q := ⟨_, rfl⟩
  rw [hQ] at H9 H11 hlt
  have H8 := Lib.hid (fun w => pBits_any Q hlt w)
  have H10 := Lib.hid (fun w => rBits_any Q w)
  obtain ⟨BQ, hBQ⟩ : ∃ B, bitsN Q = B := ⟨_, rfl⟩
  rw [hBQ] at H8 H10
  have h12 := fun w => Tens_any b w
  rw [hK] at h12
  obtain ⟨T, hT⟩ : ∃ T, tensN K = T := ⟨_, rfl⟩
  have hTT : FloatKind.f64.format.order T T = some .eq := by
    rw [← hT]
    obtain ⟨t1, t2⟩ := tens_num K (by rw [← hK]; unfold limI; omega)
    exact self_num t1 t2
  rw [hT] at h12
  have H12 := Lib.hid h12
  have H7 := Lib.hid Of_any
  have H14 := Lib.hid lives_any
  have HA := Lib.hid hA
  have hlen := hA.le
  unfold maxLen at hlen
  have HT := Lib.hid hT
  have hK22 : K ≤ 22 := by rw [← hK]; unfold limI; omega
  obtain ⟨i, hi, hz0, hz1, hz2⟩ := info_parts Try.infoF
  have HI := Lib.hid hi
  have HZ := Lib.hid hz0
  have HZ1 := Lib.hid hz1
  have HZ2 := Lib.hid hz2
  clear hq hQ hlt hBQ h12 hT hA hi hz0 hz1 hz2 hK
  go_enter Try.func3, Try.ntmps3
  go_wp2
  go_loop [8, 9] (fun f i => ∃ j : Nat, j ≤ K ∧ i = .int .i64 j ∧ f = .float .f64 (tensN j)) (fun _ i => K - (intOf i).toNat)
  case atStart => exact ⟨0, Nat.zero_le _, rfl, rfl⟩
  case round =>
    obtain ⟨j, hj, rfl, rfl⟩ := hrel
    by_cases hjK : j < K
    · have hlt : (j : Int) < b := by omega
      have hr := fun w => run_float_arith (P := Try.prog) w .mul 23 .f64 _ _ _ (tens_next j (by omega))
      obtain ⟨x, hx⟩ : ∃ x, tensN j = x := ⟨_, rfl⟩
      obtain ⟨y, hy⟩ : ∃ y, tensN (j + 1) = y := ⟨_, rfl⟩
      rw [hx, hy] at hr
      rw [hx]
      have HY := Lib.hid hy
      clear hx hy
      go_wp2
      go_round
      case rel => exact ⟨j + 1, by omega, by go_num, by rw [HY.out]⟩
      case measure => simp [intOf]; omega
    · obtain rfl : j = K := by omega
      have hlt : ¬ (j : Int) < b := by omega
      rw [HT.out]
      clear hjK
      go_wp2
      go_loopw [10, 11, 12] (fun o f i wr => ∃ (k y c : Nat) (A' : Option Addr), o = .slice A' k c ∧ f = .float .f64 y ∧ i = .int .i64 k ∧ k ≤ len ∧ k ≤ 20 ∧ Hid (wr.ownsRow w.heap.size 23 1 (.slice A' k c) k ((zs.take k).map flV)) ∧ Hid (Sum_ y (sumO (zs.take k))) ∧ Below w.heap.size w wr) (fun _ _ i _ => len - (intOf i).toNat)
      case atStart =>
        exact ⟨0, 0, 0, some ⟨w.heap.size, 0, none⟩, rfl, rfl, rfl, Nat.zero_le _, by omega, World.ownsRow_made w _ 0 (Nat.le_refl _) (by unfold maxLen; omega) (by simp), Sum_.start, (Below.refl _ _).alloc (Nat.le_refl _) _⟩
      case round =>
        obtain ⟨k, y, c, A', rfl, rfl, rfl, hk, hk20, HO, HS, hb⟩ := hrel
        have HB := Lib.hid hb
        have hown := HO.out
        by_cases hin : k < len ∧ k < 20
        · obtain ⟨hl, h20⟩ := hin
          obtain ⟨b', off, rfl, hblt, hc0⟩ := HA.out.at_ k hl
          obtain ⟨x, hx⟩ : ∃ x, zs[k]'(Nat.lt_of_lt_of_le hl HA.out.long) = x := ⟨_, rfl⟩
          rw [hx] at hc0
          have hc := (hb.cell (p := ⟨b', off + k, none⟩) hblt).trans hc0
          have he : zs.take (k + 1) = zs.take k ++ [x] := by rw [List.take_succ_eq_append_getElem (Nat.lt_of_lt_of_le hl HA.out.long), hx]
          have HO2 := Lib.hid (hown.alloc (.cells #[.float .f64 x] 23))
          have HSZ : Hid (w.heap.size ≤ (wr.alloc (.cells #[.float .f64 x] 23)).heap.size) := by unfold Hid; have := hb.size; simp; omega
          have HX1 : Hid (k + 1 ≤ maxLen) := by unfold Hid maxLen; omega
          have HX2 : Hid ((k + 1) * 8 ≤ 140737488355328) := by unfold Hid; omega
          have HCN : Hid (∀ j u, [Value.float .f64 x][j]? = some u → (wr.alloc (.cells #[.float .f64 x] 23)).cell? ((⟨wr.heap.size, 0, none⟩ : Addr).add j) = some u) := cell_one_new wr (.float .f64 x) 23
          have HE := Lib.hid he
          clear hb hc0 hx hown he
          go_wp2_with (first
            | (go_at_call 7; (with_reducible refine (H7.out _ _).mono ?_); rintro e w1 ⟨rfl, rfl⟩)
            | (at_builtin; refine wpList_append_own _ rfl (.tmp 40) (.tmp 42) 24 rfl w.heap.size 23 i (.float .f64 0) 1 8 Try.underlying24 HI.out HZ.out HZ1.out HZ2.out rfl (by decide) _ _ _ rfl HO2.out _ 1 1 [.float .f64 x] rfl rfl HCN.out (fun u hu => by simp at hu; subst hu; rfl) HX1.out HX2.out HSZ.out ?_; intro v2 w2 hown2 hgr2 _; obtain ⟨r, w3, hrun, hb3, hh3, hr1, hr2, hr3⟩ := arith_run .add (Or.inl rfl) y x w2; have HN := Lib.hid (HS.out.next hr1 hr2 hr3); have HB3 := Lib.hid hb3; have HH3 := Lib.hid hh3; have HG2 := Lib.hid hgr2; have HOW := Lib.hid hown2; clear hr1 hr2 hr3 hb3 hh3 hgr2 hown2))
          obtain ⟨A2, c2, rfl⟩ : ∃ A2 c2, v2 = .slice A2 (k + 1) c2 := by
            rcases HOW.out.2 with ⟨_, h0⟩ | ⟨g, cap, cur, hv, _⟩
            · omega
            · exact ⟨_, _, hv⟩
          go_roundw
          case rel =>
            refine ⟨k + 1, r, c2, A2, rfl, rfl, by go_num, by omega, by omega, ?_, ?_, ?_⟩
            · have h3 : w3.ownsRow w.heap.size 23 1 (.slice A2 (k + 1) c2) (k + 1) ((zs.take k).map flV ++ [.float .f64 x]) := HOW.out.kept (row := none) ⟨HB3.out.os, HB3.out.tape, HB3.out.output, HB3.out.size, fun k hk _ => HB3.out.block k hk⟩ (by simp [Value.ownBlock]; cases A2 <;> simp)
              unfold Hid
              rw [HE.out, List.map_append]
              exact h3
            · unfold Hid
              rw [HE.out, sumO_snoc]
              exact HN.out
            · have h1 := (HB.out.alloc HB.out.size (.cells #[.float .f64 x] 23)).grown HG2.out HSZ.out (fun g hg => (HO.out.lt g hg).1)
              exact h1.trans (HB3.out.mono h1.size)
          case measure => simp [intOf]; omega
        · have H13 : Hid (Calls Try.prog 13 #[.slice A' k c] wr (SumPost wr (sumO (zs.take k)))) := sum_any wr w.heap.size A' k c (zs.take k) (by omega) hown
          clear hb hown HO
          have fin : ∀ (hcase : (k : Int) < len → ¬ (k : Int) < 20), True := fun _ => trivial
          by_cases hl : k < len
          · have h20 : ¬ k < 20 := fun h => hin ⟨hl, h⟩
            clear hin
            go_wp2_with (first
              | (go_at_call 9; (with_reducible refine (H9.out _).mono ?_); rintro e w1 ⟨rfl, rfl⟩)
              | (go_at_call 11; (with_reducible refine (H11.out _).mono ?_); rintro e w1 ⟨rfl, rfl⟩)
              | (go_at_call 12; (with_reducible refine (H12.out _).mono ?_); rintro e w1 ⟨rfl, rfl⟩)
              | (go_at_call_of 8 (Value.float FloatKind.f64 Q); (with_reducible refine (H8.out _).mono ?_); rintro e w1 ⟨rfl, rfl⟩)
              | (go_at_call_of 10 (Value.float FloatKind.f64 Q); (with_reducible refine (H10.out _).mono ?_); rintro e w1 ⟨rfl, rfl⟩)
              | (go_at_call 13; (with_reducible refine H13.out.mono ?_); rintro e w5 ⟨r', rfl, hs', hb'⟩; have H8s := Lib.hid (fun w => hs'.bits HS.out ▸ pBits_any r' hs'.1 w); have HB5 := Lib.hid hb'; clear hs' hb')
              | (go_at_call 8; (with_reducible refine (H8s.out _).mono ?_); rintro e w1 ⟨rfl, rfl⟩)
              | (go_at_call 10; (with_reducible refine (rBits_any _ _).mono ?_); rintro e w1 ⟨rfl, rfl⟩)
              | (go_at_call 14; (with_reducible refine (H14.out _).mono ?_); rintro e w1 ⟨rfl, rfl⟩))
            go_ret
            exact ⟨rfl, HB.out.trans (HB5.out.mono HB.out.size)⟩
          · clear hin
            go_wp2_with (first
              | (go_at_call 9; (with_reducible refine (H9.out _).mono ?_); rintro e w1 ⟨rfl, rfl⟩)
              | (go_at_call 11; (with_reducible refine (H11.out _).mono ?_); rintro e w1 ⟨rfl, rfl⟩)
              | (go_at_call 12; (with_reducible refine (H12.out _).mono ?_); rintro e w1 ⟨rfl, rfl⟩)
              | (go_at_call_of 8 (Value.float FloatKind.f64 Q); (with_reducible refine (H8.out _).mono ?_); rintro e w1 ⟨rfl, rfl⟩)
              | (go_at_call_of 10 (Value.float FloatKind.f64 Q); (with_reducible refine (H10.out _).mono ?_); rintro e w1 ⟨rfl, rfl⟩)
              | (go_at_call 13; (with_reducible refine H13.out.mono ?_); rintro e w5 ⟨r', rfl, hs', hb'⟩; have H8s := Lib.hid (fun w => hs'.bits HS.out ▸ pBits_any r' hs'.1 w); have HB5 := Lib.hid hb'; clear hs' hb')
              | (go_at_call 8; (with_reducible refine (H8s.out _).mono ?_); rintro e w1 ⟨rfl, rfl⟩)
              | (go_at_call 10; (with_reducible refine (rBits_any _ _).mono ?_); rintro e w1 ⟨rfl, rfl⟩)
              | (go_at_call 14; (with_reducible refine (H14.out _).mono ?_); rintro e w1 ⟨rfl, rfl⟩))
            go_ret
            exact ⟨rfl, HB.out.trans (HB5.out.mono HB.out.size)⟩

set_option maxRecDepth 100000 in
set_option maxHeartbeats 4000000 in
theorem ratios_high (a b : Int) (A : Option Addr) (len cap : Nat) (zs : List Nat) (w : World) (hq : Quo a b) (hb : 22 < b) (hA : Words w A len zs) :
    Calls Try.prog 3 #[.int .i64 a, .int .i64 b, .slice A len cap] w fun e w' => e = .returned (.bool true) ∧ Below w.heap.size w w' := by
  obtain ⟨K, hK⟩ : ∃ K, limI b = K := ⟨_, rfl⟩
  have hKb : K = 22 := by rw [← hK]; unfold limI; omega
  have H9 := Lib.hid (fun w => pRatio_any a b hq w)
  have H11 := Lib.hid (fun w => rRatio_any a b hq w)
  have hlt : ratioN a b < W64 := by
    unfold ratioN
    split
    · split
      · decide +kernel
      · split <;> decide +kernel
    · rename_i hb0
      have := floatBits_wf (hq hb0)
      simpa [Lit.wf, W64] using this
  obtain ⟨Q, hQ⟩ : ∃ Q, ratioN a b = Q := ⟨_, rfl⟩
  rw [hQ] at H9 H11 hlt
  have H8 := Lib.hid (fun w => pBits_any Q hlt w)
  have H10 := Lib.hid (fun w => rBits_any Q w)
  obtain ⟨BQ, hBQ⟩ : ∃ B, bitsN Q = B := ⟨_, rfl⟩
  rw [hBQ] at H8 H10
  have h12 := fun w => Tens_any b w
  rw [hK] at h12
  obtain ⟨T, hT⟩ : ∃ T, tensN K = T := ⟨_, rfl⟩
  have hTT : FloatKind.f64.format.order T T = some .eq := by
    rw [← hT]
    obtain ⟨t1, t2⟩ := tens_num K (by rw [← hK]; unfold limI; omega)
    exact self_num t1 t2
  rw [hT] at h12
  have H12 := Lib.hid h12
  have H7 := Lib.hid Of_any
  have H14 := Lib.hid lives_any
  have HA := Lib.hid hA
  have hlen := hA.le
  unfold maxLen at hlen
  have HT := Lib.hid hT
  have hK22 : K ≤ 22 := by rw [← hK]; unfold limI; omega
  obtain ⟨i, hi, hz0, hz1, hz2⟩ := info_parts Try.infoF
  have HI := Lib.hid hi
  have HZ := Lib.hid hz0
  have HZ1 := Lib.hid hz1
  have HZ2 := Lib.hid hz2
  clear hq hQ hlt hBQ h12 hT hA hi hz0 hz1 hz2 hK
  go_enter Try.func3, Try.ntmps3
  go_wp2
  go_loop [8, 9] (fun f i => ∃ j : Nat, j ≤ K ∧ i = .int .i64 j ∧ f = .float .f64 (tensN j)) (fun _ i => K - (intOf i).toNat)
  case atStart => exact ⟨0, Nat.zero_le _, rfl, rfl⟩
  case round =>
    obtain ⟨j, hj, rfl, rfl⟩ := hrel
    by_cases hjK : j < K
    · have hlt : (j : Int) < 22 := by omega
      have hr := fun w => run_float_arith (P := Try.prog) w .mul 23 .f64 _ _ _ (tens_next j (by omega))
      obtain ⟨x, hx⟩ : ∃ x, tensN j = x := ⟨_, rfl⟩
      obtain ⟨y, hy⟩ : ∃ y, tensN (j + 1) = y := ⟨_, rfl⟩
      rw [hx, hy] at hr
      rw [hx]
      have HY := Lib.hid hy
      clear hx hy
      go_wp2
      go_round
      case rel => exact ⟨j + 1, by omega, by go_num, by rw [HY.out]⟩
      case measure => simp [intOf]; omega
    · obtain rfl : j = K := by omega
      have hlt : ¬ (j : Int) < 22 := by omega
      rw [HT.out]
      clear hjK
      go_wp2
      go_loopw [10, 11, 12] (fun o f i wr => ∃ (k y c : Nat) (A' : Option Addr), o = .slice A' k c ∧ f = .float .f64 y ∧ i = .int .i64 k ∧ k ≤ len ∧ k ≤ 20 ∧ Hid (wr.ownsRow w.heap.size 23 1 (.slice A' k c) k ((zs.take k).map flV)) ∧ Hid (Sum_ y (sumO (zs.take k))) ∧ Below w.heap.size w wr) (fun _ _ i _ => len - (intOf i).toNat)
      case atStart =>
        exact ⟨0, 0, 0, some ⟨w.heap.size, 0, none⟩, rfl, rfl, rfl, Nat.zero_le _, by omega, World.ownsRow_made w _ 0 (Nat.le_refl _) (by unfold maxLen; omega) (by simp), Sum_.start, (Below.refl _ _).alloc (Nat.le_refl _) _⟩
      case round =>
        obtain ⟨k, y, c, A', rfl, rfl, rfl, hk, hk20, HO, HS, hb⟩ := hrel
        have HB := Lib.hid hb
        have hown := HO.out
        by_cases hin : k < len ∧ k < 20
        · obtain ⟨hl, h20⟩ := hin
          obtain ⟨b', off, rfl, hblt, hc0⟩ := HA.out.at_ k hl
          obtain ⟨x, hx⟩ : ∃ x, zs[k]'(Nat.lt_of_lt_of_le hl HA.out.long) = x := ⟨_, rfl⟩
          rw [hx] at hc0
          have hc := (hb.cell (p := ⟨b', off + k, none⟩) hblt).trans hc0
          have he : zs.take (k + 1) = zs.take k ++ [x] := by rw [List.take_succ_eq_append_getElem (Nat.lt_of_lt_of_le hl HA.out.long), hx]
          have HO2 := Lib.hid (hown.alloc (.cells #[.float .f64 x] 23))
          have HSZ : Hid (w.heap.size ≤ (wr.alloc (.cells #[.float .f64 x] 23)).heap.size) := by unfold Hid; have := hb.size; simp; omega
          have HX1 : Hid (k + 1 ≤ maxLen) := by unfold Hid maxLen; omega
          have HX2 : Hid ((k + 1) * 8 ≤ 140737488355328) := by unfold Hid; omega
          have HCN : Hid (∀ j u, [Value.float .f64 x][j]? = some u → (wr.alloc (.cells #[.float .f64 x] 23)).cell? ((⟨wr.heap.size, 0, none⟩ : Addr).add j) = some u) := cell_one_new wr (.float .f64 x) 23
          have HE := Lib.hid he
          clear hb hc0 hx hown he
          go_wp2_with (first
            | (go_at_call 7; (with_reducible refine (H7.out _ _).mono ?_); rintro e w1 ⟨rfl, rfl⟩)
            | (at_builtin; refine wpList_append_own _ rfl (.tmp 40) (.tmp 42) 24 rfl w.heap.size 23 i (.float .f64 0) 1 8 Try.underlying24 HI.out HZ.out HZ1.out HZ2.out rfl (by decide) _ _ _ rfl HO2.out _ 1 1 [.float .f64 x] rfl rfl HCN.out (fun u hu => by simp at hu; subst hu; rfl) HX1.out HX2.out HSZ.out ?_; intro v2 w2 hown2 hgr2 _; obtain ⟨r, w3, hrun, hb3, hh3, hr1, hr2, hr3⟩ := arith_run .add (Or.inl rfl) y x w2; have HN := Lib.hid (HS.out.next hr1 hr2 hr3); have HB3 := Lib.hid hb3; have HH3 := Lib.hid hh3; have HG2 := Lib.hid hgr2; have HOW := Lib.hid hown2; clear hr1 hr2 hr3 hb3 hh3 hgr2 hown2))
          obtain ⟨A2, c2, rfl⟩ : ∃ A2 c2, v2 = .slice A2 (k + 1) c2 := by
            rcases HOW.out.2 with ⟨_, h0⟩ | ⟨g, cap, cur, hv, _⟩
            · omega
            · exact ⟨_, _, hv⟩
          go_roundw
          case rel =>
            refine ⟨k + 1, r, c2, A2, rfl, rfl, by go_num, by omega, by omega, ?_, ?_, ?_⟩
            · have h3 : w3.ownsRow w.heap.size 23 1 (.slice A2 (k + 1) c2) (k + 1) ((zs.take k).map flV ++ [.float .f64 x]) := HOW.out.kept (row := none) ⟨HB3.out.os, HB3.out.tape, HB3.out.output, HB3.out.size, fun k hk _ => HB3.out.block k hk⟩ (by simp [Value.ownBlock]; cases A2 <;> simp)
              unfold Hid
              rw [HE.out, List.map_append]
              exact h3
            · unfold Hid
              rw [HE.out, sumO_snoc]
              exact HN.out
            · have h1 := (HB.out.alloc HB.out.size (.cells #[.float .f64 x] 23)).grown HG2.out HSZ.out (fun g hg => (HO.out.lt g hg).1)
              exact h1.trans (HB3.out.mono h1.size)
          case measure => simp [intOf]; omega
        · have H13 : Hid (Calls Try.prog 13 #[.slice A' k c] wr (SumPost wr (sumO (zs.take k)))) := sum_any wr w.heap.size A' k c (zs.take k) (by omega) hown
          clear hb hown HO
          have fin : ∀ (hcase : (k : Int) < len → ¬ (k : Int) < 20), True := fun _ => trivial
          by_cases hl : k < len
          · have h20 : ¬ k < 20 := fun h => hin ⟨hl, h⟩
            clear hin
            go_wp2_with (first
              | (go_at_call 9; (with_reducible refine (H9.out _).mono ?_); rintro e w1 ⟨rfl, rfl⟩)
              | (go_at_call 11; (with_reducible refine (H11.out _).mono ?_); rintro e w1 ⟨rfl, rfl⟩)
              | (go_at_call 12; (with_reducible refine (H12.out _).mono ?_); rintro e w1 ⟨rfl, rfl⟩)
              | (go_at_call_of 8 (Value.float FloatKind.f64 Q); (with_reducible refine (H8.out _).mono ?_); rintro e w1 ⟨rfl, rfl⟩)
              | (go_at_call_of 10 (Value.float FloatKind.f64 Q); (with_reducible refine (H10.out _).mono ?_); rintro e w1 ⟨rfl, rfl⟩)
              | (go_at_call 13; (with_reducible refine H13.out.mono ?_); rintro e w5 ⟨r', rfl, hs', hb'⟩; have H8s := Lib.hid (fun w => hs'.bits HS.out ▸ pBits_any r' hs'.1 w); have HB5 := Lib.hid hb'; clear hs' hb')
              | (go_at_call 8; (with_reducible refine (H8s.out _).mono ?_); rintro e w1 ⟨rfl, rfl⟩)
              | (go_at_call 10; (with_reducible refine (rBits_any _ _).mono ?_); rintro e w1 ⟨rfl, rfl⟩)
              | (go_at_call 14; (with_reducible refine (H14.out _).mono ?_); rintro e w1 ⟨rfl, rfl⟩))
            go_ret
            exact ⟨rfl, HB.out.trans (HB5.out.mono HB.out.size)⟩
          · clear hin
            go_wp2_with (first
              | (go_at_call 9; (with_reducible refine (H9.out _).mono ?_); rintro e w1 ⟨rfl, rfl⟩)
              | (go_at_call 11; (with_reducible refine (H11.out _).mono ?_); rintro e w1 ⟨rfl, rfl⟩)
              | (go_at_call 12; (with_reducible refine (H12.out _).mono ?_); rintro e w1 ⟨rfl, rfl⟩)
              | (go_at_call_of 8 (Value.float FloatKind.f64 Q); (with_reducible refine (H8.out _).mono ?_); rintro e w1 ⟨rfl, rfl⟩)
              | (go_at_call_of 10 (Value.float FloatKind.f64 Q); (with_reducible refine (H10.out _).mono ?_); rintro e w1 ⟨rfl, rfl⟩)
              | (go_at_call 13; (with_reducible refine H13.out.mono ?_); rintro e w5 ⟨r', rfl, hs', hb'⟩; have H8s := Lib.hid (fun w => hs'.bits HS.out ▸ pBits_any r' hs'.1 w); have HB5 := Lib.hid hb'; clear hs' hb')
              | (go_at_call 8; (with_reducible refine (H8s.out _).mono ?_); rintro e w1 ⟨rfl, rfl⟩)
              | (go_at_call 10; (with_reducible refine (rBits_any _ _).mono ?_); rintro e w1 ⟨rfl, rfl⟩)
              | (go_at_call 14; (with_reducible refine (H14.out _).mono ?_); rintro e w1 ⟨rfl, rfl⟩))
            go_ret
            exact ⟨rfl, HB.out.trans (HB5.out.mono HB.out.size)⟩

theorem ratios_walk (a b : Int) (A : Option Addr) (len cap : Nat) (zs : List Int) (w : World) (wa : (Lit.int .i64 a).wf = true) (wb : (Lit.int .i64 b).wf = true) (h : IsRow .u64 w A len cap zs) :
    Calls Try.prog 3 #[.int .i64 a, .int .i64 b, .slice A len cap] w fun e w' => e = .returned (.bool true) ∧ Below w.heap.size w w' := by
  obtain ⟨l, hl⟩ := words_of h
  have ba := bounds_i64 wa
  have bb := bounds_i64 wb
  have hq := quo_ok a b (by omega) (by omega) (by omega) (by omega)
  by_cases hb : b ≤ 22
  · exact ratios_low a b A len cap l w hq hb hl
  · exact ratios_high a b A len cap l w hq (by omega) hl
end Go.Proofs.Ytanekkcfkahinaa
