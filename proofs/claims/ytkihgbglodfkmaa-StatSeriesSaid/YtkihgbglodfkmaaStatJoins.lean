/-
  Layer 41: the law on two series together, walked. No condition but that what comes in lies in memory.
-/
import Derived.Test.YtkihgbglodfkmaaStatNone
namespace Go.Proofs.Ytkihgbglodfkmaa
open Go.RowKit
set_option linter.unusedVariables false

theorem Len_n {w : World} {B g n : Nat} {xs : List Nat} (h : Ser w B g xs) (hn : xs.length = n) : Calls Try.prog 21 #[.pointer (some ⟨g, 0, none⟩)] w fun e w' => e = .returned (.int .i64 n) ∧ w = w' := by
  subst hn
  exact Len_any h
theorem rMean_n {w : World} {B n : Nat} {A : Option Addr} {cap : Nat} {xs : List Nat} (h : Nums w B A cap xs) (hn : xs.length = n) (hf : n ≤ 10000) :
    Calls Try.prog 23 #[.slice A n cap] w fun e w' => ∃ y, e = .returned (.float .f64 y) ∧ Sum_ y (meanO xs) ∧ Below w.heap.size w w' := by
  subst hn
  exact rMean_any h (Nat.le_trans hf (by decide))
theorem rVar_n {w : World} {B n : Nat} {A : Option Addr} {cap : Nat} {xs : List Nat} (h : Nums w B A cap xs) (hn : xs.length = n) (hf : n ≤ 10000) (hw : ∀ x ∈ xs, x < W64) :
    Calls Try.prog 25 #[.slice A n cap] w fun e w' => ∃ y, e = .returned (.float .f64 y) ∧ Sum_ y (varO xs) ∧ Below w.heap.size w w' := by
  subst hn
  exact rVar_any h (Nat.le_trans hf (by decide)) hw
theorem rSorted_n {w : World} {B n : Nat} {A : Option Addr} {cap : Nat} {xs : List Nat} (h : Nums w B A cap xs) (hn : xs.length = n) (hf : n ≤ 10000) (hw : ∀ x ∈ xs, x < W64) :
    Calls Try.prog 28 #[.slice A n cap] w fun e w' => ∃ A' c', e = .returned (.slice A' n c') ∧ Nums w' w.heap.size A' c' (srt xs) ∧ Below w.heap.size w w' := by
  subst hn
  exact rSorted_any h (Nat.le_trans hf (by decide)) hw
theorem Same_n {w : World} {B B2 n : Nat} {A A2 : Option Addr} {cap cap2 : Nat} {xs ys : List Nat} (h : Nums w B A cap xs) (h2 : Nums w B2 A2 cap2 ys) (he : xs.map bitsN = ys.map bitsN) (hn : xs.length = n) (hf : n ≤ 1000000) :
    Calls Try.prog 26 #[.slice A n cap, .slice A2 n cap2] w fun e w' => e = .returned (.bool true) ∧ Below w.heap.size w w' := by
  have hl : ys.length = n := by
    have := congrArg List.length he
    simp at this
    omega
  have := Same_yes h h2 he (by omega)
  rw [hn, hl] at this
  exact this.mono fun e w' ⟨he, q, hq⟩ => ⟨he, by rw [hq]; exact below_drewN (Below.refl _ _) q⟩
theorem Sorted_n {w : World} {B n : Nat} {p : Value} {A : Option Addr} {cap : Nat} {xs : List Nat} (h : Has w B p A cap xs) (hn : xs.length = n) (hw : ∀ x ∈ xs, x < W64) :
    Calls Try.prog 27 #[p] w fun e w' => ∃ A c ys, e = .returned (.slice A n c) ∧ ys.length = n ∧ ys.map bitsN = (srt xs).map bitsN ∧ Nums w' w.heap.size A c ys ∧ Below w.heap.size w w' :=
  (Sorted_any h hw).mono fun e w' ⟨A, c, ys, he, hs, hr, hb⟩ => ⟨A, c, ys, by rw [he, hs.len, hn], by rw [hs.len, hn], hs.bits (srt_sorts xs) hw, hr, hb⟩
theorem Sum_.is {y z : Nat} {o : Option Nat} (h : Sum_ y o) (k : Sum_ z o) (w : World) : Calls Try.prog 10 #[.float .f64 y, .float .f64 z] w fun e w' => e = .returned (.bool true) ∧ w = w' :=
  is_true (o := bitsN z) (h.bits k) rfl w

/-- What two series and two slices are, behind both joins. -/
structure Both (W w : World) (g1 g2 : Nat) (A1 A2 : Option Addr) (c1 c2 : Nat) (xs ys zs vs : List Nat) : Prop where
  below : Below W.heap.size W w
  s : Ser w 0 g1 zs
  t : Ser w 0 g2 vs
  x : Nums w W.heap.size A1 c1 xs
  y : Nums w W.heap.size A2 c2 ys
theorem Both.then {W w w' : World} {g1 g2 : Nat} {A1 A2 : Option Addr} {c1 c2 : Nat} {xs ys zs vs : List Nat} (h : Both W w g1 g2 A1 A2 c1 c2 xs ys zs vs) (hb : Below w.heap.size w w') : Both W w' g1 g2 A1 A2 c1 c2 xs ys zs vs :=
  ⟨below_then h.below (Nat.le_refl _) hb, h.s.below hb, h.t.below hb, h.x.below hb, h.y.below hb⟩

theorem Touch.keep {w w' : World} {g : Nat} {ro : Option Nat} {g2 A2 c2 ys} (h : Touch w w' g ro) (k : SerAt w g2 A2 c2 ys) (h1 : g2 ≠ g) (h2 : ro ≠ some g2) (h3 : ∀ j, (Value.slice A2 ys.length c2).ownBlock = some j → j ≠ g ∧ ro ≠ some j) : SerAt w' g2 A2 c2 ys :=
  k.keep (h.block g2 (blk_lt k.blk) h1 h2) fun j hj => h.block j (k.row.lt j hj).2 (h3 j hj).1 (h3 j hj).2

/-- Both series, ahead of the joins: where they lie. -/
structure Two (W w : World) (b1 b2 : Nat) (g1 g2 : Nat) (A1 A2 : Option Addr) (c1 c2 : Nat) (R1 R2 : Option Addr) (k1 k2 : Nat) (xs ys : List Nat) : Prop where
  below : Below W.heap.size W w
  low : W.heap.size ≤ b1 ∧ b1 ≤ b2 ∧ b2 ≤ w.heap.size
  s : SerAt w g1 R1 k1 xs
  sg : b1 ≤ g1 ∧ g1 < b2
  sr : ∀ k, (Value.slice R1 xs.length k1).ownBlock = some k → b1 ≤ k ∧ k < b2
  t : SerAt w g2 R2 k2 ys
  tg : b2 ≤ g2 ∧ g2 < w.heap.size
  tr : ∀ k, (Value.slice R2 ys.length k2).ownBlock = some k → b2 ≤ k ∧ k < w.heap.size
  x : Nums w W.heap.size A1 c1 xs
  xr : ∀ k, (Value.slice A1 xs.length c1).ownBlock = some k → k < b1
  y : Nums w W.heap.size A2 c2 ys
  yr : ∀ k, (Value.slice A2 ys.length c2).ownBlock = some k → k < b1
theorem two_mk {W w1 w2 w3 w4 : World} {A1 A2 : Option Addr} {c1 c2 : Nat} {xs ys : List Nat} (hx : Nums w1 W.heap.size A1 c1 xs) (hb1 : Below W.heap.size W w1) (hy : Nums w2 w1.heap.size A2 c2 ys) (hb2 : Below w1.heap.size w1 w2)
    (hs : Ser w3 w2.heap.size w2.heap.size xs) (hb3 : Below w2.heap.size w2 w3) (ht : Ser w4 w3.heap.size w3.heap.size ys) (hb4 : Below w3.heap.size w3 w4) :
    ∃ R1 R2 k1 k2, Two W w4 w2.heap.size w3.heap.size w2.heap.size w3.heap.size A1 A2 c1 c2 R1 R2 k1 k2 xs ys := by
  obtain ⟨R1, k1, s1, _, s3⟩ := hs.at_
  obtain ⟨R2, k2, t1, _, t3⟩ := ht.at_
  have z1 := hb1.size
  have z2 := hb2.size
  have z3 := hb3.size
  have z4 := hb4.size
  refine ⟨R1, R2, k1, k2, below_then (below_then (below_then hb1 (Nat.le_refl _) hb2) (Nat.le_refl _) hb3) (Nat.le_refl _) hb4, ⟨by omega, by omega, by omega⟩, s1.below hb4, ⟨Nat.le_refl _, blk_lt s1.blk⟩, fun k hk => ⟨s3 k hk, (s1.row.lt k hk).2⟩, t1, ⟨Nat.le_refl _, blk_lt t1.blk⟩,
    fun k hk => ⟨t3 k hk, (t1.row.lt k hk).2⟩, ((hx.below hb2).below hb3).below hb4, fun k hk => Nat.lt_of_lt_of_le (hx.lt k hk).2 z2, ((hy.below hb3).below hb4).base (by omega), fun k hk => (hy.lt k hk).2⟩
/-- Behind the first join. -/
structure One (W w : World) (b1 b2 b3 : Nat) (g1 g2 : Nat) (A1 A2 : Option Addr) (c1 c2 : Nat) (R1 R2 : Option Addr) (k1 k2 : Nat) (xs ys zs : List Nat) : Prop where
  below : Below W.heap.size W w
  low : W.heap.size ≤ b1 ∧ b1 ≤ b2 ∧ b2 ≤ b3 ∧ b3 ≤ w.heap.size
  s : SerAt w g1 R1 k1 zs
  sg : b1 ≤ g1 ∧ g1 < b2
  sr : ∀ k, (Value.slice R1 zs.length k1).ownBlock = some k → (b1 ≤ k ∧ k < b2) ∨ b3 ≤ k
  t : SerAt w g2 R2 k2 ys
  tg : b2 ≤ g2 ∧ g2 < b3
  tr : ∀ k, (Value.slice R2 ys.length k2).ownBlock = some k → b2 ≤ k ∧ k < b3
  x : Nums w W.heap.size A1 c1 xs
  xr : ∀ k, (Value.slice A1 xs.length c1).ownBlock = some k → k < b1
  y : Nums w W.heap.size A2 c2 ys
  yr : ∀ k, (Value.slice A2 ys.length c2).ownBlock = some k → k < b1
theorem Two.next {W w w' : World} {b1 b2 g1 g2 : Nat} {A1 A2 : Option Addr} {c1 c2 : Nat} {R1 R2 R' : Option Addr} {k1 k2 k' : Nat} {xs ys : List Nat} (h : Two W w b1 b2 g1 g2 A1 A2 c1 c2 R1 R2 k1 k2 xs ys)
    (hs : SerAt w' g1 R' k' (xs ++ ys)) (ht : Touch w w' g1 (Value.slice R1 xs.length k1).ownBlock) (ho : ∀ k, (Value.slice R' (xs ++ ys).length k').ownBlock = some k → (Value.slice R1 xs.length k1).ownBlock = some k ∨ w.heap.size ≤ k) :
    One W w' b1 b2 w.heap.size g1 g2 A1 A2 c1 c2 R' R2 k' k2 xs ys (xs ++ ys) := by
  obtain ⟨l1, l2, l3⟩ := h.low
  obtain ⟨s1, s2⟩ := h.sg
  obtain ⟨t1, t2⟩ := h.tg
  have hro : ∀ j, j < b1 ∨ b2 ≤ j → (Value.slice R1 xs.length k1).ownBlock ≠ some j := fun j hj e => by
    have := h.sr j e
    omega
  refine ⟨h.below.trans (ht.below h.below.size (by omega) fun k hk => by have := h.sr k hk; omega), ⟨l1, l2, l3, ht.size⟩, hs, ⟨s1, s2⟩, fun k hk => ?_, ht.keep h.t (by omega) (hro _ (by omega)) fun j hj => ?_, ⟨t1, t2⟩, h.tr, h.x.keep fun k hk => ?_, h.xr, h.y.keep fun k hk => ?_, h.yr⟩
  · rcases ho k hk with h1 | h1
    · exact .inl (h.sr k h1)
    · exact .inr h1
  · have := h.tr j hj
    exact ⟨by omega, hro _ (by omega)⟩
  · have := h.xr k hk
    exact ht.block k (by omega) (by omega) (hro _ (by omega))
  · have := h.yr k hk
    exact ht.block k (by omega) (by omega) (hro _ (by omega))
theorem One.next {W w w' : World} {b1 b2 b3 g1 g2 : Nat} {A1 A2 : Option Addr} {c1 c2 : Nat} {R1 R2 R' : Option Addr} {k1 k2 k' : Nat} {xs ys zs : List Nat} (h : One W w b1 b2 b3 g1 g2 A1 A2 c1 c2 R1 R2 k1 k2 xs ys zs)
    (hs : SerAt w' g2 R' k' (ys ++ ys)) (ht : Touch w w' g2 (Value.slice R2 ys.length k2).ownBlock) : Both W w' g1 g2 A1 A2 c1 c2 xs ys zs (ys ++ ys) := by
  obtain ⟨l1, l2, l3, l4⟩ := h.low
  obtain ⟨s1, s2⟩ := h.sg
  obtain ⟨t1, t2⟩ := h.tg
  have hro : ∀ j, j < b2 ∨ b3 ≤ j → (Value.slice R2 ys.length k2).ownBlock ≠ some j := fun j hj e => by
    have := h.tr j e
    omega
  refine ⟨h.below.trans (ht.below h.below.size (by omega) fun k hk => by have := h.tr k hk; omega), (ht.keep h.s (by omega) (hro _ (by omega)) fun j hj => ?_).ser, hs.ser, h.x.keep fun k hk => ?_, h.y.keep fun k hk => ?_⟩
  · have := h.sr j hj
    exact ⟨by omega, hro _ (by omega)⟩
  · have := h.xr k hk
    exact ht.block k (by omega) (by omega) (hro _ (by omega))
  · have := h.yr k hk
    exact ht.block k (by omega) (by omega) (hro _ (by omega))

theorem Join_n {w : World} {g g2 n : Nat} {A A2 : Option Addr} {cap cap2 : Nat} {xs ys : List Nat} (h : SerAt w g A cap xs) (h2 : SerAt w g2 A2 cap2 ys) (hf : xs.length + ys.length ≤ 10000) :
    Calls Try.prog 20 #[.pointer (some ⟨g, 0, none⟩), .pointer (some ⟨g2, 0, none⟩)] w fun e w' => e = .returned (.int .i64 0) ∧ ∃ A' c', Hid (SerAt w' g A' c' (xs ++ ys) ∧ Touch w w' g (Value.slice A xs.length cap).ownBlock ∧
        ∀ k, (Value.slice A' (xs ++ ys).length c').ownBlock = some k → (Value.slice A xs.length cap).ownBlock = some k ∨ w.heap.size ≤ k) := Join_room h h2 hf

theorem app_lt {xs ys : List Nat} (h : ∀ x ∈ xs, x < W64) (k : ∀ y ∈ ys, y < W64) : ∀ z ∈ xs ++ ys, z < W64 := fun z hz => (List.mem_append.1 hz).elim (h z) (k z)
theorem row_new (w : World) : Row (w.alloc (.cells #[] 28)) w.heap.size 28 (.slice (some ⟨w.heap.size, 0, none⟩) 0 0) 0 [] :=
  ⟨rfl, .inr ⟨w.heap.size, 0, 0, #[], rfl, Nat.le_refl _, heap_alloc_new w _, Nat.le_refl _, Nat.zero_le _, Nat.le_refl _, fun j u hj => by simp at hj⟩⟩
theorem Nums.src {w : World} {B n : Nat} {A : Option Addr} {cap : Nat} {xs : List Nat} (h : Nums w B A cap xs) (hn : xs.length = n) : Src Try.prog 1 23 (.slice A n cap) n (xs.map fl) w := by
  subst hn
  exact Row.src h Try.underlying23 fl_one

set_option maxRecDepth 100000 in
set_option maxHeartbeats 4000000 in
theorem StatJoins_any {W : World} {a a2 : Option Addr} {len len2 : Nat} {zs zs2 : List Nat} (cap cap2 : Nat) (h : Words W a len zs) (h2 : Words W a2 len2 zs2) :
    Calls Try.prog 5 #[.slice a len cap, .slice a2 len2 cap2] W fun e w' => e = .returned (.bool true) ∧ Below W.heap.size W w' := by
  have H8 := Lib.hid (numbers_any cap h 20 (by decide))
  have H8b := Lib.hid fun (w : World) (hb : Below W.heap.size W w) => numbers_any cap2 (h2.below hb) 20 (by decide)
  have HW := Lib.hid (few_lt h 20)
  have HW2 := Lib.hid (few_lt h2 20)
  have HL := Lib.hid lives_any
  have hf : (few zs len 20).length ≤ 20 := by rw [few_len h]; omega
  have hf2 : (few zs2 len2 20).length ≤ 20 := by rw [few_len h2]; omega
  obtain ⟨xs, hxs⟩ : ∃ xs, few zs len 20 = xs := ⟨_, rfl⟩
  obtain ⟨ys, hys⟩ : ∃ ys, few zs2 len2 20 = ys := ⟨_, rfl⟩
  rw [hxs] at H8 HW hf
  rw [hys] at H8b HW2 hf2
  obtain ⟨n, hN⟩ : ∃ n, xs.length = n := ⟨_, rfl⟩
  obtain ⟨m, hM⟩ : ∃ m, ys.length = m := ⟨_, rfl⟩
  have HN := Lib.hid hN
  have HM := Lib.hid hM
  rw [hN] at hf
  rw [hM] at hf2
  rw [hN] at H8
  rw [hM] at H8b
  have HNM : Hid ((xs ++ ys).length = n + m) := by unfold Hid; rw [List.length_append, hN, hM]
  have HMM : Hid ((ys ++ ys).length = m + m) := by unfold Hid; rw [List.length_append, hM]
  have HZW := Lib.hid (app_lt HW.out HW2.out)
  have HVW := Lib.hid (app_lt HW2.out HW2.out)
  obtain ⟨i0, hi, hz0, hz1, hz2⟩ := info_parts infoF
  have HI := Lib.hid hi
  have HZ := Lib.hid hz0
  have HZ1 := Lib.hid hz1
  have HZ2 : Hid (i0.bytes ≤ 1000) := by unfold Hid; omega
  clear h h2 hxs hys hN hM hi hz0 hz1 hz2
  go_enter Try.func5, Try.ntmps5
  go_wp2_with fail
  refine H8.out.mono ?_
  rintro e w1 ⟨A1, c1, rfl, hx, hb⟩
  have HX := Lib.hid hx
  have HB1 := Lib.hid hb
  clear hx hb
  go_wp2_with fail
  refine (H8b.out _ HB1.out).mono ?_
  rintro e w2 ⟨A2, c2, rfl, hy, hb⟩
  have HY := Lib.hid hy
  have HB2 := Lib.hid hb
  clear hy hb
  go_wp2_with fail
  refine (of_n (HX.out.below HB2.out) HN.out (by omega)).mono ?_
  rintro e w3 ⟨rfl, hs, hb⟩
  have HS := Lib.hid hs
  have HB3 := Lib.hid hb
  clear hs hb
  go_wp2_with fail
  refine (of_n (HY.out.below HB3.out) HM.out (by omega)).mono ?_
  rintro e w4 ⟨rfl, ht, hb⟩
  obtain ⟨R1, R2, k1, k2, htwo⟩ := two_mk HX.out HB1.out HY.out HB2.out HS.out HB3.out ht hb
  have HTWO := Lib.hid htwo
  clear ht hb htwo
  go_wp2_with fail
  refine (Join_n (n := 0) HTWO.out.s HTWO.out.t (by rw [HN.out, HM.out]; omega)).mono ?_
  rintro e w5 ⟨rfl, R', k', HJ⟩
  have HONE := Lib.hid (HTWO.out.next HJ.out.1 HJ.out.2.1 HJ.out.2.2)
  go_wp2_with fail
  refine (Join_n (n := 0) HONE.out.t HONE.out.t (by rw [HM.out]; omega)).mono ?_
  rintro e w6 ⟨rfl, R'', k'', HJ2⟩
  have HE := Lib.hid (HONE.out.next HJ2.out.1 HJ2.out.2.1)
  go_wp2_with (first
    | (at_builtin; refine wpList_append_rows rfl (.tmp 36) (.tmp 37) 23 rfl w6.heap.size 28 i0 (.float .f64 0) Try.underlying23 HI.out HZ.out HZ1.out HZ2.out rfl w6.heap.size 0 0 0 [] rfl (row_new w6) _ n (xs.map fl) rfl (Nums.src (HE.out.x.below ((Below.refl _ _).alloc (Nat.le_refl _) _)) HN.out) (by omega) (by simp) ?_; intro Aa ca w7 hr1 hg1; have HR1 : Hid (Row w7 w6.heap.size 28 (.slice (some Aa) n ca) n (xs.map fl)) := Lib.hid (by simpa using hr1); have HLO : Hid (Below w6.heap.size w6 w7) := ((Below.refl _ w6).alloc (Nat.le_refl _) _).grown hg1 (by simp) (fun b hb => by cases hb; exact Nat.le_refl _); have HE7 := Lib.hid (HE.out.then HLO.out); clear hr1 hg1; obtain ⟨ga, oa, rfl, _⟩ := row_addr HR1.out)
    | (at_builtin; refine wpList_append_rows rfl (.tmp 38) (.tmp 39) 23 rfl w6.heap.size 28 i0 (.float .f64 0) Try.underlying23 HI.out HZ.out HZ1.out HZ2.out rfl _ _ n ca _ rfl HR1.out _ m (ys.map fl) rfl (Nums.src HE7.out.y HM.out) (by omega) HLO.out.size ?_; intro Ab cb w8 hr2 hg2; have HR2 : Hid (Nums w8 w6.heap.size (some Ab) cb (xs ++ ys)) := (by unfold Hid Nums; rw [HNM.out, List.map_append]; exact hr2); have HB8 : Hid (Below w6.heap.size w6 w8) := HLO.out.grown hg2 HLO.out.size (fun b hb => by cases hb; exact (HR1.out.lt _ rfl).1); have HE := Lib.hid (HE.out.then HB8.out); clear hr2 hg2))
  clear HJ HJ2 HONE HTWO HX HY HB1 HB2 HB3 HS H8 H8b HR1 HLO HE7 HB8
  refine (Join_none _ _).mono ?_
  rintro e wn ⟨rfl, rfl⟩
  go_wp2_with fail
  refine (Len_n HE.out.s HNM.out).mono ?_
  rintro e wn ⟨rfl, rfl⟩
  go_wp2_with fail
  refine (Mean_any HE.out.s).mono ?_
  rintro e wn ⟨y1, rfl, hs, hb⟩
  have HS1 := Lib.hid hs
  clear hs
  have HE := Lib.hid (HE.out.then hb)
  have HR2 := Lib.hid (HR2.out.below hb)
  clear hb
  go_wp2_with fail
  refine (rMean_n HR2.out HNM.out (by omega)).mono ?_
  rintro e wn ⟨y2, rfl, hs, hb⟩
  have HS2 := Lib.hid hs
  clear hs
  have HE := Lib.hid (HE.out.then hb)
  have HR2 := Lib.hid (HR2.out.below hb)
  clear hb
  go_wp2_with fail
  refine (HS1.out.is HS2.out _).mono ?_
  rintro e wn ⟨rfl, rfl⟩
  go_wp2_with fail
  obtain ⟨Ah, ch, hh⟩ := Has.ser HE.out.s
  have HH := Lib.hid hh
  clear hh
  refine (Var_any HH.out HZW.out).mono ?_
  rintro e wn ⟨y3, rfl, hs, hb⟩
  have HS3 := Lib.hid hs
  clear hs
  have HE := Lib.hid (HE.out.then hb)
  have HR2 := Lib.hid (HR2.out.below hb)
  clear hb
  go_wp2_with fail
  refine (rVar_n HR2.out HNM.out (by omega) HZW.out).mono ?_
  rintro e wn ⟨y4, rfl, hs, hb⟩
  have HS4 := Lib.hid hs
  clear hs
  have HE := Lib.hid (HE.out.then hb)
  have HR2 := Lib.hid (HR2.out.below hb)
  clear hb
  go_wp2_with fail
  refine (HS3.out.is HS4.out _).mono ?_
  rintro e wn ⟨rfl, rfl⟩
  go_wp2_with fail
  obtain ⟨Ai, ci, hh⟩ := Has.ser HE.out.t
  have HH2 := Lib.hid hh
  clear hh
  refine (Sorted_n HH2.out HMM.out HVW.out).mono ?_
  rintro e w9 ⟨As, cs, vs, rfl, hvl, hvb, hv, hb⟩
  have HVL := Lib.hid hvl
  have HVB := Lib.hid hvb
  have HV := Lib.hid hv
  have HE := Lib.hid (HE.out.then hb)
  clear hb hvl hvb hv HR2
  go_wp2_with (first
    | (at_builtin; refine wpList_append_rows rfl (.tmp 69) (.tmp 70) 23 rfl w9.heap.size 28 i0 (.float .f64 0) Try.underlying23 HI.out HZ.out HZ1.out HZ2.out rfl w9.heap.size 0 0 0 [] rfl (row_new w9) _ m (ys.map fl) rfl (Nums.src (HE.out.y.below ((Below.refl _ _).alloc (Nat.le_refl _) _)) HM.out) (by omega) (by simp) ?_; intro Aa ca w7 hr1 hg1; have HR1 : Hid (Row w7 w9.heap.size 28 (.slice (some Aa) m ca) m (ys.map fl)) := Lib.hid (by simpa using hr1); have HLO : Hid (Below w9.heap.size w9 w7) := ((Below.refl _ w9).alloc (Nat.le_refl _) _).grown hg1 (by simp) (fun b hb => by cases hb; exact Nat.le_refl _); have HE7 := Lib.hid (HE.out.then HLO.out); clear hr1 hg1; obtain ⟨ga, oa, rfl, _⟩ := row_addr HR1.out)
    | (at_builtin; refine wpList_append_rows rfl (.tmp 71) (.tmp 72) 23 rfl w9.heap.size 28 i0 (.float .f64 0) Try.underlying23 HI.out HZ.out HZ1.out HZ2.out rfl _ _ m ca _ rfl HR1.out _ m (ys.map fl) rfl (Nums.src HE7.out.y HM.out) (by omega) HLO.out.size ?_; intro Ab cb w8 hr2 hg2; have HR2 : Hid (Nums w8 w9.heap.size (some Ab) cb (ys ++ ys)) := (by unfold Hid Nums; rw [HMM.out, List.map_append]; exact hr2); have HB8 : Hid (Below w9.heap.size w9 w8) := HLO.out.grown hg2 HLO.out.size (fun b hb => by cases hb; exact (HR1.out.lt _ rfl).1); have HV := Lib.hid (HV.out.below HB8.out); have HE := Lib.hid (HE.out.then HB8.out); clear hr2 hg2))
  clear HR1 HLO HE7 HB8
  refine (rSorted_n HR2.out HMM.out (by omega) HVW.out).mono ?_
  rintro e wn ⟨At, ct, rfl, hr, hb⟩
  have HV := Lib.hid (HV.out.below hb)
  have HE := Lib.hid (HE.out.then hb)
  have HR3 := Lib.hid hr
  clear hr hb
  go_wp2_with fail
  refine (Same_n HV.out HR3.out HVB.out HVL.out (by omega)).mono ?_
  rintro e wn ⟨rfl, hb⟩
  have HE := Lib.hid (HE.out.then hb)
  clear hb
  go_wp2_with fail
  refine (HL.out _).mono ?_
  rintro e wn ⟨rfl, hb⟩
  have HE := Lib.hid (HE.out.then hb)
  clear hb
  go_wp2_with fail
  go_ret
  exact ⟨rfl, HE.out.below⟩

/-- The law. -/
theorem StatJoins_walk (a0 : Option Addr) (len0 cap0 : Nat) (z0 : List Int) (a1 : Option Addr) (len1 cap1 : Nat) (z1 : List Int) (W : World) (w0 : IsRow .u64 W a0 len0 cap0 z0) (w1 : IsRow .u64 W a1 len1 cap1 z1) :
    Calls Try.prog 5 #[.slice a0 len0 cap0, .slice a1 len1 cap1] W fun e w' => e = .returned (.bool true) ∧ Below W.heap.size W w' := by
  obtain ⟨zs, hz⟩ := words_of w0
  obtain ⟨zs2, hz2⟩ := words_of w1
  exact StatJoins_any cap0 cap1 hz hz2
end Go.Proofs.Ytkihgbglodfkmaa
