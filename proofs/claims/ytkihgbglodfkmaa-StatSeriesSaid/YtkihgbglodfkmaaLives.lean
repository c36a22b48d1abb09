/-
  Layer 41: numbers of bits, a series of numbers, and that the middle one is found. No condition but that what comes in lies in memory.
-/
import Derived.Test.YtkihgbglodfkmaaRAt
namespace Go.Proofs.Ytkihgbglodfkmaa
open Go.RowKit
set_option linter.unusedVariables false

/-- A slice of numbers that comes in. -/
def IsRow (k : IntKind) (w : World) (a : Option Addr) (len cap : Nat) (zs : List Int) : Prop :=
  (a = none ∧ len = 0 ∧ cap = 0 ∧ zs = []) ∨
  ∃ x, a = some x ∧ len ≤ cap ∧ cap ≤ maxLen ∧ zs.length = cap ∧ (∀ i, i < zs.length → w.cell? (x.add i) = some (.int k (zs.getD i 0))) ∧ ∀ n ∈ zs, (Lit.int k n).wf = true
/-- The words, as they lie in memory. -/
structure Words (w : World) (a : Option Addr) (len : Nat) (zs : List Nat) : Prop where
  le : len ≤ maxLen
  long : len ≤ zs.length
  lt : ∀ z ∈ zs, z < W64
  at_ : ∀ j (hj : j < len), ∃ b off, a = some ⟨b, off, none⟩ ∧ b < w.heap.size ∧ w.cell? ⟨b, off + j, none⟩ = some (.int .u64 (zs[j]'(Nat.lt_of_lt_of_le hj long)))
theorem words_of {w : World} {a : Option Addr} {len cap : Nat} {zs : List Int} (h : IsRow .u64 w a len cap zs) : ∃ l, Words w a len l := by
  rcases h with ⟨rfl, rfl, rfl, rfl⟩ | ⟨x, rfl, h1, h2, h3, h4, h5⟩
  · exact ⟨[], Nat.zero_le _, Nat.le_refl _, fun z hz => by simp at hz, fun j hj => absurd hj (by omega)⟩
  · refine ⟨zs.map Int.toNat, Nat.le_trans h1 h2, by simp; omega, fun z hz => ?_, fun j hj => ?_⟩
    · obtain ⟨m, hm, rfl⟩ := List.mem_map.1 hz
      obtain ⟨n, hn, hlt⟩ := u64_of _ (h5 _ hm)
      rw [hn]
      exact hlt
    have hcell : ∀ i, i < len → ∃ n : Nat, w.cell? (x.add i) = some (.int .u64 (n : Int)) ∧ (zs.getD i 0).toNat = n := fun i hi => by
      have hm : zs.getD i 0 ∈ zs := by
        rw [List.getD_eq_getElem?_getD, List.getElem?_eq_getElem (by omega)]
        exact List.getElem_mem _
      obtain ⟨n, hn, _⟩ := u64_of _ (h5 _ hm)
      exact ⟨n, by rw [h4 i (by omega), hn], by rw [hn]; rfl⟩
    obtain ⟨b, off, spot⟩ := x
    obtain ⟨n0, hc0, _⟩ := hcell 0 (by omega)
    have hspot : spot = none := by simpa [Addr.add] using World.cell?_spot hc0
    subst hspot
    obtain ⟨n, hc, hn⟩ := hcell j hj
    rw [Go.WideShapes.add_plain] at hc
    refine ⟨b, off, rfl, lt_of_cell (p := ⟨b, off + j, none⟩) hc, ?_⟩
    rw [hc, ← hn, List.getElem_map]
    congr 3
    rw [List.getD_eq_getElem?_getD, List.getElem?_eq_getElem (by omega)]
    rfl
theorem Words.below {w w' : World} {a : Option Addr} {len : Nat} {zs : List Nat} (h : Words w a len zs) (hb : Below w.heap.size w w') : Words w' a len zs :=
  ⟨h.le, h.long, h.lt, fun j hj => by
    obtain ⟨b, off, ha, hl, hc⟩ := h.at_ j hj
    exact ⟨b, off, ha, Nat.lt_of_lt_of_le hl hb.size, (hb.cell (p := ⟨b, off + j, none⟩) hl).trans hc⟩⟩

/-- So many numbers. -/
def few (zs : List Nat) (len most : Nat) : List Nat := zs.take (min len most)
theorem few_len {w : World} {a : Option Addr} {len : Nat} {zs : List Nat} (h : Words w a len zs) (most : Nat) : (few zs len most).length = min len most := by
  have := h.long
  unfold few
  rw [List.length_take]
  omega
theorem few_lt {w : World} {a : Option Addr} {len : Nat} {zs : List Nat} (h : Words w a len zs) (most : Nat) : ∀ x ∈ few zs len most, x < W64 := fun x hx => h.lt x (List.mem_of_mem_take hx)

set_option maxHeartbeats 1000000 in
theorem numbers_any {w : World} {a : Option Addr} {len : Nat} {zs : List Nat} (cap : Nat) (h : Words w a len zs) (most : Nat) (hm : most ≤ 1000) :
    Calls Try.prog 8 #[.slice a len cap, .int .i64 most] w fun e w' => ∃ A c, e = .returned (.slice A (few zs len most).length c) ∧ Nums w' w.heap.size A c (few zs len most) ∧ Below w.heap.size w w' := by
  have HA := Lib.hid h
  have hlen := h.le
  unfold maxLen at hlen
  have HF := Lib.hid (few_len h most)
  have H7 := Lib.hid Of_any
  obtain ⟨i0, hi, hz0, hz1, hz2⟩ := info_parts infoF
  have HI := Lib.hid hi
  have HZ := Lib.hid hz0
  have HZ1 := Lib.hid hz1
  have HZ2 : Hid (i0.bytes ≤ 1000) := by unfold Hid; omega
  clear h hi hz0 hz1 hz2
  go_enter Try.func8, Try.ntmps8
  go_wp2
  go_loopw [5, 6] (fun o iv wr => ∃ (i c g off : Nat), o = .slice (some ⟨g, off, none⟩) i c ∧ iv = .int .i64 i ∧ i ≤ len ∧ i ≤ most ∧ Hid (Row wr w.heap.size 28 (.slice (some ⟨g, off, none⟩) i c) i ((zs.take i).map fl)) ∧ Hid (Below w.heap.size w wr)) (fun _ iv _ => len - (intOf iv).toNat)
  case atStart => exact ⟨0, 0, w.heap.size, 0, rfl, rfl, Nat.zero_le _, Nat.zero_le _, Lib.hid ⟨rfl, .inr ⟨w.heap.size, 0, 0, #[], rfl, Nat.le_refl _, heap_alloc_new w _, Nat.le_refl _, Nat.zero_le _, Nat.le_refl _, fun j u hj => by simp at hj⟩⟩, Lib.hid ((Below.refl _ _).alloc (Nat.le_refl _) _)⟩
  case round =>
    obtain ⟨i, c, g, off, rfl, rfl, hi, hi2, HO, HB⟩ := hrel
    by_cases hin : i < len ∧ i < most
    · obtain ⟨hl, h20⟩ := hin
      obtain ⟨b', ob, rfl, hblt, hc0⟩ := HA.out.at_ i hl
      have hzl := Nat.lt_of_lt_of_le hl HA.out.long
      have HT := Lib.hid (take_more hzl)
      generalize zs[i]'hzl = x at hc0 HT
      have hc := (HB.out.cell (p := ⟨b', ob + i, none⟩) hblt).trans hc0
      have HO2 := Lib.hid (HO.out.alloc (.cells #[.float .f64 x] 28))
      have HCN : Hid ((wr.alloc (.cells #[.float .f64 x] 28)).cell? ⟨wr.heap.size, 0, none⟩ = some (.float .f64 x)) := by unfold Hid; rw [World.cell?_alloc_new]; rfl
      have HSZ : Hid (w.heap.size ≤ (wr.alloc (.cells #[.float .f64 x] 28)).heap.size) := by unfold Hid; have := HB.out.size; simp; omega
      have HL : Hid (i ≤ 1000000000) := by unfold Hid; omega
      clear hc0 hzl
      go_wp2_with (first
        | (go_at_call 30; (with_reducible refine (H7.out _ _).mono ?_); rintro e w1 ⟨rfl, rfl⟩)
        | (at_builtin; refine wpList_append_row rfl (.tmp 19) (.tmp 25) 23 rfl w.heap.size 28 i0 (.float .f64 0) Try.underlying23 HI.out HZ.out HZ1.out HZ2.out rfl _ _ _ rfl HO2.out _ _ _ rfl HCN.out rfl HL.out HSZ.out ?_; intro A1 e1 w5 hr5 hgr5; have HR5 := Lib.hid hr5; have HG5 := Lib.hid hgr5; clear hr5 hgr5))
      have hsome : ∃ g2 o2, A1 = some ⟨g2, o2, none⟩ := by
        rcases HR5.out.2 with ⟨_, h0⟩ | ⟨g2, o2, _, _, hv, _⟩
        · omega
        · injection hv with hv
          exact ⟨g2, o2, hv⟩
      obtain ⟨g2, o2, rfl⟩ := hsome
      go_roundw
      case rel =>
        refine ⟨i + 1, e1, g2, o2, rfl, by go_num, by omega, by omega, ?_, ?_⟩
        · unfold Hid
          rw [HT.out, List.map_append]
          exact HR5.out
        · exact Lib.hid ((HB.out.alloc HB.out.size _).grown HG5.out HSZ.out fun b hb => (HO.out.lt b hb).1)
      case measure => simp [intOf]; omega
    · have hfin : i = min len most := by omega
      have hfl : (few zs len most).length = i := by rw [HF.out, hfin]
      have HFL := Lib.hid hfl
      have hE : few zs len most = zs.take i := by unfold few; rw [hfin]
      have HE := Lib.hid hE
      clear hfl hE hfin
      by_cases hl : i < len
      · have h20 : ¬ ((i : Int) < most) := by omega
        clear hin
        go_wp2
        go_ret
        refine ⟨_, _, by rw [HFL.out]; rfl, ?_, HB.out⟩
        unfold Nums
        rw [HFL.out, HE.out]
        exact HO.out
      · clear hin
        go_wp2
        go_ret
        refine ⟨_, _, by rw [HFL.out]; rfl, ?_, HB.out⟩
        unfold Nums
        rw [HFL.out, HE.out]
        exact HO.out

set_option maxHeartbeats 1000000 in
theorem of_any {w : World} {B : Nat} {A : Option Addr} {cap : Nat} {xs : List Nat} (h : Nums w B A cap xs) (hf : xs.length ≤ 10000) :
    Calls Try.prog 9 #[.slice A xs.length cap] w fun e w' => e = .returned (.pointer (some ⟨w.heap.size, 0, none⟩)) ∧ Ser w' w.heap.size w.heap.size xs ∧ Below w.heap.size w w' := by
  have HR := Lib.hid h
  have H1 := Lib.hid (New_any w)
  obtain ⟨n, hN⟩ : ∃ n, xs.length = n := ⟨_, rfl⟩
  have HN := Lib.hid hN
  rw [hN] at hf ⊢
  clear h hN
  go_enter Try.func9, Try.ntmps9
  go_wp2_with (go_at_call 18; refine H1.out.mono ?_; rintro e w1 ⟨rfl, hs, hb⟩; have HS0 := Lib.hid hs; have HB0 := Lib.hid hb; clear hs hb)
  go_loopw [4] (fun iv wr => ∃ i : Nat, iv = .int .i64 i ∧ i ≤ n ∧ Hid (Ser wr w.heap.size w.heap.size (xs.take i)) ∧ Hid (Below w.heap.size w wr)) (fun iv _ => n - (intOf iv).toNat)
  case atStart => exact ⟨0, rfl, Nat.zero_le _, HS0, HB0⟩
  case round =>
    obtain ⟨i, rfl, hi, HS, HB⟩ := hrel
    by_cases hin : i < n
    · have hix : i < xs.length := by rw [HN.out]; exact hin
      obtain ⟨g, off, rfl, _, hcell, hc1, hc2⟩ := (HR.out.below HB.out).get (j := i) hix
      have HT := Lib.hid (take_more hix)
      generalize xs[i]'hix = x at hcell HT
      rw [HN.out] at hc1
      have HA := Lib.hid (Add_room HS.out x (by rw [List.length_take]; omega) HB.out.size)
      clear hix
      go_wp2_with (go_at_call 19; refine HA.out.mono ?_; rintro e w2 ⟨rfl, hs2, hb2⟩; have HS2 := Lib.hid hs2; have HB2 := Lib.hid hb2; clear hs2 hb2)
      go_roundw
      case rel =>
        refine ⟨i + 1, by go_num, by omega, ?_, Lib.hid (HB.out.trans HB2.out)⟩
        unfold Hid
        rw [HT.out]
        exact HS2.out
      case measure => simp [intOf]; omega
    · obtain rfl : i = n := by omega
      go_wp2
      go_ret
      refine ⟨rfl, ?_, HB.out⟩
      have := HS.out
      rwa [List.take_of_length_le (by rw [HN.out]; exact Nat.le_refl _)] at this

def one : Nat := 4607182418800017408
def two : Nat := 4611686018427387904
def four : Nat := 4616189618054758400
theorem live_share : shareB [one, two, four] 1 2 = two := by decide +kernel
theorem live_lt : ∀ x ∈ [one, two, four], x < W64 := by decide +kernel
theorem two_num : two < W64 ∧ nanB two = false := by decide +kernel
theorem two_bits {y : Nat} (h : bitsN y = two) : y = two := by
  unfold bitsN at h
  split at h
  · exact absurd h (by decide +kernel)
  · exact h

theorem lives_any (w : World) : Calls Try.prog 14 #[] w fun e w' => e = .returned (.bool true) ∧ Below w.heap.size w w' := by
  obtain ⟨W, hW⟩ : ∃ W, w.alloc (.cells #[.float .f64 4607182418800017408, .float .f64 4611686018427387904, .float .f64 4616189618054758400] 28) = W := ⟨_, rfl⟩
  have hrow : Nums (w.alloc (.cells #[.float .f64 4607182418800017408, .float .f64 4611686018427387904, .float .f64 4616189618054758400] 28)) w.heap.size (some ⟨w.heap.size, 0, none⟩) 3 [one, two, four] :=
    ⟨rfl, .inr ⟨w.heap.size, 0, 3, _, rfl, Nat.le_refl _, heap_alloc_new w _, by decide, by decide, by decide, fun j u hu => by
      rw [Nat.zero_add]
      match j with
      | 0 => exact hu
      | 1 => exact hu
      | 2 => exact hu
      | j + 3 => simp at hu⟩⟩
  have h1 := of_any hrow (by decide)
  rw [World.size_alloc] at h1
  have H1 := Lib.hid h1
  have HB0 : Hid (Below w.heap.size w (w.alloc (.cells #[.float .f64 4607182418800017408, .float .f64 4611686018427387904, .float .f64 4616189618054758400] 28))) := (Below.refl _ _).alloc (Nat.le_refl _) _
  have hord : (FloatKind.f64.format.order 4611686018427387904 4611686018427387904 == some .eq) = true := by rw [show (4611686018427387904 : Nat) = two from rfl, self_num two_num.1 two_num.2]; rfl
  clear hrow hW W h1
  go_enter Try.func14, Try.ntmps14
  go_wp2_with (first
    | (go_at_call 9; refine H1.out.mono ?_; rintro e w1 ⟨rfl, hs, hb⟩; obtain ⟨A, cap, hh⟩ := Has.ser hs; have HH := Lib.hid hh; have HS := Lib.hid hs; have HB := Lib.hid hb; clear hs hb hh)
    | (go_at_call 21; refine (Len_any HS.out).mono ?_; rintro e w2 ⟨rfl, rfl⟩)
    | (go_at_call 11; refine (At_any HH.out live_lt 1 2).mono ?_; rintro e w3 ⟨y, rfl, ⟨hy, _⟩, hb⟩; rw [live_share] at hy; have hy2 := two_bits hy; have HB2 := Lib.hid hb; unfold two at hy2; subst hy2; clear hy hb))
  go_ret
  refine ⟨rfl, ?_⟩
  exact below_then (HB0.out.trans (HB.out.mono (by simp))) (Nat.le_refl _) HB2.out
end Go.Proofs.Ytkihgbglodfkmaa
