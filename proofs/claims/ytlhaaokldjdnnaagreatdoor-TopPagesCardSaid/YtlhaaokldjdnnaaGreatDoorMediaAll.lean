/-
  Parts, one behind the other: Layer 14 (media): a text whose first byte no sound or film begins with is none, by the patterns. No condition but that the text is not too long, and the tables lie as they were laid. | Layer 14 (media): all patterns, one by one; no one is a plain text's. No condition but that the text is not too long, and the tables lie as they were laid. | Layer 14 (media): a plain text is no sound or film, by the patterns. No condition but that the text is not too long, and the tables lie as they were laid.
-/
import Derived.Test.YtlhaaokldjdnnaaGreatDoorImgAll
import Derived.Test.YtlhaaokldjdnnaaGreatDoorRangeA
import Derived.Test.YtlhaaokldjdnnaaGreatDoorJs4All
namespace Go.Proofs.YtlhaaokldjdnnaaGreatDoor
open Go.RowKit Go.Shelf
set_option linter.unusedVariables false
set_option linter.unusedSimpArgs false
set_option linter.all false
set_option maxRecDepth 1000000
def pb0 : ByteArray := ⟨#[70, 79, 82, 77, 0, 0, 0, 0, 65, 73, 70, 70]⟩
def pm0 : ByteArray := ⟨#[255, 255, 255, 255, 0, 0, 0, 0, 255, 255, 255, 255]⟩
def pk0 : ByteArray := ⟨#[97, 117, 100, 105, 111, 47, 97, 105, 102, 102]⟩
def patE0 : Ev.Ent := ⟨469, [Ev.tx [70, 79, 82, 77], Ev.tx [65, 73, 70, 70], Ev.tx [97, 117, 100, 105, 111, 47, 97, 105, 102, 102]], .val ⟨true, [Ev.vS pb0, Ev.vS pm0, Ev.vS .empty, Ev.vS pk0]⟩⟩
theorem patE0_said : Ev.Said patE0 := Ev.said_of (l := []) Ev.all_nil (by kernel_rfl)
theorem pat0_is (w : World) (hw : Ev.Told w) : Calls Tryz.prog 469 #[.string ⟨#[70, 79, 82, 77]⟩, .string ⟨#[65, 73, 70, 70]⟩, .string ⟨#[97, 117, 100, 105, 111, 47, 97, 105, 102, 102]⟩] w fun e w' => e = .returned (patV pb0 pm0 .empty pk0) ∧ Below w.heap.size w w' := by
  obtain ⟨us, v, h1, h2, h3⟩ := patE0_said
  cases h1
  cases h2
  exact h3 w hw
def pb1 : ByteArray := ⟨#[73, 68, 51]⟩
def pm1 : ByteArray := ⟨#[255, 255, 255]⟩
def pk1 : ByteArray := ⟨#[97, 117, 100, 105, 111, 47, 109, 112, 101, 103]⟩
def patE1 : Ev.Ent := ⟨470, [Ev.tx [73, 68, 51], Ev.tx [97, 117, 100, 105, 111, 47, 109, 112, 101, 103]], .val ⟨true, [Ev.vS pb1, Ev.vS pm1, Ev.vS .empty, Ev.vS pk1]⟩⟩
theorem patE1_said : Ev.Said patE1 := Ev.said_of (l := []) Ev.all_nil (by kernel_rfl)
theorem pat1_is (w : World) (hw : Ev.Told w) : Calls Tryz.prog 470 #[.string ⟨#[73, 68, 51]⟩, .string ⟨#[97, 117, 100, 105, 111, 47, 109, 112, 101, 103]⟩] w fun e w' => e = .returned (patV pb1 pm1 .empty pk1) ∧ Below w.heap.size w w' := by
  obtain ⟨us, v, h1, h2, h3⟩ := patE1_said
  cases h1
  cases h2
  exact h3 w hw
def pb2 : ByteArray := ⟨#[79, 103, 103, 83, 0]⟩
def pm2 : ByteArray := ⟨#[255, 255, 255, 255, 255]⟩
def pk2 : ByteArray := ⟨#[97, 112, 112, 108, 105, 99, 97, 116, 105, 111, 110, 47, 111, 103, 103]⟩
def patE2 : Ev.Ent := ⟨470, [Ev.tx [79, 103, 103, 83, 0], Ev.tx [97, 112, 112, 108, 105, 99, 97, 116, 105, 111, 110, 47, 111, 103, 103]], .val ⟨true, [Ev.vS pb2, Ev.vS pm2, Ev.vS .empty, Ev.vS pk2]⟩⟩
theorem patE2_said : Ev.Said patE2 := Ev.said_of (l := []) Ev.all_nil (by kernel_rfl)
theorem pat2_is (w : World) (hw : Ev.Told w) : Calls Tryz.prog 470 #[.string ⟨#[79, 103, 103, 83, 0]⟩, .string ⟨#[97, 112, 112, 108, 105, 99, 97, 116, 105, 111, 110, 47, 111, 103, 103]⟩] w fun e w' => e = .returned (patV pb2 pm2 .empty pk2) ∧ Below w.heap.size w w' := by
  obtain ⟨us, v, h1, h2, h3⟩ := patE2_said
  cases h1
  cases h2
  exact h3 w hw
def pb3 : ByteArray := ⟨#[77, 84, 104, 100, 0, 0, 0, 6]⟩
def pm3 : ByteArray := ⟨#[255, 255, 255, 255, 255, 255, 255, 255]⟩
def pk3 : ByteArray := ⟨#[97, 117, 100, 105, 111, 47, 109, 105, 100, 105]⟩
def patE3 : Ev.Ent := ⟨470, [Ev.tx [77, 84, 104, 100, 0, 0, 0, 6], Ev.tx [97, 117, 100, 105, 111, 47, 109, 105, 100, 105]], .val ⟨true, [Ev.vS pb3, Ev.vS pm3, Ev.vS .empty, Ev.vS pk3]⟩⟩
theorem patE3_said : Ev.Said patE3 := Ev.said_of (l := []) Ev.all_nil (by kernel_rfl)
theorem pat3_is (w : World) (hw : Ev.Told w) : Calls Tryz.prog 470 #[.string ⟨#[77, 84, 104, 100, 0, 0, 0, 6]⟩, .string ⟨#[97, 117, 100, 105, 111, 47, 109, 105, 100, 105]⟩] w fun e w' => e = .returned (patV pb3 pm3 .empty pk3) ∧ Below w.heap.size w w' := by
  obtain ⟨us, v, h1, h2, h3⟩ := patE3_said
  cases h1
  cases h2
  exact h3 w hw
def pb4 : ByteArray := ⟨#[82, 73, 70, 70, 0, 0, 0, 0, 65, 86, 73, 32]⟩
def pm4 : ByteArray := ⟨#[255, 255, 255, 255, 0, 0, 0, 0, 255, 255, 255, 255]⟩
def pk4 : ByteArray := ⟨#[118, 105, 100, 101, 111, 47, 97, 118, 105]⟩
def patE4 : Ev.Ent := ⟨469, [Ev.tx [82, 73, 70, 70], Ev.tx [65, 86, 73, 32], Ev.tx [118, 105, 100, 101, 111, 47, 97, 118, 105]], .val ⟨true, [Ev.vS pb4, Ev.vS pm4, Ev.vS .empty, Ev.vS pk4]⟩⟩
theorem patE4_said : Ev.Said patE4 := Ev.said_of (l := []) Ev.all_nil (by kernel_rfl)
theorem pat4_is (w : World) (hw : Ev.Told w) : Calls Tryz.prog 469 #[.string ⟨#[82, 73, 70, 70]⟩, .string ⟨#[65, 86, 73, 32]⟩, .string ⟨#[118, 105, 100, 101, 111, 47, 97, 118, 105]⟩] w fun e w' => e = .returned (patV pb4 pm4 .empty pk4) ∧ Below w.heap.size w w' := by
  obtain ⟨us, v, h1, h2, h3⟩ := patE4_said
  cases h1
  cases h2
  exact h3 w hw
def pb5 : ByteArray := ⟨#[82, 73, 70, 70, 0, 0, 0, 0, 87, 65, 86, 69]⟩
def pm5 : ByteArray := ⟨#[255, 255, 255, 255, 0, 0, 0, 0, 255, 255, 255, 255]⟩
def pk5 : ByteArray := ⟨#[97, 117, 100, 105, 111, 47, 119, 97, 118, 101]⟩
def patE5 : Ev.Ent := ⟨469, [Ev.tx [82, 73, 70, 70], Ev.tx [87, 65, 86, 69], Ev.tx [97, 117, 100, 105, 111, 47, 119, 97, 118, 101]], .val ⟨true, [Ev.vS pb5, Ev.vS pm5, Ev.vS .empty, Ev.vS pk5]⟩⟩
theorem patE5_said : Ev.Said patE5 := Ev.said_of (l := []) Ev.all_nil (by kernel_rfl)
theorem pat5_is (w : World) (hw : Ev.Told w) : Calls Tryz.prog 469 #[.string ⟨#[82, 73, 70, 70]⟩, .string ⟨#[87, 65, 86, 69]⟩, .string ⟨#[97, 117, 100, 105, 111, 47, 119, 97, 118, 101]⟩] w fun e w' => e = .returned (patV pb5 pm5 .empty pk5) ∧ Below w.heap.size w w' := by
  obtain ⟨us, v, h1, h2, h3⟩ := patE5_said
  cases h1
  cases h2
  exact h3 w hw
end Go.Proofs.YtlhaaokldjdnnaaGreatDoor
namespace Go.Proofs.YtlhaaokldjdnnaaGreatDoor
open Go.RowKit Go.Shelf
set_option linter.unusedVariables false
set_option linter.unusedSimpArgs false
set_option linter.all false

/-- A pattern that the text has not. -/
def NoPat (s : ByteArray) : Type := { p : Value // ∃ b m k t : ByteArray, p = patV b m k t ∧ matchB s b m k = false }
theorem plain_first {s : ByteArray} (h : Plain s) {b m : ByteArray} {x : UInt8} {r2 r3 : List UInt8} (hb : b.data.toList = x :: r2) (hm : m.data.toList = 255 :: r3) (hx : plainB x = false) : matchB s b m .empty = false := by
  obtain ⟨_, c, r, hs, hp⟩ := h
  refine no_match hs hb hm ?_
  cases hcx : (c == x)
  · rfl
  · have : c = x := by simpa using hcx
    rw [this, hx] at hp
    cases hp
def np0 {s : ByteArray} (h : Plain s) : NoPat s := ⟨patV pb0 pm0 .empty pk0, pb0, pm0, .empty, pk0, rfl, plain_first (x := 70) h rfl rfl (by decide)⟩
def np1 {s : ByteArray} (h : Plain s) : NoPat s := ⟨patV pb1 pm1 .empty pk1, pb1, pm1, .empty, pk1, rfl, plain_first (x := 73) h rfl rfl (by decide)⟩
def np2 {s : ByteArray} (h : Plain s) : NoPat s := ⟨patV pb2 pm2 .empty pk2, pb2, pm2, .empty, pk2, rfl, plain_first (x := 79) h rfl rfl (by decide)⟩
def np3 {s : ByteArray} (h : Plain s) : NoPat s := ⟨patV pb3 pm3 .empty pk3, pb3, pm3, .empty, pk3, rfl, plain_first (x := 77) h rfl rfl (by decide)⟩
def np4 {s : ByteArray} (h : Plain s) : NoPat s := ⟨patV pb4 pm4 .empty pk4, pb4, pm4, .empty, pk4, rfl, plain_first (x := 82) h rfl rfl (by decide)⟩
def np5 {s : ByteArray} (h : Plain s) : NoPat s := ⟨patV pb5 pm5 .empty pk5, pb5, pm5, .empty, pk5, rfl, plain_first (x := 82) h rfl rfl (by decide)⟩
theorem told_below {w w' : World} (h : Ev.Told w) (hb : Below w.heap.size w w') : Ev.Told w' := told_kept h hb h.1
set_option maxRecDepth 100000 in
set_option maxHeartbeats 4000000 in
theorem patterns_makes {s : ByteArray} (hs : Plain s) {w : World} {n : Nat} (hn : 3 ≤ n) (hw : Ev.Told w) :
    SeqMakes Fence.wide n Tryz.prog 468 #[] (fun x : NoPat s => #[x.1]) (fun A B => Ev.Told A → Ev.Told B) (fun _ => True) 6 (fun _ => True) w := by
  intro l J W1 hW hJ hY h0
  have HT := Lib.hid (hW hw)
  have HJ := Lib.hid hJ
  have HY := Lib.hid hY
  have HS := Lib.hid hs
  have H0 := Lib.hid h0
  clear hW hw hJ hY h0 hs
  refine callsIn_of_wp Tryz.func468 rfl trivial ?_ rfl
  simp only [Tryz.ntmps468, List.size_toArray, List.length_cons, List.length_nil, Nat.reduceAdd, Nat.reduceSub, Array.replicate_succ, Array.replicate_zero, List.push_toArray, List.append_toArray, List.nil_append, List.cons_append]
  have h1 : 1 ≤ n := by omega
  have HP0 := Lib.hid (pat0_is W1 HT.out)
  gi_wp2
  refine ⟨trivial, ?_⟩
  refine (callsIn_wide.2 HP0.out).mono ?_
  rintro e U0 ⟨rfl, hb0⟩
  have HJU0 := Lib.hid (HJ.out _ _ _ H0.out hb0)
  have HTU0 := Lib.hid (told_below HT.out hb0)
  obtain ⟨fn0, tmps0, assign0, body0, hy0, hR0⟩ := HY.out _ (np0 HS.out) U0 HJU0.out (by simp)
  have hz0 : (Instr.yield l #[patV pb0 pm0 .empty pk0]).run Tryz.prog U0 = .ok (.round l fn0 tmps0 assign0 body0) U0 := hy0
  clear hb0 hy0
  gi_wp2
  refine hR0.mono ?_
  rintro e V0 ⟨rfl, hj0, hk0⟩
  have HJV0 := Lib.hid hj0
  have HTV0 := Lib.hid (hk0 HTU0.out)
  clear hj0 hk0 hz0 hR0
  have HP1 := Lib.hid (pat1_is V0 HTV0.out)
  gi_wp2
  refine ⟨trivial, ?_⟩
  refine (callsIn_wide.2 HP1.out).mono ?_
  rintro e U1 ⟨rfl, hb1⟩
  have HJU1 := Lib.hid (HJ.out _ _ _ HJV0.out hb1)
  have HTU1 := Lib.hid (told_below HTV0.out hb1)
  obtain ⟨fn1, tmps1, assign1, body1, hy1, hR1⟩ := HY.out _ (np1 HS.out) U1 HJU1.out (by simp)
  have hz1 : (Instr.yield l #[patV pb1 pm1 .empty pk1]).run Tryz.prog U1 = .ok (.round l fn1 tmps1 assign1 body1) U1 := hy1
  clear hb1 hy1
  gi_wp2
  refine hR1.mono ?_
  rintro e V1 ⟨rfl, hj1, hk1⟩
  have HJV1 := Lib.hid hj1
  have HTV1 := Lib.hid (hk1 HTU1.out)
  clear hj1 hk1 hz1 hR1
  have HP2 := Lib.hid (pat2_is V1 HTV1.out)
  gi_wp2
  refine ⟨trivial, ?_⟩
  refine (callsIn_wide.2 HP2.out).mono ?_
  rintro e U2 ⟨rfl, hb2⟩
  have HJU2 := Lib.hid (HJ.out _ _ _ HJV1.out hb2)
  have HTU2 := Lib.hid (told_below HTV1.out hb2)
  obtain ⟨fn2, tmps2, assign2, body2, hy2, hR2⟩ := HY.out _ (np2 HS.out) U2 HJU2.out (by simp)
  have hz2 : (Instr.yield l #[patV pb2 pm2 .empty pk2]).run Tryz.prog U2 = .ok (.round l fn2 tmps2 assign2 body2) U2 := hy2
  clear hb2 hy2
  gi_wp2
  refine hR2.mono ?_
  rintro e V2 ⟨rfl, hj2, hk2⟩
  have HJV2 := Lib.hid hj2
  have HTV2 := Lib.hid (hk2 HTU2.out)
  clear hj2 hk2 hz2 hR2
  have HP3 := Lib.hid (pat3_is V2 HTV2.out)
  gi_wp2
  refine ⟨trivial, ?_⟩
  refine (callsIn_wide.2 HP3.out).mono ?_
  rintro e U3 ⟨rfl, hb3⟩
  have HJU3 := Lib.hid (HJ.out _ _ _ HJV2.out hb3)
  have HTU3 := Lib.hid (told_below HTV2.out hb3)
  obtain ⟨fn3, tmps3, assign3, body3, hy3, hR3⟩ := HY.out _ (np3 HS.out) U3 HJU3.out (by simp)
  have hz3 : (Instr.yield l #[patV pb3 pm3 .empty pk3]).run Tryz.prog U3 = .ok (.round l fn3 tmps3 assign3 body3) U3 := hy3
  clear hb3 hy3
  gi_wp2
  refine hR3.mono ?_
  rintro e V3 ⟨rfl, hj3, hk3⟩
  have HJV3 := Lib.hid hj3
  have HTV3 := Lib.hid (hk3 HTU3.out)
  clear hj3 hk3 hz3 hR3
  have HP4 := Lib.hid (pat4_is V3 HTV3.out)
  gi_wp2
  refine ⟨trivial, ?_⟩
  refine (callsIn_wide.2 HP4.out).mono ?_
  rintro e U4 ⟨rfl, hb4⟩
  have HJU4 := Lib.hid (HJ.out _ _ _ HJV3.out hb4)
  have HTU4 := Lib.hid (told_below HTV3.out hb4)
  obtain ⟨fn4, tmps4, assign4, body4, hy4, hR4⟩ := HY.out _ (np4 HS.out) U4 HJU4.out (by simp)
  have hz4 : (Instr.yield l #[patV pb4 pm4 .empty pk4]).run Tryz.prog U4 = .ok (.round l fn4 tmps4 assign4 body4) U4 := hy4
  clear hb4 hy4
  gi_wp2
  refine hR4.mono ?_
  rintro e V4 ⟨rfl, hj4, hk4⟩
  have HJV4 := Lib.hid hj4
  have HTV4 := Lib.hid (hk4 HTU4.out)
  clear hj4 hk4 hz4 hR4
  have HP5 := Lib.hid (pat5_is V4 HTV4.out)
  gi_wp2
  refine ⟨trivial, ?_⟩
  refine (callsIn_wide.2 HP5.out).mono ?_
  rintro e U5 ⟨rfl, hb5⟩
  have HJU5 := Lib.hid (HJ.out _ _ _ HJV4.out hb5)
  have HTU5 := Lib.hid (told_below HTV4.out hb5)
  obtain ⟨fn5, tmps5, assign5, body5, hy5, hR5⟩ := HY.out _ (np5 HS.out) U5 HJU5.out (by simp)
  have hz5 : (Instr.yield l #[patV pb5 pm5 .empty pk5]).run Tryz.prog U5 = .ok (.round l fn5 tmps5 assign5 body5) U5 := hy5
  clear hb5 hy5
  gi_wp2
  refine hR5.mono ?_
  rintro e V5 ⟨rfl, hj5, hk5⟩
  have HJV5 := Lib.hid hj5
  have HTV5 := Lib.hid (hk5 HTU5.out)
  clear hj5 hk5 hz5 hR5
  gi_wp2
  go_end0
  exact ⟨⟨_, rfl⟩, _, trivial, HJV5.out, trivial⟩
end Go.Proofs.YtlhaaokldjdnnaaGreatDoor
namespace Go.Proofs.YtlhaaokldjdnnaaGreatDoor
open Go.RowKit Go.Shelf
set_option linter.unusedVariables false
set_option linter.unusedSimpArgs false
set_option linter.all false
attribute [local go_sem] Oper.semAt_some

theorem told_same {A B : World} {N : Nat} (h : Ev.Told A) (hN : 1 ≤ N) (hs : ∀ b, b < N → B.heap[b]? = A.heap[b]?) : Ev.Told B := by
  have h0 : (0 : Nat) < A.heap.size := h.1
  have h1 : 1 ≤ B.heap.size := by
    have e := hs 0 hN
    rw [Array.getElem?_eq_getElem h0] at e
    have := (Array.getElem?_eq_some_iff.1 e).1
    omega
  exact ⟨h1, fun g i v e => by
    have hg : g < 1 := Ev.hg_cfg g i v e
    exact (World.cell?_of_block (hs g (by omega))).trans (h.2 g i v e)⟩
/-- What stands behind a round. -/
structure KindI (s : ByteArray) (w W : World) : Prop where
  below : Below w.heap.size w W
  one : W.heap[w.heap.size]? = some (.cells #[.string s] 9 (0, 0))
  two : W.heap[w.heap.size + 1]? = some (.cells #[.string .empty] 9 (0, 0))
  told : Ev.Told W
theorem patterns_value (w : World) : Calls Tryz.prog 456 #[] w fun e w' => e = .returned (.func (.func 468) #[] #[]) ∧ w = w' := by
  go_enter Tryz.func456, Tryz.ntmps456
  go_wp2
  go_ret
  exact ⟨rfl, rfl⟩
set_option maxRecDepth 100000 in
set_option maxHeartbeats 4000000 in
theorem mkind_none {s : ByteArray} (h : Plain s) (w : World) (hw : Ev.Told w) : Calls Tryz.prog 439 #[.string s] w fun e w' => e = .returned (.string .empty) ∧ Below w.heap.size w w' := by
  have HP := Lib.hid patterns_value
  have HS := Lib.hid h
  have HW := Lib.hid hw
  clear h hw
  refine (callsIn_wide (n := 9)).1 (callsIn_of_wp_marks Tryz.func439 rfl trivial (wpIn_wide.2 ?_) rfl)
  simp only [Tryz.ntmps439, List.size_toArray, List.length_cons, List.length_nil, Nat.reduceAdd, Nat.reduceSub, Array.replicate_succ, Array.replicate_zero, List.push_toArray, List.append_toArray, List.nil_append, List.cons_append]
  go_wp2_with (go_at_call 456; refine (HP.out _).mono ?_; rintro e _ ⟨rfl, rfl⟩)
  have hI0 : KindI s w ((w.alloc (.cells #[.string s] 9)).alloc (.cells #[.string .empty] 9)) := by
    have hb := ((Below.refl w.heap.size w).alloc (Nat.le_refl _) (.cells #[.string s] 9)).alloc (by simp) (.cells #[.string .empty] 9)
    refine ⟨hb, (Below.heap_alloc _ _ _ (by simp)).trans (heap_alloc_new w _), ?_, told_below HW.out hb⟩
    have := heap_alloc_new (w.alloc (.cells #[.string s] 9)) (.cells #[.string .empty] 9)
    rwa [World.size_alloc] at this
  have HI0 := Lib.hid hI0
  clear hI0
  refine (wpIn_wide (n := 9)).1 (wpIn_rangeFunc_makes (F := Fence.wide) (n := 9) rfl (by decide) (gf := 468) (lb := #[]) rfl trivial (enters_of Tryz.func468 (by kernel_rfl) rfl)
    (patterns_makes (n := 8) HS.out (by decide) HI0.out.told) ?hZ (fun W h => h) (fun h k x => k (h x)) (fun A B h hA => told_same hA (by simp) h) (fun _ => rfl) (fun _ W => KindI s w W) ?hIo HI0.out
    (fun x k => { tmps := #[.string s, .pointer (some ⟨w.heap.size, 0, none⟩), .pointer (some ⟨w.heap.size + 1, 0, none⟩), .pointer (some ⟨k, 0, none⟩), .func (.func 468) #[] #[], x.1, undef, undef, undef, undef, undef], defers := [] })
    (fun x k X => ∃ b m kk t : ByteArray, x.1 = patV b m kk t ∧ matchB s b m kk = false ∧ X.heap[k]? = some (.cells #[.string b, .string m, .string kk, .string t] 271 (0, 0))) ?hA ?assign ?body ?done)
  case hZ => exact fun _ _ _ _ => trivial
  case hIo =>
    rintro pre X X' hI hl hc e1 e2 e3 hs
    refine ⟨⟨e1.trans hI.below.os, e2.trans hI.below.tape, e3.trans hI.below.output, Nat.le_trans hI.below.size hs, fun k hk => (hl k (by simp; omega)).trans (hI.below.block k hk)⟩, hc _ _ hI.one rfl, hc _ _ hI.two rfl, told_same hI.told (by simp) hl⟩
  case hA =>
    rintro x k X X' ⟨b, m, kk, t, h1, h2, h3⟩ hc
    exact ⟨b, m, kk, t, h1, h2, hc _ _ h3 rfl⟩
  case assign =>
    rintro l ⟨v, b, m, kk, t, rfl, hm⟩ W K hK
    have hK' := hK W.heap.size (W.alloc (.cells #[.string b, .string m, .string kk, .string t] 271)) ((Below.refl _ _).alloc (Nat.le_refl _) _) ⟨b, m, kk, t, rfl, hm, heap_alloc_new W _⟩
    have HK' := Lib.hid hK'
    clear hK hK' HI0 HP HS HW
    gi_wp2
    exact HK'.out
  case body =>
    rintro l pre ⟨v, b, m, kk, t, rfl, hm⟩ k W hI ⟨b', m', kk', t', hv, hm', hk⟩ hlen
    have hv : patV b m kk t = patV b' m' kk' t' := hv
    cases hv
    have HM := Lib.hid (Match_is s b m kk t W (by have := HS.out.1; omega))
    rw [hm'] at HM
    have c0 : W.cell? ⟨w.heap.size, 0, none⟩ = some (.string s) := cell_of_row W _ 0 _ _ _ hI.one
    have k0 : W.cell? ⟨k, 0, none⟩ = some (.string b) := cell_of_row W _ 0 _ _ _ hk
    have k1 : W.cell? ⟨k, 1, none⟩ = some (.string m) := cell_of_row W _ 1 _ _ _ hk
    have k2 : W.cell? ⟨k, 2, none⟩ = some (.string kk) := cell_of_row W _ 2 _ _ _ hk
    have k3 : W.cell? ⟨k, 3, none⟩ = some (.string t) := cell_of_row W _ 3 _ _ _ hk
    have HI := Lib.hid hI
    clear hI hk hlen HI0 HP HW
    gi_wp2_with (refine ⟨trivial, ?_⟩; gi_at_call 294; refine (CallsIn.inRound l (callsIn_wide.2 HM.out)).mono ?_; rintro e w1 ⟨rfl, hb1⟩; have HB1 := Lib.hid hb1; clear hb1)
    refine ⟨⟨HB1.out.size, fun k o _ hk _ => (HB1.out.block k (Array.getElem?_eq_some_iff.1 hk).1).trans hk⟩, fun h => told_below h HB1.out, below_then HI.out.below (Nat.le_refl _) HB1.out, (HB1.out.block _ (blk_lt HI.out.one)).trans HI.out.one, (HB1.out.block _ (blk_lt HI.out.two)).trans HI.out.two, told_below HI.out.told HB1.out⟩
  case done =>
    rintro D xs W hD hDl _ hI _ hd
    have c1 : W.cell? ⟨w.heap.size + 1, 0, none⟩ = some (.string .empty) := cell_of_row W _ 0 _ _ _ hI.two
    have g1 := blk_frozen hI.two 0
    have HI := Lib.hid hI
    have HD := Lib.hid hd
    clear hI hd
    go_wp2
    have hne : D ≠ w.heap.size + 1 := by simp at hD; omega
    have hh : (W.setCell ⟨w.heap.size + 1, 0, none⟩ (.string .empty)).heap[D]? = some (.deferred (some [])) := (Below.heap_setCell W ⟨w.heap.size + 1, 0, none⟩ _ D hne).trans HD.out
    have htwo : ((W.setCell ⟨w.heap.size + 1, 0, none⟩ (.string .empty)).putObj D (.deferred none)).heap[w.heap.size + 1]? = some (.cells #[.string .empty] 9 (0, 0)) := (World.putObj_heap_other (fun e => hne e.symm)).trans (blk_set HI.out.two 0 _)
    have hc : ((W.setCell ⟨w.heap.size + 1, 0, none⟩ (.string ⟨#[]⟩)).putObj D (.deferred none)).cell? ⟨w.heap.size + 1, 0, none⟩ = some (.string ⟨#[]⟩) := cell_of_row _ _ 0 _ _ _ htwo
    have hbel : Below w.heap.size w ((W.setCell ⟨w.heap.size + 1, 0, none⟩ (.string .empty)).putObj D (.deferred none)) := by
      have h1 := HI.out.below.setCell (p := ⟨w.heap.size + 1, 0, none⟩) (by show w.heap.size ≤ w.heap.size + 1; omega) (.string .empty)
      exact ⟨h1.os, h1.tape, h1.output, by simpa [World.putObj] using h1.size, fun k hk => (World.putObj_heap_other (by simp at hD; omega)).trans (h1.block k hk)⟩
    refine ⟨by simp, .inl ⟨D, _, rfl, run_takeDeferred hh, ?_⟩⟩
    refine ⟨.string .empty, ?_, rfl, hbel⟩
    simp [results, Tryz.results439, go_sem, hc]
    rfl
end Go.Proofs.YtlhaaokldjdnnaaGreatDoor
