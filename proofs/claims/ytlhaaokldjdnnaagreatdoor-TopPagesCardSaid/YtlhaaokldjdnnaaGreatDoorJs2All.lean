/-
  Parts, one behind the other: Layer 28 (jscript): what closes, and signs. No condition but that the machine is one. | Layer 28 (jscript): a byte between pieces, and within a word. No condition but that the machine is one.
-/
import Derived.Test.YtlhaaokldjdnnaaGreatDoorQFirstAll
import Derived.Test.YtlhaaokldjdnnaaGreatDoorBytes
import Derived.Test.YtlhaaokldjdnnaaGreatDoorShelf
namespace Go.Proofs.YtlhaaokldjdnnaaGreatDoor
open Go.RowKit
set_option linter.unusedVariables false
set_option linter.unusedSimpArgs false
section
variable {w w' : World} {B g : Nat} {j j' : Js}

def pairV (z : Int) : Int := if z == 41 then 40 else if z == 93 then 91 else 123
theorem pair_is (z : Int) (w : World) : Calls Tryz.prog 362 #[.int .u8 z] w fun e w' => e = .returned (.int .u8 (pairV z)) ∧ w' = w := by
  unfold pairV
  cases h1 : (z == 41)
  · cases h2 : (z == 93)
    all_goals
      go_enter Tryz.func362, Tryz.ntmps362
      go_wp2
      go_ret
      exact ⟨rfl, rfl⟩
  · go_enter Tryz.func362, Tryz.ntmps362
    go_wp2
    go_ret
    exact ⟨rfl, rfl⟩
theorem Row.take_ {e : TypeId} {A : Option Addr} {cap m n : Nat} {xs : List Value} (h : Row w B e (.slice A n cap) n xs) (hm : m ≤ n) (hA : 0 < n) : Row w B e (.slice A m cap) m (xs.take m) := by
  obtain ⟨hl, h⟩ := h
  refine ⟨by rw [List.length_take]; omega, ?_⟩
  rcases h with ⟨h0, hn⟩ | ⟨g, off, cap', cur, hv, hb, hg, h1, h2, h3, hx⟩
  · omega
  · cases hv
    refine .inr ⟨g, off, cap, cur, rfl, hb, hg, by omega, h2, h3, fun j u hu => ?_⟩
    rw [List.getElem?_take] at hu
    split at hu
    · exact hx j u hu
    · cases hu
theorem own_slice (A : Option Addr) (n c n' c' : Nat) : (Value.slice A n c).ownBlock = (Value.slice A n' c').ownBlock := by cases A <;> rfl
theorem JsIs.cut {m : Nat} (h : JsIs w B g j) (hn : j.n = m + 1) : JsIs (w.setCell ⟨g, 1, none⟩ (.slice j.A m j.cap)) B g { j with n := m, zs := j.zs.take m } := by
  refine ⟨h.low, blk_set h.blk 1 _, ?_, by have := h.deep; simp only; omega, h.said_⟩
  have := h.row.take_ (m := m) (by omega) (by omega)
  rw [← List.map_take] at this
  exact this.setCell (p := ⟨g, 1, none⟩) (fun e => h.row.apart h.blk (by decide) ((own_slice ..).trans e)) _

set_option maxHeartbeats 1000000 in
theorem js_pop (h : JsIs w B g j) (z : Int) : Calls Tryz.prog 311 #[.pointer (some ⟨g, 0, none⟩), .int .u8 z] w (Js4 w B g) := by
  obtain ⟨c0, c1, c2, c3, c4, c5, c6, c7, c8, c9, c10, c11, c12⟩ := h.cells
  have hdeep := h.deep
  rcases Nat.eq_zero_or_pos j.n with hn | hn
  · have H := Lib.hid h
    rw [hn] at c1
    clear h hdeep hn
    go_enter Tryz.func311, Tryz.ntmps311
    go_wp2
    go_quiet (fail)
    go_wp2_with (go_at_call 239; refine (js_fail (H.out.drewN _)).mono ?_; rintro e w1 ⟨rfl, h1, hk1⟩; have H1 := Lib.hid h1; have HK := Lib.hid hk1; clear h1 hk1)
    go_end0
    exact ⟨rfl, ⟨_, H1.out⟩, ((Kept.refl w B jsT).drewN _).trans HK.out⟩
  · obtain ⟨m, hm⟩ : ∃ m, j.n = m + 1 := ⟨j.n - 1, by omega⟩
    obtain ⟨gl, off, cap, hA, hcell, hc1, hc2⟩ := h.row.get (j := m) (by omega)
    have hcut := h.cut hm
    have f1 := h.free 1
    have f2 := h.free 2
    have f3 := h.free 3
    obtain ⟨y, hy⟩ : ∃ y, (j.zs.map fun z => Value.int IntKind.u8 z)[m]'(by have := h.row.1; omega) = .int .u8 y := ⟨_, List.getElem_map ..⟩
    rw [hy] at hcell
    injection hA with hA1 _ hA3
    rw [hm] at c1 hdeep hc1
    rw [hA1, hA3] at c1
    rw [hA1, hA3] at hcut
    have HC := Lib.hid hcut
    have H := Lib.hid h
    have HP : Hid (∀ w, Calls Tryz.prog 362 #[.int .u8 z] w fun e w' => e = .returned (.int .u8 (pairV z)) ∧ w' = w) := pair_is z
    unfold maxLen at hc2
    clear h hcut hA1 hA3 hy hn hm
    have hm1 : (0 : Int) ≤ ((m + 1 : Nat) : Int) - 1 := by omega
    have hm2 : (((m + 1 : Nat) : Int) - 1) < ((m + 1 : Nat) : Int) := by omega
    have hm3 : (m : Int) < ((m + 1 : Nat) : Int) := by omega
    have hm4 : (m : Int) < (m : Int) + 1 := by omega
    cases hz : (z == 125)
    · go_enter Tryz.func311, Tryz.ntmps311
      go_wp2
      go_quiet ((go_at_call 362; exact Calls.quiet_of_same (HP.out _)))
      go_wp2_with (first
        | (go_at_call 239; refine (js_fail (H.out.drewN _)).mono ?_; rintro e w1 ⟨rfl, h1, hk1⟩; have H1 := Lib.hid h1; have HK := Lib.hid ((((Kept.refl w B jsT).drewN _).trans hk1)); clear h1 hk1)
        | (go_at_call 243; refine (js_ended (HC.out.drewN _) _).mono ?_; rintro e w1 ⟨rfl, h1, hk1⟩; have H1 := Lib.hid h1; have HK := Lib.hid (((H.out.kept 1 _ (Kept.refl w B jsT)).drewN _).trans hk1); clear h1 hk1))
      all_goals
        go_end0
        exact ⟨rfl, ⟨_, H1.out⟩, HK.out⟩
    · go_enter Tryz.func311, Tryz.ntmps311
      go_wp2
      · go_end0
        exact ⟨rfl, ⟨_, (HC.out.pos_ 4).byy_ 96⟩, H.out.kept _ _ (H.out.kept _ _ (H.out.kept _ _ (Kept.refl w B jsT)))⟩
      · go_quiet ((go_at_call 362; exact Calls.quiet_of_same (HP.out _)))
        go_wp2_with (first
          | (go_at_call 239; refine (js_fail (H.out.drewN _)).mono ?_; rintro e w1 ⟨rfl, h1, hk1⟩; have H1 := Lib.hid h1; have HK := Lib.hid ((((Kept.refl w B jsT).drewN _).trans hk1)); clear h1 hk1)
          | (go_at_call 243; refine (js_ended (HC.out.drewN _) _).mono ?_; rintro e w1 ⟨rfl, h1, hk1⟩; obtain ⟨d0, d1, d2, d3, d4, d5, d6, d7, d8, d9, d10, d11, d12⟩ := h1.cells; have g11 := h1.free 11; have H1 := Lib.hid h1; have HK := Lib.hid (((H.out.kept 1 _ (Kept.refl w B jsT)).drewN _).trans hk1); clear h1 hk1))
        all_goals
          go_end0
          first
            | exact ⟨rfl, ⟨_, H1.out⟩, HK.out⟩
            | exact ⟨rfl, ⟨_, H1.out.ends_ _⟩, H.out.kept _ _ HK.out⟩

set_option maxHeartbeats 2000000 in
theorem js_sign (h : JsIs w B g j) (c : UInt8) (hB : B ≤ w.heap.size) : Calls Tryz.prog 241 #[.pointer (some ⟨g, 0, none⟩), .int .u8 (c.toNat : Int)] w (Js4 w B g) := by
  have H := Lib.hid h
  have HB := Lib.hid hB
  clear h hB
  go_enter Tryz.func241, Tryz.ntmps241
  go_wp2_with (first
    | (go_at_call 240; refine (js_piece H.out).mono ?_; rintro e w1 ⟨rfl, h1, hk1⟩; obtain ⟨d0, d1, d2, d3, d4, d5, d6, d7, d8, d9, d10, d11, d12⟩ := h1.cells; have H1 := Lib.hid h1; have HK := Lib.hid hk1; have HB1 := Lib.hid (Nat.le_trans HB.out hk1.below.size); clear h1 hk1)
    | (go_at_call 244; refine (js_push H1.out _ HB1.out).mono ?_; rintro e w2 ⟨rfl, ⟨j2, h2⟩, hk2⟩; have H2 := Lib.hid h2; have HK2 := Lib.hid (HK.out.trans hk2); clear h2 hk2)
    | (go_at_call 311; refine (js_pop H1.out _).mono ?_; rintro e w2 ⟨rfl, ⟨j2, h2⟩, hk2⟩; have H2 := Lib.hid h2; have HK2 := Lib.hid (HK.out.trans hk2); clear h2 hk2)
    | (go_at_call 243; refine (js_ended H1.out _).mono ?_; rintro e w2 ⟨rfl, h2, hk2⟩; obtain ⟨e0, e1, e2, e3, e4, e5, e6, e7, e8, e9, e10, e11, e12⟩ := h2.cells; have g11 := h2.free 11; have H2 := Lib.hid h2; have HK2 := Lib.hid (HK.out.trans hk2); clear h2 hk2))
  all_goals
    go_end0
    first
      | exact ⟨rfl, ⟨_, H2.out⟩, HK2.out⟩
      | exact ⟨rfl, ⟨_, H2.out.ends_ _⟩, H.out.kept _ _ HK2.out⟩
end
end Go.Proofs.YtlhaaokldjdnnaaGreatDoor
namespace Go.Proofs.YtlhaaokldjdnnaaGreatDoor
open Go.RowKit
set_option linter.unusedVariables false
set_option linter.unusedSimpArgs false
section
variable {w w' : World} {B g : Nat} {j j' : Js}

theorem conv_cell (c : UInt8) (W : World) (a : Addr) (h : W.cell? a = some (.int .u8 (c.toNat : Int))) : (convert 69 9 (.slice (some a) 1 1)).run Tryz.prog W = .ok (.string ⟨#[c]⟩) W :=
  run_convert_bytes_back (P := Tryz.prog) W 69 9 5 a 1 [c] Tryz.underlying69 Tryz.underlying5 Tryz.underlying9 fun i hi => by
    have : i = 0 := by simp at hi; omega
    subst this
    have ha : a.add 0 = a := by unfold Addr.add; simp
    rw [ha]
    exact h
theorem conv_one (c : UInt8) (W : World) : (convert 69 9 (.slice (some ⟨W.heap.size, 0, none⟩) 1 1)).run Tryz.prog (W.alloc (.cells #[.int .u8 (c.toNat : Int)] 5)) = .ok (.string ⟨#[c]⟩) (W.alloc (.cells #[.int .u8 (c.toNat : Int)] 5)) :=
  conv_cell c _ _ (by rw [World.cell?_alloc_new]; rfl)
theorem conv_drew (c : UInt8) (W : World) : (convert 69 9 (.slice (some ⟨W.heap.size, 0, none⟩) 1 1)).run Tryz.prog (W.alloc (.cells #[.int .u8 (c.toNat : Int)] 5)).drew = .ok (.string ⟨#[c]⟩) (W.alloc (.cells #[.int .u8 (c.toNat : Int)] 5)).drew :=
  conv_cell c _ _ (by
    show (W.alloc (.cells #[.int .u8 (c.toNat : Int)] 5)).cell? ⟨W.heap.size, 0, none⟩ = _
    rw [World.cell?_alloc_new]; rfl)
theorem JsIs.alloc (h : JsIs w B g j) (o : Obj) : JsIs (w.alloc o) B g j := h.below ((Below.refl w.heap.size w).alloc (Nat.le_refl _) o)
theorem Kept.alloc {T : List TypeId} (h : Kept w w' B T) (hB : B ≤ w'.heap.size) (o : Obj) : Kept w (w'.alloc o) B T := h.trans (Kept.of ((Below.refl w'.heap.size w').alloc (Nat.le_refl _) o) hB T)
abbrev BeginOk (B g : Nat) (c : UInt8) : Prop := ∀ (w : World) (j : Js), JsIs w B g j → B ≤ w.heap.size → Calls Tryz.prog 185 #[.pointer (some ⟨g, 0, none⟩), .int .u8 (c.toNat : Int)] w (Js4 w B g)

set_option maxRecDepth 100000 in
set_option maxHeartbeats 4000000 in
theorem js_begin (h : JsIs w B g j) (c : UInt8) (hB : B ≤ w.heap.size) : Calls Tryz.prog 185 #[.pointer (some ⟨g, 0, none⟩), .int .u8 (c.toNat : Int)] w (Js4 w B g) := by
  obtain ⟨c0, c1, c2, c3, c4, c5, c6, c7, c8, c9, c10, c11, c12⟩ := h.cells
  obtain ⟨f1, f2, f3, f4, f5, f6, f7, f8, f9, f10, f11, f12⟩ := h.frees
  have H := Lib.hid h
  have HB := Lib.hid hB
  have HF := Lib.hid (feed_is (c.toNat : Int))
  have HW := Lib.hid (white_is (c.toNat : Int))
  have HI := Lib.hid (inner_is (c.toNat : Int))
  have HD := Lib.hid (Digit_is (c.toNat : Int))
  have HK := Lib.hid (Kept.refl w B jsT)
  have hcv := fun W => conv_one c W
  have HX : Hid (∀ (s : ByteArray) (z : Int) (W : World), Calls Tryz.prog 233 #[.string s, .int .u8 z] W fun e w' => e = .returned (.int .i64 (Lib.indexByte s.data.toList z.toNat.toUInt8)) ∧ w' = W) := Tryz.strings_IndexByte
  clear h hB
  cases hf : feeB (c.toNat : Int)
  case true =>
    rw [hf] at HF
    go_enter Tryz.func185, Tryz.ntmps185
    go_wp2_with (go_at_call 235; refine (HF.out _).mono ?_; rintro e _ ⟨rfl, rfl⟩)
    go_end0
    exact ⟨rfl, ⟨_, H.out.broken_ _⟩, H.out.kept _ _ HK.out⟩
  case false =>
    rw [hf] at HF
    cases hw : whiB (c.toNat : Int)
    case true =>
      rw [hw] at HW
      go_enter Tryz.func185, Tryz.ntmps185
      go_wp2_with (first | (go_at_call 235; refine (HF.out _).mono ?_; rintro e _ ⟨rfl, rfl⟩) | (go_at_call 236; refine (HW.out _).mono ?_; rintro e _ ⟨rfl, rfl⟩))
      go_end0
      exact ⟨rfl, ⟨_, H.out⟩, HK.out⟩
    case false =>
      rw [hw] at HW
      cases hi : innB (c.toNat : Int)
      case true =>
        rw [hi] at HI
        go_enter Tryz.func185, Tryz.ntmps185
        go_wp2_with (first
          | (go_at_call 235; refine (HF.out _).mono ?_; rintro e _ ⟨rfl, rfl⟩)
          | (go_at_call 236; refine (HW.out _).mono ?_; rintro e _ ⟨rfl, rfl⟩)
          | (go_at_call 237; refine (HI.out _).mono ?_; rintro e _ ⟨rfl, rfl⟩)
          | (go_at_call 231; refine (HD.out _).mono ?_; rintro e _ ⟨rfl, rfl⟩)
          | (go_at_call 238; refine (js_joined H.out).mono ?_; rintro e _ ⟨rfl, rfl⟩)
          | (go_at_call 239; refine (js_fail H.out).mono ?_; rintro e w1 ⟨rfl, h1, hk1⟩; have H1 := Lib.hid h1; have HK1 := Lib.hid (HK.out.trans hk1); clear h1 hk1)
          | (go_at_call 240; refine (js_piece H.out).mono ?_; rintro e w1 ⟨rfl, h1, hk1⟩; have h2 := h1.alloc (.cells #[.int .u8 (c.toNat : Int)] 5); have hk2 := (HK.out.trans hk1).alloc (Nat.le_trans HB.out hk1.below.size) (.cells #[.int .u8 (c.toNat : Int)] 5); obtain ⟨d0, d1, d2, d3, d4, d5, d6, d7, d8, d9, d10, d11, d12⟩ := h2.cells; obtain ⟨g1, g2, g3, g4, g5, g6, g7, g8, g9, g10, g11, g12⟩ := h2.frees; have H2 := Lib.hid h2; have HK2 := Lib.hid hk2; clear h1 hk1 h2 hk2))
        all_goals
          go_end0
          first
            | exact ⟨rfl, ⟨_, H1.out⟩, HK1.out⟩
            | exact ⟨rfl, (H2.out.ok.pos_ _).said__ _ (by show 1 ≤ 11; omega), H.out.kept _ _ (H.out.kept _ _ HK2.out)⟩
            | exact ⟨rfl, ((H2.out.ok.pos_ _).said__ _ (by show 1 ≤ 11; omega)).pos_ _, H.out.kept _ _ (H.out.kept _ _ (H.out.kept _ _ HK2.out))⟩
      case false =>
        rw [hi] at HI
        cases h34 : ((c.toNat : Int) == 34)
        all_goals
          cases h60 : ((c.toNat : Int) == 60)
          all_goals
            go_enter Tryz.func185, Tryz.ntmps185
            go_wp2_with (first
              | (go_at_call 235; refine (HF.out _).mono ?_; rintro e _ ⟨rfl, rfl⟩)
              | (go_at_call 236; refine (HW.out _).mono ?_; rintro e _ ⟨rfl, rfl⟩)
              | (go_at_call 237; refine (HI.out _).mono ?_; rintro e _ ⟨rfl, rfl⟩)
              | (go_at_call 238; refine (js_joined H.out).mono ?_; rintro e _ ⟨rfl, rfl⟩)
              | (go_at_call 233; refine (HX.out _ _ _).mono ?_; rintro e _ ⟨rfl, rfl⟩)
              | (go_at_call 239; refine (js_fail H.out).mono ?_; rintro e w1 ⟨rfl, h1, hk1⟩; have H1 := Lib.hid h1.ok; have HK1 := Lib.hid (HK.out.trans hk1); clear h1 hk1)
              | (go_at_call 241; refine (js_sign H.out _ HB.out).mono ?_; rintro e w1 ⟨rfl, h1, hk1⟩; have H1 := Lib.hid h1; have HK1 := Lib.hid (HK.out.trans hk1); clear h1 hk1)
              | (go_at_call 240; refine (js_piece H.out).mono ?_; rintro e w1 ⟨rfl, h1, hk1⟩; obtain ⟨d0, d1, d2, d3, d4, d5, d6, d7, d8, d9, d10, d11, d12⟩ := h1.cells; obtain ⟨g1, g2, g3, g4, g5, g6, g7, g8, g9, g10, g11, g12⟩ := h1.frees; have H2 := Lib.hid h1.ok; have HK2 := Lib.hid (HK.out.trans hk1); clear h1 hk1))
            all_goals
              go_end0
              first
                | exact ⟨rfl, H1.out, HK1.out⟩
                | exact ⟨rfl, (H2.out.pos_ _).byy_ _, H.out.kept _ _ (H.out.kept _ _ HK2.out)⟩
                | exact ⟨rfl, H.out.ok.pos_ _, H.out.kept _ _ HK.out⟩
end
end Go.Proofs.YtlhaaokldjdnnaaGreatDoor
