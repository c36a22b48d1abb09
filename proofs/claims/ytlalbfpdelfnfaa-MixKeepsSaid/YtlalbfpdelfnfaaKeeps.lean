/-
  Layer 43 (mix): the walk of MixKeeps. No condition but that what comes in lies in memory.
-/
import Derived.Test.YtlalbfpdelfnfaaSpoil
import Derived.Test.YtlalbfpdelfnfaaOpen
namespace Go.Proofs.Ytlalbfpdelfnfaa
open Go.RowKit Go.ChangeShapes Go.WideShapes Go.Deep
set_option linter.unusedVariables false

def spoilt : ByteArray := ⟨#[115, 112, 111, 105, 108, 116]⟩
set_option maxRecDepth 100000 in
set_option maxHeartbeats 4000000 in
theorem MixKeeps_walk_ {w : World} {v : Value} {n0 : Nat} {es0 : List Ev} (id : Int) (h : EvsI w 0 v n0 es0) (hf : ∀ e ∈ es0, FineE e) :
    Calls Try.prog 3 #[v, .int .i64 id] w fun o w' => o = .returned (.bool true) ∧ Below w.heap.size w w' := by
  have HF := Lib.hid (fun w1 (hb : Below w.heap.size w w1) => few_any (h.below hb) hf 10 (by decide))
  obtain ⟨A0, c0, rfl⟩ := h.slice
  have hc := fewL_cutm es0 10
  generalize fewL es0 10 = es at HF hc
  obtain ⟨n, hn⟩ : ∃ n, es.length = n := ⟨_, rfl⟩
  have hn10 : n ≤ 10 := by rw [← hn]; exact hc.len
  obtain ⟨La, ka, FA, KA⟩ := keeps_cut hn hc
  obtain ⟨Lb, kb, FB, KB⟩ := keeps_glue hn hc
  obtain ⟨Lc, kc, FC, KC⟩ := keeps_part id hn hc
  obtain ⟨Ld, kd, FD, KD⟩ := keeps_merge hn hc
  have HFW : Hid (∀ (w : World) (lo : Nat) (v : Value), Evs w lo v n es → Calls Try.prog 6 #[v, .int .i64 10] w fun o w' => ∃ A c, o = .returned (.slice A n c) ∧ Outs w' w.heap.size w.heap.size (.slice A n c) n es ∧ Below w.heap.size w w') := by
    intro w lo v h
    subst hn
    exact fewm h hc (by decide)
  rw [hn] at HF
  have HN := Lib.hid hn
  clear h hf hc hn
  have HX := Lib.hid (HF.out w (Below.refl _ _))
  go_enter Try.func3, Try.ntmps3
  go_wp2_with fail
  refine HX.out.mono ?_
  rintro o w1 ⟨A1, c1, rfl, hO, hb⟩
  have HO := Lib.hid hO
  have HB1 := Lib.hid hb
  have HM := Lib.hid hO.evs0
  have HMS := Lib.hid (fun i (hi : i < n) => Outs.spot hO hi)
  have HG := Lib.hid hO.typed
  clear hO hb HX
  have HBA : Hid (Below w1.heap.size w1 (w1.alloc (.cells #[.int .i64 3] 3))) := (Below.refl _ _).alloc (Nat.le_refl _) _
  have HX := Lib.hid (KA.out _ _ _ w1.heap.size (HM.out.below HBA.out) (by simp) (cell_of_row _ _ 0 _ _ _ (heap_alloc_new w1 _))).1
  go_wp2_with fail
  refine HX.out.mono ?_
  rintro o w2 ⟨Aa, ca, rfl, hE, hb⟩
  have HB2 := Lib.hid (below_then HBA.out (Nat.le_refl _) hb)
  have HA2 := Lib.hid (hE.base (lo' := w1.heap.size) HBA.out.size)
  have HM2 := Lib.hid (HM.out.below HB2.out)
  clear hE hb HX
  have HX := Lib.hid (KB.out _ _ _ HM2.out).1
  go_wp2_with fail
  refine HX.out.mono ?_
  rintro o w3 ⟨Ab, cb, rfl, hE, hb⟩
  have HB3 := Lib.hid (below_then HB2.out (Nat.le_refl _) hb)
  have HA3 := Lib.hid (HA2.out.below hb)
  have HQ3 := Lib.hid (hE.base (lo' := w1.heap.size) HB2.out.size)
  have HM3 := Lib.hid (HM2.out.below hb)
  clear hE hb HX
  have HX := Lib.hid (KC.out _ _ _ HM3.out).1
  go_wp2_with fail
  refine HX.out.mono ?_
  rintro o w4 ⟨Ac, cc, rfl, hE, hb⟩
  have HB4 := Lib.hid (below_then HB3.out (Nat.le_refl _) hb)
  have HA4 := Lib.hid (HA3.out.below hb)
  have HQ4 := Lib.hid (HQ3.out.below hb)
  have HC4 := Lib.hid (hE.base (lo' := w1.heap.size) HB3.out.size)
  have HM4 := Lib.hid (HM3.out.below hb)
  clear hE hb HX
  have HX := Lib.hid (KD.out _ _ _ HM4.out).1
  go_wp2_with fail
  refine HX.out.mono ?_
  rintro o w5 ⟨Ad, cd, rfl, hE, hb⟩
  have HB5 := Lib.hid (below_then HB4.out (Nat.le_refl _) hb)
  have HA5 := Lib.hid (HA4.out.below hb)
  have HQ5 := Lib.hid (HQ4.out.below hb)
  have HC5 := Lib.hid (HC4.out.below hb)
  have HD5 := Lib.hid (hE.base (lo' := w1.heap.size) HB4.out.size)
  clear hE hb HX HM HM2 HM3 HM4 HA2 HA3 HA4 HQ3 HQ4 HC4 HB2 HB3 HB4 HBA HO HG
  obtain ⟨N, hN⟩ : ∃ N, w1.heap.size = N := ⟨_, rfl⟩
  obtain ⟨B, hB⟩ : ∃ B, w.heap.size = B := ⟨_, rfl⟩
  have HSP : Hid (∀ i, i < n → ∃ g off A2 c2, ∃ hix : i < es.length, A1 = some ⟨g, off, none⟩ ∧ n ≤ c1 ∧ c1 ≤ maxLen ∧ Spot B N w5 g (off + i * 9) es[i] A2 c2) := by
    intro i hi
    obtain ⟨g, off, A2, c2, hix, h1, h2, h3, h4⟩ := HMS.out i hi
    exact ⟨g, off, A2, c2, hix, h1, h2, h3, by rw [← hN, ← hB]; exact h4.below HB5.out⟩
  rw [hN] at HA5 HQ5 HC5 HD5
  have HBN : Hid (Below B w w1) := by unfold Hid; rw [← hB]; exact HB1.out
  have HB15 : Hid (Below N w1 w5) := by unfold Hid; rw [← hN]; exact HB5.out
  have HNB : Hid (B ≤ N ∧ w1.heap.size = N ∧ w.heap.size = B) := ⟨by rw [← hN, ← hB]; exact HB1.out.size, hN, hB⟩
  clear HMS HB1 HB5 hN hB
  go_wp2_with fail
  go_loopw [10] (fun iv wr => ∃ i : Nat, iv = .int .i64 i ∧ i ≤ n ∧ Hid (Spoilt B N w5 wr)) (fun iv _ => n - (intOf iv).toNat)
  case atStart => exact ⟨0, rfl, Nat.zero_le _, Lib.hid (Spoilt.refl _ _ _)⟩
  case round =>
    obtain ⟨i, rfl, hi, HS⟩ := hrel
    by_cases hl : i < n
    · obtain ⟨g, off, A2, c2, hix, rfl, hd1, hd2, hspot⟩ := HSP.out i hl
      have HT := Lib.hid hspot
      unfold maxLen at hd2
      obtain ⟨n1, hn1⟩ : ∃ n1, es[i].hs.length = n1 := ⟨_, rfl⟩
      have hhv := hspot.hv
      have hhead := hspot.head
      have hrow := hspot.row
      have hbody := hspot.body
      have hfree := hspot.free
      rw [hn1] at hhv hhead
      generalize es[i].body = bd at hbody
      have HHD := Lib.hid hhead
      have HHV := Lib.hid hhv
      have HBD := Lib.hid hbody
      have HFR := Lib.hid hfree
      have HRW := Lib.hid hrow
      have hn1m : n1 ≤ 9223372036854775807 := by
        by_cases h0 : 0 < n1
        · obtain ⟨_, _, _, _, h1, h2, _⟩ := hhead 0 h0
          unfold maxLen at h2
          omega
        · omega
      clear hix hspot hhv hhead hrow hbody hfree hn1 HT
      go_wp2_with fail
      go_loopw [11] (fun kv wr => ∃ k : Nat, kv = .int .i64 k ∧ k ≤ n1 ∧ Hid (Spoilt B N w5 wr)) (fun kv _ => n1 - (intOf kv).toNat)
      case atStart => exact ⟨0, rfl, Nat.zero_le _, HS⟩
      case round =>
        clear HS
        obtain ⟨k, rfl, hk, HS⟩ := hrel
        have q7 := HS.out.cell _ _ HHV.out (fun s e => by cases e)
        by_cases hkl : k < n1
        · obtain ⟨b, o, s, rfl, he1, he2, hb1, hb2, hs, hfz⟩ := HHD.out k hkl
          obtain ⟨s', hs'⟩ := HS.out.str _ _ hs
          have hfz' := (HS.out.froz ⟨b, o + k * 2 + 1, none⟩).trans hfz
          have HS2 := Lib.hid (HS.out.store (p := ⟨b, o + k * 2 + 1, none⟩) ⟨hb1, hb2⟩ hs spoilt)
          unfold maxLen at he2
          clear hs hfz hb1 hb2
          go_wp2_with fail
          go_roundw
          case rel => exact ⟨k + 1, by go_num, by omega, HS2⟩
          case measure => simp [intOf]; omega
        · obtain rfl : k = n1 := by omega
          obtain ⟨s', hs'⟩ := HS.out.str _ _ HBD.out
          have hfz' := (HS.out.froz ⟨g, off + i * 9 + 8, none⟩).trans HFR.out
          have HS2 := Lib.hid (HS.out.store (p := ⟨g, off + i * 9 + 8, none⟩) HRW.out HBD.out spoilt)
          go_wp2_with fail
          go_roundw
          case rel => exact ⟨i + 1, by go_num, by omega, HS2⟩
          case measure => simp [intOf]; omega
    · obtain rfl : i = n := by omega
      obtain ⟨w6, hw6⟩ : ∃ w6 : World, w6 = wr := ⟨_, rfl⟩
      rw [← hw6] at HS ⊢
      have HB6 : Hid (Below w.heap.size w w6) := by unfold Hid; rw [HNB.out.2.2]; exact (HBN.out.trans (HB15.out.mono HNB.out.1)).trans HS.out.below
      have HA6 := Lib.hid (HS.out.evs HA5.out (Nat.le_refl _))
      have HQ6 := Lib.hid (HS.out.evs HQ5.out (Nat.le_refl _))
      have HC6 := Lib.hid (HS.out.evs HC5.out (Nat.le_refl _))
      have HD6 := Lib.hid (HS.out.evs HD5.out (Nat.le_refl _))
      have HX := Lib.hid (HF.out w6 HB6.out)
      clear hw6 HS HA5 HQ5 HC5 HD5 HSP HBN HB15 HNB hi
      go_wp2_with fail
      refine HX.out.mono ?_
      rintro o w7 ⟨A7, c7, rfl, hO, hb⟩
      have HB7 := Lib.hid (below_then HB6.out (Nat.le_refl _) hb)
      have HA7 := Lib.hid (HA6.out.below hb)
      have HQ7 := Lib.hid (HQ6.out.below hb)
      have HC7 := Lib.hid (HC6.out.below hb)
      have HD7 := Lib.hid (HD6.out.below hb)
      have HE7 := Lib.hid hO.evs0
      clear hO hb HX HF
      have HAL : Hid (Below w7.heap.size w7 (w7.alloc (.cells #[.int .i64 3] 3))) := (Below.refl _ _).alloc (Nat.le_refl _) _
      have HX := Lib.hid (KA.out _ _ _ w7.heap.size (HE7.out.below HAL.out) (by simp) (cell_of_row _ _ 0 _ _ _ (heap_alloc_new w7 _))).2
      go_wp2_with fail
      refine HX.out.mono ?_
      rintro o w8 ⟨A8, c8, rfl, hE, hb0⟩
      have hb : Below w7.heap.size w7 w8 := below_then HAL.out (Nat.le_refl _) hb0
      have HR8 := Lib.hid hE
      have HB8 := Lib.hid (below_then HB7.out (Nat.le_refl _) hb)
      have HA8 := Lib.hid (HA7.out.below hb)
      have HQ8 := Lib.hid (HQ7.out.below hb)
      have HC8 := Lib.hid (HC7.out.below hb)
      have HD8 := Lib.hid (HD7.out.below hb)
      have HE8 := Lib.hid (HE7.out.below hb)
      clear hE hb hb0 HX HAL HA7 HQ7 HC7 HD7 HE7 HA6 HQ6 HC6 HD6 HB6 HB7
      have HX := Lib.hid (keeps_same HA8.out HR8.out FA.out)
      go_wp2_with fail
      refine HX.out.mono ?_
      rintro o w9 ⟨rfl, hb⟩
      have HB9 := Lib.hid (below_then HB8.out (Nat.le_refl _) hb)
      have HQ9 := Lib.hid (HQ8.out.below hb)
      have HC9 := Lib.hid (HC8.out.below hb)
      have HD9 := Lib.hid (HD8.out.below hb)
      have HE9 := Lib.hid (HE8.out.below hb)
      clear hb HX HR8
      have HX := Lib.hid (HFW.out _ _ _ HE9.out)
      go_wp2_with fail
      refine HX.out.mono ?_
      rintro o wa ⟨Ae, ce, rfl, hO, hb⟩
      have HPa := Lib.hid hO.evs0
      have HBa := Lib.hid (below_then HB9.out (Nat.le_refl _) hb)
      have HQa := Lib.hid (HQ9.out.below hb)
      have HCa := Lib.hid (HC9.out.below hb)
      have HDa := Lib.hid (HD9.out.below hb)
      have HEa := Lib.hid (HE9.out.below hb)
      clear hO hb HX
      have HX := Lib.hid (KB.out _ _ _ HPa.out).2
      go_wp2_with fail
      refine HX.out.mono ?_
      rintro o wb ⟨Ab, cb, rfl, hE, hb⟩
      have HRb := Lib.hid hE
      have HBb := Lib.hid (below_then HBa.out (Nat.le_refl _) hb)
      have HQb := Lib.hid (HQa.out.below hb)
      have HCb := Lib.hid (HCa.out.below hb)
      have HDb := Lib.hid (HDa.out.below hb)
      have HEb := Lib.hid (HEa.out.below hb)
      clear hE hb HX
      have HX := Lib.hid (keeps_same HQb.out HRb.out FB.out)
      go_wp2_with fail
      refine HX.out.mono ?_
      rintro o wc ⟨rfl, hb⟩
      have HBc := Lib.hid (below_then HBb.out (Nat.le_refl _) hb)
      have HCc := Lib.hid (HCb.out.below hb)
      have HDc := Lib.hid (HDb.out.below hb)
      have HEc := Lib.hid (HEb.out.below hb)
      clear hb HX HRb
      have HX := Lib.hid (KC.out _ _ _ HEc.out).2
      go_wp2_with fail
      refine HX.out.mono ?_
      rintro o wd ⟨Ad, cd, rfl, hE, hb⟩
      have HRd := Lib.hid hE
      have HBd := Lib.hid (below_then HBc.out (Nat.le_refl _) hb)
      have HCd := Lib.hid (HCc.out.below hb)
      have HDd := Lib.hid (HDc.out.below hb)
      have HEd := Lib.hid (HEc.out.below hb)
      clear hE hb HX
      have HX := Lib.hid (keeps_same HCd.out HRd.out FC.out)
      go_wp2_with fail
      refine HX.out.mono ?_
      rintro o we ⟨rfl, hb⟩
      have HBe := Lib.hid (below_then HBd.out (Nat.le_refl _) hb)
      have HDe := Lib.hid (HDd.out.below hb)
      have HEe := Lib.hid (HEd.out.below hb)
      clear hb HX HRd
      have HX := Lib.hid (KD.out _ _ _ HEe.out).2
      go_wp2_with fail
      refine HX.out.mono ?_
      rintro o wf ⟨Af, cf, rfl, hE, hb⟩
      have HRf := Lib.hid hE
      have HBf := Lib.hid (below_then HBe.out (Nat.le_refl _) hb)
      have HDf := Lib.hid (HDe.out.below hb)
      clear hE hb HX
      have HX := Lib.hid (keeps_same HDf.out HRf.out FD.out)
      go_wp2_with fail
      refine HX.out.mono ?_
      rintro o wg ⟨rfl, hb⟩
      have HBg := Lib.hid (below_then HBf.out (Nat.le_refl _) hb)
      clear hb HX HRf
      go_wp2_with fail
      refine (lives_any wg).mono ?_
      rintro o wh ⟨rfl, hb⟩
      have HBh := Lib.hid (below_then HBg.out (Nat.le_refl _) hb)
      clear hb
      go_wp2
      go_ret
      exact ⟨rfl, HBh.out⟩
section
variable {H : Type} {enc : TypeId × Value → H} {w : World} {spare : Nat → Bool} {held : Bool}
theorem MixKeeps_walk {d0 : DataW H} {p0 : List MemPlace} (a0 : Option Addr) (len0 cap0 : Nat) (a1 : Int) (W : World) (k0 : DataW.Trod enc Try.prog W 0 spare held 22 (.slice a0 len0 cap0) d0 p0) (lt0 : ∀ x ∈ p0, x.block < W.heap.size) (w1 : (Lit.int .i64 a1).wf = true) :
    Calls Try.prog 3 #[.slice a0 len0 cap0, .int .i64 a1] W fun e W' => e = .returned (.bool true) ∧ Below W.heap.size W W' := by
  obtain ⟨fuel, hf⟩ := k0
  obtain ⟨es, hE, hF⟩ := open_evs (a0 := a0) (len0 := len0) (cap0 := cap0) (by simpa [Value.cells] using hf)
  exact MixKeeps_walk_ a1 hE hF
end
end Go.Proofs.Ytlalbfpdelfnfaa
