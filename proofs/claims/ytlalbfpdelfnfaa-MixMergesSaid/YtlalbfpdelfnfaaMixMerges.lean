/-
  Layer 43 (mix): the walk of MixMerges. No condition but that what comes in lies in memory.
-/
import Derived.Test.YtlalbfpdelfnfaaMerges
import Derived.Deep.CutBlock
namespace Go.Proofs.Ytlalbfpdelfnfaa
open Go.RowKit
set_option linter.unusedVariables false

theorem info4 : (Try.prog.info? 4).map (fun i => (i.zero, i.size, i.bytes)) = some (some (.bool false), 1, 1) := by kernel_rfl
theorem bool_one (ts : List Bool) : ∀ x ∈ ts.map Value.bool, x.oneCell' = true := fun x hx => by
  obtain ⟨y, _, rfl⟩ := List.mem_map.1 hx
  rfl

theorem take_mem_dec {qs : List Int} {j : Nat} (hj : j < qs.length) (x : Int) : decide (x ∈ qs.take (j + 1)) = (decide (x ∈ qs.take j) || decide (qs[j] = x)) := by
  rw [← Bool.decide_or, decide_eq_decide, List.take_succ_eq_append_getElem hj, List.mem_append, List.mem_singleton, eq_comm (a := x)]
attribute [local go_sem] plus_cell

set_option maxRecDepth 100000 in
set_option maxHeartbeats 4000000 in
theorem MixMerges_walk_ {w : World} {v v2 v3 : Value} {n0 m0 nt : Nat} {es0 fs0 : List Ev} {ts : List Bool} (h : EvsI w 0 v n0 es0) (hf : ∀ e ∈ es0, FineE e) (h2 : EvsI w 0 v2 m0 fs0) (hf2 : ∀ e ∈ fs0, FineE e) (h3 : Tn w v3 nt ts) :
    Calls Try.prog 4 #[v, v2, v3] w fun o w' => o = .returned (.bool true) ∧ Below w.heap.size w w' := by
  have HF := Lib.hid (few_any h hf 10 (by decide))
  have HF2 := Lib.hid fun w1 hb => few_any (w := w1) (h2.below hb) hf2 10 (by decide)
  obtain ⟨A0, c0, rfl⟩ := h.slice
  obtain ⟨B0, d0, rfl⟩ := h2.slice
  obtain ⟨C0, e0, rfl⟩ := h3.slice
  have HC := Lib.hid (fewL_cutm es0 10)
  have HD := Lib.hid (fewL_cutm fs0 10)
  have HT := Lib.hid h3
  have hnt : nt ≤ 9223372036854775807 := Nat.le_trans (Rd.few h3) (by decide +kernel)
  generalize fewL es0 10 = es at HF HC
  generalize fewL fs0 10 = fs at HF2 HD
  clear h hf h2 hf2 h3
  go_enter Try.func4, Try.ntmps4
  go_wp2_with fail
  refine HF.out.mono ?_
  rintro o w1 ⟨A1, c1, rfl, hO, hb⟩
  have HA1 := Lib.hid hO.evs0
  have HB1 := Lib.hid hb
  have HX := Lib.hid (HF2.out w1 hb)
  clear hO hb HF HF2
  go_wp2_with fail
  refine HX.out.mono ?_
  rintro o w2 ⟨B1, d1, rfl, hO, hb⟩
  have HB2 := Lib.hid (HB1.out.trans (hb.mono HB1.out.size))
  have HA2 := Lib.hid (HA1.out.below hb)
  have HF2 := Lib.hid hO.evs0
  have HT2 := Lib.hid (HT.out.below HB2.out)
  obtain ⟨n, hn⟩ : ∃ n, es.length = n := ⟨_, rfl⟩
  obtain ⟨m, hm⟩ : ∃ m, fs.length = m := ⟨_, rfl⟩
  have HN := Lib.hid hn
  have HM := Lib.hid hm
  have hn10 : n ≤ 10 := by rw [← hn]; exact HC.out.len
  have hm10 : m ≤ 10 := by rw [← hm]; exact HD.out.len
  have HN10 := Lib.hid hn10
  have HM10 := Lib.hid hm10
  have HFA : Hid (∀ {w : World} {lo : Nat} {v : Value}, Evs w lo v n es → Calls Try.prog 6 #[v, .int .i64 10] w fun o w' => ∃ A c, o = .returned (.slice A n c) ∧ Outs w' w.heap.size w.heap.size (.slice A n c) n es ∧ Below w.heap.size w w') := by
    intro w lo v h
    subst hn
    exact fewm h HC.out (by decide)
  have HFB : Hid (∀ {w : World} {lo : Nat} {v : Value}, Evs w lo v m fs → Calls Try.prog 6 #[v, .int .i64 10] w fun o w' => ∃ A c, o = .returned (.slice A m c) ∧ Outs w' w.heap.size w.heap.size (.slice A m c) m fs ∧ Below w.heap.size w w') := by
    intro w lo v h
    subst hm
    exact fewm h HD.out (by decide)
  rw [hn] at HA2 ⊢
  rw [hm] at HF2 ⊢
  clear hO hb hn hm hn10 hm10 HX HT
  go_upto_if 19 with fail
  go_cut [2] from 19 to 21 (fun t wx => ∃ (A : Option Addr) (c k : Nat) (ts' : List Bool), t = .slice A k c ∧ k ≤ 30 ∧ Hid (Tn w2 (.slice A k c) k ts') ∧ wx = w2)
  case first =>
    by_cases h30 : 30 < nt
    · obtain ⟨gt, ot, ct, qt, _, hct1, hct2⟩ := HT2.out.get (j := 0) (by omega)
      injection qt with qt _ qt'
      subst qt qt'
      have hct3 : e0 ≤ 9223372036854775807 := Nat.le_trans hct2 (by decide +kernel)
      have HTK := Lib.hid (HT2.out.take (p := 30) (by omega))
      have s1 : (30 : Int) ≤ (e0 : Int) := by omega
      have s2 : (30 : Int) < (nt : Int) := by omega
      go_wp2
      go_meet
      exact ⟨_, _, 30, _, rfl, by omega, HTK, rfl⟩
    · go_wp2
      go_meet
      exact ⟨_, _, nt, _, rfl, by omega, HT2, rfl⟩
  case rest =>
    obtain ⟨A3, c3, k, us, rfl, hk, HTU, rfl⟩ := hcut
    obtain ⟨i0, hi, hz, hz1, hz2⟩ := info_parts info4
    have HI := Lib.hid hi
    have HZ := Lib.hid hz
    have HZ1 := Lib.hid hz1
    have HZ2 : Hid (i0.bytes ≤ 1000) := by unfold Hid; omega
    clear hi hz hz1 hz2
    have HX := Lib.hid (HFA.out HA2.out)
    go_wp2_with fail
    refine HX.out.mono ?_
    rintro o w3 ⟨A4, c4, rfl, hO, hb⟩
    have HB3 := Lib.hid (HB2.out.trans (hb.mono HB2.out.size))
    have HA3 := Lib.hid (HA2.out.below hb)
    have HF3 := Lib.hid (HF2.out.below hb)
    have HT3 := Lib.hid (HTU.out.below hb)
    have HP3 := Lib.hid hO.evs0
    have HX := Lib.hid (HFB.out HF3.out)
    clear hO hb
    go_wp2_with fail
    refine HX.out.mono ?_
    rintro o w4 ⟨B4, d4, rfl, hO, hb⟩
    have HB4 := Lib.hid (HB3.out.trans (hb.mono HB3.out.size))
    have HA4 := Lib.hid (HA3.out.below hb)
    have HF4 := Lib.hid (HF3.out.below hb)
    have HT4 := Lib.hid (HT3.out.below hb)
    have HP4 := Lib.hid (HP3.out.below hb)
    have HQ4 := Lib.hid hO.evs0
    clear hO hb HX
    have HBA : Hid (Below w4.heap.size w4 (w4.alloc (.cells #[] 4))) := Lib.hid ((Below.refl _ _).alloc (Nat.le_refl _) _)
    have HSRC := Lib.hid ((HT4.out.below HBA.out).src Try.underlying43 (bool_one us))
    have hk9 : 0 + k ≤ 1000000000 := by omega
    have HSZ : Hid (w4.heap.size ≤ (w4.alloc (.cells #[] 4)).heap.size) := Lib.hid HBA.out.size
    have HRK := Lib.hid (Rk.fresh w4 4 1)
    go_wp2_with (first
      | (at_builtin; refine wpList_append_rk rfl (.tmp 26) (.tmp 27) 43 rfl w4.heap.size 4 i0 (.bool false) 1 Try.underlying43 HI.out HZ.out HZ1.out HZ2.out rfl _ 0 [] rfl HRK.out _ k (us.map Value.bool) rfl HSRC.out hk9 HSZ.out ?_; intro A5 c5 w5 hr hg _; have HT5 := Lib.hid hr; have HB5 := Lib.hid (HBA.out.grown hg HBA.out.size fun b hb => (HRK.out.lt b hb).1); clear hr hg)
      | fail)
    have HTN : Hid (Tn w5 (.slice A5 k c5) k us) := by
      have := HT5.out
      rw [Nat.zero_add, List.nil_append] at this
      exact (this.rd (.inl (by omega))).base (Nat.zero_le _)
    have HP5 := Lib.hid (HP4.out.below HB5.out)
    have HQ5 := Lib.hid (HQ4.out.below HB5.out)
    have HA5 := Lib.hid (HA4.out.below HB5.out)
    have HF5 := Lib.hid (HF4.out.below HB5.out)
    have HT5' := Lib.hid (HT4.out.below HB5.out)
    have HBB5 := Lib.hid (below_then HB4.out (Nat.le_refl _) HB5.out)
    have HX := Lib.hid (merge_any HP5.out HQ5.out HTN.out (by have := HN10.out; omega) (by have := HM10.out; omega) HC.out.hs HD.out.hs)
    have hlen : (mrg us es fs).length = n + m := by rw [mrg_len, HN.out, HM.out]
    unfold Made_ at HX
    rw [hlen] at HX
    obtain ⟨L, hL⟩ : ∃ L, mrg us es fs = L := ⟨_, rfl⟩
    have HLL := Lib.hid hL
    rw [hL] at HX
    refine HX.out.mono ?_
    rintro o w6 ⟨A6, c6, rfl, hE, hb⟩
    have HL6 := Lib.hid hE
    have HB6 := Lib.hid (HBB5.out.trans (hb.mono HBB5.out.size))
    have HA6 := Lib.hid (HA5.out.below hb)
    have HF6 := Lib.hid (HF5.out.below hb)
    have HT6 := Lib.hid (HT5'.out.below hb)
    clear hE hb HX
    have HX := Lib.hid (rMerge_any HA6.out HF6.out HT6.out (by have := HN10.out; omega) (by have := HM10.out; omega))
    unfold Made_ at HX
    rw [hL, ← hL, hlen, hL] at HX
    go_wp2_with fail
    refine HX.out.mono ?_
    rintro o w7 ⟨A7, c7, rfl, hE, hb⟩
    have HL7 := Lib.hid (HL6.out.below hb)
    have HR7 := Lib.hid hE
    have HB7 := Lib.hid (HB6.out.trans (hb.mono HB6.out.size))
    have HA7 := Lib.hid (HA6.out.below hb)
    have HF7 := Lib.hid (HF6.out.below hb)
    clear hE hb HX
    have HLH : Hid (∀ e ∈ L, e.hs.length ≤ 1000000) := Lib.hid (by rw [← hL]; exact fun e he => (mrg_mem e he).elim (HC.out.hs e) (HD.out.hs e))
    have HLB : Hid (∀ e ∈ L, e.body.size ≤ 100000) := Lib.hid (by rw [← hL]; exact fun e he => (mrg_mem e he).elim (HC.out.body e) (HD.out.body e))
    have HX := Lib.hid (rSameL_any HL7.out HR7.out (by have := HN10.out; have := HM10.out; omega) HLH.out)
    rw [listB_true rfl] at HX
    clear hL hlen
    go_wp2_with fail
    refine HX.out.mono ?_
    rintro o w8 ⟨rfl, hb⟩
    have HL8 := Lib.hid (HL7.out.below hb)
    have HB8 := Lib.hid (HB7.out.trans (hb.mono HB7.out.size))
    have HA8 := Lib.hid (HA7.out.below hb)
    have HF8 := Lib.hid (HF7.out.below hb)
    clear hb HX
    have HX := Lib.hid (HFA.out HA8.out)
    go_wp2_with fail
    refine HX.out.mono ?_
    rintro o w9 ⟨A9, c9, rfl, hO, hb⟩
    have HP9 := Lib.hid hO.evs0
    have HL9 := Lib.hid (HL8.out.below hb)
    have HB9 := Lib.hid (HB8.out.trans (hb.mono HB8.out.size))
    have HA9 := Lib.hid (HA8.out.below hb)
    have HF9 := Lib.hid (HF8.out.below hb)
    clear hO hb HX
    have HX := Lib.hid (HFB.out HF9.out)
    go_wp2_with fail
    refine HX.out.mono ?_
    rintro o wa ⟨Aa, ca, rfl, hO, hb⟩
    have HQa := Lib.hid hO.evs0
    have HPa := Lib.hid (HP9.out.below hb)
    have HLa := Lib.hid (HL9.out.below hb)
    have HBa := Lib.hid (HB9.out.trans (hb.mono HB9.out.size))
    have HAa := Lib.hid (HA9.out.below hb)
    have HFa := Lib.hid (HF9.out.below hb)
    clear hO hb HX
    obtain ⟨bb, hbb⟩ : ∃ b, listB es fs = b := ⟨_, rfl⟩
    have HX := Lib.hid (sameL_any HPa.out HQa.out (by have := HN10.out; omega) HC.out.hs)
    rw [hbb] at HX
    go_wp2_with fail
    refine HX.out.mono ?_
    rintro o wb ⟨rfl, hb⟩
    have HLb := Lib.hid (HLa.out.below hb)
    have HBb := Lib.hid (HBa.out.trans (hb.mono HBa.out.size))
    have HAb := Lib.hid (HAa.out.below hb)
    have HFb := Lib.hid (HFa.out.below hb)
    clear hb HX
    have HX := Lib.hid (rSameL_any HAb.out HFb.out (by have := HN10.out; omega) HC.out.hs)
    rw [hbb] at HX
    clear hbb
    go_wp2_with fail
    refine HX.out.mono ?_
    rintro o wd ⟨rfl, hb⟩
    have HLd := Lib.hid (HLb.out.below hb)
    have HBd := Lib.hid (HBb.out.trans (hb.mono HBb.out.size))
    have HAd := Lib.hid (HAb.out.below hb)
    have HFd := Lib.hid (HFb.out.below hb)
    clear hb HX
    have HX := Lib.hid (rIds_any HAd.out (by have := HN10.out; omega))
    go_wp2_with fail
    refine HX.out.mono ?_
    rintro o we ⟨Ae, ce, os, rfl, hr, hlen, hup, hb⟩
    have HLe := Lib.hid (HLd.out.below hb)
    have HBe := Lib.hid (HBd.out.trans (hb.mono HBd.out.size))
    have HAe := Lib.hid (HAd.out.below hb)
    have HFe := Lib.hid (HFd.out.below hb)
    have HRe := Lib.hid hr
    have HLEe := Lib.hid hlen
    clear hr hlen hup hb HX
    have HX := Lib.hid (rIds_any HFe.out (by have := HM10.out; omega))
    go_wp2_with fail
    refine HX.out.mono ?_
    rintro o wf ⟨Af, cf, qs, rfl, hr, hlen, hup, hb⟩
    have HLf := Lib.hid (HLe.out.below hb)
    have HBf := Lib.hid (HBe.out.trans (hb.mono HBe.out.size))
    have HAf := Lib.hid (HAe.out.below hb)
    have HFf := Lib.hid (HFe.out.below hb)
    have HRe := Lib.hid (HRe.out.below hb (Nat.le_refl _))
    have HRf := Lib.hid hr
    have HUP := Lib.hid hup
    have hk1 : os.length ≤ 10 := Nat.le_trans HLEe.out HN10.out
    have hk2 : qs.length ≤ 10 := Nat.le_trans hlen HM10.out
    obtain ⟨p, hp⟩ : ∃ p, os.length = p := ⟨_, rfl⟩
    obtain ⟨q, hq⟩ : ∃ q, qs.length = q := ⟨_, rfl⟩
    have HPP := Lib.hid hp
    have HQQ := Lib.hid hq
    rw [hp] at HRe hk1 ⊢
    rw [hq] at HRf hk2 ⊢
    clear hr hlen hup hb HX hp hq HT2 HTU HT3 HT4 HT5 HT5' HT6 HTN HP3 HP4 HP5 HQ4 HQ5 HA2 HA3 HA4 HA5 HA6 HA7 HA8 HA9 HF2 HF3 HF4 HF5 HF6 HF7 HF8 HF9 HSRC HRK HBA HSZ
    go_wp2
    go_loopw [10] (fun iv wr => ∃ i : Nat, iv = .int .i64 i ∧ i ≤ p ∧ Hid (Below wf.heap.size wf wr)) (fun iv _ => p - (intOf iv).toNat)
    case atStart => exact ⟨0, rfl, Nat.zero_le _, Lib.hid (Below.refl _ _)⟩
    case round =>
      obtain ⟨i, rfl, hi, HB⟩ := hrel
      by_cases hl : i < p
      · obtain ⟨g3, o3, k3, q3, hc3, hd3, hd3'⟩ := (HRe.out.below HB.out (Nat.le_refl _)).get hl
        injection q3 with q3 _ q3'
        subst q3 q3'
        have hio : i < os.length := by rw [HPP.out]; exact hl
        simp only [List.getElem_map] at hc3
        generalize os[i]'hio = x at hc3
        obtain ⟨wg, rfl⟩ : ∃ wg : World, wg = wr := ⟨_, rfl⟩
        have HC3 := Lib.hid hc3
        clear hio hc3
        go_wp2
        go_loopw [11, 12] (fun bv jv W => ∃ (j qq : Nat) (b : Bool), bv = .bool b ∧ jv = .int .i64 j ∧ j ≤ q ∧ Hid (b = decide (x ∈ qs.take j)) ∧ Hid (W = wg.drewN qq)) (fun _ jv _ => q - (intOf jv).toNat)
        case atStart => exact ⟨0, 0, false, rfl, rfl, Nat.zero_le _, Lib.hid (by simp), Lib.hid rfl⟩
        case round =>
          obtain ⟨j, qq, b, rfl, rfl, hj, HBB, HW⟩ := hrel
          have HBq : Hid (Below wg.heap.size wg wr) := by unfold Hid; rw [HW.out]; exact below_drewN (Below.refl _ _) qq
          have HBW := Lib.hid (below_then HB.out (Nat.le_refl _) HBq.out)
          by_cases hjq : j < q
          · have hc3 := (HBq.out.cell (p := ⟨g3, o3 + i, none⟩) (lt_of_cell HC3.out)).trans HC3.out
            obtain ⟨g4, o4, k4, q4, hc4, hd4, hd4'⟩ := (HRf.out.below HBW.out (Nat.le_refl _)).get hjq
            injection q4 with q4 _ q4'
            subst q4 q4'
            have hjo : j < qs.length := by rw [HQQ.out]; exact hjq
            have HTJ := Lib.hid (take_mem_dec hjo x)
            simp only [List.getElem_map] at hc4
            generalize qs[j]'hjo = y at hc4 HTJ
            clear hjo
            cases b
            · obtain ⟨t, ht⟩ : ∃ t, (y == x) = t := ⟨_, rfl⟩
              have HTT : Hid (decide (y = x) = t) := by unfold Hid; rw [← ht]; rfl
              go_wp2
              go_quiet (fail)
              go_wp2
              go_roundw
              case rel => exact ⟨j + 1, _, t, rfl, by go_num, by omega, Lib.hid (by rw [HTJ.out, ← HBB.out, HTT.out]; rfl), by unfold Hid; rw [HW.out, World.drewN_drewN]⟩
              case measure => simp [intOf]; omega
            · go_wp2
              go_quiet (fail)
              go_wp2
              go_roundw
              case rel => exact ⟨j + 1, _, true, rfl, by go_num, by omega, Lib.hid (by rw [HTJ.out, ← HBB.out]; rfl), by unfold Hid; rw [HW.out, World.drewN_drewN]⟩
              case measure => simp [intOf]; omega
          · obtain rfl : j = q := by omega
            have HQA : Hid (qs.take j = qs) := by unfold Hid; rw [List.take_of_length_le (by rw [HQQ.out]; exact Nat.le_refl _)]
            rw [HQA.out] at HBB
            have hc3 := (HBq.out.cell (p := ⟨g3, o3 + i, none⟩) (lt_of_cell HC3.out)).trans HC3.out
            cases b
            · have hno : x ∉ qs := of_decide_eq_false HBB.out.symm
              have hap : bodyL x L = bodyL x es := by rw [← HLL.out]; exact body_apart fun h => hno ((HUP.out.2 x).2 h)
              have HY : Hid (∀ X, Calls Try.prog 19 #[.int .i64 x, .slice A6 (n + m) c6] (plus wr X) fun o w' => o = .returned (.string (bodyL x es)) ∧ Below (plus wr X).heap.size (plus wr X) w') := by
                unfold Hid
                intro X
                rw [← hap]
                exact body_any x ((HLf.out.below HBW.out).below (plus_below wr X)) (by have := HN10.out; have := HM10.out; omega) HLB.out
              have HZZ : Hid (∀ X, Calls Try.prog 20 #[.int .i64 x, .slice A1 n c1] (plus wr X) fun o w' => o = .returned (.string (bodyL x es)) ∧ plus wr X = w') := by
                unfold Hid
                intro X
                exact rBody_any x ((HAf.out.below HBW.out).below (plus_below wr X)) (by have := HN10.out; omega) HC.out.body
              generalize bodyL x es = S at HY HZZ
              clear hno hap
              go_wp2_with fail
              refine wp_region_plus (by kernel_rfl) (by kernel_rfl) ?_
              repeat (first | go_big_quiet_skip | (go_big_quiet_want; go_big_quiet_op; first | go_big_quiet_on | (apply Exists.intro; refine ⟨fun _ => ?_, ?_⟩; (focus (first | (go_at_call 19; with_reducible exact plus_call (HY.out _)) | (go_at_call 20; with_reducible exact plus_same (HZZ.out _)))); go_big_quiet_on)))
              refine wpQuiet_nil ?_
              rintro _ ⟨X, rfl⟩
              have HP := Lib.hid (plus_below wr X)
              go_wp2
              go_roundw
              case rel => exact ⟨i + 1, by go_num, by omega, Lib.hid (below_then HBW.out (Nat.le_refl _) HP.out)⟩
              case measure => simp [intOf]; omega
            · go_wp2
              go_quiet (fail)
              go_wp2
              go_roundw
              case rel => exact ⟨i + 1, by go_num, by omega, Lib.hid (below_then HBW.out (Nat.le_refl _) (by first | exact Below.refl _ _ | exact below_drewN (Below.refl _ _) _))⟩
              case measure => simp [intOf]; omega
      · obtain rfl : i = p := by omega
        go_wp2_with fail
        refine (lives_any wr).mono ?_
        rintro o wz ⟨rfl, hb⟩
        have HBz := Lib.hid (below_then (below_then HBf.out (Nat.le_refl _) HB.out) (Nat.le_refl _) hb)
        clear hb
        go_wp2
        go_ret
        exact ⟨rfl, HBz.out⟩
end Go.Proofs.Ytlalbfpdelfnfaa
