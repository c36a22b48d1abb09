/-
  Layer 43 (mix): the walk of MixParts. No condition but that what comes in lies in memory.
-/
import Derived.Test.YtlalbfpdelfnfaaTwo
import Derived.Test.YtlalbfpdelfnfaaRIds
import Derived.Test.YtlalbfpdelfnfaaShift
import Derived.Test.YtlalbfpdelfnfaaSameL
import Derived.Test.YtlalbfpdelfnfaaLives
namespace Go.Proofs.Ytlalbfpdelfnfaa
open Go.RowKit
set_option linter.unusedVariables false

theorem extract_twice (s : ByteArray) (m : Nat) : (s.extract 0 m).extract 0 m = s.extract 0 m := by
  rw [ByteArray.extract_extract]
  congr 1
  omega
theorem cutH_twice (h : ByteArray × ByteArray) : cutH (cutH h) = cutH h := by unfold cutH; simp only [extract_twice]
theorem fewH_twice (hs : List (ByteArray × ByteArray)) : fewH (fewH hs) = fewH hs := by
  unfold fewH
  rw [← List.map_take, List.take_take, Nat.min_self, List.map_map]
  exact List.map_congr_left fun h _ => cutH_twice h
theorem fewE_twice (e : Ev) : fewE (fewE e) = fewE e := by
  unfold fewE
  simp only [extract_twice, fewH_twice]
theorem fewL_twice (es : List Ev) (m : Nat) : fewL (fewL es m) m = fewL es m := by
  unfold fewL
  rw [← List.map_take, List.take_take, Nat.min_self, List.map_map]
  exact List.map_congr_left fun e _ => fewE_twice e
theorem fewL_len (es : List Ev) (m : Nat) : (fewL es m).length ≤ m := by unfold fewL; simp; omega
theorem ext_le (s : ByteArray) (m : Nat) : (s.extract 0 m).size ≤ m := by rw [ByteArray.size_extract]; omega
theorem fewE_fine (e : Ev) : FineE (fewE e) where
  url := Nat.le_trans (ext_le _ _) (by decide +kernel)
  frm := Nat.le_trans (ext_le _ _) (by decide +kernel)
  mode := Nat.le_trans (ext_le _ _) (by decide +kernel)
  body := Nat.le_trans (ext_le _ _) (by decide +kernel)
  hs := fun x hx => by
    simp only [fewE, fewH] at hx
    obtain ⟨y, _, rfl⟩ := List.mem_map.1 hx
    exact ⟨Nat.le_trans (ext_le _ _) (by decide +kernel), Nat.le_trans (ext_le _ _) (by decide +kernel)⟩
theorem fewL_fine (es : List Ev) (m : Nat) : ∀ e ∈ fewL es m, FineE e := fun e he => by
  obtain ⟨x, _, rfl⟩ := List.mem_map.1 he
  exact fewE_fine x
theorem fewL_hs (es : List Ev) (m : Nat) : ∀ e ∈ fewL es m, e.hs.length ≤ 8 := fun e he => by
  obtain ⟨x, _, rfl⟩ := List.mem_map.1 he
  simp only [fewE, fewH]
  simp
  omega

/-- A list cut once: what is told of it. -/
structure Cutl (es : List Ev) : Prop where
  twice : fewL es 14 = es
  fine : ∀ e ∈ es, FineE e
  hs : ∀ e ∈ es, e.hs.length ≤ 1000000
  len : es.length ≤ 14
theorem fewL_cutl (es : List Ev) : Cutl (fewL es 14) := ⟨fewL_twice es 14, fewL_fine es 14, fun e he => Nat.le_trans (fewL_hs es 14 e he) (by decide), fewL_len es 14⟩
theorem few14 {w : World} {lo : Nat} {v : Value} {es : List Ev} (h : Evs w lo v es.length es) (hc : Cutl es) :
    Calls Try.prog 6 #[v, .int .i64 14] w fun o w' => ∃ A c, o = .returned (.slice A es.length c) ∧ Outs w' w.heap.size w.heap.size (.slice A es.length c) es.length es ∧ Below w.heap.size w w' := by
  have := few_any h.inn hc.fine 14 (by decide)
  rw [hc.twice] at this
  exact this
theorem Outs.lo0 {w : World} {B lo n : Nat} {v : Value} {es : List Ev} (h : Outs w B lo v n es) : Outs w B 0 v n es := by
  obtain ⟨ps, h1, h2, h3, h4⟩ := h
  exact ⟨ps, h1, h2, h3, fun p hp => ⟨(h4 p hp).1.base (Nat.zero_le _), (h4 p hp).2⟩⟩
theorem Outs.first {w : World} {B B' : Nat} {v : Value} (h : Outs w B 0 v 0 []) (hb : B' ≤ B) : Outs w B' 0 v 0 [] := by
  obtain ⟨ps, h1, h2, h3, h4⟩ := h
  obtain rfl : ps = [] := List.map_eq_nil_iff.1 h1
  exact ⟨[], rfl, rfl, h3.base hb, fun p hp => by simp at hp⟩
def mvd (by_ : Int) (es : List Ev) (i : Nat) : List Ev := (es.take i).map (shiftE by_) ++ es.drop i
theorem mvd_get {by_ : Int} {es : List Ev} {i : Nat} (h : i < es.length) (h2 : i < (mvd by_ es i).length) : (mvd by_ es i)[i] = es[i] := by
  have e : (mvd by_ es i)[i]? = es[i]? := by
    unfold mvd
    rw [List.getElem?_append_right (by simp; omega)]
    simp [Nat.min_eq_left (Nat.le_of_lt h)]
  rw [List.getElem?_eq_getElem h2, List.getElem?_eq_getElem h] at e
  injection e
theorem mvd_len {by_ : Int} {es : List Ev} {i : Nat} : (mvd by_ es i).length = es.length := by
  unfold mvd
  simp
  omega
theorem mvd_more {by_ : Int} {es : List Ev} {i : Nat} (h : i < es.length) : mvd by_ es (i + 1) = (mvd by_ es i).set i (shiftE by_ es[i]) := by
  unfold mvd
  rw [List.take_succ_eq_append_getElem h, List.map_append, List.set_append_right _ _ (by simp; omega), List.append_assoc]
  congr 1
  rw [show i - ((es.take i).map (shiftE by_)).length = 0 by simp; omega, List.drop_eq_getElem_cons h]
  rfl
theorem mvd_end {by_ : Int} {es : List Ev} : mvd by_ es es.length = es.map (shiftE by_) := by
  unfold mvd
  simp
def lft (es : List Ev) : List Ev := es.filter fun e => !decide (e.k = 3)
theorem lft_more {es : List Ev} {i : Nat} (hi : i < es.length) : lft (es.take (i + 1)) = lft (es.take i) ++ if es[i].k = 3 then [] else [es[i]] := by
  unfold lft
  rw [List.take_succ_eq_append_getElem hi, List.filter_append]
  by_cases h : es[i].k = 3 <;> simp [h]

set_option maxRecDepth 100000 in
set_option maxHeartbeats 4000000 in
theorem MixParts_walk_ {w : World} {v : Value} {n0 : Nat} {es0 : List Ev} (id by_ : Int) (h : EvsI w 0 v n0 es0) (hf : ∀ e ∈ es0, FineE e) :
    Calls Try.prog 5 #[v, .int .i64 id, .int .i64 by_] w fun o w' => o = .returned (.bool true) ∧ Below w.heap.size w w' := by
  have HF := Lib.hid (few_any h hf 14 (by decide))
  obtain ⟨A0, c0, rfl⟩ := h.slice
  have HC := Lib.hid (fewL_cutl es0)
  generalize fewL es0 14 = es at HF HC
  clear h hf
  go_enter Try.func5, Try.ntmps5
  go_wp2_with fail
  refine HF.out.mono ?_
  rintro o w1 ⟨A1, c1, rfl, hO, hb⟩
  have H1 := Lib.hid hO.evs0
  have HB1 := Lib.hid hb
  have HAP1 := Lib.hid hO
  obtain ⟨n, hn⟩ : ∃ n, es.length = n := ⟨_, rfl⟩
  have HN := Lib.hid hn
  have hn14 : n ≤ 14 := by rw [← hn]; exact HC.out.len
  have HN14 := Lib.hid hn14
  have HF14 : Hid (∀ {w : World} {lo : Nat} {v : Value}, Evs w lo v n es → Calls Try.prog 6 #[v, .int .i64 14] w fun o w' => ∃ A c, o = .returned (.slice A n c) ∧ Outs w' w.heap.size w.heap.size (.slice A n c) n es ∧ Below w.heap.size w w') := by
    intro w lo v h
    subst hn
    exact few14 h HC.out
  rw [hn] at H1 HAP1 ⊢
  clear hO hb hn hn14
  have HMIL : Hid (n ≤ 1000000) := by have := HN14.out; unfold Hid; omega
  have HK := Lib.hid (HF14.out H1.out)
  go_wp2_with fail
  refine HK.out.mono ?_
  rintro o w2 ⟨A2, c2, rfl, hO, hb⟩
  have HB2 := Lib.hid (HB1.out.trans (hb.mono HB1.out.size))
  have H2 := Lib.hid hO.evs0
  have HL2 := Lib.hid (H1.out.below hb)
  clear hO hb HK
  go_wp2_with fail
  refine (ids_any H2.out HMIL.out).mono ?_
  rintro o w3 ⟨A3, c3, os, rfl, hr, hlen, hup, hb⟩
  have HB3 := Lib.hid (HB2.out.trans (hb.mono HB2.out.size))
  have HL3 := Lib.hid (HL2.out.below hb)
  have HR3 := Lib.hid hr
  have HUP := Lib.hid hup
  have HLEN := Lib.hid hlen
  clear hr hlen hup hb
  go_wp2_with fail
  refine (rIds_any HL3.out HMIL.out).mono ?_
  rintro o w4 ⟨A4, c4, os2, rfl, hr, hlen, hup, hb⟩
  obtain rfl : os = os2 := HUP.out.same hup
  have HB4 := Lib.hid (HB3.out.trans (hb.mono HB3.out.size))
  have HL4 := Lib.hid (HL3.out.below hb)
  have HR4 := Lib.hid hr
  have HR34 := Lib.hid (HR3.out.below hb (Nat.le_refl _))
  clear hr hlen hup hb
  obtain ⟨m, hm⟩ : ∃ m, os.length = m := ⟨_, rfl⟩
  have HM := Lib.hid hm
  rw [hm] at HR34 HR4 ⊢
  clear hm
  have HK := Lib.hid (HF14.out HL4.out)
  go_wp2_with fail
  refine HK.out.mono ?_
  rintro o w5 ⟨A5, c5, rfl, hO, hb⟩
  have HB5 := Lib.hid (HB4.out.trans (hb.mono HB4.out.size))
  have H5 := Lib.hid hO.evs0
  have HL5 := Lib.hid (HL4.out.below hb)
  have HR35 := Lib.hid (HR34.out.below hb (Nat.le_refl _))
  have HR45 := Lib.hid (HR4.out.below hb (Nat.le_refl _))
  clear hO hb HK
  go_wp2_with fail
  refine (part_any id H5.out HMIL.out HC.out.hs).mono ?_
  rintro o w6 ⟨A6, c6, rfl, h6, hb⟩
  have HB6 := Lib.hid (HB5.out.trans (hb.mono HB5.out.size))
  have H6 := Lib.hid h6
  have HL6 := Lib.hid (HL5.out.below hb)
  have HR36 := Lib.hid (HR35.out.below hb (Nat.le_refl _))
  have HR46 := Lib.hid (HR45.out.below hb (Nat.le_refl _))
  clear h6 hb
  go_wp2_with fail
  refine (rPart_any id HL6.out HMIL.out).mono ?_
  rintro o w7 ⟨A7, c7, rfl, h7, hb⟩
  have HB7 := Lib.hid (HB6.out.trans (hb.mono HB6.out.size))
  have H7 := Lib.hid h7
  have H67 := Lib.hid (H6.out.below hb)
  have HL7 := Lib.hid (HL6.out.below hb)
  have HR37 := Lib.hid (HR36.out.below hb (Nat.le_refl _))
  have HR47 := Lib.hid (HR46.out.below hb (Nat.le_refl _))
  clear h7 hb
  have HS := Lib.hid (rSameL_any H67.out H7.out (Nat.le_trans (List.length_filter_le _ _) (by rw [HN.out]; exact HMIL.out)) (fun e he => HC.out.hs e (List.mem_filter.1 he).1))
  rw [listB_true rfl] at HS
  go_wp2_with fail
  refine HS.out.mono ?_
  rintro o w8 ⟨rfl, hb⟩
  have HB8 := Lib.hid (HB7.out.trans (hb.mono HB7.out.size))
  have HL8 := Lib.hid (HL7.out.below hb)
  have HR38 := Lib.hid (HR37.out.below hb (Nat.le_refl _))
  have HR48 := Lib.hid (HR47.out.below hb (Nat.le_refl _))
  clear hb HS
  have hm14 : m ≤ 14 := by rw [← HM.out]; exact Nat.le_trans HLEN.out HN14.out
  go_wp2
  obtain ⟨wa, rfl⟩ : ∃ wa : World, wa = w8 := ⟨_, rfl⟩
  go_loopw [9] (fun iv wr => ∃ i q : Nat, iv = .int .i64 i ∧ i ≤ m ∧ Hid (wr = wa.drewN q)) (fun iv _ => m - (intOf iv).toNat)
  case atStart => exact ⟨0, 0, rfl, Nat.zero_le _, Lib.hid rfl⟩
  case round =>
    obtain ⟨i, q, rfl, hi, HW⟩ := hrel
    have HBq : Hid (Below wa.heap.size wa wr) := by unfold Hid; rw [HW.out]; exact below_drewN (Below.refl _ _) q
    by_cases hl : i < m
    · obtain ⟨g3, o3, k3, q3, hc3, hd3, he3⟩ := (HR38.out.below HBq.out (Nat.le_refl _)).get hl
      obtain ⟨g4, o4, k4, q4, hc4, hd4, he4⟩ := (HR48.out.below HBq.out (Nat.le_refl _)).get hl
      injection q3 with q3 _ q3'
      injection q4 with q4 _ q4'
      subst q3 q4 q3' q4'
      have hio : i < os.length := by rw [HM.out]; exact hl
      simp only [List.getElem_map] at hc3 hc4
      generalize os[i]'hio = y at hc3 hc4
      clear hio
      go_wp2
      go_quiet (fail)
      go_wp2
      go_roundw
      case rel => exact ⟨i + 1, _, by go_num, by omega, by unfold Hid; rw [HW.out, World.drewN_drewN]⟩
      case measure => simp [intOf]; omega
    · obtain rfl : i = m := by omega
      have HB9 := Lib.hid (below_then HB8.out (Nat.le_refl _) HBq.out)
      have HL9 := Lib.hid (HL8.out.below HBq.out)
      clear HR38 HR48
      obtain ⟨wb, rfl⟩ : ∃ wb : World, wb = wr := ⟨_, rfl⟩
      have HK := Lib.hid (HF14.out HL9.out)
      go_wp2_with fail
      refine HK.out.mono ?_
      rintro o w9 ⟨A9, c9, rfl, hO, hb⟩
      have HM0 := Lib.hid (hO.lo0)
      have HBM := Lib.hid hb
      have hn14 := HN14.out
      clear hO hb HK
      go_wp2
      go_loopw [11, 12] (fun o iv W => ∃ (i j c : Nat) (A : Option Addr), o = .slice A j c ∧ iv = .int .i64 i ∧ i ≤ n ∧ j ≤ i ∧ Hid (Outs W wb.heap.size 0 (.slice A j c) j (lft (es.take i))) ∧ Hid (Outs W wb.heap.size 0 (.slice A9 n c9) n (mvd by_ es i)) ∧ Hid (Off (.slice A9 n c9) (.slice A j c)) ∧ Hid (Below wb.heap.size wb W)) (fun _ iv _ => n - (intOf iv).toNat)
      case atStart =>
        have hba := HBM.out.alloc HBM.out.size (.cells #[] 32)
        refine ⟨0, 0, 0, some ⟨w9.heap.size, 0, none⟩, rfl, rfl, Nat.zero_le _, Nat.le_refl _, Lib.hid ?_, Lib.hid ?_, Lib.hid ?_, Lib.hid hba⟩
        · have := Outs.fresh w9 0
          exact this.first HBM.out.size
        · unfold mvd
          simp only [List.take_zero, List.map_nil, List.nil_append, List.drop_zero]
          exact HM0.out.below ((Below.refl _ w9).alloc (Nat.le_refl _) _)
        · intro b hb1 hb2
          obtain ⟨_, cs, mm, hc⟩ := HM0.out.typed b hb1
          have h1 := blk_lt hc
          simp [Value.ownBlock] at hb2
          omega
      case round =>
        obtain ⟨i, j, c, A, rfl, rfl, hi, hj, HO, HMV, HOF, HB⟩ := hrel
        by_cases hl : i < n
        · obtain ⟨g, off, A1, c1, hix, rfl, he, hh, ha⟩ := evs_at HL9.out HB.out hl
          obtain ⟨gm, om, hvm, him, rfl, hem, hfm, hcm1, hcm2⟩ := HMV.out.elem hl
          rw [mvd_get hix him] at hem
          have HT := Lib.hid (lft_more hix)
          have HSET : Hid (es[i].k ≠ 6 → ∀ W', Outs W' wb.heap.size 0 (.slice (some ⟨gm, om, none⟩) n c9) n (mvd by_ es i) → Outs (W'.setCell ⟨gm, om + i * 9 + 1, none⟩ (.int .i64 (shiftI es[i].id by_))) wb.heap.size 0 (.slice (some ⟨gm, om, none⟩) n c9) n (mvd by_ es (i + 1))) := by
            unfold Hid
            intro hk W' h
            have h2 := h.setId him (shiftI es[i].id by_)
            rw [mvd_get hix him] at h2
            rw [mvd_more hix]
            unfold shiftE
            rw [if_neg hk]
            exact h2
          have HSAME : Hid (es[i].k = 6 → mvd by_ es (i + 1) = mvd by_ es i) := by
            unfold Hid
            intro hk
            rw [mvd_more hix]
            unfold shiftE
            rw [if_pos hk]
            have e := List.set_getElem_self him
            rw [mvd_get hix him] at e
            exact e
          have HEL : Hid (∀ W', Outs W' wb.heap.size 0 (.slice (some ⟨gm, om, none⟩) n c9) n (mvd by_ es i) → W'.cell? ⟨gm, om + i * 9, none⟩ = some (.int .i64 es[i].k) ∧ W'.cell? ⟨gm, om + i * 9 + 1, none⟩ = some (.int .i64 es[i].id) ∧ W'.frozen? ⟨gm, om + i * 9 + 1, none⟩ = false) := by
            unfold Hid
            intro W' h
            obtain ⟨g', o', hv', hi', q', he', hf', _, _⟩ := h.elem hl
            cases q'
            rw [mvd_get hix hi'] at he'
            exact ⟨he'.c0, he'.c1, hf'⟩
          have HGB := Lib.hid (HMV.out.typed gm rfl).1
          have HP := Lib.hid (Pushing.mk' HO.out hh ha HB.out.size (by omega))
          clear hem hfm
          generalize es[i]'hix = e at he HT HSET HSAME HEL HP
          obtain ⟨d0, d1, d2, d3, d4, d5, d6, d7, d8⟩ := he
          obtain ⟨m0, m1, mf⟩ := HEL.out _ HMV.out
          obtain ⟨n1, hn1⟩ : ∃ n1, e.hs.length = n1 := ⟨_, rfl⟩
          rw [hn1] at d7 HP
          have HBA : Hid (Below wr.heap.size wr (wr.alloc (.cells #[.int .i64 e.k, .int .i64 e.id, .string e.url, .string e.frm, .string e.mode, .int .i64 e.med, .int .i64 e.st, .slice A1 n1 c1, .string e.body] 32))) := Lib.hid ((Below.refl _ _).alloc (Nat.le_refl _) _)
          have HMA := Lib.hid (HMV.out.below HBA.out)
          have HOA := Lib.hid (HO.out.below HBA.out)
          clear hh ha hix him hn1
          obtain ⟨b3, hb3⟩ : ∃ b, (e.k == 3) = b := ⟨_, rfl⟩
          have HK3 : Hid (decide (e.k = 3) = b3) := by unfold Hid; rw [← hb3]; rfl
          have hn3 : (e.k != 3) = !b3 := by rw [← hb3]; rfl
          obtain ⟨b6, hb6⟩ : ∃ b, (e.k == 6) = b := ⟨_, rfl⟩
          have HK6 : Hid (decide (e.k = 6) = b6) := by unfold Hid; rw [← hb6]; rfl
          have hn6 : (e.k != 6) = !b6 := by rw [← hb6]; rfl
          cases b3
          · cases b6
            · go_wp2_with (first
                | (at_builtin; refine wpList_push2 rfl (.tmp 66) (.tmp 71) rfl HP.out HMA.out HOF.out HOA.out rfl rfl ?_; intro A' c' w5 ho hb hm hne; have HO5 := Lib.hid ho; have HB5 := Lib.hid hb; have HM5 := Lib.hid hm; have HNE5 := Lib.hid hne; clear d0 d1 d2 d3 d4 d5 d6 d7 d8 m0 m1 mf; obtain ⟨m0, m1, mf⟩ := HEL.out _ hm; clear ho hb hm hne)
                | (go_at_call 22; refine (rShifted_any _ _ _).mono ?_; rintro o w6 ⟨rfl, rfl⟩))
              go_roundw
              case rel =>
                refine ⟨i + 1, j + 1, c', A', rfl, by go_num, by omega, by omega, ?_, Lib.hid (HSET.out (of_decide_eq_false HK6.out) _ HM5.out), HNE5, Lib.hid ((HB.out.trans HB5.out).setCell (p := ⟨gm, om + i * 9 + 1, none⟩) HGB.out _)⟩
                unfold Hid
                rw [HT.out, if_neg (of_decide_eq_false HK3.out)]
                exact HO5.out.other HM5.out HNE5.out.symm rfl _
              case measure => simp [intOf]; omega
            · go_wp2_with (at_builtin; refine wpList_push2 rfl (.tmp 66) (.tmp 71) rfl HP.out HMA.out HOF.out HOA.out rfl rfl ?_; intro A' c' w5 ho hb hm hne; have HO5 := Lib.hid ho; have HB5 := Lib.hid hb; have HM5 := Lib.hid hm; have HNE5 := Lib.hid hne; clear d0 d1 d2 d3 d4 d5 d6 d7 d8 m0 m1 mf; obtain ⟨m0, m1, mf⟩ := HEL.out _ hm; clear ho hb hm hne)
              go_roundw
              case rel =>
                refine ⟨i + 1, j + 1, c', A', rfl, by go_num, by omega, by omega, ?_, ?_, HNE5, Lib.hid (HB.out.trans HB5.out)⟩
                · unfold Hid
                  rw [HT.out, if_neg (of_decide_eq_false HK3.out)]
                  exact HO5.out
                · unfold Hid
                  rw [HSAME.out (of_decide_eq_true HK6.out)]
                  exact HM5.out
              case measure => simp [intOf]; omega
          · cases b6
            · go_wp2_with (go_at_call 22; refine (rShifted_any _ _ _).mono ?_; rintro o w6 ⟨rfl, rfl⟩)
              go_roundw
              case rel =>
                refine ⟨i + 1, j, c, A, rfl, by go_num, by omega, by omega, ?_, Lib.hid (HSET.out (of_decide_eq_false HK6.out) _ HMV.out), HOF, Lib.hid (HB.out.setCell (p := ⟨gm, om + i * 9 + 1, none⟩) HGB.out _)⟩
                unfold Hid
                rw [HT.out, if_pos (of_decide_eq_true HK3.out), List.append_nil]
                exact HO.out.other HMV.out HOF.out.symm rfl _
              case measure => simp [intOf]; omega
            · have h3 := of_decide_eq_true HK3.out
              have h6 := of_decide_eq_true HK6.out
              omega
        · obtain rfl : i = n := by omega
          have HLW := Lib.hid (HL9.out.below HB.out)
          have HE1 : Hid (mvd by_ es i = es.map (shiftE by_)) := by unfold Hid; rw [← HN.out]; exact mvd_end
          have HE2 : Hid (lft (es.take i) = es.filter fun e => !decide (e.k = 3)) := by unfold Hid; rw [List.take_of_length_le (by rw [HN.out]; exact Nat.le_refl _)]; rfl
          rw [HE1.out] at HMV
          rw [HE2.out] at HO
          have HK := Lib.hid (HF14.out HLW.out)
          go_wp2_with fail
          refine HK.out.mono ?_
          rintro o v1 ⟨X1, y1, rfl, hO, hb⟩
          have HX1 := Lib.hid hO.evs0
          have HLX := Lib.hid (HLW.out.below hb)
          have HMX := Lib.hid (HMV.out.below hb)
          have HOX := Lib.hid (HO.out.below hb)
          have HBX := Lib.hid ((below_then HB9.out (Nat.le_refl _) HB.out).trans (hb.mono (Nat.le_trans HB9.out.size HB.out.size)))
          clear hO hb HK
          go_wp2_with fail
          refine (shift_any by_ HX1.out HMIL.out HC.out.hs).mono ?_
          rintro o v2 ⟨X2, y2, rfl, h2, hb⟩
          have hk2 : (es.map (shiftE by_)).length = i := by rw [List.length_map, HN.out]
          rw [hk2] at h2 ⊢
          clear hk2
          have HX2 := Lib.hid h2
          have HLY := Lib.hid (HLX.out.below hb)
          have HMY := Lib.hid (HMX.out.below hb)
          have HOY := Lib.hid (HOX.out.below hb)
          have HBY := Lib.hid (HBX.out.trans (hb.mono HBX.out.size))
          clear h2 hb
          have HS := Lib.hid (rSameL_any HX2.out HMY.out.evs0 HMIL.out (fun e he => by
            obtain ⟨x, hx, rfl⟩ := List.mem_map.1 he
            have : (shiftE by_ x).hs = x.hs := by unfold shiftE; split <;> rfl
            rw [this]
            exact HC.out.hs x hx))
          rw [listB_true rfl] at HS
          go_wp2_with fail
          refine HS.out.mono ?_
          rintro o v3 ⟨rfl, hb⟩
          have HLZ := Lib.hid (HLY.out.below hb)
          have HOZ := Lib.hid (HOY.out.below hb)
          have HBZ := Lib.hid (HBY.out.trans (hb.mono HBY.out.size))
          clear hb HS
          have HK := Lib.hid (HF14.out HLZ.out)
          go_wp2_with fail
          refine HK.out.mono ?_
          rintro o v4 ⟨X4, y4, rfl, hO, hb⟩
          have HX4 := Lib.hid hO.evs0
          have HOU := Lib.hid (HOZ.out.below hb)
          have HBU := Lib.hid (HBZ.out.trans (hb.mono HBZ.out.size))
          clear hO hb HK
          go_wp2_with fail
          refine (without_any 3 HX4.out HMIL.out HC.out.hs).mono ?_
          rintro o v5 ⟨X5, y5, rfl, h5, hb⟩
          obtain ⟨k5, hk5⟩ : ∃ k, (es.filter fun e => !decide (e.k = 3)).length = k := ⟨_, rfl⟩
          have hk5' : k5 ≤ 1000000 := by rw [← hk5]; exact Nat.le_trans (List.length_filter_le _ _) (by rw [HN.out]; exact HMIL.out)
          rw [hk5] at h5 ⊢
          clear hk5
          have HX5 := Lib.hid h5
          have HOV := Lib.hid (HOU.out.below hb)
          have HBV := Lib.hid (HBU.out.trans (hb.mono HBU.out.size))
          clear h5 hb
          have HS := Lib.hid (rSameL_any HX5.out HOV.out.evs0 hk5' (fun e he => HC.out.hs e (List.mem_filter.1 he).1))
          rw [listB_true rfl] at HS
          go_wp2_with fail
          refine HS.out.mono ?_
          rintro o v6 ⟨rfl, hb⟩
          have HBT := Lib.hid (HBV.out.trans (hb.mono HBV.out.size))
          clear hb HS
          go_wp2_with fail
          refine (lives_any v6).mono ?_
          rintro o v7 ⟨rfl, hb⟩
          have HBE := Lib.hid (HBT.out.trans (hb.mono HBT.out.size))
          clear hb
          go_wp2
          go_ret
          exact ⟨rfl, HBE.out⟩
end Go.Proofs.Ytlalbfpdelfnfaa
