/-
  Layer 43 (mix): two lists merged by turns, by the program. No condition but that what comes in lies in memory.
-/
import Derived.Test.YtlalbfpdelfnfaaMergeAid
namespace Go.Proofs.Ytlalbfpdelfnfaa
open Go.RowKit
set_option linter.unusedVariables false

/-- What stands between two rounds of the first loop. -/
structure MI (w : World) (ts : List Bool) (L : List Ev) (N : Nat) (va : Value) (p : Nat) (vb : Value) (q : Nat) (j : Nat) (vo : Value) (es fs os : List Ev) (W : World) : Prop where
  a : Evs w 0 va p es
  b : Evs w 0 vb q fs
  o : Outs W w.heap.size w.heap.size vo j os
  l : L = os ++ mrg (ts.drop j) es fs
  n : p + q + j = N
  fa : ∀ e ∈ es, e.hs.length ≤ 1000000
  fb : ∀ e ∈ fs, e.hs.length ≤ 1000000
  h : Below w.heap.size w W
theorem slice_le {w : World} {lo p c : Nat} {A : Option Addr} {es : List Ev} (h : Evs w lo (.slice A p c) p es) : p ≤ c ∧ c ≤ 9223372036854775807 ∨ p = 0 := by
  by_cases h0 : p = 0
  · exact .inr h0
  · obtain ⟨g, off, cap, hv, hv2, hc1, hc2, _⟩ := EvsG.get h (j := 0) (by omega)
    injection hv2 with _ _ q3
    subst q3
    exact .inl ⟨hc1, Nat.le_trans hc2 (by decide +kernel)⟩

set_option maxRecDepth 100000 in
set_option maxHeartbeats 4000000 in
theorem merge_any {w : World} {lo lo2 n m nt : Nat} {v v2 v3 : Value} {es fs : List Ev} {ts : List Bool} (h : Evs w lo v n es) (h2 : Evs w lo2 v2 m fs) (h3 : Tn w v3 nt ts) (hn : n ≤ 500000) (hm : m ≤ 500000)
    (hf : ∀ e ∈ es, e.hs.length ≤ 1000000) (hf2 : ∀ e ∈ fs, e.hs.length ≤ 1000000) :
    Calls Try.prog 10 #[v, v2, v3] w (Made_ w w.heap.size (mrg ts es fs)) := by
  have HA := Lib.hid (h.base (Nat.zero_le _))
  have HC := Lib.hid (h2.base (Nat.zero_le _))
  have HT := Lib.hid h3
  have HNT := Lib.hid h3.len
  have HF := Lib.hid hf
  have HF2 := Lib.hid hf2
  have HL := Lib.hid (mrg_len ts es fs)
  rw [h.len, h2.len] at HL
  have hnt : nt ≤ 9223372036854775807 := Nat.le_trans (Rd.few h3) (by decide +kernel)
  obtain ⟨A0, c0, rfl⟩ := h.slice
  obtain ⟨A1, c1, rfl⟩ := h2.slice
  obtain ⟨A2, c2, rfl⟩ := h3.slice
  obtain ⟨L, hLL⟩ : ∃ L, mrg ts es fs = L := ⟨_, rfl⟩
  have HLL := Lib.hid hLL
  rw [hLL] at HL ⊢
  clear h h2 h3 hf hf2 hLL
  go_enter Try.func10, Try.ntmps10
  go_wp2
  go_loopw [0, 1, 7, 8] (fun av bv o kv wr => ∃ (p q j ca cb c : Nat) (A B C : Option Addr) (es' fs' os : List Ev), av = .slice A p ca ∧ bv = .slice B q cb ∧ o = .slice C j c ∧ kv = .int .i64 j ∧ Hid (MI w ts L (n + m) (.slice A p ca) p (.slice B q cb) q j (.slice C j c) es' fs' os wr)) (fun av bv _ _ _ => (match av with | .slice _ p _ => p | _ => 0) + (match bv with | .slice _ p _ => p | _ => 0))
  case atStart => exact ⟨n, m, 0, c0, c1, 0, A0, A1, none, es, fs, [], rfl, rfl, rfl, rfl, Lib.hid ⟨HA.out, HC.out, Outs.nil_ _ _ _, HLL.out.symm, by omega, HF.out, HF2.out, Below.refl _ _⟩⟩
  case round =>
    obtain ⟨p, q, j, ca, cb, c, A, B, C, es', fs', os, rfl, rfl, rfl, rfl, HI⟩ := hrel
    have hN := HI.out.n
    by_cases hp : 0 < p
    · by_cases hq : 0 < q
      · by_cases hkt : j < nt
        · have hkl : j < ts.length := by rw [HNT.out]; exact hkt
          obtain ⟨gt, ot, ct, qt, hct, hct1, hct2⟩ := (HT.out.below HI.out.h).get hkt
          injection qt with qt _ qt'
          subst qt qt'
          have hd := head_drop hkl
          obtain ⟨tb, htb⟩ : ∃ tb, ts[j] = tb := ⟨_, rfl⟩
          rw [htb] at hct hd
          have HD := Lib.hid hd
          clear hd htb hkl
          cases tb
          · -- the second gives
            obtain ⟨e, x2, rfl⟩ : ∃ e x2, fs' = e :: x2 := by
              cases fs' with
              | nil => have := HI.out.b.len; simp at this; omega
              | cons e x2 => exact ⟨e, x2, rfl⟩
            have hsl := slice_le HI.out.b
            obtain ⟨hsl1, hsl2⟩ : q ≤ cb ∧ cb ≤ 9223372036854775807 := by omega
            clear hsl
            obtain ⟨g, off, A3, c3, hix, rfl, he, hh, ha⟩ := evs_at (i := 0) HI.out.b HI.out.h hq
            simp only [List.getElem_cons_zero, Nat.zero_mul, Nat.add_zero] at he hh ha
            have HHD := Lib.hid hh
            have HFE := Lib.hid (HI.out.fb e List.mem_cons_self)
            have HTL := Lib.hid HI.out.b.tail
            have HLN : Hid (L = (os ++ [e]) ++ mrg (ts.drop (j + 1)) es' x2) := by
              unfold Hid
              rw [HI.out.l, mrg_b (.inr HD.out), List.tail_drop]
              simp
            obtain ⟨d0, d1, d2, d3, d4, d5, d6, d7, d8⟩ := he
            have HJ : Hid (j + 1 ≤ 1000000000) := by unfold Hid; omega
            have s1 : (1 : Int) ≤ (q : Int) := by omega
            have s2 : (q : Int) ≤ (cb : Int) := by omega
            have s3 : (1 : Int) ≤ (cb : Int) := by omega
            clear hix hh ha
            go_wp2
            by_cases hcap : cb = 1
            · subst hcap
              obtain rfl : q = 1 := by omega
              rw [if_pos rfl] at HTL
              go_region_law (first
                | (refine step_pushG rfl (.tmp 40) (.tmp 45) rfl HP.out rfl rfl rfl ?_; intro A' c' w5 ho hg; have HO5 := Lib.hid ho; have HB5 := Lib.hid (HBA.out.grown hg HBA.out.size fun b hb => (HOW.out b hb).1); clear ho hg)
                | (go_simp; go_at_call 26; refine (own_any (hds_more HHD.out (Below.refl _ _).drew) HFE.out).mono ?_; rintro o w4 ⟨hv', rfl, hh, hb4⟩; obtain ⟨A4, c4, rfl⟩ := hh.slice
                   have hbr : Below wr.heap.size wr w4 := (Below.refl _ wr).drew.trans (hb4.mono (Nat.le_refl _))
                   have hbw : Below w.heap.size w w4 := below_then HI.out.h (Nat.le_refl _) hbr
                   have HBA : Hid (Below w.heap.size w (w4.alloc (.cells #[.int .i64 e.k, .int .i64 e.id, .string e.url, .string e.frm, .string e.mode, .int .i64 e.med, .int .i64 e.st, .slice A4 e.hs.length c4, .string e.body] 32))) := Lib.hid (hbw.alloc hbw.size _)
                   have HOW := Lib.hid HI.out.o.typed
                   have HP := Lib.hid (Pushing.mk' (HI.out.o.below hbr) (hh.base HI.out.h.size).hds (hh.apart _) hbw.size HJ.out); clear hh hb4 hbr hbw))
              all_goals go_wp2
              all_goals
                refine And.intro ?_ ?_
                · exact ⟨p, 0, j + 1, ca, 0, c', A, some ⟨g, off, none⟩, A', es', x2, os ++ [e], rfl, rfl, rfl, by go_num, Lib.hid (MI.mk HI.out.a HTL.out HO5.out HLN.out (by omega) HI.out.fa (fun x hx => HI.out.fb x (List.mem_cons_of_mem _ hx)) HB5.out)⟩
                · show _ < _
                  simp only []
                  omega
            · rw [if_neg hcap] at HTL
              go_region_law (first
                | (refine step_pushG rfl (.tmp 40) (.tmp 45) rfl HP.out rfl rfl rfl ?_; intro A' c' w5 ho hg; have HO5 := Lib.hid ho; have HB5 := Lib.hid (HBA.out.grown hg HBA.out.size fun b hb => (HOW.out b hb).1); clear ho hg)
                | (go_simp; go_at_call 26; refine (own_any (hds_more HHD.out (Below.refl _ _).drew) HFE.out).mono ?_; rintro o w4 ⟨hv', rfl, hh, hb4⟩; obtain ⟨A4, c4, rfl⟩ := hh.slice
                   have hbr : Below wr.heap.size wr w4 := (Below.refl _ wr).drew.trans (hb4.mono (Nat.le_refl _))
                   have hbw : Below w.heap.size w w4 := below_then HI.out.h (Nat.le_refl _) hbr
                   have HBA : Hid (Below w.heap.size w (w4.alloc (.cells #[.int .i64 e.k, .int .i64 e.id, .string e.url, .string e.frm, .string e.mode, .int .i64 e.med, .int .i64 e.st, .slice A4 e.hs.length c4, .string e.body] 32))) := Lib.hid (hbw.alloc hbw.size _)
                   have HOW := Lib.hid HI.out.o.typed
                   have HP := Lib.hid (Pushing.mk' (HI.out.o.below hbr) (hh.base HI.out.h.size).hds (hh.apart _) hbw.size HJ.out); clear hh hb4 hbr hbw))
              all_goals go_wp2
              all_goals
                refine And.intro ?_ ?_
                · exact ⟨p, q - 1, j + 1, ca, cb - 1, c', A, some ⟨g, off + 9, none⟩, A', es', x2, os ++ [e], rfl, rfl, rfl, by go_num, Lib.hid (MI.mk HI.out.a HTL.out HO5.out HLN.out (by omega) HI.out.fa (fun x hx => HI.out.fb x (List.mem_cons_of_mem _ hx)) HB5.out)⟩
                · show _ < _
                  simp only []
                  omega
          · -- the first gives
            obtain ⟨e, x2, rfl⟩ : ∃ e x2, es' = e :: x2 := by
              cases es' with
              | nil => have := HI.out.a.len; simp at this; omega
              | cons e x2 => exact ⟨e, x2, rfl⟩
            have hsl := slice_le HI.out.a
            obtain ⟨hsl1, hsl2⟩ : p ≤ ca ∧ ca ≤ 9223372036854775807 := by omega
            clear hsl
            obtain ⟨g, off, A3, c3, hix, rfl, he, hh, ha⟩ := evs_at (i := 0) HI.out.a HI.out.h hp
            simp only [List.getElem_cons_zero, Nat.zero_mul, Nat.add_zero] at he hh ha
            have HHD := Lib.hid hh
            have HFE := Lib.hid (HI.out.fa e List.mem_cons_self)
            have HTL := Lib.hid HI.out.a.tail
            have HLN : Hid (L = (os ++ [e]) ++ mrg (ts.drop (j + 1)) x2 fs') := by
              unfold Hid
              rw [HI.out.l, mrg_a (.inr HD.out), List.tail_drop]
              simp
            obtain ⟨d0, d1, d2, d3, d4, d5, d6, d7, d8⟩ := he
            have HJ : Hid (j + 1 ≤ 1000000000) := by unfold Hid; omega
            have s1 : (1 : Int) ≤ (p : Int) := by omega
            have s2 : (p : Int) ≤ (ca : Int) := by omega
            have s3 : (1 : Int) ≤ (ca : Int) := by omega
            clear hix hh ha
            go_wp2
            by_cases hcap : ca = 1
            · subst hcap
              obtain rfl : p = 1 := by omega
              rw [if_pos rfl] at HTL
              go_region_law (first
                | (refine step_pushG rfl (.tmp 31) (.tmp 36) rfl HP.out rfl rfl rfl ?_; intro A' c' w5 ho hg; have HO5 := Lib.hid ho; have HB5 := Lib.hid (HBA.out.grown hg HBA.out.size fun b hb => (HOW.out b hb).1); clear ho hg)
                | (go_simp; go_at_call 26; refine (own_any (hds_more HHD.out (Below.refl _ _).drew) HFE.out).mono ?_; rintro o w4 ⟨hv', rfl, hh, hb4⟩; obtain ⟨A4, c4, rfl⟩ := hh.slice
                   have hbr : Below wr.heap.size wr w4 := (Below.refl _ wr).drew.trans (hb4.mono (Nat.le_refl _))
                   have hbw : Below w.heap.size w w4 := below_then HI.out.h (Nat.le_refl _) hbr
                   have HBA : Hid (Below w.heap.size w (w4.alloc (.cells #[.int .i64 e.k, .int .i64 e.id, .string e.url, .string e.frm, .string e.mode, .int .i64 e.med, .int .i64 e.st, .slice A4 e.hs.length c4, .string e.body] 32))) := Lib.hid (hbw.alloc hbw.size _)
                   have HOW := Lib.hid HI.out.o.typed
                   have HP := Lib.hid (Pushing.mk' (HI.out.o.below hbr) (hh.base HI.out.h.size).hds (hh.apart _) hbw.size HJ.out); clear hh hb4 hbr hbw))
              all_goals go_wp2
              all_goals
                refine And.intro ?_ ?_
                · exact ⟨0, q, j + 1, 0, cb, c', some ⟨g, off, none⟩, B, A', x2, fs', os ++ [e], rfl, rfl, rfl, by go_num, Lib.hid (MI.mk HTL.out HI.out.b HO5.out HLN.out (by omega) (fun x hx => HI.out.fa x (List.mem_cons_of_mem _ hx)) HI.out.fb HB5.out)⟩
                · show _ < _
                  simp only []
                  omega
            · rw [if_neg hcap] at HTL
              go_region_law (first
                | (refine step_pushG rfl (.tmp 31) (.tmp 36) rfl HP.out rfl rfl rfl ?_; intro A' c' w5 ho hg; have HO5 := Lib.hid ho; have HB5 := Lib.hid (HBA.out.grown hg HBA.out.size fun b hb => (HOW.out b hb).1); clear ho hg)
                | (go_simp; go_at_call 26; refine (own_any (hds_more HHD.out (Below.refl _ _).drew) HFE.out).mono ?_; rintro o w4 ⟨hv', rfl, hh, hb4⟩; obtain ⟨A4, c4, rfl⟩ := hh.slice
                   have hbr : Below wr.heap.size wr w4 := (Below.refl _ wr).drew.trans (hb4.mono (Nat.le_refl _))
                   have hbw : Below w.heap.size w w4 := below_then HI.out.h (Nat.le_refl _) hbr
                   have HBA : Hid (Below w.heap.size w (w4.alloc (.cells #[.int .i64 e.k, .int .i64 e.id, .string e.url, .string e.frm, .string e.mode, .int .i64 e.med, .int .i64 e.st, .slice A4 e.hs.length c4, .string e.body] 32))) := Lib.hid (hbw.alloc hbw.size _)
                   have HOW := Lib.hid HI.out.o.typed
                   have HP := Lib.hid (Pushing.mk' (HI.out.o.below hbr) (hh.base HI.out.h.size).hds (hh.apart _) hbw.size HJ.out); clear hh hb4 hbr hbw))
              all_goals go_wp2
              all_goals
                refine And.intro ?_ ?_
                · exact ⟨p - 1, q, j + 1, ca - 1, cb, c', some ⟨g, off + 9, none⟩, B, A', x2, fs', os ++ [e], rfl, rfl, rfl, by go_num, Lib.hid (MI.mk HTL.out HI.out.b HO5.out HLN.out (by omega) (fun x hx => HI.out.fa x (List.mem_cons_of_mem _ hx)) HI.out.fb HB5.out)⟩
                · show _ < _
                  simp only []
                  omega
        · have HD := Lib.hid (head_past (ts := ts) (k := j) (by rw [HNT.out]; omega))
          obtain ⟨e, x2, rfl⟩ : ∃ e x2, fs' = e :: x2 := by
            cases fs' with
            | nil => have := HI.out.b.len; simp at this; omega
            | cons e x2 => exact ⟨e, x2, rfl⟩
          have hsl := slice_le HI.out.b
          obtain ⟨hsl1, hsl2⟩ : q ≤ cb ∧ cb ≤ 9223372036854775807 := by omega
          clear hsl
          obtain ⟨g, off, A3, c3, hix, rfl, he, hh, ha⟩ := evs_at (i := 0) HI.out.b HI.out.h hq
          simp only [List.getElem_cons_zero, Nat.zero_mul, Nat.add_zero] at he hh ha
          have HHD := Lib.hid hh
          have HFE := Lib.hid (HI.out.fb e List.mem_cons_self)
          have HTL := Lib.hid HI.out.b.tail
          have HLN : Hid (L = (os ++ [e]) ++ mrg (ts.drop (j + 1)) es' x2) := by
            unfold Hid
            rw [HI.out.l, mrg_b (.inr HD.out), List.tail_drop]
            simp
          obtain ⟨d0, d1, d2, d3, d4, d5, d6, d7, d8⟩ := he
          have HJ : Hid (j + 1 ≤ 1000000000) := by unfold Hid; omega
          have s1 : (1 : Int) ≤ (q : Int) := by omega
          have s2 : (q : Int) ≤ (cb : Int) := by omega
          have s3 : (1 : Int) ≤ (cb : Int) := by omega
          clear hix hh ha
          go_wp2
          by_cases hcap : cb = 1
          · subst hcap
            obtain rfl : q = 1 := by omega
            rw [if_pos rfl] at HTL
            go_region_law (first
              | (refine step_pushG rfl (.tmp 40) (.tmp 45) rfl HP.out rfl rfl rfl ?_; intro A' c' w5 ho hg; have HO5 := Lib.hid ho; have HB5 := Lib.hid (HBA.out.grown hg HBA.out.size fun b hb => (HOW.out b hb).1); clear ho hg)
              | (go_simp; go_at_call 26; refine (own_any (hds_more HHD.out (Below.refl _ _).drew) HFE.out).mono ?_; rintro o w4 ⟨hv', rfl, hh, hb4⟩; obtain ⟨A4, c4, rfl⟩ := hh.slice
                 have hbr : Below wr.heap.size wr w4 := (Below.refl _ wr).drew.trans (hb4.mono (Nat.le_refl _))
                 have hbw : Below w.heap.size w w4 := below_then HI.out.h (Nat.le_refl _) hbr
                 have HBA : Hid (Below w.heap.size w (w4.alloc (.cells #[.int .i64 e.k, .int .i64 e.id, .string e.url, .string e.frm, .string e.mode, .int .i64 e.med, .int .i64 e.st, .slice A4 e.hs.length c4, .string e.body] 32))) := Lib.hid (hbw.alloc hbw.size _)
                 have HOW := Lib.hid HI.out.o.typed
                 have HP := Lib.hid (Pushing.mk' (HI.out.o.below hbr) (hh.base HI.out.h.size).hds (hh.apart _) hbw.size HJ.out); clear hh hb4 hbr hbw))
            all_goals go_wp2
            all_goals
              refine And.intro ?_ ?_
              · exact ⟨p, 0, j + 1, ca, 0, c', A, some ⟨g, off, none⟩, A', es', x2, os ++ [e], rfl, rfl, rfl, by go_num, Lib.hid (MI.mk HI.out.a HTL.out HO5.out HLN.out (by omega) HI.out.fa (fun x hx => HI.out.fb x (List.mem_cons_of_mem _ hx)) HB5.out)⟩
              · show _ < _
                simp only []
                omega
          · rw [if_neg hcap] at HTL
            go_region_law (first
              | (refine step_pushG rfl (.tmp 40) (.tmp 45) rfl HP.out rfl rfl rfl ?_; intro A' c' w5 ho hg; have HO5 := Lib.hid ho; have HB5 := Lib.hid (HBA.out.grown hg HBA.out.size fun b hb => (HOW.out b hb).1); clear ho hg)
              | (go_simp; go_at_call 26; refine (own_any (hds_more HHD.out (Below.refl _ _).drew) HFE.out).mono ?_; rintro o w4 ⟨hv', rfl, hh, hb4⟩; obtain ⟨A4, c4, rfl⟩ := hh.slice
                 have hbr : Below wr.heap.size wr w4 := (Below.refl _ wr).drew.trans (hb4.mono (Nat.le_refl _))
                 have hbw : Below w.heap.size w w4 := below_then HI.out.h (Nat.le_refl _) hbr
                 have HBA : Hid (Below w.heap.size w (w4.alloc (.cells #[.int .i64 e.k, .int .i64 e.id, .string e.url, .string e.frm, .string e.mode, .int .i64 e.med, .int .i64 e.st, .slice A4 e.hs.length c4, .string e.body] 32))) := Lib.hid (hbw.alloc hbw.size _)
                 have HOW := Lib.hid HI.out.o.typed
                 have HP := Lib.hid (Pushing.mk' (HI.out.o.below hbr) (hh.base HI.out.h.size).hds (hh.apart _) hbw.size HJ.out); clear hh hb4 hbr hbw))
            all_goals go_wp2
            all_goals
              refine And.intro ?_ ?_
              · exact ⟨p, q - 1, j + 1, ca, cb - 1, c', A, some ⟨g, off + 9, none⟩, A', es', x2, os ++ [e], rfl, rfl, rfl, by go_num, Lib.hid (MI.mk HI.out.a HTL.out HO5.out HLN.out (by omega) HI.out.fa (fun x hx => HI.out.fb x (List.mem_cons_of_mem _ hx)) HB5.out)⟩
              · show _ < _
                simp only []
                omega
      · obtain rfl : q = 0 := by omega
        have HR0 : Hid (L = os ++ (es' ++ fs')) := by
          unfold Hid
          rw [HI.out.l, show fs' = [] from List.eq_nil_of_length_eq_zero HI.out.b.len, mrg_nil, List.append_nil]
        have hnn : p + 0 ≤ n + m := by omega
        obtain ⟨wc, rfl⟩ : ∃ wc : World, wc = wr := ⟨_, rfl⟩
        have q0 := cell_of_row _ _ 0 _ _ _ (heap_alloc_new wc (.cells #[.slice A p ca, .slice B 0 cb] 22))
        have q1 := cell_of_row _ _ 1 _ _ _ (heap_alloc_new wc (.cells #[.slice A p ca, .slice B 0 cb] 22))
        have HCC := Lib.hid (concat_any HI.out.a HI.out.b (HI.out.h.alloc HI.out.h.size (.cells #[.slice A p ca, .slice B 0 cb] 22)) (by omega) (by omega) q0 q1)
        clear q0 q1
        go_wp2_with fail
        refine HCC.out.mono ?_
        rintro o w9 ⟨AR, cR, rfl, hR, hb9, hown⟩
        have HBc : Below wc.heap.size wc w9 := ((Below.refl _ wc).alloc (Nat.le_refl _) _).trans (hb9.mono (by simp))
        have HO9 := Lib.hid (HI.out.o.below HBc)
        have HOFF : Hid (Off (.slice AR (p + 0) cR) (.slice C j c)) := Lib.hid (fun b hb e => by
          have h1 := hown b hb
          obtain ⟨_, cs, mm, hc⟩ := HI.out.o.typed b e
          have := blk_lt hc
          simp at h1
          omega)
        have HB9 := Lib.hid (below_then HI.out.h (Nat.le_refl _) HBc)
        have HFR : Hid (∀ e ∈ es' ++ fs', e.hs.length ≤ 1000000) := Lib.hid (fun e he => (List.mem_append.1 he).elim (HI.out.fa e) (HI.out.fb e))
        have HRR := Lib.hid hR
        have hj2 : j + (p + 0) = n + m := by omega
        obtain ⟨r, hr⟩ : ∃ r, p + 0 = r := ⟨_, rfl⟩
        obtain ⟨R, hRd⟩ : ∃ R, es' ++ fs' = R := ⟨_, rfl⟩
        rw [hr] at HRR HOFF hj2 ⊢
        rw [hRd] at HRR HFR HR0
        have HRL := Lib.hid HRR.out.len
        clear hR hb9 hown hr hRd HBc HCC hN
        go_wp2
        go_loopw [7, 54] (fun o iv W => ∃ (i k c : Nat) (C : Option Addr), o = .slice C k c ∧ iv = .int .i64 i ∧ i ≤ r ∧ k = j + i ∧ Hid (Outs W w.heap.size w.heap.size (.slice C k c) k (os ++ R.take i)) ∧ Hid (Outs W w.heap.size 0 (.slice AR r cR) r R) ∧ Hid (Off (.slice AR r cR) (.slice C k c)) ∧ Hid (Below w.heap.size w W)) (fun _ iv _ => r - (intOf iv).toNat)
        case atStart => exact ⟨0, j, c, C, rfl, rfl, Nat.zero_le _, rfl, Lib.hid (by rw [List.take_zero, List.append_nil]; exact HO9.out), HRR, HOFF, HB9⟩
        case round =>
          obtain ⟨i, k, c, C, rfl, rfl, hi, hk, HO, HRW, HOF, HB⟩ := hrel
          by_cases hl : i < r
          · obtain ⟨g, off, A3, c3, hix, rfl, he, hh⟩ := HRW.out.at_ hl
            have HT : Hid (os ++ R.take (i + 1) = (os ++ R.take i) ++ [R[i]]) := by
              unfold Hid
              rw [List.take_succ_eq_append_getElem hix, List.append_assoc]
            have HFE := Lib.hid (HFR.out _ (List.getElem_mem hix))
            have HHD := Lib.hid hh
            have HJ : Hid (k + 1 ≤ 1000000000) := by unfold Hid; omega
            have hk' := Lib.hid hk
            generalize R[i]'hix = e at he HT HFE HHD
            have HZ := Lib.hid (EvRow.zero wr)
            obtain ⟨d0, d1, d2, d3, d4, d5, d6, d7, d8⟩ := he
            obtain ⟨n1, hn1⟩ : ∃ n1, e.hs.length = n1 := ⟨_, rfl⟩
            rw [hn1] at d7 HHD
            clear hix hh hn1 hk
            go_wp2_with (first
              | (refine wpList_store_ev rfl (.tmp 10) (.tmp 57) rfl _ _ _ HZ.out e _ rfl rfl rfl ?_; intro w2 hF hB hO; have HB2 := Lib.hid (hB wr.heap.size wr ((Below.refl _ _).alloc (Nat.le_refl _) _) (Nat.le_refl _)); clear d0 d1 d2 d3 d4 d5 d6 d7 d8; obtain ⟨x0, x1, x2, x3, x4, x5, x6, x7, x8⟩ := hF.cells; clear hF hB hO)
              | (go_at_call 26; refine (own_any (hds_more HHD.out HB2.out) HFE.out).mono ?_; rintro o w4 ⟨hv', rfl, hh, hb4⟩; obtain ⟨A4, c4, rfl⟩ := hh.slice
                 have HB4 : Hid (Below wr.heap.size wr w4) := Lib.hid (HB2.out.trans (hb4.mono HB2.out.size))
                 have HBE : Hid (Below wr.heap.size wr (w4.alloc (.cells #[.int .i64 e.k, .int .i64 e.id, .string e.url, .string e.frm, .string e.mode, .int .i64 e.med, .int .i64 e.st, .slice A4 e.hs.length c4, .string e.body] 32))) := Lib.hid (HB4.out.alloc HB4.out.size _)
                 have HP := Lib.hid (Pushing.mk' (HO.out.below HB4.out) (hh.base (Nat.le_trans HB.out.size HB2.out.size)).hds (hh.apart _) (Nat.le_trans HB.out.size HB4.out.size) HJ.out)
                 have HMA := Lib.hid (HRW.out.below HBE.out); have HOA := Lib.hid (HO.out.below HBE.out); clear hh hb4 x0 x1 x2 x3 x4 x5 x6 x7 x8)
              | (at_builtin; refine wpList_push3 rfl (.tmp 58) (.tmp 61) rfl HP.out rfl HMA.out HOF.out HOA.out rfl rfl ?_; intro A' c' w5 ho hb hm hne; have HO5 := Lib.hid ho; have HB5 := Lib.hid hb; have HM5 := Lib.hid hm; have HNE5 := Lib.hid hne; clear ho hb hm hne))
            go_roundw
            case rel =>
              refine ⟨i + 1, k + 1, c', A', rfl, by go_num, by omega, (by have := hk'.out; omega), ?_, HM5, HNE5, Lib.hid ((below_then HB.out (Nat.le_refl _) HB4.out).trans HB5.out)⟩
              unfold Hid
              rw [HT.out]
              exact HO5.out
            case measure => simp [intOf]; omega
          · obtain rfl : i = r := by omega
            have HE : Hid (os ++ R.take i = L) := by
              unfold Hid
              rw [HR0.out, List.take_of_length_le (by rw [HRL.out]; exact Nat.le_refl _)]
            rw [HE.out] at HO
            go_wp2
            go_ret
            exact Made_.mk' HO.out (Nat.le_refl _) HB.out
    · obtain rfl : p = 0 := by omega
      have HR0 : Hid (L = os ++ (es' ++ fs')) := by
        unfold Hid
        rw [HI.out.l, show es' = [] from List.eq_nil_of_length_eq_zero HI.out.a.len, mrg_nil', List.nil_append]
      have hnn : 0 + q ≤ n + m := by omega
      obtain ⟨wc, rfl⟩ : ∃ wc : World, wc = wr := ⟨_, rfl⟩
      have q0 := cell_of_row _ _ 0 _ _ _ (heap_alloc_new wc (.cells #[.slice A 0 ca, .slice B q cb] 22))
      have q1 := cell_of_row _ _ 1 _ _ _ (heap_alloc_new wc (.cells #[.slice A 0 ca, .slice B q cb] 22))
      have HCC := Lib.hid (concat_any HI.out.a HI.out.b (HI.out.h.alloc HI.out.h.size (.cells #[.slice A 0 ca, .slice B q cb] 22)) (by omega) (by omega) q0 q1)
      clear q0 q1
      go_wp2_with fail
      refine HCC.out.mono ?_
      rintro o w9 ⟨AR, cR, rfl, hR, hb9, hown⟩
      have HBc : Below wc.heap.size wc w9 := ((Below.refl _ wc).alloc (Nat.le_refl _) _).trans (hb9.mono (by simp))
      have HO9 := Lib.hid (HI.out.o.below HBc)
      have HOFF : Hid (Off (.slice AR (0 + q) cR) (.slice C j c)) := Lib.hid (fun b hb e => by
        have h1 := hown b hb
        obtain ⟨_, cs, mm, hc⟩ := HI.out.o.typed b e
        have := blk_lt hc
        simp at h1
        omega)
      have HB9 := Lib.hid (below_then HI.out.h (Nat.le_refl _) HBc)
      have HFR : Hid (∀ e ∈ es' ++ fs', e.hs.length ≤ 1000000) := Lib.hid (fun e he => (List.mem_append.1 he).elim (HI.out.fa e) (HI.out.fb e))
      have HRR := Lib.hid hR
      have hj2 : j + (0 + q) = n + m := by omega
      obtain ⟨r, hr⟩ : ∃ r, 0 + q = r := ⟨_, rfl⟩
      obtain ⟨R, hRd⟩ : ∃ R, es' ++ fs' = R := ⟨_, rfl⟩
      rw [hr] at HRR HOFF hj2 ⊢
      rw [hRd] at HRR HFR HR0
      have HRL := Lib.hid HRR.out.len
      clear hR hb9 hown hr hRd HBc HCC hN
      go_wp2
      go_loopw [7, 54] (fun o iv W => ∃ (i k c : Nat) (C : Option Addr), o = .slice C k c ∧ iv = .int .i64 i ∧ i ≤ r ∧ k = j + i ∧ Hid (Outs W w.heap.size w.heap.size (.slice C k c) k (os ++ R.take i)) ∧ Hid (Outs W w.heap.size 0 (.slice AR r cR) r R) ∧ Hid (Off (.slice AR r cR) (.slice C k c)) ∧ Hid (Below w.heap.size w W)) (fun _ iv _ => r - (intOf iv).toNat)
      case atStart => exact ⟨0, j, c, C, rfl, rfl, Nat.zero_le _, rfl, Lib.hid (by rw [List.take_zero, List.append_nil]; exact HO9.out), HRR, HOFF, HB9⟩
      case round =>
        obtain ⟨i, k, c, C, rfl, rfl, hi, hk, HO, HRW, HOF, HB⟩ := hrel
        by_cases hl : i < r
        · obtain ⟨g, off, A3, c3, hix, rfl, he, hh⟩ := HRW.out.at_ hl
          have HT : Hid (os ++ R.take (i + 1) = (os ++ R.take i) ++ [R[i]]) := by
            unfold Hid
            rw [List.take_succ_eq_append_getElem hix, List.append_assoc]
          have HFE := Lib.hid (HFR.out _ (List.getElem_mem hix))
          have HHD := Lib.hid hh
          have HJ : Hid (k + 1 ≤ 1000000000) := by unfold Hid; omega
          have hk' := Lib.hid hk
          generalize R[i]'hix = e at he HT HFE HHD
          have HZ := Lib.hid (EvRow.zero wr)
          obtain ⟨d0, d1, d2, d3, d4, d5, d6, d7, d8⟩ := he
          obtain ⟨n1, hn1⟩ : ∃ n1, e.hs.length = n1 := ⟨_, rfl⟩
          rw [hn1] at d7 HHD
          clear hix hh hn1 hk
          go_wp2_with (first
            | (refine wpList_store_ev rfl (.tmp 10) (.tmp 57) rfl _ _ _ HZ.out e _ rfl rfl rfl ?_; intro w2 hF hB hO; have HB2 := Lib.hid (hB wr.heap.size wr ((Below.refl _ _).alloc (Nat.le_refl _) _) (Nat.le_refl _)); clear d0 d1 d2 d3 d4 d5 d6 d7 d8; obtain ⟨x0, x1, x2, x3, x4, x5, x6, x7, x8⟩ := hF.cells; clear hF hB hO)
            | (go_at_call 26; refine (own_any (hds_more HHD.out HB2.out) HFE.out).mono ?_; rintro o w4 ⟨hv', rfl, hh, hb4⟩; obtain ⟨A4, c4, rfl⟩ := hh.slice
               have HB4 : Hid (Below wr.heap.size wr w4) := Lib.hid (HB2.out.trans (hb4.mono HB2.out.size))
               have HBE : Hid (Below wr.heap.size wr (w4.alloc (.cells #[.int .i64 e.k, .int .i64 e.id, .string e.url, .string e.frm, .string e.mode, .int .i64 e.med, .int .i64 e.st, .slice A4 e.hs.length c4, .string e.body] 32))) := Lib.hid (HB4.out.alloc HB4.out.size _)
               have HP := Lib.hid (Pushing.mk' (HO.out.below HB4.out) (hh.base (Nat.le_trans HB.out.size HB2.out.size)).hds (hh.apart _) (Nat.le_trans HB.out.size HB4.out.size) HJ.out)
               have HMA := Lib.hid (HRW.out.below HBE.out); have HOA := Lib.hid (HO.out.below HBE.out); clear hh hb4 x0 x1 x2 x3 x4 x5 x6 x7 x8)
            | (at_builtin; refine wpList_push3 rfl (.tmp 58) (.tmp 61) rfl HP.out rfl HMA.out HOF.out HOA.out rfl rfl ?_; intro A' c' w5 ho hb hm hne; have HO5 := Lib.hid ho; have HB5 := Lib.hid hb; have HM5 := Lib.hid hm; have HNE5 := Lib.hid hne; clear ho hb hm hne))
          go_roundw
          case rel =>
            refine ⟨i + 1, k + 1, c', A', rfl, by go_num, by omega, (by have := hk'.out; omega), ?_, HM5, HNE5, Lib.hid ((below_then HB.out (Nat.le_refl _) HB4.out).trans HB5.out)⟩
            unfold Hid
            rw [HT.out]
            exact HO5.out
          case measure => simp [intOf]; omega
        · obtain rfl : i = r := by omega
          have HE : Hid (os ++ R.take i = L) := by
            unfold Hid
            rw [HR0.out, List.take_of_length_le (by rw [HRL.out]; exact Nat.le_refl _)]
          rw [HE.out] at HO
          go_wp2
          go_ret
          exact Made_.mk' HO.out (Nat.le_refl _) HB.out
end Go.Proofs.Ytlalbfpdelfnfaa
