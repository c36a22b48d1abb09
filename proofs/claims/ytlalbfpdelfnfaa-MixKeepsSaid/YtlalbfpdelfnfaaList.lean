/-
  Layer 43 (mix): a list of events in memory of its own, somewhat cut. No condition but that what comes in lies in memory.
-/
import Derived.Test.YtlalbfpdelfnfaaEvFew
namespace Go.Proofs.Ytlalbfpdelfnfaa
open Go.RowKit
set_option linter.unusedVariables false

def fewL (es : List Ev) (m : Nat) : List Ev := (es.take m).map fewE
theorem evc_one {e : Ev} {A : Option Addr} {n c : Nat} : ∀ u ∈ (evc e (.slice A n c)), u.oneCell' = true := fun u hu => by
  simp [evc] at hu
  rcases hu with rfl | rfl | rfl | rfl | rfl | rfl | rfl | rfl | rfl <;> rfl
theorem evc_src (w : World) (e : Ev) (A : Option Addr) (n c : Nat) : Src Try.prog 9 22 (.slice (some ⟨w.heap.size, 0, none⟩) 1 1) 1 (evc e (.slice A n c)) (w.alloc (.cells #[.int .i64 e.k, .int .i64 e.id, .string e.url, .string e.frm, .string e.mode, .int .i64 e.med, .int .i64 e.st, .slice A n c, .string e.body] 32)) :=
  Src.lit (b := w.heap.size) (cs := (evc e (.slice A n c)).toArray) (m := (0, 0)) Try.underlying22 (heap_alloc_new w _) 1 1 rfl evc_one

set_option maxRecDepth 100000 in
set_option maxHeartbeats 1000000 in
theorem few_any {w : World} {lo n : Nat} {v : Value} {es : List Ev} (h : EvsI w lo v n es) (hf : ∀ e ∈ es, FineE e) (m : Nat) (hm : m ≤ 1000) :
    Calls Try.prog 6 #[v, .int .i64 m] w fun o w' => ∃ A c, o = .returned (.slice A (fewL es m).length c) ∧ Outs w' w.heap.size w.heap.size (.slice A (fewL es m).length c) (fewL es m).length (fewL es m) ∧ Below w.heap.size w w' := by
  obtain ⟨i0, hi, hz0, hz1, hz2⟩ := info_parts infoE
  have HI := Lib.hid hi
  have HZ := Lib.hid hz0
  have HZ1 := Lib.hid hz1
  have HZ2 : Hid (i0.bytes ≤ 1000) := by unfold Hid; omega
  have HH := Lib.hid h
  have HF := Lib.hid hf
  have hlen := h.few
  unfold maxLen at hlen
  have HN := Lib.hid h.len
  obtain ⟨A0, c0, rfl⟩ := h.slice
  clear hi hz0 hz1 hz2 h hf
  go_enter Try.func6, Try.ntmps6
  go_wp2
  go_loopw [5, 6] (fun o iv wr => ∃ (i c : Nat) (A : Option Addr), o = .slice A i c ∧ iv = .int .i64 i ∧ i ≤ n ∧ i ≤ m ∧ Hid (Outs wr w.heap.size w.heap.size (.slice A i c) i ((es.take i).map fewE)) ∧ Hid (Below w.heap.size w wr)) (fun _ iv _ => n - (intOf iv).toNat)
  case atStart => exact ⟨0, 0, some ⟨w.heap.size, 0, none⟩, rfl, rfl, Nat.zero_le _, Nat.zero_le _, Lib.hid (Outs.fresh w w.heap.size), Lib.hid ((Below.refl _ _).alloc (Nat.le_refl _) _)⟩
  case round =>
    obtain ⟨i, c, A, rfl, rfl, hi, him, HO, HB⟩ := hrel
    by_cases hin : i < n ∧ i < m
    · obtain ⟨hl, hlm⟩ := hin
      have hix : i < es.length := by rw [HN.out]; exact hl
      obtain ⟨g, off, cap, hv, hv2, hc1, hc2, _, hg, he, hh⟩ := EvsG.get HH.out hl
      injection hv2 with q1 q2 q3
      subst q1
      subst q3
      have he := EvAt.below he (HB.out.mono (Nat.le_refl _))
      have HE := Lib.hid (efew_any (Hdr.below hh HB.out) (HF.out _ (List.getElem_mem hix)))
      have HT : Hid (es.take (i + 1) = es.take i ++ [es[i]]) := List.take_succ_eq_append_getElem hix
      generalize es[i]'hix = e at he HE HT
      obtain ⟨d0, d1, d2, d3, d4, d5, d6, d7, d8⟩ := he
      obtain ⟨ps, hp1, hp2, hp3, hp4⟩ := HO.out
      have HP1 := Lib.hid hp1
      have HP2 := Lib.hid hp2
      have HP3 := Lib.hid hp3
      have HP4 := Lib.hid hp4
      have HL : Hid (i + 1 ≤ 1000000000) := by unfold Hid; omega
      clear hix hp1 hp2 hp3 hp4 hc1 hc2 hh
      go_wp2_with (first
        | (go_at_call 25; refine HE.out.mono ?_; rintro o w1 ⟨hv', rfl, hh, hb⟩; obtain ⟨A1, c1, rfl⟩ := hh.slice
           have HH1 := Lib.hid (hh.below ((Below.refl _ w1).alloc (Nat.le_refl _) (.cells #[.int .i64 (fewE e).k, .int .i64 (fewE e).id, .string (fewE e).url, .string (fewE e).frm, .string (fewE e).mode, .int .i64 (fewE e).med, .int .i64 (fewE e).st, .slice A1 (fewE e).hs.length c1, .string (fewE e).body] 32)))
           have HB1 := Lib.hid (hb.alloc hb.size (.cells #[.int .i64 (fewE e).k, .int .i64 (fewE e).id, .string (fewE e).url, .string (fewE e).frm, .string (fewE e).mode, .int .i64 (fewE e).med, .int .i64 (fewE e).st, .slice A1 (fewE e).hs.length c1, .string (fewE e).body] 32))
           have HS := Lib.hid (evc_src w1 (fewE e) A1 (fewE e).hs.length c1)
           have HR1 := Lib.hid (Rk.below HP3.out HB1.out (Nat.le_refl _))
           clear hh hb)
        | (at_builtin; refine wpList_append_rk rfl (.tmp 19) (.tmp 25) 22 rfl w.heap.size 32 i0 _ 9 Try.underlying22 HI.out HZ.out HZ1.out HZ2.out rfl _ i _ rfl HR1.out _ 1 _ rfl HS.out HL.out (Nat.le_trans HB.out.size HB1.out.size) ?_; intro A' c' w5 hr hg5 _; have HR := Lib.hid hr; have HG := Lib.hid hg5; clear hr hg5))
      go_roundw
      case rel =>
        refine ⟨i + 1, c', A', rfl, by go_num, by omega, by omega, ?_, ?_⟩
        · unfold Hid
          rw [HT.out, List.map_append]
          exact Outs.snoc HP1.out HP2.out (fun p hp => ⟨(HP4.out p hp).1.below HB1.out, (HP4.out p hp).2.below HB1.out⟩) (HH1.out.base HB.out.size).hds (HH1.out.apart _) HR.out HG.out HR1.out.typed
        · exact Lib.hid ((HB.out.trans (HB1.out.mono HB.out.size)).grown HG.out (Nat.le_trans HB.out.size HB1.out.size) fun b hb => (HR1.out.lt b hb).1)
      case measure => simp [intOf]; omega
    · have HLM : Hid ((fewL es m).length = i) := by
        unfold Hid fewL
        rw [List.length_map, List.length_take, HN.out]
        omega
      have HE : Hid (fewL es m = (es.take i).map fewE) := by
        unfold Hid fewL
        by_cases h8 : i = m
        · rw [h8]
        · rw [List.take_of_length_le (by rw [HN.out]; omega), List.take_of_length_le (by rw [HN.out]; omega)]
      by_cases hl : i < n
      · have h8 : ¬ ((i : Int) < m) := by omega
        clear hin
        go_wp2
        go_ret
        refine ⟨A, c, (by rw [HLM.out]; rfl), ?_, HB.out⟩
        rw [HLM.out, HE.out]
        exact HO.out
      · clear hin
        go_wp2
        go_ret
        refine ⟨A, c, (by rw [HLM.out]; rfl), ?_, HB.out⟩
        rw [HLM.out, HE.out]
        exact HO.out
end Go.Proofs.Ytlalbfpdelfnfaa
