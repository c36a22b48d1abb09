/-
  Layer 43 (mix): whether two lists of events are one, by the program. No condition but that both lie in memory.
-/
import Derived.Test.YtlalbfpdelfnfaaSameM
import Derived.Test.YtlalbfpdelfnfaaSameL
namespace Go.Proofs.Ytlalbfpdelfnfaa
open Go.RowKit
set_option linter.unusedVariables false

set_option maxRecDepth 100000 in
set_option maxHeartbeats 1000000 in
theorem sSame_any {w : World} {lo lo2 : Nat} {hv hv2 : Value} (e f : Ev) (h : Hdr w lo hv e.hs) (h2 : Hdr w lo2 hv2 f.hs) (hn : e.hs.length ≤ 1000000) :
    Calls Try.prog 33 #[evv e hv, evv f hv2] w fun o w' => o = .returned (.bool (evB e f)) ∧ Below w.heap.size w w' := by
  have hb2 : Below w.heap.size w ((w.alloc (.cells #[.int .i64 e.k, .int .i64 e.id, .string e.url, .string e.frm, .string e.mode, .int .i64 e.med, .int .i64 e.st, hv, .string e.body] 32)).alloc (.cells #[.int .i64 f.k, .int .i64 f.id, .string f.url, .string f.frm, .string f.mode, .int .i64 f.med, .int .i64 f.st, hv2, .string f.body] 32)) := ((Below.refl _ _).alloc (Nat.le_refl _) _).alloc (by simp) _
  have HS := Lib.hid (same_any e f (h.below hb2) (h2.below hb2) hn)
  have HB := Lib.hid hb2
  obtain ⟨A1, c1, rfl⟩ := h.slice
  obtain ⟨A2, c2, rfl⟩ := h2.slice
  obtain ⟨n1, hn1⟩ : ∃ n1, e.hs.length = n1 := ⟨_, rfl⟩
  obtain ⟨n2, hn2⟩ : ∃ n2, f.hs.length = n2 := ⟨_, rfl⟩
  rw [hn1] at HB HS ⊢
  rw [hn2] at HB HS ⊢
  clear h h2 hn hn1 hn2 hb2
  change Calls Try.prog 33 #[.agg #[.int .i64 e.k, .int .i64 e.id, .string e.url, .string e.frm, .string e.mode, .int .i64 e.med, .int .i64 e.st, .slice A1 n1 c1, .string e.body], .agg #[.int .i64 f.k, .int .i64 f.id, .string f.url, .string f.frm, .string f.mode, .int .i64 f.med, .int .i64 f.st, .slice A2 n2 c2, .string f.body]] w _
  go_enter Try.func33, Try.ntmps33
  go_wp2_with (go_at_call 47; refine HS.out.mono ?_; rintro o w3 ⟨rfl, hb⟩; have HB := Lib.hid (below_then HB.out (Nat.le_refl _) hb); clear hb)
  go_ret
  exact ⟨rfl, HB.out⟩
theorem sSame_b {w : World} {lo lo2 : Nat} {hv hv2 : Value} {e f : Ev} {b : Bool} (h : Hdr w lo hv e.hs) (h2 : Hdr w lo2 hv2 f.hs) (hn : e.hs.length ≤ 1000000) (hb : evB e f = b) :
    Calls Try.prog 33 #[evv e hv, evv f hv2] w fun o w' => o = .returned (.bool b) ∧ Below w.heap.size w w' := by
  rw [← hb]
  exact sSame_any e f h h2 hn

set_option maxRecDepth 100000 in
set_option maxHeartbeats 2000000 in
theorem equalFunc_any {w : World} {lo lo2 n m : Nat} {v v2 : Value} {es fs : List Ev} (h : Evs w lo v n es) (h2 : Evs w lo2 v2 m fs) (hn : n ≤ 1000000) (hfew : ∀ e ∈ es, e.hs.length ≤ 1000000) :
    Calls Try.prog 32 #[v, v2, .func (.func 33) #[] #[]] w fun o w' => o = .returned (.bool (listB es fs)) ∧ Below w.heap.size w w' := by
  have HA := Lib.hid h
  have HC := Lib.hid h2
  have HN := Lib.hid h.len
  have HM := Lib.hid h2.len
  have HF := Lib.hid hfew
  obtain ⟨A, c, rfl⟩ := h.slice
  obtain ⟨A2, c2, rfl⟩ := h2.slice
  clear h h2 hfew
  by_cases hnm : n = m
  · subst hnm
    go_enter Try.func32, Try.ntmps32
    go_wp2
    go_loopw [17] (fun iv wr => ∃ i : Nat, iv = .int .i64 i ∧ i ≤ n ∧ Hid (es.take i = fs.take i) ∧ Hid (Below w.heap.size w wr)) (fun iv _ => n - (intOf iv).toNat)
    case atStart => exact ⟨0, rfl, Nat.zero_le _, Lib.hid rfl, Lib.hid (Below.refl _ _)⟩
    case round =>
      obtain ⟨i, rfl, hi, HT, HB⟩ := hrel
      by_cases hin : i < n
      · obtain ⟨g, off, A1, c1, hx, rfl, he, hh, ha1⟩ := evs_at HA.out HB.out hin
        obtain ⟨g2, off2, A3, c3, hy, rfl, hf, hh2, ha2⟩ := evs_at HC.out HB.out hin
        have HMORE := Lib.hid fun he => take_eq_more HT.out hx hy he
        have HNE := Lib.hid fun he => ne_at hx hy he
        have HH1 := Lib.hid hh.1
        have HH2 := Lib.hid hh2.1
        have HFE := Lib.hid (HF.out _ (List.getElem_mem hx))
        generalize es[i]'hx = e at he HMORE HNE HH1 HFE
        generalize fs[i]'hy = f at hf HMORE HNE HH2
        obtain ⟨b, hb⟩ : ∃ b, evB e f = b := ⟨_, rfl⟩
        have HBE := Lib.hid hb
        obtain ⟨n1, hn1⟩ : ∃ n1, e.hs.length = n1 := ⟨_, rfl⟩
        obtain ⟨n2, hn2⟩ : ∃ n2, f.hs.length = n2 := ⟨_, rfl⟩
        rw [hn1] at he HH1
        rw [hn2] at hf HH2
        have HBA : Hid (Below wr.heap.size wr (wr.alloc (.cells #[.int .i64 e.k, .int .i64 e.id, .string e.url, .string e.frm, .string e.mode, .int .i64 e.med, .int .i64 e.st, .slice A1 n1 c1, .string e.body] 32))) := Lib.hid ((Below.refl _ _).alloc (Nat.le_refl _) _)
        have HBB : Hid (Below wr.heap.size wr ((wr.alloc (.cells #[.int .i64 e.k, .int .i64 e.id, .string e.url, .string e.frm, .string e.mode, .int .i64 e.med, .int .i64 e.st, .slice A1 n1 c1, .string e.body] 32)).alloc (.cells #[.int .i64 f.k, .int .i64 f.id, .string f.url, .string f.frm, .string f.mode, .int .i64 f.med, .int .i64 f.st, .slice A3 n2 c3, .string f.body] 32))) := Lib.hid (HBA.out.alloc HBA.out.size _)
        have hf2 := hf.below HBA.out
        obtain ⟨d0, d1, d2, d3, d4, d5, d6, d7, d8⟩ := he
        obtain ⟨e0, e1, e2, e3, e4, e5, e6, e7, e8⟩ := hf2
        have HC33 := Lib.hid (sSame_b (HH1.out.below HBB.out) (HH2.out.below HBB.out) HFE.out HBE.out)
        clear hx hy hh hh2 ha1 ha2 hb hn1 hn2 hf
        cases b
        · go_wp2_with (go_at_call 33; refine HC33.out.mono ?_; rintro o w3 ⟨rfl, hb3⟩; have HB3 := Lib.hid (HBB.out.trans (hb3.mono HBB.out.size)); clear hb3)
          go_ret
          exact ⟨ret_bool (listB_false (HNE.out fun h => by have := (evB_iff e f).2 h; rw [HBE.out] at this; cases this)).symm, below_then HB.out (Nat.le_refl _) HB3.out⟩
        · go_wp2_with (go_at_call 33; refine HC33.out.mono ?_; rintro o w3 ⟨rfl, hb3⟩; have HB3 := Lib.hid (HBB.out.trans (hb3.mono HBB.out.size)); clear hb3)
          go_roundw
          case rel => exact ⟨i + 1, by go_num, by omega, Lib.hid (HMORE.out ((evB_iff e f).1 HBE.out)), Lib.hid (below_then HB.out (Nat.le_refl _) HB3.out)⟩
          case measure => simp [intOf]; omega
      · obtain rfl : i = n := by omega
        go_wp2
        go_ret
        exact ⟨ret_bool (listB_true (take_eq_all HN.out HM.out HT.out)).symm, HB.out⟩
  · have HF : Hid (listB es fs = false) := listB_false fun e => by
      rw [e, HM.out] at HN
      exact hnm HN.out.symm
    go_enter Try.func32, Try.ntmps32
    go_wp2
    go_ret
    exact ⟨ret_bool HF.out.symm, Below.refl _ _⟩
theorem sameL_any {w : World} {lo lo2 n m : Nat} {v v2 : Value} {es fs : List Ev} (h : Evs w lo v n es) (h2 : Evs w lo2 v2 m fs) (hn : n ≤ 1000000) (hfew : ∀ e ∈ es, e.hs.length ≤ 1000000) :
    Calls Try.prog 17 #[v, v2] w fun o w' => o = .returned (.bool (listB es fs)) ∧ Below w.heap.size w w' := by
  have HE := Lib.hid (equalFunc_any h h2 hn hfew)
  go_enter Try.func17, Try.ntmps17
  go_wp2_with (go_at_call 32; refine HE.out.mono ?_; rintro o w3 ⟨rfl, hb3⟩; have HB3 := Lib.hid hb3; clear hb3)
  go_ret
  exact ⟨rfl, HB3.out⟩
end Go.Proofs.Ytlalbfpdelfnfaa
