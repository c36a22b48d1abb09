/-
  Layer 43 (mix): whether two scripts are one, by the reference. No condition but that both lie in memory.
-/
import Derived.Test.YtlalbfpdelfnfaaSameE
namespace Go.Proofs.Ytlalbfpdelfnfaa
open Go.RowKit
set_option linter.unusedVariables false

def listB : List Ev → List Ev → Bool
  | [], [] => true
  | e :: es, f :: fs => evB e f && listB es fs
  | _, _ => false
theorem listB_iff : ∀ (es fs : List Ev), listB es fs = true ↔ es = fs
  | [], [] => by simp [listB]
  | e :: es, f :: fs => by
    simp only [listB, Bool.and_eq_true, List.cons.injEq]
    rw [evB_iff, listB_iff es fs]
  | [], f :: fs => by simp [listB]
  | e :: es, [] => by simp [listB]
theorem listB_true {es fs : List Ev} (h : es = fs) : listB es fs = true := (listB_iff _ _).2 h
theorem listB_false {es fs : List Ev} (h : es ≠ fs) : listB es fs = false := by
  cases hb : listB es fs with
  | false => rfl
  | true => exact absurd ((listB_iff _ _).1 hb) h
theorem rSameE_b {w : World} {lo lo2 : Nat} {hv hv2 : Value} {e f : Ev} {b : Bool} (h : Hdr w lo hv e.hs) (h2 : Hdr w lo2 hv2 f.hs) (hn : e.hs.length ≤ 1000000) (hb : evB e f = b) :
    Calls Try.prog 31 #[evv e hv, evv f hv2] w fun o w' => o = .returned (.bool b) ∧ Below w.heap.size w w' := by
  rw [← hb]
  exact rSameE_any e f h h2 hn

set_option maxRecDepth 100000 in
set_option maxHeartbeats 2000000 in
theorem rSameL_any {w : World} {lo lo2 n m : Nat} {v v2 : Value} {es fs : List Ev} (h : Evs w lo v n es) (h2 : Evs w lo2 v2 m fs) (hn : n ≤ 1000000) (hfew : ∀ e ∈ es, e.hs.length ≤ 1000000) :
    Calls Try.prog 11 #[v, v2] w fun o w' => o = .returned (.bool (listB es fs)) ∧ Below w.heap.size w w' := by
  have HA := Lib.hid h
  have HC := Lib.hid h2
  have HN := Lib.hid h.len
  have HM := Lib.hid h2.len
  have HF := Lib.hid hfew
  obtain ⟨A, c, rfl⟩ := h.slice
  obtain ⟨A2, c2, rfl⟩ := h2.slice
  clear h h2 hfew
  by_cases hnm : n = m
  · subst hnm
    go_enter Try.func11, Try.ntmps11
    go_wp2
    go_loopw [5] (fun iv wr => ∃ i : Nat, iv = .int .i64 i ∧ i ≤ n ∧ Hid (es.take i = fs.take i) ∧ Hid (Below w.heap.size w wr)) (fun iv _ => n - (intOf iv).toNat)
    case atStart => exact ⟨0, rfl, Nat.zero_le _, Lib.hid rfl, Lib.hid (Below.refl _ _)⟩
    case round =>
      obtain ⟨i, rfl, hi, HT, HB⟩ := hrel
      by_cases hin : i < n
      · obtain ⟨g, off, A1, c1, hx, rfl, he, hh, ha1⟩ := evs_at HA.out HB.out.drew hin
        obtain ⟨g2, off2, A3, c3, hy, rfl, hf, hh2, ha2⟩ := evs_at HC.out HB.out.drew hin
        have HMORE := Lib.hid fun he => take_eq_more HT.out hx hy he
        have HNE := Lib.hid fun he => ne_at hx hy he
        have HH1 := Lib.hid hh.1
        have HH2 := Lib.hid hh2.1
        have HFE := Lib.hid (HF.out _ (List.getElem_mem hx))
        generalize es[i]'hx = e at he HMORE HNE HH1 HFE
        generalize fs[i]'hy = f at hf HMORE HNE HH2
        obtain ⟨b, hb⟩ : ∃ b, evB e f = b := ⟨_, rfl⟩
        have HBE := Lib.hid hb
        obtain ⟨d0, d1, d2, d3, d4, d5, d6, d7, d8⟩ := he
        obtain ⟨e0, e1, e2, e3, e4, e5, e6, e7, e8⟩ := hf
        obtain ⟨n1, hn1⟩ : ∃ n1, e.hs.length = n1 := ⟨_, rfl⟩
        obtain ⟨n2, hn2⟩ : ∃ n2, f.hs.length = n2 := ⟨_, rfl⟩
        rw [hn1] at d7 HH1
        rw [hn2] at e7 HH2
        clear hx hy hh hh2 ha1 ha2 hb hn1 hn2
        have HC31 := Lib.hid (rSameE_b HH1.out HH2.out HFE.out HBE.out)
        cases b
        · go_wp2_with fail
          go_still_tail 8, (by kernel_rfl)
          change wpList _ _ _ _ _ wr.drew
          go_wp2_with (go_at_call 31; refine HC31.out.mono ?_; rintro o w3 ⟨rfl, hb3⟩; have HB3 := Lib.hid hb3; clear hb3)
          go_ret
          exact ⟨ret_bool (listB_false (HNE.out fun h => by have := (evB_iff e f).2 h; rw [HBE.out] at this; cases this)).symm, HB.out.drew.trans (HB3.out.mono HB.out.drew.size)⟩
        · go_wp2_with fail
          go_still_tail 8, (by kernel_rfl)
          change wpList _ _ _ _ _ wr.drew
          go_wp2_with (go_at_call 31; refine HC31.out.mono ?_; rintro o w3 ⟨rfl, hb3⟩; have HB3 := Lib.hid hb3; clear hb3)
          go_roundw
          case rel => exact ⟨i + 1, by go_num, by omega, Lib.hid (HMORE.out ((evB_iff e f).1 HBE.out)), Lib.hid (HB.out.drew.trans (HB3.out.mono HB.out.drew.size))⟩
          case measure => simp [intOf]; omega
      · obtain rfl : i = n := by omega
        go_wp2
        go_ret
        exact ⟨ret_bool (listB_true (take_eq_all HN.out HM.out HT.out)).symm, HB.out⟩
  · have HF : Hid (listB es fs = false) := listB_false fun e => by
      rw [e, HM.out] at HN
      exact hnm HN.out.symm
    go_enter Try.func11, Try.ntmps11
    go_wp2
    go_ret
    exact ⟨ret_bool HF.out.symm, Below.refl _ _⟩
end Go.Proofs.Ytlalbfpdelfnfaa
