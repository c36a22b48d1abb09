/-
  Layer 43 (mix): events in memory of their own, somewhat cut. No condition but that what comes in lies in memory.
-/
import Derived.Test.YtlalbfpdelfnfaaOwn
namespace Go.Proofs.Ytlalbfpdelfnfaa
open Go.RowKit
set_option linter.unusedVariables false

theorem cut_any (s : ByteArray) (m : Nat) (hm : m ≤ 1000) (hs : s.size ≤ maxLen) (w : World) : Calls Try.prog 40 #[.string s, .int .i64 m] w fun e w' => e = .returned (.string (s.extract 0 m)) ∧ w = w' := by
  unfold maxLen at hs
  obtain ⟨x, hx⟩ : ∃ x, s.extract 0 m = x := ⟨_, rfl⟩
  have HX := Lib.hid hx
  rw [hx]
  clear hx
  by_cases h : m < s.size
  · go_enter Try.func40, Try.ntmps40
    go_wp2
    go_ret
    exact ⟨ret_string (by rw [← HX.out]), rfl⟩
  · have HE := Lib.hid (extract_all s m (by omega))
    go_enter Try.func40, Try.ntmps40
    go_wp2
    go_ret
    exact ⟨ret_string (by rw [← HX.out, HE.out]), rfl⟩

/-- A header, somewhat cut. -/
def cutH (h : ByteArray × ByteArray) : ByteArray × ByteArray := (h.1.extract 0 30, h.2.extract 0 100)
def fewH (hs : List (ByteArray × ByteArray)) : List (ByteArray × ByteArray) := (hs.take 8).map cutH
def FineH (h : ByteArray × ByteArray) : Prop := h.1.size ≤ maxLen ∧ h.2.size ≤ maxLen

set_option maxRecDepth 100000 in
set_option maxHeartbeats 1000000 in
theorem hfew_any {w : World} {lo : Nat} {hv : Value} {hs : List (ByteArray × ByteArray)} (h : Hdr w lo hv hs) (hf : ∀ x ∈ hs, FineH x) :
    Calls Try.prog 52 #[hv, .int .i64 8] w fun o w' => ∃ A c, o = .returned (.slice A (fewH hs).length c) ∧ Rk w' w.heap.size 34 2 (.slice A (fewH hs).length c) (fewH hs).length ((fewH hs).flatMap hdc) ∧ Below w.heap.size w w' := by
  obtain ⟨i0, hi, hz0, hz1, hz2⟩ := info_parts infoH
  have HI := Lib.hid hi
  have HZ := Lib.hid hz0
  have HZ1 := Lib.hid hz1
  have HZ2 : Hid (i0.bytes ≤ 1000) := by unfold Hid; omega
  have HH := Lib.hid h
  have HF := Lib.hid hf
  have hlen := Rd.few h
  unfold maxLen at hlen
  obtain ⟨A0, c0, rfl⟩ := h.slice
  obtain ⟨n, hN⟩ : ∃ n, hs.length = n := ⟨_, rfl⟩
  have HN := Lib.hid hN
  rw [hN] at hlen HH ⊢
  clear hi hz0 hz1 hz2 h hf hN
  go_enter Try.func52, Try.ntmps52
  go_wp2
  go_loopw [5, 6] (fun o iv wr => ∃ (i c : Nat) (A : Option Addr), o = .slice A i c ∧ iv = .int .i64 i ∧ i ≤ n ∧ i ≤ 8 ∧ Hid (Rk wr w.heap.size 34 2 (.slice A i c) i (((hs.take i).map cutH).flatMap hdc)) ∧ Hid (Below w.heap.size w wr)) (fun _ iv _ => n - (intOf iv).toNat)
  case atStart => exact ⟨0, 0, some ⟨w.heap.size, 0, none⟩, rfl, rfl, Nat.zero_le _, Nat.zero_le _, Lib.hid (Rk.fresh w 34 2), Lib.hid ((Below.refl _ _).alloc (Nat.le_refl _) _)⟩
  case round =>
    obtain ⟨i, c, A, rfl, rfl, hi, hi8, HO, HB⟩ := hrel
    by_cases hin : i < n ∧ i < 8
    · obtain ⟨hl, h8⟩ := hin
      have hix : i < hs.length := by rw [HN.out]; exact hl
      obtain ⟨g, off, cap, hv2, hc1, hc2, _, hg, e0, e1⟩ := Hdr.get HH.out hix
      injection hv2 with q1 q2 q3
      subst q1
      subst q3
      have d0 : wr.cell? ⟨g, off + i * 2, none⟩ = _ := (HB.out.cell (p := ⟨g, off + i * 2, none⟩) hg).trans e0
      have d1 : wr.cell? ⟨g, off + i * 2 + 1, none⟩ = _ := (HB.out.cell (p := ⟨g, off + i * 2 + 1, none⟩) hg).trans e1
      have HT : Hid (hs.take (i + 1) = hs.take i ++ [hs[i]]) := List.take_succ_eq_append_getElem hix
      have hfx := HF.out _ (List.getElem_mem hix)
      generalize hs[i]'hix = x at d0 d1 HT hfx
      obtain ⟨a, b⟩ := x
      obtain ⟨a', ha'⟩ : ∃ a', a.extract 0 30 = a' := ⟨_, rfl⟩
      obtain ⟨b', hb'⟩ : ∃ b', b.extract 0 100 = b' := ⟨_, rfl⟩
      have HX : Hid (cutH (a, b) = (a', b')) := by unfold Hid cutH; rw [← ha', ← hb']
      have HC : Hid (∀ x m y w, (x = a ∧ m = 30 ∧ y = a' ∨ x = b ∧ m = 100 ∧ y = b') → Calls Try.prog 40 #[.string x, .int .i64 m] w fun e w' => e = .returned (.string y) ∧ w = w') := by
        intro x m y w h
        rcases h with ⟨rfl, rfl, rfl⟩ | ⟨rfl, rfl, rfl⟩
        · rw [← ha']
          exact cut_any x 30 (by decide) hfx.1 w
        · rw [← hb']
          exact cut_any x 100 (by decide) hfx.2 w
      rw [HN.out] at hc1 q2
      clear hix e0 e1 hfx q2 hc2 hc1 ha' hb'
      have HKP : Hid (∀ W, Below w.heap.size wr W → W.cell? ⟨g, off + i * 2, none⟩ = some (.string a) ∧ W.cell? ⟨g, off + i * 2 + 1, none⟩ = some (.string b)) := fun W hW => ⟨(hW.cell (p := ⟨g, _, none⟩) hg).trans d0, (hW.cell (p := ⟨g, _, none⟩) hg).trans d1⟩
      have hbd : Below w.heap.size wr (wr.alloc (.cells #[.string a', .string b'] 34)).drew := ((Below.refl _ _).alloc HB.out.size _).drew
      have HBD := Lib.hid hbd
      have HO2 : Hid (Rk (wr.alloc (.cells #[.string a', .string b'] 34)).drew w.heap.size 34 2 (.slice A i c) i (((hs.take i).map cutH).flatMap hdc)) := Rk.keep HO.out fun j hj => Below.heap_alloc wr _ j (HO.out.lt j hj).2
      have HS : Hid (Src Try.prog 2 28 (.slice (some ⟨wr.heap.size, 0, none⟩) 1 1) 1 [.string a', .string b'] (wr.alloc (.cells #[.string a', .string b'] 34)).drew) :=
        Src.lit (w := (wr.alloc (.cells #[.string a', .string b'] 34)).drew) (b := wr.heap.size) (cs := #[.string a', .string b']) (m := (0, 0)) Try.underlying28 (heap_alloc_new wr _) 1 1 rfl (fun u hu => by simp at hu; rcases hu with rfl | rfl <;> rfl)
      have HSZ : Hid (w.heap.size ≤ (wr.alloc (.cells #[.string a', .string b'] 34)).drew.heap.size) := Nat.le_trans HB.out.size HBD.out.size
      have HL : Hid (i + 1 ≤ 1000000000) := by unfold Hid; omega
      clear d0 d1 hbd
      go_wp2_with fail
      go_region_held3 (fun w' => w'.cell? ⟨g, off + i * 2, none⟩ = some (.string a) ∧ w'.cell? ⟨g, off + i * 2 + 1, none⟩ = some (.string b))
        ((first | exact HKP.out _ (Below.refl _ _).drew | exact HKP.out _ HBD.out | exact HKP.out _ (by assumption)))
        (first
          | (go_at_call 40; (with_reducible refine (HC.out _ _ _ _ (by first | exact .inl ⟨rfl, rfl, rfl⟩ | exact .inr ⟨rfl, rfl, rfl⟩)).mono ?_); rintro e wn ⟨rfl, rfl⟩)
          | (refine step_append_rk rfl (.tmp 19) (.tmp 33) 28 rfl w.heap.size 34 i0 _ 2 Try.underlying28 HI.out HZ.out HZ1.out HZ2.out rfl _ i _ rfl HO2.out _ 1 _ rfl HS.out HL.out HSZ.out ?_; intro A' c' w5 hr hg5 _; have HR := Lib.hid hr; have HG := Lib.hid hg5; have hbx : Below w.heap.size wr w5 := HBD.out.grown HG.out HSZ.out (fun b hb => (HO2.out.lt b hb).1); clear hr hg5))
      go_wp2_with fail
      go_roundw
      case rel =>
        refine ⟨i + 1, c', A', rfl, by go_num, by omega, by omega, ?_, ?_⟩
        · unfold Hid
          rw [HT.out, List.map_append, List.flatMap_append]
          simp only [List.map_cons, List.map_nil, HX.out, List.flatMap_cons, List.flatMap_nil, List.append_nil]
          exact HR.out
        · exact Lib.hid (HB.out.trans hbx)
      case measure => simp [intOf]; omega
    · have HL8 : Hid ((fewH hs).length = i) := by
        unfold Hid fewH
        rw [List.length_map, List.length_take, HN.out]
        omega
      have HE : Hid (fewH hs = (hs.take i).map cutH) := by
        unfold Hid fewH
        by_cases h8 : i = 8
        · rw [h8]
        · rw [List.take_of_length_le (by rw [HN.out]; omega), List.take_of_length_le (by rw [HN.out]; omega)]
      have hE2 : ∃ A c, Value.slice A i c = .slice A (fewH hs).length c := ⟨none, 0, by rw [HL8.out]⟩
      clear hE2
      by_cases hl : i < n
      · have h8 : ¬ ((i : Int) < 8) := by omega
        clear hin
        go_wp2
        go_ret
        refine ⟨A, c, (by rw [HL8.out]; rfl), ?_, HB.out⟩
        rw [HL8.out, HE.out]
        exact HO.out
      · clear hin
        go_wp2
        go_ret
        refine ⟨A, c, (by rw [HL8.out]; rfl), ?_, HB.out⟩
        rw [HL8.out, HE.out]
        exact HO.out
end Go.Proofs.Ytlalbfpdelfnfaa
