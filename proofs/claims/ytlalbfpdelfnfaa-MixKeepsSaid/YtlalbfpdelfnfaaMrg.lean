/-
  Layer 43 (mix): two lists merged by turns, by the document. No condition but that what comes in lies in memory.
-/
import Derived.Test.YtlalbfpdelfnfaaPush
namespace Go.Proofs.Ytlalbfpdelfnfaa
open Go.RowKit
set_option linter.unusedVariables false

/-- Two lists merged: where a turn is true the first gives. -/
def mrg : List Bool → List Ev → List Ev → List Ev
  | _, [], fs => fs
  | _, a :: es, [] => a :: es
  | ts, a :: es, b :: fs => if ts.headD false then a :: mrg ts.tail es (b :: fs) else b :: mrg ts.tail (a :: es) fs
termination_by _ es fs => es.length + fs.length
theorem mrg_nil (ts : List Bool) (es : List Ev) : mrg ts es [] = es := by
  cases es <;> simp [mrg]
theorem mrg_nil' (ts : List Bool) (fs : List Ev) : mrg ts [] fs = fs := by simp [mrg]
theorem mrg_a {ts : List Bool} {a : Ev} {es fs : List Ev} (h : fs = [] ∨ ts.headD false = true) : mrg ts (a :: es) fs = a :: mrg ts.tail es fs := by
  cases fs with
  | nil => rw [mrg_nil, mrg_nil]
  | cons b fs =>
    rcases h with h | h
    · cases h
    · rw [mrg, if_pos h]
theorem mrg_b {ts : List Bool} {b : Ev} {es fs : List Ev} (h : es = [] ∨ ts.headD false = false) : mrg ts es (b :: fs) = b :: mrg ts.tail es fs := by
  cases es with
  | nil => rw [mrg_nil', mrg_nil']
  | cons a es =>
    rcases h with h | h
    · cases h
    · rw [mrg, if_neg (by rw [h]; decide)]
theorem mrg_len (ts : List Bool) (es fs : List Ev) : (mrg ts es fs).length = es.length + fs.length := by
  induction ts, es, fs using mrg.induct with
  | case1 => simp [mrg]
  | case2 => simp [mrg]
  | case3 ts a es b fs h ih => rw [mrg, if_pos h]; simp [ih]; omega
  | case4 ts a es b fs h ih => rw [mrg, if_neg h]; simp [ih]; omega

/-- Turns, the way they are read. -/
def Tn (w : World) (v : Value) (n : Nat) (ts : List Bool) : Prop := Rd w 0 1 v n (ts.map Value.bool)
section
variable {w w' : World} {v : Value} {n : Nat} {ts : List Bool}
theorem Tn.len (h : Tn w v n ts) : ts.length = n := by simpa using Rd.len h
theorem Tn.below (h : Tn w v n ts) (hb : Below w.heap.size w w') : Tn w' v n ts := Rd.below h hb (Nat.le_refl _)
theorem Tn.slice (h : Tn w v n ts) : ∃ A c, v = .slice A n c := Rd.slice h
theorem Tn.get (h : Tn w v n ts) {j : Nat} (hj : j < n) : ∃ g off cap, v = .slice (some ⟨g, off, none⟩) n cap ∧ w.cell? ⟨g, off + j, none⟩ = some (.bool (ts[j]'(by rw [h.len]; exact hj))) ∧ n ≤ cap ∧ cap ≤ maxLen := by
  obtain ⟨g, off, cap, rfl, _, _, hx, hc1, hc2⟩ := Rd.get h hj
  obtain ⟨u, hu, hcell⟩ := hx 0 (by omega)
  have hl := h.len
  rw [Nat.mul_one, Nat.add_zero] at hu hcell
  rw [List.getElem?_map, List.getElem?_eq_getElem (by omega)] at hu
  injection hu with hu
  subst hu
  exact ⟨g, off, cap, rfl, hcell, hc1, hc2⟩
end
theorem head_drop {ts : List Bool} {k : Nat} (h : k < ts.length) : (ts.drop k).headD false = ts[k] := by
  rw [List.drop_eq_getElem_cons h]
  rfl
theorem head_past {ts : List Bool} {k : Nat} (h : ts.length ≤ k) : (ts.drop k).headD false = false := by
  rw [List.drop_of_length_le h]
  rfl

set_option maxRecDepth 100000 in
set_option maxHeartbeats 2000000 in
theorem rMerge_any {w : World} {lo lo2 n m nt : Nat} {v v2 v3 : Value} {es fs : List Ev} {ts : List Bool} (h : Evs w lo v n es) (h2 : Evs w lo2 v2 m fs) (h3 : Tn w v3 nt ts) (hn : n ≤ 1000000) (hm : m ≤ 1000000) :
    Calls Try.prog 15 #[v, v2, v3] w (Made_ w 0 (mrg ts es fs)) := by
  have HA := Lib.hid (h.base (Nat.zero_le _))
  have HC := Lib.hid (h2.base (Nat.zero_le _))
  have HT := Lib.hid h3
  have HN := Lib.hid h.len
  have HM := Lib.hid h2.len
  have HNT := Lib.hid h3.len
  have hnt : nt ≤ 9223372036854775807 := Nat.le_trans (Rd.few h3) (by decide +kernel)
  obtain ⟨A0, c0, rfl⟩ := h.slice
  obtain ⟨A1, c1, rfl⟩ := h2.slice
  obtain ⟨A2, c2, rfl⟩ := h3.slice
  clear h h2 h3
  go_enter Try.func15, Try.ntmps15
  go_wp2
  go_loopw [7, 8, 9, 10] (fun o iv jv kv wr => ∃ (i j k c : Nat) (A : Option Addr) (os : List Ev), o = .slice A k c ∧ iv = .int .i64 i ∧ jv = .int .i64 j ∧ kv = .int .i64 k ∧ i ≤ n ∧ j ≤ m ∧ k = i + j ∧ Hid (Outs wr w.heap.size 0 (.slice A k c) k os) ∧ Hid (mrg ts es fs = os ++ mrg (ts.drop k) (es.drop i) (fs.drop j)) ∧ Hid (Below w.heap.size w wr)) (fun _ iv jv _ _ => (n - (intOf iv).toNat) + (m - (intOf jv).toNat))
  case atStart => exact ⟨0, 0, 0, 0, some ⟨w.heap.size, 0, none⟩, [], rfl, rfl, rfl, rfl, Nat.zero_le _, Nat.zero_le _, rfl, Lib.hid (Outs.fresh w 0), Lib.hid rfl, Lib.hid ((Below.refl _ _).alloc (Nat.le_refl _) _)⟩
  case round =>
    obtain ⟨i, j, k, c, A, os, rfl, rfl, rfl, rfl, hi, hj, hk, HO, HR, HB⟩ := hrel
    have hHB := HB.out
    have stepA : ∀ (hin : i < n) (ht : j = m ∨ (ts.drop k).headD false = true), ∀ e, es[i]? = some e → Hid (mrg ts es fs = (os ++ [e]) ++ mrg (ts.drop (k + 1)) (es.drop (i + 1)) (fs.drop j)) := by
      intro hin ht e he
      unfold Hid
      have hil : i < es.length := by rw [HN.out]; exact hin
      rw [List.getElem?_eq_getElem hil] at he
      injection he with he
      rw [HR.out, List.drop_eq_getElem_cons hil, mrg_a (ht.imp (fun h => List.drop_of_length_le (by rw [HM.out, h]; exact Nat.le_refl _)) id), List.tail_drop, he]
      simp
    have stepB : ∀ (hjm : j < m) (ht : i = n ∨ (ts.drop k).headD false = false), ∀ e, fs[j]? = some e → Hid (mrg ts es fs = (os ++ [e]) ++ mrg (ts.drop (k + 1)) (es.drop i) (fs.drop (j + 1))) := by
      intro hjm ht e he
      unfold Hid
      have hjl : j < fs.length := by rw [HM.out]; exact hjm
      rw [List.getElem?_eq_getElem hjl] at he
      injection he with he
      rw [HR.out, List.drop_eq_getElem_cons hjl, mrg_b (ht.imp (fun h => List.drop_of_length_le (by rw [HN.out, h]; exact Nat.le_refl _)) id), List.tail_drop, he]
      simp
    by_cases hin : i < n
    · by_cases hjm : j < m
      · have hjb : decide ((j : Int) = (m : Int)) = false := by simp; omega
        have hjb2 : ((j : Int) == (m : Int)) = false := by simp; omega
        have hjb3 : (j == m) = false := by simp; omega
        by_cases hkt : k < nt
        · have hkl : k < ts.length := by rw [HNT.out]; exact hkt
          obtain ⟨gt, ot, ct, qt, hct, hct1, hct2⟩ := (HT.out.below HB.out).get hkt
          injection qt with qt _ qt'
          subst qt qt'
          have hd := head_drop hkl
          obtain ⟨tb, htb⟩ : ∃ tb, ts[k] = tb := ⟨_, rfl⟩
          rw [htb] at hct hd
          have HD := Lib.hid hd
          clear hd htb hkl
          cases tb
          · -- the second gives
            obtain ⟨g, off, A3, c3, hix, rfl, he, hh, ha⟩ := evs_at HC.out HB.out hjm
            have HS := stepB hjm (.inr HD.out) _ (List.getElem?_eq_getElem hix)
            have HP := Lib.hid (Pushing.mk' HO.out hh ha HB.out.size (by omega))
            generalize fs[j]'hix = e at he HS HP
            obtain ⟨d0, d1, d2, d3, d4, d5, d6, d7, d8⟩ := he
            obtain ⟨n1, hn1⟩ : ∃ n1, e.hs.length = n1 := ⟨_, rfl⟩
            rw [hn1] at d7 HP
            clear hix hh ha hn1
            clear stepA stepB hHB
            have HKK := Lib.hid hk
            have hkb : k ≤ 2000000 := by omega
            clear hk
            go_wp2_with (at_builtin; refine wpList_push rfl (.tmp 55) (.tmp 60) rfl HP.out rfl rfl ?_; intro A' c' w5 ho hb; have HO5 := Lib.hid ho; have HB5 := Lib.hid hb; clear ho hb)
            go_roundw
            case rel => exact ⟨i, j + 1, k + 1, c', A', _, rfl, by go_num, by go_num, by go_num, by omega, by omega, (by have := HKK.out; omega), HO5, HS, Lib.hid (HB.out.trans HB5.out)⟩
            case measure => simp [intOf]; omega
          · -- the first gives
            obtain ⟨g, off, A3, c3, hix, rfl, he, hh, ha⟩ := evs_at HA.out HB.out hin
            have HS := stepA hin (.inr HD.out) _ (List.getElem?_eq_getElem hix)
            have HP := Lib.hid (Pushing.mk' HO.out hh ha HB.out.size (by omega))
            generalize es[i]'hix = e at he HS HP
            obtain ⟨d0, d1, d2, d3, d4, d5, d6, d7, d8⟩ := he
            obtain ⟨n1, hn1⟩ : ∃ n1, e.hs.length = n1 := ⟨_, rfl⟩
            rw [hn1] at d7 HP
            clear hix hh ha hn1
            clear stepA stepB hHB
            have HKK := Lib.hid hk
            have hkb : k ≤ 2000000 := by omega
            clear hk
            go_wp2_with (at_builtin; refine wpList_push rfl (.tmp 46) (.tmp 51) rfl HP.out rfl rfl ?_; intro A' c' w5 ho hb; have HO5 := Lib.hid ho; have HB5 := Lib.hid hb; clear ho hb)
            go_roundw
            case rel => exact ⟨i + 1, j, k + 1, c', A', _, rfl, by go_num, by go_num, by go_num, by omega, by omega, (by have := HKK.out; omega), HO5, HS, Lib.hid (HB.out.trans HB5.out)⟩
            case measure => simp [intOf]; omega
        · have HD := Lib.hid (head_past (ts := ts) (k := k) (by rw [HNT.out]; omega))
          obtain ⟨g, off, A3, c3, hix, rfl, he, hh, ha⟩ := evs_at HC.out HB.out hjm
          have HS := stepB hjm (.inr HD.out) _ (List.getElem?_eq_getElem hix)
          have HP := Lib.hid (Pushing.mk' HO.out hh ha HB.out.size (by omega))
          generalize fs[j]'hix = e at he HS HP
          obtain ⟨d0, d1, d2, d3, d4, d5, d6, d7, d8⟩ := he
          obtain ⟨n1, hn1⟩ : ∃ n1, e.hs.length = n1 := ⟨_, rfl⟩
          rw [hn1] at d7 HP
          clear hix hh ha hn1
          clear stepA stepB hHB
          have HKK := Lib.hid hk
          have hkb : k ≤ 2000000 := by omega
          clear hk
          go_wp2_with (at_builtin; refine wpList_push rfl (.tmp 55) (.tmp 60) rfl HP.out rfl rfl ?_; intro A' c' w5 ho hb; have HO5 := Lib.hid ho; have HB5 := Lib.hid hb; clear ho hb)
          go_roundw
          case rel => exact ⟨i, j + 1, k + 1, c', A', _, rfl, by go_num, by go_num, by go_num, by omega, by omega, (by have := HKK.out; omega), HO5, HS, Lib.hid (HB.out.trans HB5.out)⟩
          case measure => simp [intOf]; omega
      · obtain rfl : j = m := by omega
        obtain ⟨g, off, A3, c3, hix, rfl, he, hh, ha⟩ := evs_at HA.out HB.out hin
        have HS := stepA hin (.inl rfl) _ (List.getElem?_eq_getElem hix)
        have HP := Lib.hid (Pushing.mk' HO.out hh ha HB.out.size (by omega))
        generalize es[i]'hix = e at he HS HP
        obtain ⟨d0, d1, d2, d3, d4, d5, d6, d7, d8⟩ := he
        obtain ⟨n1, hn1⟩ : ∃ n1, e.hs.length = n1 := ⟨_, rfl⟩
        rw [hn1] at d7 HP
        clear hix hh ha hn1
        clear stepA stepB hHB
        have HKK := Lib.hid hk
        have hkb : k ≤ 2000000 := by omega
        clear hk
        go_wp2_with (at_builtin; refine wpList_push rfl (.tmp 46) (.tmp 51) rfl HP.out rfl rfl ?_; intro A' c' w5 ho hb; have HO5 := Lib.hid ho; have HB5 := Lib.hid hb; clear ho hb)
        go_roundw
        case rel => exact ⟨i + 1, j, k + 1, c', A', _, rfl, by go_num, by go_num, by go_num, by omega, by omega, (by have := HKK.out; omega), HO5, HS, Lib.hid (HB.out.trans HB5.out)⟩
        case measure => simp [intOf]; omega
    · obtain rfl : i = n := by omega
      by_cases hjm : j < m
      · have hjb : decide ((j : Int) = (m : Int)) = false := by simp; omega
        have hjb2 : ((j : Int) == (m : Int)) = false := by simp; omega
        have hjb3 : (j == m) = false := by simp; omega
        obtain ⟨g, off, A3, c3, hix, rfl, he, hh, ha⟩ := evs_at HC.out HB.out hjm
        have HS := stepB hjm (.inl rfl) _ (List.getElem?_eq_getElem hix)
        have HP := Lib.hid (Pushing.mk' HO.out hh ha HB.out.size (by omega))
        generalize fs[j]'hix = e at he HS HP
        obtain ⟨d0, d1, d2, d3, d4, d5, d6, d7, d8⟩ := he
        obtain ⟨n1, hn1⟩ : ∃ n1, e.hs.length = n1 := ⟨_, rfl⟩
        rw [hn1] at d7 HP
        clear hix hh ha hn1
        clear stepA stepB hHB
        have HKK := Lib.hid hk
        have hkb : k ≤ 2000000 := by omega
        clear hk
        go_wp2_with (at_builtin; refine wpList_push rfl (.tmp 55) (.tmp 60) rfl HP.out rfl rfl ?_; intro A' c' w5 ho hb; have HO5 := Lib.hid ho; have HB5 := Lib.hid hb; clear ho hb)
        go_roundw
        case rel => exact ⟨i, j + 1, k + 1, c', A', _, rfl, by go_num, by go_num, by go_num, by omega, by omega, (by have := HKK.out; omega), HO5, HS, Lib.hid (HB.out.trans HB5.out)⟩
        case measure => simp [intOf]; omega
      · obtain rfl : j = m := by omega
        have HE : Hid (mrg ts es fs = os) := by
          unfold Hid
          rw [HR.out, show fs.drop j = [] from List.drop_of_length_le (by rw [HM.out]; exact Nat.le_refl _), mrg_nil, List.drop_of_length_le (by rw [HN.out]; exact Nat.le_refl _), List.append_nil]
        clear stepA stepB hHB
        have HKK := Lib.hid hk
        clear hk
        go_wp2
        go_ret
        rw [HE.out]
        exact Made_.mk' HO.out (Nat.zero_le _) HB.out
end Go.Proofs.Ytlalbfpdelfnfaa
