/-
  Layer 43 (mix): the ids of a list of events, by the program. No condition but that the list is no longer than a million.
-/
import Derived.Test.YtlalbfpdelfnfaaIdsAid
namespace Go.Proofs.Ytlalbfpdelfnfaa
open Go.RowKit
set_option linter.unusedVariables false

/-- The ids of the events that are no ends. -/
def idsR (es : List Ev) : List Int := (es.filter fun e => !decide (e.k = 6)).map (·.id)
theorem idsR_more {es : List Ev} {i : Nat} (hi : i < es.length) : idsR (es.take (i + 1)) = idsR (es.take i) ++ if es[i].k = 6 then [] else [es[i].id] := by
  unfold idsR
  rw [List.take_succ_eq_append_getElem hi, List.filter_append, List.map_append]
  by_cases h : es[i].k = 6 <;> simp [h]
theorem info3 : (Try.prog.info? 3).map (fun i => (i.zero, i.size, i.bytes)) = some (some (.int .i64 0), 1, 8) := by kernel_rfl
theorem Row.base {w : World} {B B' : Nat} {e : TypeId} {v : Value} {n : Nat} {xs : List Value} (h : Row w B e v n xs) (hb : B' ≤ B) : Row w B' e v n xs :=
  ⟨h.1, h.2.imp id fun ⟨g, off, cap, cur, hv, hg, rest⟩ => ⟨g, off, cap, cur, hv, Nat.le_trans hb hg, rest⟩⟩
theorem new_int (w : World) (u : Int) : (w.alloc (.cells #[.int .i64 u] 3)).cell? ⟨w.heap.size, 0, none⟩ = some (.int .i64 u) := by
  rw [World.cell?_alloc_new]
  first | done | rfl
theorem wpList_int {ops : Array Oper} {rest : List Oper} {o : Oper} {a : Act} {w : World} {Q : Exit → Act → World → Prop} (hgd : o.guard = none) (s x : Operand)
    (ho : o.op = .call { callee := .builtin .append, args := #[s, x], argTypes := #[37, 37] }) {B : Nat} {A : Option Addr} {n cap : Nat} {zs : List Int} {ad : Addr} {u : Int} (hs : a.eval s = .slice A n cap) (h : Row w B 3 (.slice A n cap) n (zs.map vi)) (hx : a.eval x = .slice (some ad) 1 1)
    (hu : w.cell? ad = some (.int .i64 u)) (hn : n ≤ 1000000000) (hB : B ≤ w.heap.size)
    (k : ∀ A' c' w', Row w' B 3 (.slice A' (n + 1) c') (n + 1) ((zs ++ [u]).map vi) → (∀ w0, Below w0.heap.size w0 w → w0.heap.size ≤ B → Below w0.heap.size w0 w') → Below B w w' → wpList Try.prog ops Q rest (a.put o.dst (.slice A' (n + 1) c')) w') : wpList Try.prog ops Q (o :: rest) a w := by
  obtain ⟨i, hi, hz0, hz1, hz2⟩ := info_parts info3
  refine wpList_append_row hgd s x 37 ho B 3 i (.int .i64 0) Try.underlying37 hi hz0 hz1 (by omega) rfl (.slice A n cap) n _ hs h ad 1 (.int .i64 u) hx hu rfl hn hB fun A' c' w' hr hg => ?_
  have e : (zs ++ [u]).map vi = zs.map vi ++ [.int .i64 u] := by rw [List.map_append]; rfl
  rw [← e] at hr
  exact k A' c' w' hr (fun w0 h0 hB0 => h0.grown hg h0.size fun b hb => Nat.le_trans hB0 (h.lt b hb).1) ((Below.refl B w).grown hg hB fun b hb => (h.lt b hb).1)

set_option maxRecDepth 100000 in
set_option maxHeartbeats 1000000 in
theorem ids_any {w : World} {lo n : Nat} {v : Value} {es : List Ev} (h : Evs w lo v n es) (hn : n ≤ 1000000) :
    Calls Try.prog 21 #[v] w fun o w' => ∃ A c os, o = .returned (.slice A (List.length os) c) ∧ Row w' w.heap.size 3 (.slice A os.length c) os.length (os.map vi) ∧ os.length ≤ n ∧ Up os (idsR es) ∧ Below w.heap.size w w' := by
  have HH := Lib.hid (h.base (Nat.zero_le _))
  have HN := Lib.hid h.len
  obtain ⟨A0, c0, rfl⟩ := h.slice
  clear h
  go_enter Try.func21, Try.ntmps21
  go_wp2
  go_loopw [3, 8] (fun o iv wr => ∃ (i j c : Nat) (A : Option Addr), o = .slice A j c ∧ iv = .int .i64 i ∧ i ≤ n ∧ j ≤ i ∧ Hid (Row wr w.heap.size 3 (.slice A j c) j ((idsR (es.take i)).map vi)) ∧ Hid (Below w.heap.size w wr)) (fun _ iv _ => n - (intOf iv).toNat)
  case atStart => exact ⟨0, 0, 0, none, rfl, rfl, Nat.zero_le _, Nat.le_refl _, Lib.hid (Row.nil_ _ _ _), Lib.hid (Below.refl _ _)⟩
  case round =>
    obtain ⟨i, j, c, A, rfl, rfl, hi, hj, HO, HB⟩ := hrel
    by_cases hl : i < n
    · obtain ⟨g, off, A1, c1, hix, rfl, he, hh, ha⟩ := evs_at HH.out HB.out hl
      have HT := Lib.hid (idsR_more hix)
      generalize es[i]'hix = e at he HT
      obtain ⟨d0, d1, d2, d3, d4, d5, d6, d7, d8⟩ := he
      obtain ⟨n1, hn1⟩ : ∃ n1, e.hs.length = n1 := ⟨_, rfl⟩
      rw [hn1] at d7
      clear hix hh ha hn1
      have hj1 : j ≤ 1000000000 := by omega
      have HJ := Lib.hid hj1
      clear hj1
      obtain ⟨b, hb⟩ : ∃ b, (e.k == 6) = b := ⟨_, rfl⟩
      have HBK : Hid (decide (e.k = 6) = b) := by unfold Hid; rw [← hb]; rfl
      have hnb : (e.k != 6) = !b := by rw [← hb]; rfl
      cases b
      · have HB1 : Hid (Below wr.heap.size wr ((wr.alloc (.cells #[.int .i64 e.k, .int .i64 e.id, .string e.url, .string e.frm, .string e.mode, .int .i64 e.med, .int .i64 e.st, .slice A1 n1 c1, .string e.body] 32)).alloc (.cells #[.int .i64 e.id] 3))) := Lib.hid (((Below.refl _ _).alloc (Nat.le_refl _) _).alloc (by simp) _)
        have HO2 := Lib.hid (HO.out.below HB1.out (Nat.le_refl _))
        have HB3 := Lib.hid (below_then HB.out (Nat.le_refl _) HB1.out)
        have HCN := Lib.hid (new_int (wr.alloc (.cells #[.int .i64 e.k, .int .i64 e.id, .string e.url, .string e.frm, .string e.mode, .int .i64 e.med, .int .i64 e.st, .slice A1 n1 c1, .string e.body] 32)) e.id)
        rw [World.size_alloc] at HCN
        go_wp2_with (at_builtin; refine wpList_int rfl (.tmp 15) (.tmp 18) rfl rfl HO2.out rfl HCN.out HJ.out HB3.out.size ?_; intro A' c' w5 ho hb1 hb2; have HO5 := Lib.hid ho; have HB5 := Lib.hid hb2; clear ho hb1 hb2)
        go_roundw
        case rel =>
          refine ⟨i + 1, j + 1, c', A', rfl, by go_num, by omega, by omega, ?_, Lib.hid (HB3.out.trans HB5.out)⟩
          unfold Hid
          rw [HT.out, if_neg (of_decide_eq_false HBK.out)]
          exact HO5.out
        case measure => simp [intOf]; omega
      · have HB2 : Hid (Below wr.heap.size wr (wr.alloc (.cells #[.int .i64 e.k, .int .i64 e.id, .string e.url, .string e.frm, .string e.mode, .int .i64 e.med, .int .i64 e.st, .slice A1 n1 c1, .string e.body] 32))) := Lib.hid ((Below.refl _ _).alloc (Nat.le_refl _) _)
        go_wp2
        go_roundw
        case rel =>
          refine ⟨i + 1, j, c, A, rfl, by go_num, by omega, by omega, ?_, Lib.hid (below_then HB.out (Nat.le_refl _) HB2.out)⟩
          unfold Hid
          rw [HT.out, if_pos (of_decide_eq_true HBK.out), List.append_nil]
          exact HO.out.below HB2.out (Nat.le_refl _)
        case measure => simp [intOf]; omega
    · obtain rfl : i = n := by omega
      have HE : Hid (idsR (es.take i) = idsR es) := by unfold Hid; rw [List.take_of_length_le (by rw [HN.out]; exact Nat.le_refl _)]
      rw [HE.out] at HO
      have hj1 : j ≤ 1000000000 := by omega
      have HJ := Lib.hid hj1
      clear hj1
      go_wp2_with (first
        | (go_at_call 36; refine (sort36_any HO.out HJ.out).mono ?_; rintro o w2 ⟨rfl, hr, hb⟩; have HO2 := Lib.hid hr; have HB2 := Lib.hid hb; clear hr hb)
        | (go_at_call 37; refine (compact37_any HO2.out HJ.out).mono ?_; rintro o w3 ⟨rfl, hr, hb⟩; have HO3 := Lib.hid hr; have HB3 := Lib.hid hb; clear hr hb))
      go_ret
      refine ⟨_, _, _, rfl, HO3.out, ?_, sorted_compact _, (HB.out.trans HB2.out).trans HB3.out⟩
      have h1 := Lib.compact_length_le ((idsR es).mergeSort fun x y => decide (x ≤ y))
      have h2 : (idsR es).length = j := by simpa using HO.out.1
      rw [List.length_mergeSort, h2] at h1
      omega
end Go.Proofs.Ytlalbfpdelfnfaa
