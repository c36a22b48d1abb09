/-
  Layer 43 (mix): one more event for a list of the call's own: what is asked, and what comes of it. No condition.
-/
import Derived.Test.YtlalbfpdelfnfaaList
namespace Go.Proofs.Ytlalbfpdelfnfaa
open Go.RowKit
set_option linter.unusedVariables false

/-- An event of a list that is read, in a later world. -/
theorem evs_at {w wr : World} {lo n c0 i : Nat} {A0 : Option Addr} {es : List Ev} (h : Evs w lo (.slice A0 n c0) n es) (hb : Below w.heap.size w wr) (hl : i < n) :
    ∃ g off A1 c1, ∃ hix : i < es.length, A0 = some ⟨g, off, none⟩ ∧ EvAt wr g (off + i * 9) es[i] (.slice A1 es[i].hs.length c1) ∧ Hds wr lo (.slice A1 es[i].hs.length c1) es[i].hs ∧ Apart wr w.heap.size (.slice A1 es[i].hs.length c1) := by
  obtain ⟨g, off, cap, hv, hv2, hc1, hc2, _, hg, he, hh⟩ := EvsG.get h hl
  injection hv2 with q1 q2 q3
  obtain ⟨A1, c1, rfl⟩ := hh.slice
  exact ⟨g, off, A1, c1, by rw [h.len]; exact hl, q1, EvAt.below he hb, hh.below hb, fun j hj => .inl (hh.2 j hj)⟩

/-- The world in which one more event has been laid, to be appended. -/
structure Pushing (w : World) (B lo : Nat) (A : Option Addr) (c j : Nat) (os : List Ev) (wr : World) (e : Ev) : Prop where
  few : j + 1 ≤ 1000000000
  size : B ≤ w.heap.size
  ex : ∃ xs ys, Rk w B 32 9 (.slice A j c) j xs ∧ Src Try.prog 9 22 (.slice (some ⟨wr.heap.size, 0, none⟩) 1 1) 1 ys w ∧ (∀ A' c' w5, Rk w5 B 32 9 (.slice A' (j + 1) c') (j + 1) (xs ++ ys) → w.grownBy w5 (Value.slice A j c).ownBlock → Outs w5 B lo (.slice A' (j + 1) c') (j + 1) (os ++ [e]) ∧ Below B wr w5)
theorem Pushing.mk' {wr : World} {B lo c j n1 c1 : Nat} {A A1 : Option Addr} {os : List Ev} {e : Ev} (h : Outs wr B lo (.slice A j c) j os) (hh : Hds wr lo (.slice A1 n1 c1) e.hs) (ha : Apart wr B (.slice A1 n1 c1)) (hB : B ≤ wr.heap.size) (hj : j + 1 ≤ 1000000000) :
    Pushing (wr.alloc (.cells #[.int .i64 e.k, .int .i64 e.id, .string e.url, .string e.frm, .string e.mode, .int .i64 e.med, .int .i64 e.st, .slice A1 n1 c1, .string e.body] 32)) B lo A c j os wr e := by
  obtain ⟨ps, h1, h2, h3, h4⟩ := h
  have hb : Below wr.heap.size wr (wr.alloc (.cells #[.int .i64 e.k, .int .i64 e.id, .string e.url, .string e.frm, .string e.mode, .int .i64 e.med, .int .i64 e.st, .slice A1 n1 c1, .string e.body] 32)) := (Below.refl _ _).alloc (Nat.le_refl _) _
  have h3' := h3.below hb (Nat.le_refl _)
  refine ⟨hj, Nat.le_trans hB hb.size, _, _, h3', evc_src wr e A1 n1 c1, fun A' c' w5 hr hg => ⟨?_, (hb.mono hB).grown hg (Nat.le_trans hB hb.size) fun b hb => (h3'.lt b hb).1⟩⟩
  exact Outs.snoc h1 h2 (fun p hp => ⟨(h4 p hp).1.below hb, (h4 p hp).2.below hb⟩) (hh.below hb) (ha.below hb) hr hg h3'.typed
theorem infoE' : ∃ i0, Try.prog.info? 32 = some i0 ∧ (∃ z, i0.zero = some z ∧ z.cells.size = 9) ∧ i0.size = 9 ∧ i0.bytes ≤ 1000 := by
  obtain ⟨i0, hi, hz0, hz1, hz2⟩ := info_parts infoE
  exact ⟨i0, hi, ⟨_, hz0, rfl⟩, hz1, by omega⟩
theorem wpList_push {ops : Array Oper} {rest : List Oper} {o : Oper} {a : Act} {w : World} {Q : Exit → Act → World → Prop} (hgd : o.guard = none) (s x : Operand)
    (ho : o.op = .call { callee := .builtin .append, args := #[s, x], argTypes := #[22, 22] }) {B lo : Nat} {A : Option Addr} {c j : Nat} {os : List Ev} {wr : World} {e : Ev} (hP : Pushing w B lo A c j os wr e)
    (hs : a.eval s = .slice A j c) (hx : a.eval x = .slice (some ⟨wr.heap.size, 0, none⟩) 1 1)
    (k : ∀ A' c' w', Outs w' B lo (.slice A' (j + 1) c') (j + 1) (os ++ [e]) → Below B wr w' → wpList Try.prog ops Q rest (a.put o.dst (.slice A' (j + 1) c')) w') : wpList Try.prog ops Q (o :: rest) a w := by
  obtain ⟨i0, hi, ⟨z, hz, hzc⟩, hsz, hby⟩ := infoE'
  obtain ⟨xs, ys, h1, h2, h3⟩ := hP.ex
  refine wpList_append_rk hgd s x 22 ho B 32 i0 z 9 Try.underlying22 hi hz hsz hby hzc _ j xs hs h1 _ 1 ys hx h2 hP.few hP.size fun A' c' w' hr hg _ => ?_
  obtain ⟨h4, h5⟩ := h3 A' c' w' hr hg
  exact k A' c' w' h4 h5
/-- The same, where the new block's number is spelled otherwise. -/
theorem wpList_push' {ops : Array Oper} {rest : List Oper} {o : Oper} {a : Act} {w : World} {Q : Exit → Act → World → Prop} (hgd : o.guard = none) (s x : Operand)
    (ho : o.op = .call { callee := .builtin .append, args := #[s, x], argTypes := #[22, 22] }) {B lo H : Nat} {A : Option Addr} {c j : Nat} {os : List Ev} {wr : World} {e : Ev} (hP : Pushing w B lo A c j os wr e) (hH : wr.heap.size = H)
    (hs : a.eval s = .slice A j c) (hx : a.eval x = .slice (some ⟨H, 0, none⟩) 1 1)
    (k : ∀ A' c' w', Outs w' B lo (.slice A' (j + 1) c') (j + 1) (os ++ [e]) → Below B wr w' → wpList Try.prog ops Q rest (a.put o.dst (.slice A' (j + 1) c')) w') : wpList Try.prog ops Q (o :: rest) a w := by
  subst hH
  exact wpList_push hgd s x ho hP hs hx k
theorem step_push {ops : Array Oper} {o : Oper} {a : Act} {w : World} {K : Act → World → Prop} {Q : Exit → Act → World → Prop} {E : Prop} (hgd : o.guard = none) (s x : Operand)
    (ho : o.op = .call { callee := .builtin .append, args := #[s, x], argTypes := #[22, 22] }) {B lo : Nat} {A : Option Addr} {c j : Nat} {os : List Ev} {wr : World} {e : Ev} (hP : Pushing w B lo A c j os wr e)
    (hs : a.eval s = .slice A j c) (hx : a.eval x = .slice (some ⟨wr.heap.size, 0, none⟩) 1 1)
    (k : ∀ A' c' w', Outs w' B lo (.slice A' (j + 1) c') (j + 1) (os ++ [e]) → Below B wr w' → K (a.put o.dst (.slice A' (j + 1) c')) w') :
    if Region.wanted o (yielded ops a.tmps) = true then Oper.wp Try.prog o a w K Q else E := by
  obtain ⟨i0, hi, ⟨z, hz, hzc⟩, hsz, hby⟩ := infoE'
  obtain ⟨xs, ys, h1, h2, h3⟩ := hP.ex
  refine step_append_rk hgd s x 22 ho B 32 i0 z 9 Try.underlying22 hi hz hsz hby hzc _ j xs hs h1 _ 1 ys hx h2 hP.few hP.size fun A' c' w' hr hg _ => ?_
  obtain ⟨h4, h5⟩ := h3 A' c' w' hr hg
  exact k A' c' w' h4 h5

/-- A list that a call has made: what is told of it. -/
def Made_ (w : World) (lo : Nat) (res : List Ev) (o : Ending) (w' : World) : Prop :=
  ∃ A c, o = .returned (.slice A res.length c) ∧ Evs w' lo (.slice A res.length c) res.length res ∧ Below w.heap.size w w'
theorem Made_.mk' {w w' : World} {lo k c : Nat} {A : Option Addr} {res : List Ev} (h : Outs w' w.heap.size lo (.slice A k c) k res) (hlo : lo ≤ w.heap.size) (hb : Below w.heap.size w w') : Made_ w lo res (.returned (.slice A k c)) w' := by
  obtain rfl := h.len
  exact ⟨A, c, rfl, h.evs hlo, hb⟩
theorem Made_.later {w w1 w' : World} {res : List Ev} {o : Ending} (hb : Below w.heap.size w w1) (h : Made_ w1 w1.heap.size res o w') : Made_ w w.heap.size res o w' := by
  obtain ⟨A, c, rfl, h1, h2⟩ := h
  exact ⟨A, c, rfl, h1.base hb.size, hb.trans (h2.mono hb.size)⟩

/-- The reference's Part. -/
def partL (id : Int) (es : List Ev) : List Ev := es.filter fun e => decide (e.id = id) || decide (e.k = 6)
set_option maxRecDepth 100000 in
set_option maxHeartbeats 1000000 in
theorem rPart_any {w : World} {lo n : Nat} {v : Value} {es : List Ev} (id : Int) (h : Evs w lo v n es) (hn : n ≤ 1000000) :
    Calls Try.prog 14 #[.int .i64 id, v] w (Made_ w 0 (partL id es)) := by
  have HH := Lib.hid (h.base (Nat.zero_le _))
  have HN := Lib.hid h.len
  obtain ⟨A0, c0, rfl⟩ := h.slice
  clear h
  go_enter Try.func14, Try.ntmps14
  go_wp2
  go_loopw [5, 6] (fun o iv wr => ∃ (i j c : Nat) (A : Option Addr), o = .slice A j c ∧ iv = .int .i64 i ∧ i ≤ n ∧ j ≤ i ∧ Hid (Outs wr w.heap.size 0 (.slice A j c) j (partL id (es.take i))) ∧ Hid (Below w.heap.size w wr)) (fun _ iv _ => n - (intOf iv).toNat)
  case atStart => exact ⟨0, 0, 0, some ⟨w.heap.size, 0, none⟩, rfl, rfl, Nat.zero_le _, Nat.le_refl _, Lib.hid (Outs.fresh w 0), Lib.hid ((Below.refl _ _).alloc (Nat.le_refl _) _)⟩
  case round =>
    obtain ⟨i, j, c, A, rfl, rfl, hi, hj, HO, HB⟩ := hrel
    by_cases hl : i < n
    · obtain ⟨g, off, A1, c1, hix, rfl, he, hh, ha⟩ := evs_at HH.out HB.out hl
      have HT : Hid (partL id (es.take (i + 1)) = partL id (es.take i) ++ if es[i].id = id ∨ es[i].k = 6 then [es[i]] else []) := by
        unfold Hid partL
        rw [List.take_succ_eq_append_getElem hix, List.filter_append]
        by_cases h : es[i].id = id ∨ es[i].k = 6 <;> simp [h]
      have HP := Lib.hid (Pushing.mk' HO.out hh ha HB.out.size (by omega))
      generalize es[i]'hix = e at he HT HP
      obtain ⟨d0, d1, d2, d3, d4, d5, d6, d7, d8⟩ := he
      obtain ⟨n1, hn1⟩ : ∃ n1, e.hs.length = n1 := ⟨_, rfl⟩
      rw [hn1] at d7 HP
      clear hix hh ha hn1
      by_cases hid : e.id = id
      · have HID := Lib.hid hid
        have hid' : (e.id == id) = true := by simpa using hid
        clear hid
        go_wp2_with (at_builtin; refine wpList_push rfl (.tmp 29) (.tmp 34) rfl HP.out rfl rfl ?_; intro A' c' w5 ho hb; have HO5 := Lib.hid ho; have HB5 := Lib.hid hb; clear ho hb)
        go_roundw
        case rel =>
          refine ⟨i + 1, j + 1, c', A', rfl, by go_num, by omega, by omega, ?_, Lib.hid (HB.out.trans HB5.out)⟩
          unfold Hid
          rw [HT.out, if_pos (.inl HID.out)]
          exact HO5.out
        case measure => simp [intOf]; omega
      · have hid' : (e.id == id) = false := by simpa using hid
        by_cases hk : e.k = 6
        · have hk' : (e.k == 6) = true := by simpa using hk
          have HK := Lib.hid hk
          clear hk
          go_wp2_with (at_builtin; refine wpList_push rfl (.tmp 29) (.tmp 34) rfl HP.out rfl rfl ?_; intro A' c' w5 ho hb; have HO5 := Lib.hid ho; have HB5 := Lib.hid hb; clear ho hb)
          go_roundw
          case rel =>
            refine ⟨i + 1, j + 1, c', A', rfl, by go_num, by omega, by omega, ?_, Lib.hid (HB.out.trans HB5.out)⟩
            unfold Hid
            rw [HT.out, if_pos (.inr HK.out)]
            exact HO5.out
          case measure => simp [intOf]; omega
        · have hk' : (e.k == 6) = false := by simpa using hk
          go_wp2
          go_roundw
          case rel =>
            refine ⟨i + 1, j, c, A, rfl, by go_num, by omega, by omega, ?_, HB⟩
            unfold Hid
            rw [HT.out, if_neg (fun h => h.elim hid hk), List.append_nil]
            exact HO.out
          case measure => simp [intOf]; omega
    · obtain rfl : i = n := by omega
      have HE : Hid (partL id (es.take i) = partL id es) := by unfold Hid; rw [List.take_of_length_le (by rw [HN.out]; exact Nat.le_refl _)]
      rw [HE.out] at HO
      go_wp2
      go_ret
      exact Made_.mk' HO.out (Nat.zero_le _) HB.out
end Go.Proofs.Ytlalbfpdelfnfaa
