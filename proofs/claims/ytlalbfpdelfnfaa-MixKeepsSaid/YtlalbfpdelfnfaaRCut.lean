/-
  Layer 43 (mix): events that are cut, by the reference. No condition but that what comes in lies in memory, one size, up to a thousand, is told, and there are not too many bytes.
-/
import Derived.Test.YtlalbfpdelfnfaaCut
import Derived.Test.YtlalbfpdelfnfaaTwo
namespace Go.Proofs.Ytlalbfpdelfnfaa
open Go.RowKit
set_option linter.unusedVariables false

/-- What is left of an event, behind so many rounds. -/
def cutQ (z m : Nat) (s : ByteArray) : List ByteArray := if m ≤ 4 then cutP z (4 - m) s else []
theorem cutQ_nil {z m : Nat} {s : ByteArray} (h : s.size = 0) : cutQ z m s = [] := by
  unfold cutQ
  split
  · cases 4 - m <;> simp [cutP, h]
  · rfl
theorem cutQ_step {z m : Nat} {s : ByteArray} (hm : m < 4) (h : ¬ s.size = 0) : cutQ z m s = s.extract 0 (min z s.size) :: cutQ z (m + 1) (s.extract (min z s.size) s.size) := by
  unfold cutQ
  rw [if_pos (by omega), if_pos (by omega)]
  obtain ⟨f, hf⟩ : ∃ f, 4 - m = f + 1 := ⟨3 - m, by omega⟩
  rw [hf, show 4 - (m + 1) = f by omega]
  simp only [cutP]
  rw [if_neg h]
theorem cutQ_last {z : Nat} {s : ByteArray} (h : ¬ s.size = 0) : cutQ z 4 s = s.extract 0 s.size :: cutQ z 5 (s.extract s.size s.size) := by
  unfold cutQ
  rw [if_pos (by omega), if_neg (by omega), ByteArray.extract_zero_size, Nat.sub_self]
  simp only [cutP]
  rw [if_neg h]
theorem cutL_more {z : Nat} {es : List Ev} {i : Nat} (hi : i < es.length) : cutL z (es.take (i + 1)) = cutL z (es.take i) ++ cutE z es[i] := by
  unfold cutL
  rw [List.take_succ_eq_append_getElem hi, List.flatMap_append]
  simp
theorem cutE_plain {z : Nat} {e : Ev} (h : ¬ e.k = 3 ∨ e.body.size = 0) : cutE z e = [e] := by
  unfold cutE
  split
  · rename_i hk
    have h0 := h.resolve_left (fun h => h hk)
    unfold pieces
    rw [if_pos h0]
    rfl
  · rfl
theorem cutE_cut {z : Nat} {e : Ev} (h : e.k = 3) (h0 : ¬ e.body.size = 0) : cutE z e = (cutQ z 0 e.body).map fun s => { e with body := s } := by
  unfold cutE cutQ pieces
  rw [if_pos h, if_neg h0, if_pos (by omega)]
theorem EvRow.body {w : World} {b : Nat} {e : Ev} {hv : Value} (h : EvRow w b e hv) (x : ByteArray) : EvRow (w.setCell ⟨b, 8, none⟩ (.string x)) b { e with body := x } hv := by
  unfold EvRow
  rw [blk_set h 8]
  rfl
/-- How it stands between two pieces of an event. -/
structure RI (w W : World) (be : Nat) (e : Ev) (hv v : Value) (j : Nat) (os : List Ev) (x : ByteArray) : Prop where
  below : Below w.heap.size w W
  outs : Outs W w.heap.size 0 v j os
  row : EvRow W be { e with body := x } hv
  off : ∀ r, v.ownBlock = some r → r ≠ be
  base : w.heap.size ≤ be
theorem RI.store {w W : World} {be j : Nat} {e : Ev} {hv v : Value} {os : List Ev} {x : ByteArray} (h : RI w W be e hv v j os x) (y : ByteArray) : RI w (W.setCell ⟨be, 8, none⟩ (.string y)) be e hv v j os y :=
  ⟨h.below.setCell (p := ⟨be, 8, none⟩) h.base _, h.outs.grown (row := some be) ⟨rfl, rfl, rfl, by simp [World.setCell], fun k _ hk => Below.heap_setCell W _ _ k fun e => hk (by rw [e])⟩ (fun b hb e => h.off b hb (Option.some.inj e)) (fun r hr => by cases hr; exact ⟨h.base, _, _, h.row⟩), h.row.body y, h.off, h.base⟩
theorem RI.later {w W W' : World} {be j : Nat} {e : Ev} {hv v : Value} {os : List Ev} {x : ByteArray} (h : RI w W be e hv v j os x) (hb : Below W.heap.size W W') : RI w W' be e hv v j os x :=
  ⟨below_then h.below (Nat.le_refl _) hb, h.outs.below hb, h.row.below hb, h.off, h.base⟩
theorem RI.push {w W W' : World} {be j c c' : Nat} {A A' : Option Addr} {e f : Ev} {hv : Value} {os : List Ev} {x : ByteArray} (h : RI w W be e hv (.slice A j c) j os x) (ho : Outs W' w.heap.size 0 (.slice A' (j + 1) c') (j + 1) (os ++ [f])) (hg : W.grownBy W' (Value.slice A j c).ownBlock)
    (hn : ∀ r, (Value.slice A' (j + 1) c').ownBlock = some r → (Value.slice A j c).ownBlock = some r ∨ W.heap.size ≤ r) : RI w W' be e hv (.slice A' (j + 1) c') (j + 1) (os ++ [f]) x :=
  ⟨h.below.grown hg h.below.size fun b hb => (h.outs.typed b hb).1, ho, h.row.keep (hg.block be h.row.lt fun e => h.off be e.symm rfl), fun r hr => (hn r hr).elim (h.off r) fun hle e => by have := h.row.lt; omega, h.base⟩
theorem step_pushN {ops : Array Oper} {o : Oper} {a : Act} {w : World} {K : Act → World → Prop} {Q : Exit → Act → World → Prop} {E : Prop} (hgd : o.guard = none) (s x : Operand)
    (ho : o.op = .call { callee := .builtin .append, args := #[s, x], argTypes := #[22, 22] }) {B lo H : Nat} {A : Option Addr} {c j : Nat} {os : List Ev} {wr : World} {e : Ev} (hP : Pushing w B lo A c j os wr e) (hH : wr.heap.size = H)
    (hs : a.eval s = .slice A j c) (hx : a.eval x = .slice (some ⟨H, 0, none⟩) 1 1)
    (k : ∀ A' c' w', Outs w' B lo (.slice A' (j + 1) c') (j + 1) (os ++ [e]) → w.grownBy w' (Value.slice A j c).ownBlock → (∀ r, (Value.slice A' (j + 1) c').ownBlock = some r → (Value.slice A j c).ownBlock = some r ∨ w.heap.size ≤ r) → K (a.put o.dst (.slice A' (j + 1) c')) w') :
    if Region.wanted o (yielded ops a.tmps) = true then Oper.wp Try.prog o a w K Q else E := by
  subst hH
  obtain ⟨i0, hi, ⟨z, hz, hzc⟩, hsz, hby⟩ := infoE'
  obtain ⟨xs, ys, h1, h2, h3⟩ := hP.ex
  exact step_append_rk hgd s x 22 ho B 32 i0 z 9 Try.underlying22 hi hz hsz hby hzc _ j xs hs h1 _ 1 ys hx h2 hP.few hP.size fun A' c' w' hr hg hn => k A' c' w' (h3 A' c' w' hr hg).1 hg hn

set_option maxRecDepth 100000 in
set_option maxHeartbeats 4000000 in
theorem rCut_any {w : World} {lo n z sb so cap : Nat} {v : Value} {es : List Ev} (h : Evs w lo v n es) (hn : n ≤ 1000) (hb : ∀ e ∈ es, e.body.size ≤ 100000) (hz : z ≤ 1000) (hc : w.cell? ⟨sb, so, none⟩ = some (.int .i64 z)) (hcap : 1 ≤ cap ∧ cap ≤ maxLen) :
    Calls Try.prog 12 #[v, .slice (some ⟨sb, so, none⟩) 1 cap] w (Made_ w 0 (cutL z es)) := by
  have HH := Lib.hid (h.base (Nat.zero_le _))
  have HN := Lib.hid h.len
  have HBD := Lib.hid hb
  have HC := Lib.hid hc
  obtain ⟨A0, c0, rfl⟩ := h.slice
  clear h hb hc
  go_enter Try.func12, Try.ntmps12
  go_wp2
  go_loopw [5, 6, 7] (fun ov kv iv wr => ∃ (i j c kk : Nat) (A : Option Addr), ov = .slice A j c ∧ kv = .int .i64 kk ∧ iv = .int .i64 i ∧ i ≤ n ∧ j ≤ 5 * i ∧ kk ≤ 5 * i ∧ Hid (Outs wr w.heap.size 0 (.slice A j c) j (cutL z (es.take i))) ∧ Hid (Below w.heap.size w wr)) (fun _ _ iv _ => n - (intOf iv).toNat)
  case atStart => exact ⟨0, 0, 0, 0, some ⟨w.heap.size, 0, none⟩, rfl, rfl, rfl, Nat.zero_le _, Nat.le_refl _, Nat.le_refl _, Lib.hid (Outs.fresh w 0), Lib.hid ((Below.refl _ _).alloc (Nat.le_refl _) _)⟩
  case round =>
    obtain ⟨i, j, c, kk, A, rfl, rfl, rfl, hi, hj, hkk, HO, HB⟩ := hrel
    by_cases hl : i < n
    · obtain ⟨g, off, A1, c1, hix, rfl, he0, hh, ha⟩ := evs_at HH.out (Below.refl _ _) hl
      have he := EvAt.below he0 (HB.out.mono (Nat.le_refl _))
      clear he0
      have hmore := cutL_more (z := z) hix
      have hbe := HBD.out _ (List.getElem_mem hix)
      have HHD : Hid (∀ W, Below w.heap.size w W → Hds W 0 (.slice A1 es[i].hs.length c1) es[i].hs ∧ Apart W w.heap.size (.slice A1 es[i].hs.length c1)) := fun W hW => ⟨hh.below hW, ha.below hW⟩
      generalize es[i]'hix = e at he hmore hbe HHD
      obtain ⟨os, hos⟩ : ∃ os, cutL z (es.take i) = os := ⟨_, rfl⟩
      rw [hos] at hmore HO
      have HT := Lib.hid hmore
      have HZ := Lib.hid (EvRow.zero wr)
      obtain ⟨d0, d1, d2, d3, d4, d5, d6, d7, d8⟩ := he
      obtain ⟨n1, hn1⟩ : ∃ n1, e.hs.length = n1 := ⟨_, rfl⟩
      rw [hn1] at d7 HHD
      have HWN : Hid (w.heap.size ≤ wr.heap.size) := HB.out.size
      obtain ⟨L, hL⟩ : ∃ L, e.body.size = L := ⟨_, rfl⟩
      have HLB : Hid (e.body.size = L) := hL
      clear hix hh ha hn1 hos hmore
      obtain ⟨b, hb⟩ : ∃ b, (e.k == 3) = b := ⟨_, rfl⟩
      have hbn : (e.k != 3) = !b := by rw [← hb]; rfl
      have HBK : Hid (decide (e.k = 3) = b) := by unfold Hid; rw [← hb]; rfl
      have HFR := Lib.hid (fun (W : World) (hW : EvRow W wr.heap.size e (.slice A1 n1 c1)) => EvRow.frozen hW 8)
      cases b
      · -- not a chunk
        have HS := Lib.hid (cutE_plain (z := z) (e := e) (.inl (of_decide_eq_false HBK.out)))
        go_wp2_with (first
          | (refine wpList_store_ev rfl (.tmp 8) (.tmp 22) rfl _ _ _ HZ.out e _ rfl rfl rfl ?_; intro w2 hF hB hO; have HR := Lib.hid hF; have HB2 := Lib.hid (hB wr.heap.size wr ((Below.refl _ _).alloc (Nat.le_refl _) _) (Nat.le_refl _)); clear d0 d1 d2 d3 d4 d5 d6 d7 d8; obtain ⟨x0, x1, x2, x3, x4, x5, x6, x7, x8⟩ := hF.cells; have HP := Lib.hid (Pushing.mk' (HO.out.below HB2.out) (HHD.out _ (below_then HB.out (Nat.le_refl _) HB2.out)).1 (HHD.out _ (below_then HB.out (Nat.le_refl _) HB2.out)).2 (Nat.le_trans HWN.out HB2.out.size) (by omega)); clear hF hB hO)
          | (at_builtin; refine wpList_push' rfl (.tmp 37) (.tmp 39) rfl HP.out rfl rfl rfl ?_; intro A' c' w5 ho hb; have HO5 := Lib.hid ho; have HB5 := Lib.hid hb; clear ho hb))
        go_roundw
        case rel =>
          refine ⟨i + 1, j + 1, c', kk, A', rfl, rfl, by go_num, by omega, by omega, by omega, ?_, Lib.hid ((below_then HB.out (Nat.le_refl _) HB2.out).trans (HB5.out.mono ?_))⟩
          · unfold Hid
            rw [HT.out, HS.out]
            exact HO5.out
          · exact Nat.le_refl _
        case measure => simp [intOf]; omega
      · by_cases h0 : e.body.size = 0
        · have e1 := empty_of h0
          have e2 : e.body.toList.isEmpty = true := by rw [e1]; rfl
          have HS := Lib.hid (cutE_plain (z := z) (e := e) (.inr h0))
          go_wp2_with (first
            | (refine wpList_store_ev rfl (.tmp 8) (.tmp 22) rfl _ _ _ HZ.out e _ rfl rfl rfl ?_; intro w2 hF hB hO; have HR := Lib.hid hF; have HB2 := Lib.hid (hB wr.heap.size wr ((Below.refl _ _).alloc (Nat.le_refl _) _) (Nat.le_refl _)); clear d0 d1 d2 d3 d4 d5 d6 d7 d8; obtain ⟨x0, x1, x2, x3, x4, x5, x6, x7, x8⟩ := hF.cells; have HP := Lib.hid (Pushing.mk' (HO.out.below HB2.out) (HHD.out _ (below_then HB.out (Nat.le_refl _) HB2.out)).1 (HHD.out _ (below_then HB.out (Nat.le_refl _) HB2.out)).2 (Nat.le_trans HWN.out HB2.out.size) (by omega)); clear hF hB hO)
            | (at_builtin; refine wpList_push' rfl (.tmp 37) (.tmp 39) rfl HP.out rfl rfl rfl ?_; intro A' c' w5 ho hb; have HO5 := Lib.hid ho; have HB5 := Lib.hid hb; clear ho hb))
          go_roundw
          case rel =>
            refine ⟨i + 1, j + 1, c', kk, A', rfl, rfl, by go_num, by omega, by omega, by omega, ?_, Lib.hid ((below_then HB.out (Nat.le_refl _) HB2.out).trans (HB5.out.mono ?_))⟩
            · unfold Hid
              rw [HT.out, HS.out]
              exact HO5.out
            · exact Nat.le_refl _
          case measure => simp [intOf]; omega
        · have e2 := some_of h0
          have HS := Lib.hid (cutE_cut (z := z) (of_decide_eq_true HBK.out) h0)
          clear HFR
          go_wp2_with (first | (refine wpList_store_ev rfl (.tmp 8) (.tmp 22) rfl _ _ _ HZ.out e _ rfl rfl rfl ?_; intro w2 hF hB hO; have HR := Lib.hid hF; have HB2 := Lib.hid (hB wr.heap.size wr ((Below.refl _ _).alloc (Nat.le_refl _) _) (Nat.le_refl _)); clear d0 d1 d2 d3 d4 d5 d6 d7 d8; obtain ⟨x0, x1, x2, x3, x4, x5, x6, x7, x8⟩ := hF.cells; clear hF hB hO))
          obtain ⟨be, hbe2⟩ : ∃ be, wr.heap.size = be := ⟨_, rfl⟩
          have HBE : Hid (wr.heap.size = be) := hbe2
          rw [hbe2] at HR ⊢
          have HBW := Lib.hid (below_then HB.out (Nat.le_refl _) HB2.out)
          have HRI : Hid (RI w w2 be e (.slice A1 n1 c1) (.slice A j c) j os e.body) := ⟨HBW.out, HO.out.below HB2.out, HR.out, fun r hr => by obtain ⟨_, cs, m, hc⟩ := HO.out.typed r hr; have := blk_lt hc; have := HBE.out; omega, by have := HWN.out; have := HBE.out; omega⟩
          clear x0 x1 x2 x3 x4 x5 x6 x7 x8 hbe2 HBE HR HZ hL
          clear HO
          go_loopw [5, 6, 9, 10] (fun ov kv sv mv W => ∃ (m kk jj c : Nat) (A : Option Addr) (s x : ByteArray) (qs : List Ev), ov = .slice A jj c ∧ kv = .int .i64 kk ∧ sv = .string s ∧ mv = .int .i64 m ∧ m ≤ 5 ∧ kk ≤ 5 * i + m ∧ jj ≤ 5 * i + m ∧ s.size ≤ 100000 ∧ (m = 5 → s.size = 0) ∧ Hid (RI w W be e (.slice A1 n1 c1) (.slice A jj c) jj qs x) ∧ Hid (cutL z (es.take (i + 1)) = qs ++ (cutQ z m s).map fun s => { e with body := s })) (fun _ _ _ mv _ => 5 - (intOf mv).toNat)
          case atStart => exact ⟨0, kk, j, c, A, e.body, e.body, os, rfl, rfl, rfl, rfl, by omega, by omega, by omega, hbe, fun h => by omega, HRI, by unfold Hid; rw [HT.out, HS.out]⟩
          case round =>
            clear HRI HT HS e2 h0 hbe HLB hkk hj
            obtain ⟨m, kk, jj, c, A, s, x, qs, rfl, rfl, rfl, rfl, hm, hkk, hjj, hss, hm5, HRI, HT⟩ := hrel
            obtain ⟨L, hL⟩ : ∃ L, s.size = L := ⟨_, rfl⟩
            by_cases h0 : s.size = 0
            · have e1 := empty_of h0
              have e2 : s.toList.isEmpty = true := by rw [e1]; rfl
              have HE : Hid (cutL z (es.take (i + 1)) = qs) := by unfold Hid; rw [HT.out, cutQ_nil h0]; simp
              clear hm5 hL h0
              have hm4 : m < 5 ∨ m = 5 := by omega
              rcases hm4 with hm4 | rfl
              all_goals
                go_wp2
                go_roundw
                case rel =>
                  refine ⟨i + 1, jj, c, kk, A, rfl, rfl, by go_num, by omega, by omega, by omega, ?_, Lib.hid HRI.out.below⟩
                  unfold Hid
                  rw [HE.out]
                  exact HRI.out.outs
                case measure => simp [intOf]; omega
            · have e2 := some_of h0
              have hm6 : m < 5 := by
                rcases Nat.lt_or_ge m 5 with h | h
                · exact h
                · exact absurd (hm5 (by omega)) h0
              have hs0 := HRI.out.below.cell (p := ⟨sb, so, none⟩) (lt_of_cell HC.out)
              rw [HC.out] at hs0
              have hmz : ((kk : Int).tmod 1) = 0 := by simp
              have hmz2 : (kk : Int) % 1 = 0 := by omega
              have f8 := HRI.out.row.frozen 8
              obtain ⟨x0, x1, x2, x3, x4, x5, x6, x7, x8⟩ := HRI.out.row.cells
              have HM := Lib.hid hm
              clear hm hm5
              by_cases hm4 : m < 4
              · have hstep := cutQ_step (z := z) hm4 h0
                rw [hL] at hstep
                by_cases hzL : z ≤ L
                · rw [Nat.min_eq_left hzL] at hstep
                  have hzz : ¬ ((z : Int) > (L : Int)) := by omega
                  obtain ⟨y, hy⟩ : ∃ y, s.extract 0 z = y := ⟨_, rfl⟩
                  obtain ⟨r, hr⟩ : ∃ r, s.extract z L = r := ⟨_, rfl⟩
                  have HRS : Hid (r.size = L - z) := by unfold Hid; rw [← hr, ByteArray.size_extract]; omega
                  rw [hy, hr] at hstep
                  have HST : Hid (cutL z (es.take (i + 1)) = (qs ++ [{ e with body := y }]) ++ (cutQ z (m + 1) r).map fun s => { e with body := s }) := by unfold Hid; rw [HT.out, hstep]; simp
                  clear hstep HT h0
                  go_wp2_with fail
                  obtain ⟨W, hW⟩ : ∃ W, wr.setCell ⟨be, 8, none⟩ (.string y) = W := ⟨_, rfl⟩
                  have HRW : Hid (RI w W be e (.slice A1 n1 c1) (.slice A jj c) jj qs y) := by unfold Hid; rw [← hW]; exact HRI.out.store y
                  rw [hW]
                  clear hW x0 x1 x2 x3 x4 x5 x6 x7 x8 f8 HRI hs0
                  obtain ⟨x0, x1, x2, x3, x4, x5, x6, x7, x8⟩ := HRW.out.row.cells
                  have hbd : Below W.heap.size W W.drew := (Below.refl _ _).drew
                  have HRA := Lib.hid (HRW.out.later (hbd.alloc (Nat.le_refl _) (.cells #[.int .i64 e.k, .int .i64 e.id, .string e.url, .string e.frm, .string e.mode, .int .i64 e.med, .int .i64 e.st, .slice A1 n1 c1, .string y] 32)))
                  have HP := Lib.hid (Pushing.mk' (e := { e with body := y }) (HRW.out.outs.below hbd) (HHD.out _ (HRW.out.below.drew)).1 (HHD.out _ (HRW.out.below.drew)).2 HRW.out.below.drew.size (by omega))
                  clear hbd
                  go_region_law (refine step_pushN rfl (.tmp 74) (.tmp 76) rfl HP.out rfl rfl rfl ?_; intro A' c' w5 ho hg hn2; have HR5 := Lib.hid (HRA.out.push ho hg hn2); clear ho hg hn2)
                  all_goals go_wp2_with fail
                  all_goals go_roundw
                  case rel =>
                    refine ⟨m + 1, kk + 1, jj + 1, c', A', r, y, qs ++ [{ e with body := y }], rfl, by go_num, by first | rfl | exact congrArg Value.string (by rw [← hr]; simp), by go_num, by omega, by omega, by omega, by have := HRS.out; omega, fun h => by have := HRS.out; omega, HR5, HST⟩
                  case measure => simp [intOf]; omega
                · rw [Nat.min_eq_right (by omega)] at hstep
                  have hzz : ((z : Int) > (L : Int)) := by omega
                  obtain ⟨y, hy⟩ : ∃ y, s.extract 0 L = y := ⟨_, rfl⟩
                  obtain ⟨r, hr⟩ : ∃ r, s.extract L L = r := ⟨_, rfl⟩
                  have HRS : Hid (r.size = L - L) := by unfold Hid; rw [← hr, ByteArray.size_extract]; omega
                  rw [hy, hr] at hstep
                  have HST : Hid (cutL z (es.take (i + 1)) = (qs ++ [{ e with body := y }]) ++ (cutQ z (m + 1) r).map fun s => { e with body := s }) := by unfold Hid; rw [HT.out, hstep]; simp
                  clear hstep HT h0
                  go_wp2_with fail
                  obtain ⟨W, hW⟩ : ∃ W, wr.setCell ⟨be, 8, none⟩ (.string y) = W := ⟨_, rfl⟩
                  have HRW : Hid (RI w W be e (.slice A1 n1 c1) (.slice A jj c) jj qs y) := by unfold Hid; rw [← hW]; exact HRI.out.store y
                  rw [hW]
                  clear hW x0 x1 x2 x3 x4 x5 x6 x7 x8 f8 HRI hs0
                  obtain ⟨x0, x1, x2, x3, x4, x5, x6, x7, x8⟩ := HRW.out.row.cells
                  have hbd : Below W.heap.size W W.drew := (Below.refl _ _).drew
                  have HRA := Lib.hid (HRW.out.later (hbd.alloc (Nat.le_refl _) (.cells #[.int .i64 e.k, .int .i64 e.id, .string e.url, .string e.frm, .string e.mode, .int .i64 e.med, .int .i64 e.st, .slice A1 n1 c1, .string y] 32)))
                  have HP := Lib.hid (Pushing.mk' (e := { e with body := y }) (HRW.out.outs.below hbd) (HHD.out _ (HRW.out.below.drew)).1 (HHD.out _ (HRW.out.below.drew)).2 HRW.out.below.drew.size (by omega))
                  clear hbd
                  go_region_law (refine step_pushN rfl (.tmp 74) (.tmp 76) rfl HP.out rfl rfl rfl ?_; intro A' c' w5 ho hg hn2; have HR5 := Lib.hid (HRA.out.push ho hg hn2); clear ho hg hn2)
                  all_goals go_wp2_with fail
                  all_goals go_roundw
                  case rel =>
                    refine ⟨m + 1, kk + 1, jj + 1, c', A', r, y, qs ++ [{ e with body := y }], rfl, by go_num, by first | rfl | exact congrArg Value.string (by rw [← hr]; simp), by go_num, by omega, by omega, by omega, by have := HRS.out; omega, fun h => by have := HRS.out; omega, HR5, HST⟩
                  case measure => simp [intOf]; omega
              · obtain rfl : m = 4 := by omega
                have hstep := cutQ_last (z := z) h0
                rw [hL] at hstep
                obtain ⟨y, hy⟩ : ∃ y, s.extract 0 L = y := ⟨_, rfl⟩
                obtain ⟨r, hr⟩ : ∃ r, s.extract L L = r := ⟨_, rfl⟩
                have HRS : Hid (r.size = L - L) := by unfold Hid; rw [← hr, ByteArray.size_extract]; omega
                rw [hy, hr] at hstep
                have HST : Hid (cutL z (es.take (i + 1)) = (qs ++ [{ e with body := y }]) ++ (cutQ z (4 + 1) r).map fun s => { e with body := s }) := by unfold Hid; rw [HT.out, hstep]; simp
                clear hstep HT h0
                go_wp2_with fail
                obtain ⟨W, hW⟩ : ∃ W, wr.setCell ⟨be, 8, none⟩ (.string y) = W := ⟨_, rfl⟩
                have HRW : Hid (RI w W be e (.slice A1 n1 c1) (.slice A jj c) jj qs y) := by unfold Hid; rw [← hW]; exact HRI.out.store y
                rw [hW]
                clear hW x0 x1 x2 x3 x4 x5 x6 x7 x8 f8 HRI hs0
                obtain ⟨x0, x1, x2, x3, x4, x5, x6, x7, x8⟩ := HRW.out.row.cells
                have hbd : Below W.heap.size W W.drew := (Below.refl _ _).drew
                have HRA := Lib.hid (HRW.out.later (hbd.alloc (Nat.le_refl _) (.cells #[.int .i64 e.k, .int .i64 e.id, .string e.url, .string e.frm, .string e.mode, .int .i64 e.med, .int .i64 e.st, .slice A1 n1 c1, .string y] 32)))
                have HP := Lib.hid (Pushing.mk' (e := { e with body := y }) (HRW.out.outs.below hbd) (HHD.out _ (HRW.out.below.drew)).1 (HHD.out _ (HRW.out.below.drew)).2 HRW.out.below.drew.size (by omega))
                clear hbd
                go_region_law (refine step_pushN rfl (.tmp 74) (.tmp 76) rfl HP.out rfl rfl rfl ?_; intro A' c' w5 ho hg hn2; have HR5 := Lib.hid (HRA.out.push ho hg hn2); clear ho hg hn2)
                all_goals go_wp2_with fail
                all_goals go_roundw
                case rel =>
                  refine ⟨4 + 1, kk, jj + 1, c', A', r, y, qs ++ [{ e with body := y }], rfl, by go_num, by first | rfl | exact congrArg Value.string (by rw [← hr]; simp), by go_num, by omega, by omega, by omega, by have := HRS.out; omega, fun h => by have := HRS.out; omega, HR5, HST⟩
                case measure => simp [intOf]
    · obtain rfl : i = n := by omega
      have HE : Hid (cutL z (es.take i) = cutL z es) := by unfold Hid; rw [List.take_of_length_le (by rw [HN.out]; exact Nat.le_refl _)]
      rw [HE.out] at HO
      go_wp2
      go_ret
      exact Made_.mk' HO.out (Nat.zero_le _) HB.out
end Go.Proofs.Ytlalbfpdelfnfaa
