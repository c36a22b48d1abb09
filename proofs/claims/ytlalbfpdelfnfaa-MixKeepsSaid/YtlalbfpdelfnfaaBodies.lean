/-
  Layer 43 (mix): all bytes of one id, by the program and by the reference, walked. No condition but that what comes in lies in memory, and the bytes are not too many.
-/
import Derived.Test.YtlalbfpdelfnfaaBody
namespace Go.Proofs.Ytlalbfpdelfnfaa
open Go.RowKit
set_option linter.unusedVariables false

def bodyL (id : Int) (es : List Ev) : ByteArray := es.foldl (fun s e => if e.k = 3 ∧ e.id = id then s ++ e.body else s) ⟨#[]⟩
theorem bodyL_snoc (id : Int) (es : List Ev) (e : Ev) : bodyL id (es ++ [e]) = if e.k = 3 ∧ e.id = id then bodyL id es ++ e.body else bodyL id es := by
  unfold bodyL
  rw [List.foldl_append]
  rfl
theorem bodyL_size (id : Int) (es : List Ev) (hb : ∀ e ∈ es, e.body.size ≤ 100000) : (bodyL id es).size ≤ es.length * 100000 := by
  have key : ∀ (l : List Ev) (s : ByteArray), (∀ e ∈ l, e.body.size ≤ 100000) → (l.foldl (fun s e => if e.k = 3 ∧ e.id = id then s ++ e.body else s) s).size ≤ s.size + l.length * 100000 := by
    intro l
    induction l with
    | nil => intro s _; simp
    | cons e l ih =>
      intro s h
      rw [List.foldl_cons]
      have h1 := h e (by simp)
      have h2 := ih (if e.k = 3 ∧ e.id = id then s ++ e.body else s) fun x hx => h x (by simp [hx])
      have h3 : (if e.k = 3 ∧ e.id = id then s ++ e.body else s).size ≤ s.size + 100000 := by
        split
        · rw [ByteArray.size_append]
          omega
        · omega
      rw [List.length_cons, Nat.add_mul]
      omega
  have := key es ⟨#[]⟩ hb
  have h0 : (⟨#[]⟩ : ByteArray).size = 0 := rfl
  unfold bodyL
  omega
theorem builder_below {w w' : World} {B b : Nat} {bs : List Value} (h : Lib.IsBuilder 66 5 B b bs w) (hb : Below w.heap.size w w') : Lib.IsBuilder 66 5 B b bs w' := by
  have key : ∀ p, Lib.BuilderAt 66 5 B b p bs w → Lib.BuilderAt 66 5 B b p bs w' := fun p ⟨h1, v, h2, h3, h4⟩ =>
    ⟨h1, v, (hb.block b (blk_lt h2)).trans h2, h3.kept (row := none) ⟨hb.os, hb.tape, hb.output, hb.size, fun k hk _ => hb.block k hk⟩ (by
      cases hv : v.ownBlock with
      | none => exact .inl rfl
      | some k => exact .inr (by simp)), h4⟩
  exact h.imp (key _) (key _)
theorem strCells_append (s t : ByteArray) : Lib.strCells (s ++ t) = Lib.strCells s ++ Lib.strCells t := by
  simp [Lib.strCells, ByteArray.data_append]

set_option maxRecDepth 100000 in
set_option maxHeartbeats 2000000 in
theorem body_any {w : World} {lo n : Nat} {v : Value} {es : List Ev} (id : Int) (h : Evs w lo v n es) (hn : n ≤ 1000) (hb : ∀ e ∈ es, e.body.size ≤ 100000) :
    Calls Try.prog 19 #[.int .i64 id, v] w fun o w' => o = .returned (.string (bodyL id es)) ∧ Below w.heap.size w w' := by
  have HH := Lib.hid (h.base (Nat.zero_le _))
  have HN := Lib.hid h.len
  have HBD := Lib.hid hb
  obtain ⟨A0, c0, rfl⟩ := h.slice
  have HI0 : Hid (Lib.IsBuilder 66 5 w.heap.size w.heap.size (Lib.strCells (bodyL id [])) (w.alloc (.cells #[.pointer none, .slice none 0 0] 66))) :=
    .inl ⟨Nat.le_refl _, .slice none 0 0, heap_alloc_new w _, World.ownsRow_nil _ _ _ _, by simp [Value.ownBlock]⟩
  clear h hb
  go_enter Try.func19, Try.ntmps19
  go_wp2
  go_loopw [10] (fun iv wr => ∃ i : Nat, iv = .int .i64 i ∧ i ≤ n ∧ Hid (Lib.IsBuilder 66 5 w.heap.size w.heap.size (Lib.strCells (bodyL id (es.take i))) wr) ∧ Hid (Below w.heap.size w wr)) (fun iv _ => n - (intOf iv).toNat)
  case atStart => exact ⟨0, rfl, Nat.zero_le _, HI0, Lib.hid ((Below.refl _ _).alloc (Nat.le_refl _) _)⟩
  case round =>
    obtain ⟨i, rfl, hi, HI, HB⟩ := hrel
    by_cases hl : i < n
    · obtain ⟨g, off, A1, c1, hix, rfl, he, hh, ha⟩ := evs_at HH.out HB.out hl
      have HT : Hid (bodyL id (es.take (i + 1)) = if es[i].k = 3 ∧ es[i].id = id then bodyL id (es.take i) ++ es[i].body else bodyL id (es.take i)) := by
        unfold Hid
        rw [List.take_succ_eq_append_getElem hix, bodyL_snoc]
      have hbe := HBD.out _ (List.getElem_mem hix)
      have hbs := bodyL_size id (es.take i) fun e he => HBD.out e (List.mem_of_mem_take he)
      have HSZ : Hid ((Lib.strCells (bodyL id (es.take i))).length + es[i].body.size ≤ 1000000000) := by
        unfold Hid
        rw [Lib.strCells_length]
        rw [List.length_take, HN.out] at hbs
        have : min i n * 100000 ≤ 1000 * 100000 := Nat.mul_le_mul_right _ (by omega)
        omega
      generalize es[i]'hix = e at he HT HSZ
      have HZ := Lib.hid (EvRow.zero wr)
      obtain ⟨d0, d1, d2, d3, d4, d5, d6, d7, d8⟩ := he
      obtain ⟨n1, hn1⟩ : ∃ n1, e.hs.length = n1 := ⟨_, rfl⟩
      rw [hn1] at d7
      clear hix hh ha hn1 hbe hbs
      obtain ⟨b, hbk⟩ : ∃ b, (e.k == 3) = b := ⟨_, rfl⟩
      obtain ⟨b2, hbi⟩ : ∃ b, (e.id == id) = b := ⟨_, rfl⟩
      have HK : Hid (decide (e.k = 3) = b) := by unfold Hid; rw [← hbk]; rfl
      have HID : Hid (decide (e.id = id) = b2) := by unfold Hid; rw [← hbi]; rfl
      have hsame : (b && b2) = false → Hid (bodyL id (es.take (i + 1)) = bodyL id (es.take i)) := fun hb => by
        unfold Hid
        rw [HT.out, if_neg]
        rintro ⟨h1, h2⟩
        rw [← HK.out, ← HID.out] at hb
        simp [h1, h2] at hb
      have HSAME := Lib.hid hsame
      clear hsame
      cases b
      · go_wp2_with (first
          | (refine wpList_store_ev rfl (.tmp 7) (.tmp 13) rfl _ _ _ HZ.out e _ rfl rfl rfl ?_; intro w2 hF hB hO; have HB2 := Lib.hid (hB wr.heap.size wr ((Below.refl _ _).alloc (Nat.le_refl _) _) (Nat.le_refl _)); clear d0 d1 d2 d3 d4 d5 d6 d7 d8; obtain ⟨x0, x1, x2, x3, x4, x5, x6, x7, x8⟩ := hF.cells; clear hF hB hO))
        go_roundw
        case rel =>
          refine ⟨i + 1, by go_num, by omega, ?_, Lib.hid (HB.out.trans (HB2.out.mono HB.out.size))⟩
          unfold Hid
          rw [(HSAME.out rfl).out]
          exact builder_below HI.out HB2.out
        case measure => simp [intOf]; omega
      · cases b2
        · go_wp2_with (first
            | (refine wpList_store_ev rfl (.tmp 7) (.tmp 13) rfl _ _ _ HZ.out e _ rfl rfl rfl ?_; intro w2 hF hB hO; have HB2 := Lib.hid (hB wr.heap.size wr ((Below.refl _ _).alloc (Nat.le_refl _) _) (Nat.le_refl _)); clear d0 d1 d2 d3 d4 d5 d6 d7 d8; obtain ⟨x0, x1, x2, x3, x4, x5, x6, x7, x8⟩ := hF.cells; clear hF hB hO))
          go_roundw
          case rel =>
            refine ⟨i + 1, by go_num, by omega, ?_, Lib.hid (HB.out.trans (HB2.out.mono HB.out.size))⟩
            unfold Hid
            rw [(HSAME.out rfl).out]
            exact builder_below HI.out HB2.out
          case measure => simp [intOf]; omega
        · go_wp2_with (first
            | (refine wpList_store_ev rfl (.tmp 7) (.tmp 13) rfl _ _ _ HZ.out e _ rfl rfl rfl ?_; intro w2 hF hB hO; have HB2 := Lib.hid (hB wr.heap.size wr ((Below.refl _ _).alloc (Nat.le_refl _) _) (Nat.le_refl _)); have HI2 := Lib.hid (builder_below HI.out HB2.out); clear d0 d1 d2 d3 d4 d5 d6 d7 d8; obtain ⟨x0, x1, x2, x3, x4, x5, x6, x7, x8⟩ := hF.cells; clear hF hB hO)
            | (go_at_call 34; refine (writeString_any w.heap.size w.heap.size _ _ _ HI2.out HSZ.out (Nat.le_trans HB.out.size HB2.out.size)).mono ?_; rintro o w3 ⟨rfl, hw, hb3⟩; have HI3 := Lib.hid hw; have HB3 := Lib.hid hb3; clear hw hb3))
          go_roundw
          case rel =>
            refine ⟨i + 1, by go_num, by omega, ?_, Lib.hid ((HB.out.trans (HB2.out.mono HB.out.size)).trans HB3.out)⟩
            unfold Hid
            rw [HT.out, if_pos ⟨of_decide_eq_true HK.out, of_decide_eq_true HID.out⟩, strCells_append]
            exact HI3.out
          case measure => simp [intOf]; omega
    · obtain rfl : i = n := by omega
      have HE : Hid (bodyL id (es.take i) = bodyL id es) := by unfold Hid; rw [List.take_of_length_le (by rw [HN.out]; exact Nat.le_refl _)]
      rw [HE.out] at HI
      have HS := Lib.hid (Try.Builder_String_any w.heap.size w.heap.size (bodyL id es).data.toList wr HI.out HB.out.size)
      go_wp2_with (go_at_call 35; refine HS.out.mono ?_; rintro o w3 ⟨rfl, hb3⟩; have HB3 := Lib.hid hb3; clear hb3)
      go_ret
      exact ⟨rfl, HB.out.trans HB3.out⟩
set_option maxRecDepth 100000 in
set_option maxHeartbeats 2000000 in
theorem rBody_any {w : World} {lo n : Nat} {v : Value} {es : List Ev} (id : Int) (h : Evs w lo v n es) (hn : n ≤ 1000) (hb : ∀ e ∈ es, e.body.size ≤ 100000) :
    Calls Try.prog 20 #[.int .i64 id, v] w fun o w' => o = .returned (.string (bodyL id es)) ∧ w = w' := by
  have HH := Lib.hid (h.base (Nat.zero_le _))
  have HN := Lib.hid h.len
  have HBD := Lib.hid hb
  obtain ⟨A0, c0, rfl⟩ := h.slice
  clear h hb
  go_enter Try.func20, Try.ntmps20
  go_wp2
  go_loop [5, 6] (fun sv iv => ∃ (i : Nat) (s : ByteArray), iv = .int .i64 i ∧ sv = .string s ∧ i ≤ n ∧ Hid (bodyL id (es.take i) = s)) (fun _ iv => n - (intOf iv).toNat)
  case atStart => exact ⟨0, _, rfl, rfl, Nat.zero_le _, Lib.hid rfl⟩
  case round =>
    obtain ⟨i, s, rfl, rfl, hi, HS⟩ := hrel
    by_cases hl : i < n
    · obtain ⟨g, off, A1, c1, hix, rfl, he, hh, ha⟩ := evs_at HH.out (Below.refl _ _) hl
      have HT : Hid (bodyL id (es.take (i + 1)) = if es[i].k = 3 ∧ es[i].id = id then s ++ es[i].body else s) := by
        unfold Hid
        rw [List.take_succ_eq_append_getElem hix, bodyL_snoc, HS.out]
      have hbe := HBD.out _ (List.getElem_mem hix)
      have hbs := bodyL_size id (es.take i) fun e he => HBD.out e (List.mem_of_mem_take he)
      have hsz : s.size + es[i].body.size ≤ 1000000000 := by
        rw [HS.out, List.length_take, HN.out] at hbs
        have : min i n * 100000 ≤ 1000 * 100000 := Nat.mul_le_mul_right _ (by omega)
        omega
      generalize es[i]'hix = e at he HT hsz
      obtain ⟨d0, d1, d2, d3, d4, d5, d6, d7, d8⟩ := he
      clear hix hh ha hbe hbs
      obtain ⟨b, hbk⟩ : ∃ b, (e.k == 3) = b := ⟨_, rfl⟩
      obtain ⟨b2, hbi⟩ : ∃ b, (e.id == id) = b := ⟨_, rfl⟩
      have HK : Hid (decide (e.k = 3) = b) := by unfold Hid; rw [← hbk]; rfl
      have HID : Hid (decide (e.id = id) = b2) := by unfold Hid; rw [← hbi]; rfl
      have hsame : (b && b2) = false → Hid (bodyL id (es.take (i + 1)) = s) := fun hb => by
        unfold Hid
        rw [HT.out, if_neg]
        rintro ⟨h1, h2⟩
        rw [← HK.out, ← HID.out] at hb
        simp [h1, h2] at hb
      have HSAME := Lib.hid hsame
      clear hsame
      cases b
      · go_wp2
        go_round
        case rel => exact ⟨i + 1, s, by go_num, rfl, by omega, HSAME.out rfl⟩
        case measure => simp [intOf]; omega
      · cases b2
        · go_wp2
          go_round
          case rel => exact ⟨i + 1, s, by go_num, rfl, by omega, HSAME.out rfl⟩
          case measure => simp [intOf]; omega
        · go_wp2
          go_round
          case rel => exact ⟨i + 1, _, by go_num, rfl, by omega, by unfold Hid; rw [HT.out, if_pos ⟨of_decide_eq_true HK.out, of_decide_eq_true HID.out⟩]⟩
          case measure => simp [intOf]; omega
    · obtain rfl : i = n := by omega
      have HE : Hid (bodyL id es = s) := by unfold Hid; rw [← HS.out, List.take_of_length_le (by rw [HN.out]; exact Nat.le_refl _)]
      go_wp2
      go_ret
      exact ⟨ret_string HE.out.symm, rfl⟩
end Go.Proofs.Ytlalbfpdelfnfaa
