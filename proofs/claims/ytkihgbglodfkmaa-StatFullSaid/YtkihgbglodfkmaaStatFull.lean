/-
  Layer 41: the law on a series that is full, walked. No condition.
-/
import Derived.Test.YtkihgbglodfkmaaStatJoins
namespace Go.Proofs.Ytkihgbglodfkmaa
open Go.RowKit
set_option linter.unusedVariables false

theorem Add_full {w : World} {B g : Nat} {xs : List Nat} (h : Ser w B g xs) (b : Nat) (hr : ¬ xs.length < 10000) :
    Calls Try.prog 19 #[.pointer (some ⟨g, 0, none⟩), .float .f64 b] w fun e w' => e = .returned (.int .i64 3) ∧ w = w' := by
  obtain ⟨h1, h2, A, cap, hg, hrow⟩ := h
  have c0 : w.cell? ⟨g, 0, none⟩ = some (.slice A xs.length cap) := cell_of_row w g 0 _ _ _ hg
  obtain ⟨n, hN⟩ : ∃ n, xs.length = n := ⟨_, rfl⟩
  rw [hN] at c0 hr h2
  have hr' : (10000 : Int) ≤ (n : Int) := by omega
  clear hg hrow hN
  go_enter Try.func19, Try.ntmps19
  go_wp2
  go_ret
  exact ⟨rfl, rfl⟩

section
variable {P : Program}
/-- An append whose run is known. -/
theorem wpList_append_run {ops : Array Oper} {rest : List Oper} {o : Oper} {a : Act} {w : World} {Q : Exit → Act → World → Prop} (hgd : o.guard = none) (s x : Operand) (t : TypeId)
    (ho : o.op = .call { callee := .builtin .append, args := #[s, x], argTypes := #[t, t] }) (v1 v2 v' : Value) (w' : World) (hs : a.eval s = v1) (hx : a.eval x = v2)
    (hrun : (Builtin.append_ #[t, t] o.type #[v1, v2]).run P w = .ok v' w') (k : wpList P ops Q rest (a.put o.dst v') w') : wpList P ops Q (o :: rest) a w :=
  wpList_plain hgd fun K hK => by
    unfold Oper.wp execOp
    simp only [ho, resolve, invoke, builtin, Sem.run_bind, Sem.run_pure, Result.andThen_ok, List.map_toArray, List.map_cons, List.map_nil, hs, hx, hrun]
    exact hK _ _ k
end

theorem add_run {w : World} {g n b : Nat} {A : Option Addr} {cap : Nat} {xs : List Nat} (hN : xs.length = n) (h : SerAt w g A cap xs) (hr : n < 10000) :
    ∃ A' c' w3, (Builtin.append_ #[23, 23] 23 #[.slice A n cap, .slice (some ⟨w.heap.size, 0, none⟩) 1 1]).run Try.prog (w.alloc (.cells #[.float .f64 b] 28)) = .ok (.slice A' (n + 1) c') w3 ∧
      w3.cell? ⟨g, 0, none⟩ = some (.slice A n cap) ∧ w3.frozen? ⟨g, 0, none⟩ = false ∧
      Hid (SerAt (w3.setCell ⟨g, 0, none⟩ (.slice A' (n + 1) c')) g A' c' (xs ++ [b]) ∧ Touch w (w3.setCell ⟨g, 0, none⟩ (.slice A' (n + 1) c')) g (Value.slice A n cap).ownBlock ∧
        ∀ k, (Value.slice A' (xs ++ [b]).length c').ownBlock = some k → (Value.slice A n cap).ownBlock = some k ∨ w.heap.size ≤ k) := by
  subst hN
  obtain ⟨i, hi, hz0, hz1, hz2⟩ := info_parts infoF
  have hb0 : Below w.heap.size w (w.alloc (.cells #[.float .f64 b] 28)) := (Below.refl _ _).alloc (Nat.le_refl _) _
  have h2 := h.below hb0
  have hcn : (w.alloc (.cells #[.float .f64 b] 28)).cell? ⟨w.heap.size, 0, none⟩ = some (.float .f64 b) := by rw [World.cell?_alloc_new]; rfl
  obtain ⟨v', w3, hrun, hr3, hg3, hown⟩ := run_append_row (w.alloc (.cells #[.float .f64 b] 28)) 0 23 23 28 i (.float .f64 0) Try.underlying23 hi hz0 hz1 (by omega) rfl _ _ _ h2.row ⟨w.heap.size, 0, none⟩ 1 _ hcn rfl (by omega) (Nat.zero_le _)
  obtain ⟨A', c', rfl⟩ : ∃ A' c', v' = .slice A' (xs.length + 1) c' := by
    rcases hr3.2 with ⟨_, h0⟩ | ⟨_, _, _, _, hv, _⟩
    · omega
    · exact ⟨_, _, hv⟩
  have hap := h2.row.apart h2.blk (by decide)
  have hg : w3.heap[g]? = _ := (hg3.block g (blk_lt h2.blk) (fun e => hap e.symm)).trans h2.blk
  have hl : (xs ++ [b]).length = xs.length + 1 := by simp
  have em : (xs ++ [b]).map fl = xs.map fl ++ [.float .f64 b] := by rw [List.map_append]; rfl
  refine ⟨A', c', w3, hrun, cell_of_row w3 g 0 _ _ _ hg, blk_frozen hg 0, ⟨by rw [hl]; omega, ?_, ?_⟩, ⟨?_, ?_, ?_, ?_, ?_⟩, ?_⟩
  · rw [blk_set hg 0, hl]
    simp
  · rw [hl, em]
    exact hr3.setCell (p := ⟨g, 0, none⟩) (hr3.apart hg (by decide)) _
  · exact (show w3.os = w.os from hg3.os.trans hb0.os)
  · exact (show w3.tape = w.tape from hg3.tape.trans hb0.tape)
  · exact (show w3.output = w.output from hg3.output.trans hb0.output)
  · have e : (w3.setCell ⟨g, 0, none⟩ (.slice A' (xs.length + 1) c')).heap.size = w3.heap.size := by simp [World.setCell]
    rw [e]
    exact Nat.le_trans hb0.size hg3.size
  · intro k hk hne hro
    rw [Below.heap_setCell w3 _ _ k (by intro e; exact hne (show k = g from e))]
    exact (hg3.block k (Nat.lt_of_lt_of_le hk hb0.size) (fun e => hro e.symm)).trans (hb0.block k hk)
  · intro k hk
    rw [hl] at hk
    rcases hown with h1 | h1
    · exact .inl (h1.symm.trans hk)
    · rw [hk] at h1
      right
      have h2 : k = (w.alloc (.cells #[.float .f64 b] 28)).heap.size := by injection h1
      rw [h2]
      simp

set_option maxHeartbeats 1000000 in
theorem Add_at {w : World} {g : Nat} {A : Option Addr} {cap : Nat} {xs : List Nat} (h : SerAt w g A cap xs) (b : Nat) (hr : xs.length < 10000) :
    Calls Try.prog 19 #[.pointer (some ⟨g, 0, none⟩), .float .f64 b] w fun e w' => e = .returned (.int .i64 0) ∧ ∃ A' c', Hid (SerAt w' g A' c' (xs ++ [b]) ∧ Touch w w' g (Value.slice A xs.length cap).ownBlock ∧
        ∀ k, (Value.slice A' (xs ++ [b]).length c').ownBlock = some k → (Value.slice A xs.length cap).ownBlock = some k ∨ w.heap.size ≤ k) := by
  have c0 : w.cell? ⟨g, 0, none⟩ = some (.slice A xs.length cap) := cell_of_row w g 0 _ _ _ h.blk
  obtain ⟨n, hN⟩ : ∃ n, xs.length = n := ⟨_, rfl⟩
  rw [hN] at hr
  obtain ⟨A', c', w3, hrun, d1, d2, hfin⟩ := add_run (b := b) hN h hr
  rw [hN] at c0 ⊢
  have HFIN := Lib.hid hfin
  have HRUN := Lib.hid hrun
  have hr' : ((n : Nat) : Int) < 10000 := by omega
  have hr2 : ¬ (10000 : Int) ≤ ((n : Nat) : Int) := by omega
  clear hfin hrun hN h
  go_enter Try.func19, Try.ntmps19
  go_wp2_with (first
    | (at_builtin; refine wpList_append_run rfl (.tmp 19) (.tmp 21) 23 rfl _ _ _ _ rfl rfl HRUN.out ?_)
    | go_in)
  go_ret
  exact ⟨rfl, A', c', HFIN.out.out.1, HFIN.out.out.2.1, fun k hk => HFIN.out.out.2.2 k (by rw [List.length_append]; exact hk)⟩

theorem SerAt.up {w : World} {g B : Nat} {A : Option Addr} {cap : Nat} {xs : List Nat} (h : SerAt w g A cap xs) (hg : B ≤ g) (hr : ∀ k, (Value.slice A xs.length cap).ownBlock = some k → B ≤ k) : Ser w B g xs := by
  refine ⟨hg, h.few, A, cap, h.blk, h.row.1, ?_⟩
  rcases h.row.2 with h0 | ⟨g', off, cap', cur, hv, _, rest⟩
  · exact .inl h0
  · exact .inr ⟨g', off, cap', cur, hv, hr g' (by rw [hv]; rfl), rest⟩

/-- Two series that have nothing in common. -/
structure Pair (W w : World) (g1 g2 : Nat) (A1 A2 : Option Addr) (c1 c2 : Nat) (xs ys : List Nat) : Prop where
  below : Below W.heap.size W w
  s : SerAt w g1 A1 c1 xs
  t : SerAt w g2 A2 c2 ys
  ne : g1 ≠ g2
  sg : W.heap.size ≤ g1
  tg : W.heap.size ≤ g2
  sr : ∀ k, (Value.slice A1 xs.length c1).ownBlock = some k → W.heap.size ≤ k ∧ (Value.slice A2 ys.length c2).ownBlock ≠ some k
  tr : ∀ k, (Value.slice A2 ys.length c2).ownBlock = some k → W.heap.size ≤ k
theorem Pair.flip {W w : World} {g1 g2 : Nat} {A1 A2 : Option Addr} {c1 c2 : Nat} {xs ys : List Nat} (h : Pair W w g1 g2 A1 A2 c1 c2 xs ys) : Pair W w g2 g1 A2 A1 c2 c1 ys xs :=
  ⟨h.below, h.t, h.s, h.ne.symm, h.tg, h.sg, fun k hk => ⟨h.tr k hk, fun e => (h.sr k e).2 hk⟩, fun k hk => (h.sr k hk).1⟩
theorem Pair.more {W w w' : World} {g1 g2 : Nat} {A1 A2 A' : Option Addr} {c1 c2 c' : Nat} {xs ys zs : List Nat} (h : Pair W w g1 g2 A1 A2 c1 c2 xs ys)
    (hs : SerAt w' g1 A' c' zs) (ht : Touch w w' g1 (Value.slice A1 xs.length c1).ownBlock) (ho : ∀ k, (Value.slice A' zs.length c').ownBlock = some k → (Value.slice A1 xs.length c1).ownBlock = some k ∨ w.heap.size ≤ k) :
    Pair W w' g1 g2 A' A2 c' c2 zs ys := by
  have a1 := h.s.row.apart h.t.blk (by decide)
  have a2 := h.t.row.apart h.s.blk (by decide)
  have hro : ∀ j, (Value.slice A2 ys.length c2).ownBlock = some j → (Value.slice A1 xs.length c1).ownBlock ≠ some j := fun j hj e => (h.sr j e).2 hj
  refine ⟨h.below.trans (ht.below h.below.size h.sg fun k hk => (h.sr k hk).1), hs, ht.keep h.t h.ne.symm a1 fun j hj => ⟨fun e => a2 (by rw [hj, e]), hro j hj⟩, h.ne, h.sg, h.tg, fun k hk => ?_, h.tr⟩
  rcases ho k hk with h1 | h1
  · exact h.sr k h1
  · refine ⟨Nat.le_trans h.below.size h1, fun e => ?_⟩
    have := (h.t.row.lt k e).2
    omega
theorem pair_new {W w1 w2 : World} (hs : Ser w1 W.heap.size W.heap.size []) (hb : Below W.heap.size W w1) (ht : Ser w2 w1.heap.size w1.heap.size []) (hb2 : Below w1.heap.size w1 w2) :
    ∃ A1 A2 c1 c2, Pair W w2 W.heap.size w1.heap.size A1 A2 c1 c2 [] [] := by
  obtain ⟨A1, c1, s1, s2, s3⟩ := hs.at_
  obtain ⟨A2, c2, t1, t2, t3⟩ := ht.at_
  have z := hb.size
  have zl := blk_lt s1.blk
  exact ⟨A1, A2, c1, c2, below_then hb (Nat.le_refl _) hb2, s1.below hb2, t1, by omega, Nat.le_refl _, z, fun k hk => ⟨s3 k hk, fun e => by have := (s1.row.lt k hk).2; have := t3 k e; omega⟩, fun k hk => Nat.le_trans z (t3 k hk)⟩

set_option maxRecDepth 100000 in
set_option maxHeartbeats 4000000 in
/-- The law. -/
theorem StatFull_walk (a0 : Int) (W : World) (w0 : (Lit.int .u8 a0).wf = true) :
    Calls Try.prog 4 #[.int .u8 a0] W fun e w' => e = .returned (.bool true) ∧ Below W.heap.size W w' := by
  obtain ⟨n, rfl, hn⟩ := u8_of a0 w0
  have HL := Lib.hid lives_any
  clear w0
  go_enter Try.func4, Try.ntmps4
  go_wp2_with fail
  refine (New_any _).mono ?_
  rintro e w1 ⟨rfl, hs, hb⟩
  have HS := Lib.hid hs
  have HB := Lib.hid hb
  clear hs hb
  go_wp2_with fail
  refine (New_any _).mono ?_
  rintro e w2 ⟨rfl, ht, hb⟩
  have HG := Lib.hid (pair_new HS.out HB.out ht hb)
  have hlt : W.heap.size < w1.heap.size := blk_lt (HS.out.at_).choose_spec.choose_spec.1.blk
  clear ht hb HS HB
  obtain ⟨A1, A2, c1, c2, hg0⟩ := HG.out
  have HP := Lib.hid hg0
  clear HG hg0
  obtain ⟨g, hg⟩ : ∃ g, W.heap.size = g := ⟨_, rfl⟩
  obtain ⟨g2, hg2⟩ : ∃ g, w1.heap.size = g := ⟨_, rfl⟩
  have HP : Hid (Pair W w2 g g2 A1 A2 c1 c2 [] []) := by rw [← hg, ← hg2]; exact HP.out
  go_wp2
  clear hg hg2 hlt
  go_loopw [5] (fun iv wr => ∃ (i : Nat) (A1 A2 : Option Addr) (c1 c2 : Nat) (xs : List Nat), iv = .int .i64 i ∧ i ≤ 9900 ∧ Hid (xs.length = i ∧ Pair W wr g g2 A1 A2 c1 c2 xs [])) (fun iv _ => 9900 - (intOf iv).toNat)
  case atStart => exact ⟨0, A1, A2, c1, c2, [], rfl, by omega, rfl, HP.out⟩
  case round =>
    obtain ⟨i, A1, A2, c1, c2, xs, rfl, hi, HQ⟩ := hrel
    by_cases hin : i < 9900
    · have HA := Lib.hid (Add_at HQ.out.2.s 4607182418800017408 (by rw [HQ.out.1]; omega))
      go_wp2_with (go_at_call 19; refine HA.out.mono ?_; rintro e w4 ⟨rfl, A', c', HR⟩)
      go_roundw
      case rel => exact ⟨i + 1, A', A2, c', c2, xs ++ [4607182418800017408], by go_num, by omega, Lib.hid ⟨by rw [List.length_append, HQ.out.1]; rfl, HQ.out.2.more HR.out.1 HR.out.2.1 HR.out.2.2⟩⟩
      case measure => simp [intOf]; omega
    · have HQ : Hid (xs.length = 9900 ∧ Pair W wr g g2 A1 A2 c1 c2 xs []) := Lib.hid ⟨by rw [HQ.out.1]; omega, HQ.out.2⟩
      have HN : Hid (n < 256) := hn
      go_wp2
      go_loopw [6] (fun iv wr => ∃ (i : Nat) (A1 A2 : Option Addr) (c1 c2 : Nat) (ys : List Nat), iv = .int .i64 i ∧ i ≤ n ∧ Hid (ys.length = i ∧ Pair W wr g g2 A1 A2 c1 c2 xs ys)) (fun iv _ => n - (intOf iv).toNat)
      case atStart => exact ⟨0, A1, A2, c1, c2, [], rfl, Nat.zero_le _, rfl, HQ.out.2⟩
      case round =>
        obtain ⟨k, A1, A2, c1, c2, ys, rfl, hk, HQ2⟩ := hrel
        by_cases hkn : k < n
        · have HA := Lib.hid (Add_at HQ2.out.2.t 4611686018427387904 (by rw [HQ2.out.1]; omega))
          go_wp2_with (go_at_call 19; refine HA.out.mono ?_; rintro e w4 ⟨rfl, A', c', HR⟩)
          go_roundw
          case rel => exact ⟨k + 1, A1, A', c1, c', ys ++ [4611686018427387904], by go_num, by omega, Lib.hid ⟨by rw [List.length_append, HQ2.out.1]; rfl, (HQ2.out.2.flip.more HR.out.1 HR.out.2.1 HR.out.2.2).flip⟩⟩
          case measure => simp [intOf]; omega
        · obtain rfl : k = n := by omega
          clear hkn hk
          by_cases hbig : 100 < k
          · have HJ := Lib.hid (Join_full HQ2.out.2.s HQ2.out.2.t (by rw [HQ.out.1, HQ2.out.1]; omega))
            go_wp2_with (first
              | (go_at_call 20; refine HJ.out.mono ?_; rintro e w4 ⟨rfl, q, rfl⟩)
              | (go_at_call 21; refine (Len_n ((HQ2.out.2.s.below (below_drewN (Below.refl _ _) _)).ser) HQ.out.1).mono ?_; rintro e w5 ⟨rfl, rfl⟩)
              | (go_at_call 14; refine (HL.out _).mono ?_; rintro e w5 ⟨rfl, hb⟩; have HB := Lib.hid hb; clear hb))
            go_ret
            exact ⟨rfl, below_then (below_drewN HQ2.out.2.below _) (Nat.le_refl _) HB.out⟩
          · have hle : k ≤ 100 := by omega
            clear hbig
            have HJ := Lib.hid (Join_n (n := 0) HQ2.out.2.s HQ2.out.2.t (by rw [HQ.out.1, HQ2.out.1]; omega))
            go_wp2_with (go_at_call 20; refine HJ.out.mono ?_; rintro e w4 ⟨rfl, A', c', HR⟩; have HF := Lib.hid (HQ2.out.2.more HR.out.1 HR.out.2.1 HR.out.2.2); have HZ : Hid ((xs ++ ys).length = 9900 + k) := (by unfold Hid; rw [List.length_append, HQ.out.1, HQ2.out.1]); have HSF := Lib.hid (HF.out.s.up HF.out.sg fun k hk => (HF.out.sr k hk).1); have HBF := Lib.hid HF.out.below)
            go_loopw [8] (fun iv wr => ∃ (i : Nat) (zs : List Nat), iv = .int .i64 i ∧ i ≤ 100 ∧ Hid (zs.length = 9900 + i ∧ Ser wr W.heap.size g zs ∧ Below W.heap.size W wr)) (fun iv _ => 100 - (intOf iv).toNat)
            case atStart => exact ⟨k, xs ++ ys, rfl, hle, HZ.out, HSF.out, HBF.out⟩
            case round =>
              obtain ⟨i, zs, rfl, hi, HU⟩ := hrel
              by_cases hi1 : i < 100
              · have HA := Lib.hid (Add_room HU.out.2.1 4613937818241073152 (by rw [HU.out.1]; omega) HU.out.2.2.size)
                go_wp2_with (go_at_call 19; refine HA.out.mono ?_; rintro e w5 ⟨rfl, hs, hb⟩; have HS := Lib.hid hs; have HB := Lib.hid hb; clear hs hb)
                go_roundw
                case rel => exact ⟨i + 1, zs ++ [4613937818241073152], by go_num, by omega, Lib.hid ⟨by rw [List.length_append, HU.out.1]; rfl, HS.out, HU.out.2.2.trans HB.out⟩⟩
                case measure => simp [intOf]; omega
              · obtain rfl : i = 100 := by omega
                clear hi1 hi
                go_wp2_with (first
                  | (go_at_call 19; refine (Add_full HU.out.2.1 4616189618054758400 (by rw [HU.out.1]; omega)).mono ?_; rintro e w5 ⟨rfl, rfl⟩)
                  | (go_at_call 21; refine (Len_n HU.out.2.1 HU.out.1).mono ?_; rintro e w5 ⟨rfl, rfl⟩)
                  | (go_at_call 14; refine (HL.out _).mono ?_; rintro e w5 ⟨rfl, hb⟩; have HB := Lib.hid hb; clear hb))
                go_ret
                exact ⟨rfl, below_then HU.out.2.2 (Nat.le_refl _) HB.out⟩
end Go.Proofs.Ytkihgbglodfkmaa
