/-
  What is told, as rows in memory; the head that goes on, and a piece of the body. No condition but that the tables lie as they were laid.
-/
import Derived.Test.YtlhaaokldjdnnaaGreatDoorSt7All
import Derived.Test.YtlhaaokldjdnnaaGreatDoorManyAll
import Derived.Deep.RegionWith
namespace Go.Proofs.YtlhaaokldjdnnaaGreatDoor
open Go.RowKit
set_option linter.unusedVariables false
set_option linter.unusedSimpArgs false
set_option linter.all false

def outZ : Value := .agg #[.int .i64 0, .int .i64 0, .int .i64 0, .slice none 0 0, .string ⟨#[]⟩, .string ⟨#[]⟩]
theorem info47 : (Tryz.prog.info? 47).map (fun i => (i.zero, i.size, i.bytes)) = some (some outZ, 6, 80) := by kernel_rfl
/-- What is told: n things. -/
def Tell (w : World) (B : Nat) (v : Value) (n : Nat) : Prop := ∃ xs, Rk w B 47 6 v n xs ∧ ∀ x ∈ xs, x.oneCell' = true
section
variable {w w' : World} {B : Nat}
theorem Tell.lit {b : Nat} {x0 x1 x2 x3 x4 x5 : Value} (hb : w.heap[b]? = some (.cells #[x0, x1, x2, x3, x4, x5] 47 (0, 0))) (hB : B ≤ b) (h0 : x0.oneCell' = true) (h1 : x1.oneCell' = true) (h2 : x2.oneCell' = true) (h3 : x3.oneCell' = true) (h4 : x4.oneCell' = true) (h5 : x5.oneCell' = true) :
    Tell w B (.slice (some ⟨b, 0, none⟩) 1 1) 1 :=
  ⟨[x0, x1, x2, x3, x4, x5], ⟨rfl, .inr ⟨b, 0, 1, _, rfl, hB, hb, Nat.le_refl _, by decide, by simp, fun j u hj => by simpa using hj⟩⟩, fun x hx => by
    simp at hx
    rcases hx with rfl | rfl | rfl | rfl | rfl | rfl <;> assumption⟩
theorem Tell.below {B' : Nat} {v : Value} {n : Nat} (h : Tell w B v n) (hb : Below B' w w') (hB : w.heap.size ≤ B') : Tell w' B v n :=
  let ⟨xs, h1, h2⟩ := h
  ⟨xs, h1.below hb hB, h2⟩
theorem Tell.keep {v : Value} {n : Nat} (h : Tell w B v n) (hk : ∀ j, v.ownBlock = some j → w'.heap[j]? = w.heap[j]?) : Tell w' B v n :=
  let ⟨xs, h1, h2⟩ := h
  ⟨xs, h1.keep hk, h2⟩
theorem Tell.apart {v : Value} {n g : Nat} {t : TypeId} {cs : Array Value} {m : Nat × Nat} (h : Tell w B v n) (hg : w.heap[g]? = some (.cells cs t m)) (hne : 47 ≠ t) : v.ownBlock ≠ some g := by
  obtain ⟨xs, h, _⟩ := h
  rcases h.2 with ⟨rfl, _⟩ | ⟨g', off, cap, cur, rfl, _, hh, _⟩
  · simp [Value.ownBlock]
  · intro he
    have : g' = g := by simpa [Value.ownBlock] using he
    subst this
    rw [hg] at hh
    injection hh with hh
    injection hh with _ ht
    exact hne ht.symm
theorem Kept.later {T : List TypeId} {w1 : World} (h : Kept w w1 B T) (hb : Below w.heap.size w1 w') (hB : B ≤ w.heap.size) : Kept w w' B T :=
  ⟨h.below.trans (hb.mono hB), fun k cs t m hk ht => (hb.block k (blk_lt hk)).trans (h.keep k cs t m hk ht)⟩
/-- One thing more is told. -/
theorem wpList_tell {ops : Array Oper} {rest : List Oper} {o : Oper} {a : Act} {Q : Exit → Act → World → Prop} (hgd : o.guard = none) (s x : Operand)
    (ho : o.op = .call { callee := .builtin .append, args := #[s, x], argTypes := #[41, 41] }) {A : Option Addr} {n cap : Nat} (hs : a.eval s = .slice A n cap) (h : Tell w B (.slice A n cap) n) {b : Nat} {x0 x1 x2 x3 x4 x5 : Value} (hx : a.eval x = .slice (some ⟨b, 0, none⟩) 1 1)
    (hb : w.heap[b]? = some (.cells #[x0, x1, x2, x3, x4, x5] 47 (0, 0))) (h0 : x0.oneCell' = true) (h1 : x1.oneCell' = true) (h2 : x2.oneCell' = true) (h3 : x3.oneCell' = true) (h4 : x4.oneCell' = true) (h5 : x5.oneCell' = true) (hn : n ≤ 1000) (hB : B ≤ w.heap.size)
    (k : ∀ A' c' w', Tell w' B (.slice A' (n + 1) c') (n + 1) → Below B w w' → (∀ (g : Nat) (cs : Array Value) (t : TypeId) (m : Nat × Nat), w.heap[g]? = some (.cells cs t m) → t ≠ 47 → w'.heap[g]? = w.heap[g]?) → wpList Tryz.prog ops Q rest (a.put o.dst (.slice A' (n + 1) c')) w') : wpList Tryz.prog ops Q (o :: rest) a w := by
  obtain ⟨i, hi, hz0, hz1, hz2⟩ := info_parts info47
  have hap := h
  obtain ⟨xs, h, hone⟩ := h
  have h6 : ∀ u ∈ (#[x0, x1, x2, x3, x4, x5] : Array Value).toList, u.oneCell' = true := fun x hx => by
    simp at hx
    rcases hx with rfl | rfl | rfl | rfl | rfl | rfl <;> assumption
  refine wpList_append_rk hgd s x 41 ho B 47 i outZ 6 Tryz.underlying41 hi hz0 hz1 (by omega) rfl (.slice A n cap) n xs hs h _ 1 _ hx (Src.lit Tryz.underlying41 hb 1 1 rfl h6) (by omega) hB fun A' c' w' hr hg hown => ?_
  refine k A' c' w' ⟨_, hr, fun x hx => ?_⟩ ((Below.refl B w).grown hg hB fun b hb => (h.lt b hb).1) fun g cs t m hg' ht => hg.block g (blk_lt hg') fun e => hap.apart hg' (fun e => ht e.symm) e.symm
  rcases List.mem_append.1 hx with hx | hx
  · exact hone x hx
  · exact h6 x hx
end
/-- body. -/
theorem body_any {w : World} {B : Nat} {A : Option Addr} {n c : Nat} (h : Tell w B (.slice A n c) n) (hn : n ≤ 1000) (hB : B ≤ w.heap.size) (b : ByteArray) : Calls Tryz.prog 39 #[.slice A n c, .string b] w fun e w' =>
    (∃ A' n' c', e = .returned (.slice A' n' c') ∧ n ≤ n' ∧ n' ≤ n + 1 ∧ Tell w' B (.slice A' n' c') n') ∧ Below B w w' ∧ (∀ (g : Nat) (cs : Array Value) (t : TypeId) (m : Nat × Nat), w.heap[g]? = some (.cells cs t m) → t ≠ 47 → w'.heap[g]? = w.heap[g]?) := by
  have HT := Lib.hid h
  have HN := Lib.hid hn
  have HB := Lib.hid hB
  have HA : Hid (Below w.heap.size w (w.alloc (.cells #[.int .i64 2, .int .i64 0, .int .i64 0, .slice none 0 0, .string b, .string ⟨#[]⟩] 47))) := Lib.hid ((Below.refl _ _).alloc (Nat.le_refl _) _)
  have HT1 := Lib.hid (h.below HA.out (Nat.le_refl _))
  have HR : Hid ((w.alloc (.cells #[.int .i64 2, .int .i64 0, .int .i64 0, .slice none 0 0, .string b, .string ⟨#[]⟩] 47)).heap[w.heap.size]? = some (.cells #[.int .i64 2, .int .i64 0, .int .i64 0, .slice none 0 0, .string b, .string ⟨#[]⟩] 47 (0, 0))) := Lib.hid (heap_alloc_new w _)
  have HB1 : Hid (B ≤ (w.alloc (.cells #[.int .i64 2, .int .i64 0, .int .i64 0, .slice none 0 0, .string b, .string ⟨#[]⟩] 47)).heap.size) := by unfold Hid; simp; omega
  clear h hn hB
  cases hb : (b.toList == [])
  · go_enter Tryz.func39, Tryz.ntmps39
    go_wp2_with (at_builtin; refine wpList_tell rfl (.tmp 8) (.tmp 11) rfl rfl HT1.out rfl HR.out rfl rfl rfl rfl rfl rfl HN.out HB1.out ?_; intro A' c' w5 ho hb5 hk5; have HO5 := Lib.hid ho; have HB5 := Lib.hid hb5; have HK5 := Lib.hid hk5; clear ho hb5 hk5)
    go_ret
    exact ⟨⟨_, _, _, rfl, by omega, by omega, HO5.out⟩, (HA.out.mono HB.out).trans HB5.out, fun g cs t m hg ht => (HK5.out g cs t m ((HA.out.block g (blk_lt hg)).trans hg) ht).trans (HA.out.block g (blk_lt hg))⟩
  · go_enter Tryz.func39, Tryz.ntmps39
    go_wp2
    go_ret
    exact ⟨⟨_, _, _, rfl, by omega, by omega, HT.out⟩, Below.refl _ _, fun _ _ _ _ _ _ => rfl⟩
theorem set6 {W : World} {n B : Nat} {t : TypeId} {c0 c1 c2 c3 c4 c5 : Value} (h : W.heap[n]? = some (.cells #[c0, c1, c2, c3, c4, c5] t (0, 0))) (hB : B ≤ n) (v0 v1 v2 v3 v4 v5 : Value) :
    Below B W ((((((W.setCell ⟨n, 0, none⟩ v0).setCell ⟨n, 1, none⟩ v1).setCell ⟨n, 2, none⟩ v2).setCell ⟨n, 3, none⟩ v3).setCell ⟨n, 4, none⟩ v4).setCell ⟨n, 5, none⟩ v5) ∧
    ((((((W.setCell ⟨n, 0, none⟩ v0).setCell ⟨n, 1, none⟩ v1).setCell ⟨n, 2, none⟩ v2).setCell ⟨n, 3, none⟩ v3).setCell ⟨n, 4, none⟩ v4).setCell ⟨n, 5, none⟩ v5).heap[n]? = some (.cells #[v0, v1, v2, v3, v4, v5] t (0, 0)) :=
  ⟨bset (bset (bset (bset (bset (bset (Below.refl B W) hB 0 v0) hB 1 v1) hB 2 v2) hB 3 v3) hB 4 v4) hB 5 v5, blk_set (blk_set (blk_set (blk_set (blk_set (blk_set h 0 v0) 1 v1) 2 v2) 3 v3) 4 v4) 5 v5⟩
set_option maxRecDepth 100000 in
/-- head. -/
theorem head_any {w : World} {B : Nat} {a : Ads} {lg sn : Bool} {stage jv ja : Int} {jr : ByteArray} {jm is : Bool} {came : Nat} {bs : List UInt8} (h : Sw w B a (stCells lg 200 (hdV a) stage a.gh a.gl jv jr ja jm is came sn) bs) : Calls Tryz.prog 40 #[.pointer (some ⟨a.g, 0, none⟩)] w fun e w' =>
    (∃ g' d', e = .returned (.agg #[.int .i64 1, .int .i64 0, .int .i64 200, .slice (some ⟨g', 0, none⟩) 1 (1 + d'), .string ⟨#[]⟩, .string ⟨#[]⟩])) ∧ Below w.heap.size w w' := by
  have hb0 : Below w.heap.size w (w.alloc (.cells #[.int .i64 0, .int .i64 0, .int .i64 0, .slice none 0 0, .string ⟨#[]⟩, .string ⟨#[]⟩] 47)) := (Below.refl _ _).alloc (Nat.le_refl _) _
  have hr0 : (w.alloc (.cells #[.int .i64 0, .int .i64 0, .int .i64 0, .slice none 0 0, .string ⟨#[]⟩, .string ⟨#[]⟩] 47)).heap[w.heap.size]? = some (.cells #[.int .i64 0, .int .i64 0, .int .i64 0, .slice none 0 0, .string ⟨#[]⟩, .string ⟨#[]⟩] 47 (0, 0)) := heap_alloc_new w _
  have hs0 := h.below hb0
  obtain ⟨k0, k1, k2, k3, k4, k5, k6, k7, k8, k9, k10, k11, k12, k13, k14, k15, k16, k17, k18, k19, k20⟩ := st_cells hs0.blk
  unfold hdV at k8
  have HO := Lib.hid (own_one (hs0.below (Below.drew (Below.refl _ _))).head)
  have hfld : ∀ (g' d' : Nat) (w : World), (Instr.field 34 (.agg #[.int .i64 200, .slice (some ⟨g', 0, none⟩) 1 (1 + d')]) 1).run Tryz.prog w = .ok (.slice (some ⟨g', 0, none⟩) 1 (1 + d')) w := fun g' d' w => by kernel_rfl
  have HS0 := Lib.hid (hs0.below (Below.drew (Below.refl _ _)))
  have HB0 := Lib.hid hb0
  have HR0 := Lib.hid hr0
  clear h hb0 hr0 hs0 k0 k1 k2 k3 k4 k5 k6 k9 k10 k11 k12 k13 k14 k15 k16 k17 k18 k19 k20
  go_enter Tryz.func40, Tryz.ntmps40
  go_wp2_with fail
  go_region_with (go_at_call 21; refine HO.out.mono ?_; rintro e w1 ⟨⟨g', d', rfl, hg', hh'⟩, hb1⟩; have HB1 := Lib.hid (below_then HB0.out (Nat.le_refl _) (below_then (Below.drew (Below.refl _ _)) (Nat.le_refl _) hb1)); have hr1 := (hb1.block w.heap.size (by simp)).trans HR0.out; have HR1 := Lib.hid hr1; have c0 := cell_of_row _ _ 0 _ _ _ hr1; have c1 := cell_of_row _ _ 1 _ _ _ hr1; have c2 := cell_of_row _ _ 2 _ _ _ hr1; have c3 := cell_of_row _ _ 3 _ _ _ hr1; have c4 := cell_of_row _ _ 4 _ _ _ hr1; have c5 := cell_of_row _ _ 5 _ _ _ hr1; have f0 := blk_frozen hr1 0; have f1 := blk_frozen hr1 1; have f2 := blk_frozen hr1 2; have f3 := blk_frozen hr1 3; have f4 := blk_frozen hr1 4; have f5 := blk_frozen hr1 5; obtain ⟨p0, p1, p2, p3, p4, p5, p6, p7, p8, p9, p10, p11, p12, p13, p14, p15, p16, p17, p18, p19, p20⟩ := st_cells (HS0.out.below hb1).blk; unfold hdV at p8; clear p0 p1 p2 p3 p4 p5 p6 p9 p10 p11 p12 p13 p14 p15 p16 p17 p18 p19 p20; clear hb1 hg' hh' hr1)
  all_goals
    have H6 := Lib.hid (set6 (B := w.heap.size) HR1.out (Nat.le_refl _) (.int .i64 1) (.int .i64 0) (.int .i64 200) (.slice (some ⟨g', 0, none⟩) 1 (1 + d')) (.string ⟨#[]⟩) (.string ⟨#[]⟩))
    go_wp2
    refine bodyPost_ret (results_cell_row Tryz.results40 _ _ w.heap.size 47 #[.int .i64 1, .int .i64 0, .int .i64 200, .slice (some ⟨g', 0, none⟩) 1 (1 + d'), .string ⟨#[]⟩, .string ⟨#[]⟩] (0, 0) _ rfl H6.out.2 Tryz.underlying47 rfl (by kernel_rfl)) rfl ?_
    exact ⟨⟨g', d', rfl⟩, HB1.out.trans H6.out.1⟩
end Go.Proofs.YtlhaaokldjdnnaaGreatDoor
