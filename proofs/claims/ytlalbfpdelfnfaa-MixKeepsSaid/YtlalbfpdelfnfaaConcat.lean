/-
  Layer 43 (mix): two lists of events, one behind the other, by slices.Grow and slices.Concat. No condition but that the lists are no longer than a million.
-/
import Derived.Test.YtlalbfpdelfnfaaPush
import Derived.Lib.AppendZerosOnto
import Derived.Lib.Walk
import Derived.Lib.SliceRun
namespace Go.Proofs.Ytlalbfpdelfnfaa
open Go.RowKit
set_option linter.unusedVariables false
set_option linter.unusedSimpArgs false

set_option maxRecDepth 100000 in
set_option maxHeartbeats 1000000 in
theorem grow_any (w : World) (n : Nat) (hn : n ≤ 2000000) : Calls Try.prog 45 #[.slice none 0 0, .int .i64 n] w fun o w' => ∃ A c, o = .returned (.slice A 0 c) ∧ Rk w' w.heap.size 32 9 (.slice A 0 c) 0 [] ∧ Below w.heap.size w w' := by
  by_cases h0 : n = 0
  · subst h0
    go_enter Try.func45, Try.ntmps45
    go_wp2
    go_ret
    exact ⟨none, 0, rfl, Rk.nil_ _ _ _ _, Below.refl _ _⟩
  · obtain ⟨i0, hi, ⟨z, hz, hzc⟩, hsz, hby⟩ := infoE'
    have hold : (Builtin.firstCells i0.size 0 (.slice none 0 0)).run Try.prog w.drew = .ok ([] : List Value).toArray w.drew := run_firstCells_none w.drew i0.size 0 0 0
    have hm : n * i0.bytes ≤ 2000000 * 1000 := Nat.mul_le_mul hn hby
    have hrz := fun ty => Lib.run_append_grow_zeros w 22 3 ty 32 i0 z .i64 .i64 Try.underlying22 Try.underlying3 hi hz none 0 0 [] hold n (by omega) (by omega) (by omega) (by omega) (by omega) (growslice_fits (by omega) (by rw [Nat.zero_add]; omega))
    simp only [Nat.zero_add] at hrz
    have hG := grownCap_ge w n 0 32
    have hGm := grownCap_le_maxLen w n 0 32 (by unfold maxLen; omega)
    obtain ⟨G, hg⟩ : ∃ G, G = grownCap w n 0 32 := ⟨_, rfl⟩
    rw [← hg] at hrz hG hGm
    have hsize : (([] : List Value).toArray ++ Builtin.zeroCells z.cells n ++ Builtin.zeroCells z.cells (G - n)).size = G * 9 := by
      simp only [Array.size_append, size_zeroCells, hzc, List.size_toArray, List.length_nil]
      omega
    generalize (([] : List Value).toArray ++ Builtin.zeroCells z.cells n ++ Builtin.zeroCells z.cells (G - n)) = cur at hrz hsize
    have HS := Lib.hid hsize
    have HGM := Lib.hid hGm
    have hG63 : G ≤ 9223372036854775807 := Nat.le_trans hGm (by decide +kernel)
    have hd : decide ((0 : Int) < (n : Int)) = true := by simp; omega
    clear hold hm hg hsize hGm hi hz hsz hby hzc
    go_enter Try.func45, Try.ntmps45
    go_wp2_with (at_builtin; refine Lib.wpList_append_run _ rfl _ _ _ _ rfl _ _ rfl rfl _ _ (hrz _) ?_)
    go_ret
    refine ⟨_, _, rfl, ⟨by simp, .inr ⟨w.heap.size, 0, G, cur, rfl, Nat.le_refl _, heap_alloc_new w.drew _, Nat.zero_le _, HGM.out, by rw [HS.out]; omega, fun j u hj => by simp at hj⟩⟩, (Below.refl w.heap.size w).drew.alloc (Nat.le_refl _) _⟩

/-- A whole list of events is appended. -/
theorem wpList_pushes {ops : Array Oper} {rest : List Oper} {o : Oper} {a : Act} {w wr : World} {Q : Exit → Act → World → Prop} (hgd : o.guard = none) (s x : Operand)
    (ho : o.op = .call { callee := .builtin .append, args := #[s, x], argTypes := #[22, 22] }) {B lo : Nat} {A : Option Addr} {c j n : Nat} {os es : List Ev} {v : Value} (hO : Outs wr B lo (.slice A j c) j os)
    (hE : Evs w lo v n es) (hb : Below w.heap.size w wr) (hB : w.heap.size ≤ B) (hBs : B ≤ wr.heap.size) (hn : j + n ≤ 1000000000)
    (hs : a.eval s = .slice A j c) (hx : a.eval x = v)
    (k : ∀ A' c' w', Outs w' B lo (.slice A' (j + n) c') (j + n) (os ++ es) → wr.grownBy w' (Value.slice A j c).ownBlock → (∀ b, (Value.slice A' (j + n) c').ownBlock = some b → (Value.slice A j c).ownBlock = some b ∨ wr.heap.size ≤ b) → wpList Try.prog ops Q rest (a.put o.dst (.slice A' (j + n) c')) w') : wpList Try.prog ops Q (o :: rest) a wr := by
  obtain ⟨i0, hi, ⟨z, hz, hzc⟩, hsz, hby⟩ := infoE'
  have hO0 := hO
  obtain ⟨ps, h1, h2, h3, h4⟩ := hO
  obtain ⟨qs, g1, g2, g3, g4⟩ := hE
  have hone : ∀ u ∈ qs.flatMap evp, u.oneCell' = true := fun u hu => by
    obtain ⟨p, hp, hu⟩ := List.mem_flatMap.1 hu
    obtain ⟨A', c', hv⟩ := (g4 p hp).slice
    rw [evp, hv] at hu
    exact evc_one u hu
  refine wpList_append_rk hgd s x 22 ho B 32 i0 z 9 Try.underlying22 hi hz hsz hby hzc _ j _ hs h3 _ n _ hx ((g3.below hb (Nat.le_refl _)).src Try.underlying22 hone) hn hBs fun A' c' w' hr hg hown => ?_
  refine k A' c' w' ⟨ps ++ qs, by rw [List.map_append, h1, g1], by rw [List.length_append, h2, g2], by rw [List.flatMap_append]; exact hr, fun p hp => ?_⟩ hg hown
  rcases List.mem_append.1 hp with hp | hp
  · exact (h4 p hp).1.grown (h4 p hp).2 hg.size hg.block h3.typed
  · exact ((g4 p hp).below hb).grown (fun j hj => .inl (Nat.lt_of_lt_of_le ((g4 p hp).2 j hj) hB)) hg.size hg.block h3.typed

def Same_ (w wr : World) : Prop := wr = w
def sm (n m : Nat) : Nat → Nat | 0 => 0 | 1 => n | _ => n + m
def pre (es fs : List Ev) : Nat → List Ev | 0 => [] | 1 => es | _ => es ++ fs
set_option maxRecDepth 100000 in
set_option maxHeartbeats 2000000 in
theorem concat_any {w0 w : World} {n m p : Nat} {v v2 : Value} {es fs : List Ev} (h : Evs w0 0 v n es) (h2 : Evs w0 0 v2 m fs) (hb0 : Below w0.heap.size w0 w) (hn : n ≤ 1000000) (hm : m ≤ 1000000) (hp0 : w.cell? ⟨p, 0, none⟩ = some v) (hp1 : w.cell? ⟨p, 1, none⟩ = some v2) :
    Calls Try.prog 30 #[.slice (some ⟨p, 0, none⟩) 2 2] w fun o w' => ∃ A c, o = .returned (.slice A (n + m) c) ∧ Outs w' w0.heap.size 0 (.slice A (n + m) c) (n + m) (es ++ fs) ∧ Below w.heap.size w w' ∧ ∀ b, (Value.slice A (n + m) c).ownBlock = some b → w.heap.size ≤ b := by
  have HA := Lib.hid h
  have HC := Lib.hid h2
  obtain ⟨A0, c0, rfl⟩ := h.slice
  obtain ⟨A1, c1, rfl⟩ := h2.slice
  have HG := Lib.hid (grow_any w (n + m) (by omega))
  rw [Int.natCast_add] at HG
  have HB0 := Lib.hid hb0
  have HP0 := Lib.hid hp0
  have HP1 := Lib.hid hp1
  clear h h2 hb0
  go_enter Try.func30, Try.ntmps30
  go_wp2
  go_loopw [3, 11] (fun sv iv wr => ∃ i : Nat, i ≤ 2 ∧ sv = .int .i64 (sm n m i : Nat) ∧ iv = .int .i64 i ∧ Same_ w wr) (fun _ iv _ => 2 - (intOf iv).toNat)
  case atStart => exact ⟨0, by omega, rfl, rfl, rfl⟩
  case round =>
    obtain ⟨i, hi, rfl, rfl, HW⟩ := hrel
    have hw : wr = w := HW
    clear HW
    subst hw
    obtain rfl | rfl | rfl : i = 0 ∨ i = 1 ∨ i = 2 := by omega
    · simp only [sm]
      go_wp2
      go_roundw
      case rel => exact ⟨1, by omega, by go_num, rfl, rfl⟩
      case measure => simp [intOf]
    · simp only [sm]
      go_wp2
      go_roundw
      case rel => exact ⟨2, by omega, by go_num, rfl, rfl⟩
      case measure => simp [intOf]
    · simp only [sm]
      clear hp0 hp1
      obtain ⟨wb, rfl⟩ : ∃ wb : World, wb = wr := ⟨_, rfl⟩
      have HLA := Lib.hid HA.out.len
      have HLC := Lib.hid HC.out.len
      go_wp2_with fail
      refine HG.out.mono ?_
      rintro o w1 ⟨A, c, rfl, hr, hb⟩
      have HR := Lib.hid hr
      have HB1 := Lib.hid hb
      clear hr hb HG
      go_wp2
      go_loopw [6, 27] (fun o iv W => ∃ (i j c : Nat) (A : Option Addr), i ≤ 2 ∧ o = .slice A j c ∧ iv = .int .i64 i ∧ Hid (j = (pre es fs i).length) ∧ Hid (Outs W w0.heap.size 0 (.slice A j c) j (pre es fs i)) ∧ Hid (Below wb.heap.size wb W) ∧ Hid (∀ b, (Value.slice A j c).ownBlock = some b → wb.heap.size ≤ b)) (fun _ iv _ => 2 - (intOf iv).toNat)
      case atStart => exact ⟨0, 0, c, A, by omega, rfl, rfl, Lib.hid rfl, Lib.hid ⟨[], rfl, rfl, HR.out.base HB0.out.size, fun p hp => by simp at hp⟩, HB1, Lib.hid fun b hb => (HR.out.lt b hb).1⟩
      case round =>
        obtain ⟨i, j, c, A, hi, rfl, rfl, HJ, HO, HB, HOWN⟩ := hrel
        obtain rfl | rfl | rfl : i = 0 ∨ i = 1 ∨ i = 2 := by omega
        · have hc := (HB.out.cell (p := ⟨p, 0, none⟩) (lt_of_cell HP0.out)).trans HP0.out
          go_wp2_with (at_builtin; refine wpList_pushes rfl (.tmp 31) (.tmp 32) rfl HO.out HA.out (below_then HB0.out (Nat.le_refl _) HB.out) (Nat.le_refl _) (Nat.le_trans HB0.out.size HB.out.size) (by have := HJ.out; simp only [pre, List.length_nil] at this; omega) rfl rfl ?_; intro A' c' w5 ho hg hown; have HO5 := Lib.hid ho; have HB5 := Lib.hid (HB.out.grown hg HB.out.size fun b hb => HOWN.out b hb); have HOW5 : Hid (∀ b, (Value.slice A' _ c').ownBlock = some b → wb.heap.size ≤ b) := Lib.hid (fun b hb => (hown b hb).elim (HOWN.out b) fun h => Nat.le_trans HB.out.size h); clear ho hg hown)
          go_roundw
          case rel => exact ⟨1, _, c', A', by omega, rfl, rfl, Lib.hid (by have := HJ.out; have h1 := HLA.out; have h2 := HLC.out; simp only [pre, List.length_nil, List.length_append] at this ⊢; omega), Lib.hid (by simpa [pre] using HO5.out), HB5, HOW5⟩
          case measure => simp [intOf]
        · have hc := (HB.out.cell (p := ⟨p, 1, none⟩) (lt_of_cell HP1.out)).trans HP1.out
          go_wp2_with (at_builtin; refine wpList_pushes rfl (.tmp 31) (.tmp 32) rfl HO.out HC.out (below_then HB0.out (Nat.le_refl _) HB.out) (Nat.le_refl _) (Nat.le_trans HB0.out.size HB.out.size) (by have := HJ.out; have h2 := HLA.out; simp only [pre] at this; omega) rfl rfl ?_; intro A' c' w5 ho hg hown; have HO5 := Lib.hid ho; have HB5 := Lib.hid (HB.out.grown hg HB.out.size fun b hb => HOWN.out b hb); have HOW5 : Hid (∀ b, (Value.slice A' _ c').ownBlock = some b → wb.heap.size ≤ b) := Lib.hid (fun b hb => (hown b hb).elim (HOWN.out b) fun h => Nat.le_trans HB.out.size h); clear ho hg hown)
          go_roundw
          case rel => exact ⟨2, _, c', A', by omega, rfl, rfl, Lib.hid (by have := HJ.out; have h1 := HLA.out; have h2 := HLC.out; simp only [pre, List.length_nil, List.length_append] at this ⊢; omega), Lib.hid (by simpa [pre] using HO5.out), HB5, HOW5⟩
          case measure => simp [intOf]
        · go_wp2
          go_ret
          have e : j = n + m := by have := HJ.out; have h1 := HLA.out; have h2 := HLC.out; simp only [pre, List.length_append] at this; omega
          rw [← e]
          exact ⟨A, c, rfl, HO.out, HB.out, HOWN.out⟩
end Go.Proofs.Ytlalbfpdelfnfaa
