/-
  Layer 43 (mix): one number put into a row of numbers, by three appends. No condition but that a slice is no longer than a million.
-/
import Derived.Test.YtlalbfpdelfnfaaIds
import Derived.Test.YtlalbfpdelfnfaaMany
import Derived.Deep.RegionLaw
import Derived.Deep.DrawnRows
import Derived.Outline
namespace Go.Proofs.Ytlalbfpdelfnfaa
open Go.RowKit
set_option linter.unusedVariables false

/-- The first elements of a row. -/
theorem Row.take {w : World} {B : Nat} {e : TypeId} {A : Option Addr} {n cap : Nat} {xs : List Value} (h : Row w B e (.slice A n cap) n xs) {p : Nat} (hp : p ≤ n) : Row w B e (.slice A p cap) p (xs.take p) := by
  have hl := h.1
  refine ⟨by rw [List.length_take]; omega, ?_⟩
  rcases h.2 with ⟨h0, h1⟩ | ⟨g, off, cap', cur, hv, hb, hg, h1, h2, h3, hx⟩
  · cases h0
    exact .inl ⟨by rw [show p = 0 by omega], by omega⟩
  · cases hv
    exact .inr ⟨g, off, cap, cur, rfl, hb, hg, by omega, h2, h3, fun j u hj => hx j u (by
      rw [List.getElem?_take] at hj
      split at hj
      · exact hj
      · cases hj)⟩
/-- The last elements of a row. -/
theorem Row.drop {w : World} {B : Nat} {e : TypeId} {g off n cap : Nat} {xs : List Value} (h : Row w B e (.slice (some ⟨g, off, none⟩) n cap) n xs) {p : Nat} (hp : p ≤ n) :
    Row w B e (.slice (if cap = p then some ⟨g, off, none⟩ else some ⟨g, off + p, none⟩) (n - p) (cap - p)) (n - p) (xs.drop p) := by
  have hl := h.1
  refine ⟨by rw [List.length_drop, hl], ?_⟩
  rcases h.2 with ⟨h0, h1⟩ | ⟨g', off', cap', cur, hv, hb, hg, h1, h2, h3, hx⟩
  · cases h0
  · cases hv
    refine .inr ?_
    by_cases hc : cap = p
    · refine ⟨g, off, cap - p, cur, by rw [if_pos hc], hb, hg, by omega, by omega, by omega, fun j u hj => ?_⟩
      rw [List.getElem?_eq_none (by rw [List.length_drop]; omega)] at hj
      cases hj
    · refine ⟨g, off + p, cap - p, cur, by rw [if_neg hc], hb, hg, by omega, by omega, by omega, fun j u hj => ?_⟩
      rw [Nat.add_assoc]
      exact hx (p + j) u (by rwa [List.getElem?_drop] at hj)
theorem row_addr {w : World} {B : Nat} {e : TypeId} {A : Addr} {n c : Nat} {xs : List Value} (h : Row w B e (.slice (some A) n c) n xs) : ∃ g off, A = ⟨g, off, none⟩ ∧ B ≤ g := by
  rcases h.2 with ⟨h0, _⟩ | ⟨g, off, cap, cur, hv, hb, _⟩
  · cases h0
  · injection hv with hv
    injection hv with hv
    exact ⟨g, off, hv, hb⟩
theorem vi_one {ys : List Int} : ∀ x ∈ ys.map vi, x.oneCell' = true := fun x hx => by
  obtain ⟨y, _, rfl⟩ := List.mem_map.1 hx
  rfl
/-- An append whose run is known, as one step of a region that draws. -/
theorem step_append_run {P : Program} {ops : Array Oper} {o : Oper} {a : Act} {w : World} {K : Act → World → Prop} {Q : Exit → Act → World → Prop} {E : Prop}
    (hg : o.guard = none) (s x : Operand) (t : TypeId) (hop : o.op = Op.call { callee := Callee.builtin Builtin.append, args := #[s, x], argTypes := #[t, t] }) (v1 v2 v' : Value) (w' : World)
    (hs : a.eval s = v1) (hx : a.eval x = v2) (hrun : (Builtin.append_ #[t, t] o.type #[v1, v2]).run P w = .ok v' w') (hK : K (a.put o.dst v') w') :
    if Region.wanted o (yielded ops a.tmps) = true then Oper.wp P o a w K Q else E := by
  have hw : Region.wanted o (yielded ops a.tmps) = true := by simp [Region.wanted, hg]
  rw [if_pos hw]
  unfold Oper.wp
  simp [execOp, hop, resolve, invoke, builtin, hs, hx, hrun, Result.andThen]
  exact hK

/-- The first append: what stands ahead. -/
theorem app1 {wr W0 : World} {B : Nat} {ge : Nat} {A : Option Addr} {n cap p : Nat} {ys : List Int} (hb : Below wr.heap.size wr W0) (hge : W0.heap[ge]? = some (.cells #[] 3 (0, 0))) (hgl : wr.heap.size ≤ ge)
    (h : Row wr B 3 (.slice A n cap) n (ys.map vi)) (hp : p ≤ n) (hn : n ≤ 1000000) :
    ∃ g1 o1 c1 w1, (Builtin.append_ #[37, 37] 37 #[.slice (some ⟨ge, 0, none⟩) 0 0, .slice A p cap]).run Try.prog W0 = .ok (.slice (some ⟨g1, o1, none⟩) p c1) w1 ∧
      Row w1 wr.heap.size 3 (.slice (some ⟨g1, o1, none⟩) p c1) p ((ys.take p).map vi) ∧ Below wr.heap.size wr w1 := by
  obtain ⟨i, hi, hz0, hz1, hz2⟩ := info_parts info3
  have he : Row W0 wr.heap.size 3 (.slice (some ⟨ge, 0, none⟩) 0 0) 0 [] := ⟨rfl, .inr ⟨ge, 0, 0, #[], rfl, hgl, hge, Nat.le_refl _, Nat.zero_le _, Nat.le_refl _, fun j u hj => by simp at hj⟩⟩
  have hsrc : Row W0 B 3 (.slice A p cap) p ((ys.take p).map vi) := by
    rw [List.map_take]
    exact (h.below hb (Nat.le_refl _)).take hp
  obtain ⟨A1, c1, w1, r1, hr1, hg1⟩ := run_append_rows W0 wr.heap.size 37 37 3 i (.int .i64 0) Try.underlying37 hi hz0 hz1 (by omega) rfl ge 0 0 0 [] he _ p _ (Row.src hsrc Try.underlying37 vi_one) (by omega) hb.size
  rw [Nat.zero_add] at r1 hr1
  rw [List.nil_append] at hr1
  obtain ⟨g1, o1, rfl, _⟩ := row_addr hr1
  exact ⟨g1, o1, c1, w1, r1, hr1, hb.grown hg1 hb.size fun b hb => by cases hb; exact hgl⟩
/-- The second one: the number. -/
theorem app2 {wr W1 : World} {g1 o1 c1 p : Nat} {zs : List Int} {ad : Addr} {x : Int} (hb : Below wr.heap.size wr W1) (h : Row W1 wr.heap.size 3 (.slice (some ⟨g1, o1, none⟩) p c1) p (zs.map vi)) (hc : W1.cell? ad = some (.int .i64 x)) (hp : p ≤ 1000000) :
    ∃ g2 o2 c2 w2, (Builtin.append_ #[37, 37] 37 #[.slice (some ⟨g1, o1, none⟩) p c1, .slice (some ad) 1 1]).run Try.prog W1 = .ok (.slice (some ⟨g2, o2, none⟩) (p + 1) c2) w2 ∧
      Row w2 wr.heap.size 3 (.slice (some ⟨g2, o2, none⟩) (p + 1) c2) (p + 1) ((zs ++ [x]).map vi) ∧ Below wr.heap.size wr w2 := by
  obtain ⟨i, hi, hz0, hz1, hz2⟩ := info_parts info3
  obtain ⟨v', w2, r2, hr2, hg2, _⟩ := run_append_row W1 wr.heap.size 37 37 3 i (.int .i64 0) Try.underlying37 hi hz0 hz1 (by omega) rfl _ p _ h ad 1 (.int .i64 x) hc rfl (by omega) hb.size
  obtain ⟨A2, c2, rfl⟩ : ∃ A2 c2, v' = .slice (some A2) (p + 1) c2 := by
    rcases hr2.2 with ⟨_, h0⟩ | ⟨g, off, cap, cur, hv, _⟩
    · omega
    · exact ⟨_, _, hv⟩
  obtain ⟨g2, o2, rfl, _⟩ := row_addr hr2
  have e : (zs ++ [x]).map vi = zs.map vi ++ [.int .i64 x] := by rw [List.map_append]; rfl
  rw [← e] at hr2
  exact ⟨g2, o2, c2, w2, r2, hr2, hb.grown hg2 hb.size fun b hb => (h.lt b hb).1⟩
/-- The third one: what stands behind. -/
theorem app3 {wr W2 : World} {B g off n cap p : Nat} {ys zs : List Int} {g2 o2 c2 : Nat} (hb : Below wr.heap.size wr W2) (h2 : Row W2 wr.heap.size 3 (.slice (some ⟨g2, o2, none⟩) (p + 1) c2) (p + 1) (zs.map vi))
    (h : Row wr B 3 (.slice (some ⟨g, off, none⟩) n cap) n (ys.map vi)) (hp : p ≤ n) (hn : n ≤ 1000000) :
    ∃ g3 o3 c3 w3, (Builtin.append_ #[37, 37] 37 #[.slice (some ⟨g2, o2, none⟩) (p + 1) c2, .slice (if cap = p then some ⟨g, off, none⟩ else some ⟨g, off + p, none⟩) (n - p) (cap - p)]).run Try.prog W2 = .ok (.slice (some ⟨g3, o3, none⟩) (n + 1) c3) w3 ∧
      Row w3 wr.heap.size 3 (.slice (some ⟨g3, o3, none⟩) (n + 1) c3) (n + 1) ((zs ++ ys.drop p).map vi) ∧ Below wr.heap.size wr w3 := by
  obtain ⟨i, hi, hz0, hz1, hz2⟩ := info_parts info3
  have hsrc := (h.below hb (Nat.le_refl _)).drop hp
  rw [← List.map_drop] at hsrc
  obtain ⟨A3, c3, w3, r3, hr3, hg3⟩ := run_append_rows W2 wr.heap.size 37 37 3 i (.int .i64 0) Try.underlying37 hi hz0 hz1 (by omega) rfl g2 o2 (p + 1) c2 _ h2 _ (n - p) _ (Row.src hsrc Try.underlying37 vi_one) (by omega) hb.size
  rw [show p + 1 + (n - p) = n + 1 by omega] at r3 hr3
  rw [← List.map_append] at hr3
  obtain ⟨g3, o3, rfl, _⟩ := row_addr hr3
  exact ⟨g3, o3, c3, w3, r3, hr3, hb.grown hg3 hb.size fun b hb => by cases hb; exact (h2.lt g2 rfl).1⟩

/-- The three appends, both new rows being there. -/
theorem three {wr W0 : World} {B ge : Nat} {ad : Addr} {g off n cap p : Nat} {x : Int} {ys : List Int} (hb : Below wr.heap.size wr W0) (hge : W0.heap[ge]? = some (.cells #[] 3 (0, 0))) (hgl : wr.heap.size ≤ ge)
    (hc : ad.block ≠ ge ∧ W0.cell? ad = some (.int .i64 x)) (h : Row wr B 3 (.slice (some ⟨g, off, none⟩) n cap) n (ys.map vi)) (hp : p ≤ n) (hn : n ≤ 1000000) :
    ∃ v1 w1 v2 w2 g3 o3 c3 w3, (Builtin.append_ #[37, 37] 37 #[.slice (some ⟨ge, 0, none⟩) 0 0, .slice (some ⟨g, off, none⟩) p cap]).run Try.prog W0 = .ok v1 w1 ∧
      (Builtin.append_ #[37, 37] 37 #[v1, .slice (some ad) 1 1]).run Try.prog w1 = .ok v2 w2 ∧
      (Builtin.append_ #[37, 37] 37 #[v2, .slice (if cap = p then some ⟨g, off, none⟩ else some ⟨g, off + p, none⟩) (n - p) (cap - p)]).run Try.prog w2 = .ok (.slice (some ⟨g3, o3, none⟩) (n + 1) c3) w3 ∧
      Row w3 wr.heap.size 3 (.slice (some ⟨g3, o3, none⟩) (n + 1) c3) (n + 1) ((ys.take p ++ x :: ys.drop p).map vi) ∧ Below wr.heap.size wr w3 := by
  obtain ⟨i, hi, hz0, hz1, hz2⟩ := info_parts info3
  have he : Row W0 wr.heap.size 3 (.slice (some ⟨ge, 0, none⟩) 0 0) 0 [] := ⟨rfl, .inr ⟨ge, 0, 0, #[], rfl, hgl, hge, Nat.le_refl _, Nat.zero_le _, Nat.le_refl _, fun j u hj => by simp at hj⟩⟩
  have hsrc : Row W0 B 3 (.slice (some ⟨g, off, none⟩) p cap) p ((ys.take p).map vi) := by
    rw [List.map_take]
    exact (h.below hb (Nat.le_refl _)).take hp
  obtain ⟨A1, c1, w1, r1, hr1, hg1⟩ := run_append_rows W0 wr.heap.size 37 37 3 i (.int .i64 0) Try.underlying37 hi hz0 hz1 (by omega) rfl ge 0 0 0 [] he _ p _ (Row.src hsrc Try.underlying37 vi_one) (by omega) hb.size
  rw [Nat.zero_add] at r1 hr1
  rw [List.nil_append] at hr1
  obtain ⟨g1, o1, rfl, _⟩ := row_addr hr1
  have hb1 : Below wr.heap.size wr w1 := hb.grown hg1 hb.size fun b hb => by cases hb; exact hgl
  have hc1 : w1.cell? ad = some (.int .i64 x) := (World.cell?_of_block (hg1.block ad.block (lt_of_cell hc.2) (fun e => hc.1 (by injection e)))).trans hc.2
  obtain ⟨g2, o2, c2, w2, r2, hr2, hb2⟩ := app2 hb1 hr1 hc1 (by omega)
  obtain ⟨g3, o3, c3, w3, r3, hr3, hb3⟩ := app3 hb2 hr2 h hp hn
  refine ⟨_, w1, _, w2, g3, o3, c3, w3, r1, r2, r3, ?_, hb3⟩
  have e : ys.take p ++ [x] ++ ys.drop p = ys.take p ++ x :: ys.drop p := by simp
  rw [e] at hr3
  exact hr3

def Ends (wr : World) (n p : Nat) (x : Int) (ys : List Int) (g3 o3 c3 : Nat) (w3 : World) : Prop :=
  Row w3 wr.heap.size 3 (.slice (some ⟨g3, o3, none⟩) (n + 1) c3) (n + 1) ((ys.take p ++ x :: ys.drop p).map vi) ∧ Below wr.heap.size wr w3
/-- .. the second row being laid behind the first append. -/
theorem runs1 {wr : World} {B g off n cap p : Nat} {x : Int} {ys : List Int} {ax : Addr} (h : Row wr B 3 (.slice (some ⟨g, off, none⟩) n cap) n (ys.map vi)) (hp : p ≤ n) (hn : n ≤ 1000000) (hx : wr.cell? ax = some (.int .i64 x)) (q : Nat) :
    ∃ v1 w1 v2 w2 g3 o3 c3 w3, (Builtin.append_ #[37, 37] 37 #[.slice (some ⟨wr.heap.size, 0, none⟩) 0 0, .slice (some ⟨g, off, none⟩) p cap]).run Try.prog ((wr.drewN q).alloc (.cells #[] 3)) = .ok v1 w1 ∧
      (Builtin.append_ #[37, 37] 37 #[v1, .slice (some ⟨w1.heap.size, 0, none⟩) 1 1]).run Try.prog (w1.alloc (.cells #[.int .i64 x] 3)) = .ok v2 w2 ∧
      (Builtin.append_ #[37, 37] 37 #[v2, .slice (if cap = p then some ⟨g, off, none⟩ else some ⟨g, off + p, none⟩) (n - p) (cap - p)]).run Try.prog w2 = .ok (.slice (some ⟨g3, o3, none⟩) (n + 1) c3) w3 ∧
      w1.cell? ax = some (.int .i64 x) ∧ Hid (Ends wr n p x ys g3 o3 c3 w3) := by
  have hb0 : Below wr.heap.size wr ((wr.drewN q).alloc (.cells #[] 3)) := (below_drewN (Below.refl _ _) q).alloc (Nat.le_refl _) _
  obtain ⟨g1, o1, c1, w1, r1, hr1, hb1⟩ := app1 (ge := wr.heap.size) hb0 (heap_alloc_new (wr.drewN q) _) (Nat.le_refl _) h hp hn
  have hb1' : Below wr.heap.size wr (w1.alloc (.cells #[.int .i64 x] 3)) := hb1.alloc hb1.size _
  obtain ⟨g2, o2, c2, w2, r2, hr2, hb2⟩ := app2 (ad := ⟨w1.heap.size, 0, none⟩) (x := x) hb1' (hr1.alloc _) (by rw [World.cell?_alloc_new]; rfl) (by omega)
  obtain ⟨g3, o3, c3, w3, r3, hr3, hb3⟩ := app3 hb2 hr2 h hp hn
  have e : ys.take p ++ [x] ++ ys.drop p = ys.take p ++ x :: ys.drop p := by simp
  rw [e] at hr3
  exact ⟨_, w1, _, w2, g3, o3, c3, w3, r1, r2, r3, (hb1.cell (lt_of_cell hx)).trans hx, hr3, hb3⟩
/-- .. behind the first row. -/
theorem runs2 {wr : World} {B g off n cap p : Nat} {x : Int} {ys : List Int} (h : Row wr B 3 (.slice (some ⟨g, off, none⟩) n cap) n (ys.map vi)) (hp : p ≤ n) (hn : n ≤ 1000000) (q : Nat) :
    ∃ v1 w1 v2 w2 g3 o3 c3 w3, (Builtin.append_ #[37, 37] 37 #[.slice (some ⟨wr.heap.size, 0, none⟩) 0 0, .slice (some ⟨g, off, none⟩) p cap]).run Try.prog (((wr.drewN q).alloc (.cells #[] 3)).alloc (.cells #[.int .i64 x] 3)) = .ok v1 w1 ∧
      (Builtin.append_ #[37, 37] 37 #[v1, .slice (some ⟨wr.heap.size + 1, 0, none⟩) 1 1]).run Try.prog w1 = .ok v2 w2 ∧
      (Builtin.append_ #[37, 37] 37 #[v2, .slice (if cap = p then some ⟨g, off, none⟩ else some ⟨g, off + p, none⟩) (n - p) (cap - p)]).run Try.prog w2 = .ok (.slice (some ⟨g3, o3, none⟩) (n + 1) c3) w3 ∧
      Hid (Ends wr n p x ys g3 o3 c3 w3) := by
  have hb0 : Below wr.heap.size wr (((wr.drewN q).alloc (.cells #[] 3)).alloc (.cells #[.int .i64 x] 3)) := ((below_drewN (Below.refl _ _) q).alloc (Nat.le_refl _) _).alloc (by simp) _
  obtain ⟨v1, w1, v2, w2, g3, o3, c3, w3, r1, r2, r3, hr, hb⟩ := three (x := x) (ge := wr.heap.size) (ad := ⟨wr.heap.size + 1, 0, none⟩) hb0 ((Below.heap_alloc _ _ _ (by simp)).trans (heap_alloc_new (wr.drewN q) _)) (Nat.le_refl _)
    ⟨by simp, by rw [show wr.heap.size + 1 = ((wr.drewN q).alloc (.cells #[] 3)).heap.size by simp, World.cell?_alloc_new]; rfl⟩ h hp hn
  exact ⟨v1, w1, v2, w2, g3, o3, c3, w3, r1, r2, r3, hr, hb⟩
/-- .. ahead of the first row. -/
theorem runs3 {wr : World} {B g off n cap p : Nat} {x : Int} {ys : List Int} (h : Row wr B 3 (.slice (some ⟨g, off, none⟩) n cap) n (ys.map vi)) (hp : p ≤ n) (hn : n ≤ 1000000) (q : Nat) :
    ∃ v1 w1 v2 w2 g3 o3 c3 w3, (Builtin.append_ #[37, 37] 37 #[.slice (some ⟨wr.heap.size + 1, 0, none⟩) 0 0, .slice (some ⟨g, off, none⟩) p cap]).run Try.prog (((wr.drewN q).alloc (.cells #[.int .i64 x] 3)).alloc (.cells #[] 3)) = .ok v1 w1 ∧
      (Builtin.append_ #[37, 37] 37 #[v1, .slice (some ⟨wr.heap.size, 0, none⟩) 1 1]).run Try.prog w1 = .ok v2 w2 ∧
      (Builtin.append_ #[37, 37] 37 #[v2, .slice (if cap = p then some ⟨g, off, none⟩ else some ⟨g, off + p, none⟩) (n - p) (cap - p)]).run Try.prog w2 = .ok (.slice (some ⟨g3, o3, none⟩) (n + 1) c3) w3 ∧
      Hid (Ends wr n p x ys g3 o3 c3 w3) := by
  have hb0 : Below wr.heap.size wr (((wr.drewN q).alloc (.cells #[.int .i64 x] 3)).alloc (.cells #[] 3)) := ((below_drewN (Below.refl _ _) q).alloc (Nat.le_refl _) _).alloc (by simp) _
  obtain ⟨v1, w1, v2, w2, g3, o3, c3, w3, r1, r2, r3, hr, hb⟩ := three (x := x) (ge := wr.heap.size + 1) (ad := ⟨wr.heap.size, 0, none⟩) hb0 (by have := heap_alloc_new ((wr.drewN q).alloc (.cells #[.int .i64 x] 3)) (.cells #[] 3); simpa using this) (by omega)
    ⟨by simp, by
      refine (World.cell?_of_block (Below.heap_alloc _ _ _ (by simp))).trans ?_
      rw [show wr.heap.size = (wr.drewN q).heap.size from rfl, World.cell?_alloc_new]
      rfl⟩ h hp hn
  exact ⟨v1, w1, v2, w2, g3, o3, c3, w3, r1, r2, r3, hr, hb⟩

end Go.Proofs.Ytlalbfpdelfnfaa
