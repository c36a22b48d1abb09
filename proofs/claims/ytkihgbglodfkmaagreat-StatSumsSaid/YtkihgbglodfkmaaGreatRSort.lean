/-
  Layer 41: the numbers in order, by the document: each is put behind all that are not greater. No condition but that a slice is no longer than a million.
-/
import Derived.Test.YtkihgbglodfkmaaGreatAt
import Derived.Deep.RegionLaw
import Derived.Deep.DrawnRows
import Derived.Outline
namespace Go.Proofs.YtkihgbglodfkmaaGreat
open Go.RowKit
set_option linter.unusedVariables false
attribute [local go_sem ↓] Go.wp_at_zero Go.wp_at_succ

/-- The first elements of a row. -/
theorem Row.take {w : World} {B : Nat} {e : TypeId} {A : Option Addr} {n cap : Nat} {xs : List Value} (h : Row w B e (.slice A n cap) n xs) {p : Nat} (hp : p ≤ n) : Row w B e (.slice A p cap) p (xs.take p) := by
  have hl := h.1
  refine ⟨by rw [List.length_take]; omega, ?_⟩
  rcases h.2 with ⟨h0, h1⟩ | ⟨g, off, cap', cur, hv, hb, hg, h1, h2, h3, hx⟩
  · cases h0
    exact .inl ⟨by rw [show p = 0 by omega], by omega⟩
  · cases hv
    exact .inr ⟨g, off, cap, cur, rfl, hb, hg, by omega, h2, h3, fun j u hj => hx j u (by
      rw [List.getElem?_take] at hj
      split at hj
      · exact hj
      · cases hj)⟩
/-- The last elements of a row. -/
theorem Row.drop {w : World} {B : Nat} {e : TypeId} {g off n cap : Nat} {xs : List Value} (h : Row w B e (.slice (some ⟨g, off, none⟩) n cap) n xs) {p : Nat} (hp : p ≤ n) :
    Row w B e (.slice (if cap = p then some ⟨g, off, none⟩ else some ⟨g, off + p, none⟩) (n - p) (cap - p)) (n - p) (xs.drop p) := by
  have hl := h.1
  refine ⟨by rw [List.length_drop, hl], ?_⟩
  rcases h.2 with ⟨h0, h1⟩ | ⟨g', off', cap', cur, hv, hb, hg, h1, h2, h3, hx⟩
  · cases h0
  · cases hv
    refine .inr ?_
    by_cases hc : cap = p
    · refine ⟨g, off, cap - p, cur, by rw [if_pos hc], hb, hg, by omega, by omega, by omega, fun j u hj => ?_⟩
      rw [List.getElem?_eq_none (by rw [List.length_drop]; omega)] at hj
      cases hj
    · refine ⟨g, off + p, cap - p, cur, by rw [if_neg hc], hb, hg, by omega, by omega, by omega, fun j u hj => ?_⟩
      rw [Nat.add_assoc]
      exact hx (p + j) u (by rwa [List.getElem?_drop] at hj)
theorem row_addr {w : World} {B : Nat} {e : TypeId} {A : Addr} {n c : Nat} {xs : List Value} (h : Row w B e (.slice (some A) n c) n xs) : ∃ g off, A = ⟨g, off, none⟩ ∧ B ≤ g := by
  rcases h.2 with ⟨h0, _⟩ | ⟨g, off, cap, cur, hv, hb, _⟩
  · cases h0
  · injection hv with hv
    injection hv with hv
    exact ⟨g, off, hv, hb⟩
theorem fl_one {ys : List Nat} : ∀ x ∈ ys.map fl, x.oneCell' = true := fun x hx => by
  obtain ⟨y, _, rfl⟩ := List.mem_map.1 hx
  rfl
/-- An append whose run is known, as one step of a region that draws. -/
theorem step_append_run {P : Program} {ops : Array Oper} {o : Oper} {a : Act} {w : World} {K : Act → World → Prop} {Q : Exit → Act → World → Prop} {E : Prop}
    (hg : o.guard = none) (s x : Operand) (t : TypeId) (hop : o.op = Op.call { callee := Callee.builtin Builtin.append, args := #[s, x], argTypes := #[t, t] }) (v1 v2 v' : Value) (w' : World)
    (hs : a.eval s = v1) (hx : a.eval x = v2) (hrun : (Builtin.append_ #[t, t] o.type #[v1, v2]).run P w = .ok v' w') (hK : K (a.put o.dst v') w') :
    if Region.wanted o (yielded ops a.tmps) = true then Oper.wp P o a w K Q else E := by
  have hw : Region.wanted o (yielded ops a.tmps) = true := by simp [Region.wanted, hg]
  rw [if_pos hw]
  unfold Oper.wp
  simp [execOp, hop, resolve, invoke, builtin, hs, hx, hrun, Result.andThen]
  exact hK

/-- The first append: what stands ahead. -/
theorem app1 {wr W0 : World} {B : Nat} {ge : Nat} {A : Option Addr} {n cap p : Nat} {ys : List Nat} (hb : Below wr.heap.size wr W0) (hge : W0.heap[ge]? = some (.cells #[] 40 (0, 0))) (hgl : wr.heap.size ≤ ge)
    (h : Row wr B 40 (.slice A n cap) n (ys.map fl)) (hp : p ≤ n) (hn : n ≤ 1000000) :
    ∃ g1 o1 c1 w1, (Builtin.append_ #[33, 33] 33 #[.slice (some ⟨ge, 0, none⟩) 0 0, .slice A p cap]).run Tryz.prog W0 = .ok (.slice (some ⟨g1, o1, none⟩) p c1) w1 ∧
      Row w1 wr.heap.size 40 (.slice (some ⟨g1, o1, none⟩) p c1) p ((ys.take p).map fl) ∧ Below wr.heap.size wr w1 := by
  obtain ⟨i, hi, hz0, hz1, hz2⟩ := info_parts infoF
  have he : Row W0 wr.heap.size 40 (.slice (some ⟨ge, 0, none⟩) 0 0) 0 [] := ⟨rfl, .inr ⟨ge, 0, 0, #[], rfl, hgl, hge, Nat.le_refl _, Nat.zero_le _, Nat.le_refl _, fun j u hj => by simp at hj⟩⟩
  have hsrc : Row W0 B 40 (.slice A p cap) p ((ys.take p).map fl) := by
    rw [List.map_take]
    exact (h.below hb (Nat.le_refl _)).take hp
  obtain ⟨A1, c1, w1, r1, hr1, hg1⟩ := run_append_rows W0 wr.heap.size 33 33 40 i (.float .f64 0) Tryz.underlying33 hi hz0 hz1 (by omega) rfl ge 0 0 0 [] he _ p _ (Row.src hsrc Tryz.underlying33 fl_one) (by omega) hb.size
  rw [Nat.zero_add] at r1 hr1
  rw [List.nil_append] at hr1
  obtain ⟨g1, o1, rfl, _⟩ := row_addr hr1
  exact ⟨g1, o1, c1, w1, r1, hr1, hb.grown hg1 hb.size fun b hb => by cases hb; exact hgl⟩
/-- The second one: the number. -/
theorem app2 {wr W1 : World} {g1 o1 c1 p : Nat} {zs : List Nat} {ad : Addr} {x : Nat} (hb : Below wr.heap.size wr W1) (h : Row W1 wr.heap.size 40 (.slice (some ⟨g1, o1, none⟩) p c1) p (zs.map fl)) (hc : W1.cell? ad = some (.float .f64 x)) (hp : p ≤ 1000000) :
    ∃ g2 o2 c2 w2, (Builtin.append_ #[33, 33] 33 #[.slice (some ⟨g1, o1, none⟩) p c1, .slice (some ad) 1 1]).run Tryz.prog W1 = .ok (.slice (some ⟨g2, o2, none⟩) (p + 1) c2) w2 ∧
      Row w2 wr.heap.size 40 (.slice (some ⟨g2, o2, none⟩) (p + 1) c2) (p + 1) ((zs ++ [x]).map fl) ∧ Below wr.heap.size wr w2 := by
  obtain ⟨i, hi, hz0, hz1, hz2⟩ := info_parts infoF
  obtain ⟨v', w2, r2, hr2, hg2, _⟩ := run_append_row W1 wr.heap.size 33 33 40 i (.float .f64 0) Tryz.underlying33 hi hz0 hz1 (by omega) rfl _ p _ h ad 1 (.float .f64 x) hc rfl (by omega) hb.size
  obtain ⟨A2, c2, rfl⟩ : ∃ A2 c2, v' = .slice (some A2) (p + 1) c2 := by
    rcases hr2.2 with ⟨_, h0⟩ | ⟨g, off, cap, cur, hv, _⟩
    · omega
    · exact ⟨_, _, hv⟩
  obtain ⟨g2, o2, rfl, _⟩ := row_addr hr2
  have e : (zs ++ [x]).map fl = zs.map fl ++ [.float .f64 x] := by rw [List.map_append]; rfl
  rw [← e] at hr2
  exact ⟨g2, o2, c2, w2, r2, hr2, hb.grown hg2 hb.size fun b hb => (h.lt b hb).1⟩
/-- The third one: what stands behind. -/
theorem app3 {wr W2 : World} {B g off n cap p : Nat} {ys zs : List Nat} {g2 o2 c2 : Nat} (hb : Below wr.heap.size wr W2) (h2 : Row W2 wr.heap.size 40 (.slice (some ⟨g2, o2, none⟩) (p + 1) c2) (p + 1) (zs.map fl))
    (h : Row wr B 40 (.slice (some ⟨g, off, none⟩) n cap) n (ys.map fl)) (hp : p ≤ n) (hn : n ≤ 1000000) :
    ∃ g3 o3 c3 w3, (Builtin.append_ #[33, 33] 33 #[.slice (some ⟨g2, o2, none⟩) (p + 1) c2, .slice (if cap = p then some ⟨g, off, none⟩ else some ⟨g, off + p, none⟩) (n - p) (cap - p)]).run Tryz.prog W2 = .ok (.slice (some ⟨g3, o3, none⟩) (n + 1) c3) w3 ∧
      Row w3 wr.heap.size 40 (.slice (some ⟨g3, o3, none⟩) (n + 1) c3) (n + 1) ((zs ++ ys.drop p).map fl) ∧ Below wr.heap.size wr w3 := by
  obtain ⟨i, hi, hz0, hz1, hz2⟩ := info_parts infoF
  have hsrc := (h.below hb (Nat.le_refl _)).drop hp
  rw [← List.map_drop] at hsrc
  obtain ⟨A3, c3, w3, r3, hr3, hg3⟩ := run_append_rows W2 wr.heap.size 33 33 40 i (.float .f64 0) Tryz.underlying33 hi hz0 hz1 (by omega) rfl g2 o2 (p + 1) c2 _ h2 _ (n - p) _ (Row.src hsrc Tryz.underlying33 fl_one) (by omega) hb.size
  rw [show p + 1 + (n - p) = n + 1 by omega] at r3 hr3
  rw [← List.map_append] at hr3
  obtain ⟨g3, o3, rfl, _⟩ := row_addr hr3
  exact ⟨g3, o3, c3, w3, r3, hr3, hb.grown hg3 hb.size fun b hb => by cases hb; exact (h2.lt g2 rfl).1⟩

/-- The threeF appends, both new rows being there. -/
theorem threeF {wr W0 : World} {B ge : Nat} {ad : Addr} {g off n cap p x : Nat} {ys : List Nat} (hb : Below wr.heap.size wr W0) (hge : W0.heap[ge]? = some (.cells #[] 40 (0, 0))) (hgl : wr.heap.size ≤ ge)
    (hc : ad.block ≠ ge ∧ W0.cell? ad = some (.float .f64 x)) (h : Row wr B 40 (.slice (some ⟨g, off, none⟩) n cap) n (ys.map fl)) (hp : p ≤ n) (hn : n ≤ 1000000) :
    ∃ v1 w1 v2 w2 g3 o3 c3 w3, (Builtin.append_ #[33, 33] 33 #[.slice (some ⟨ge, 0, none⟩) 0 0, .slice (some ⟨g, off, none⟩) p cap]).run Tryz.prog W0 = .ok v1 w1 ∧
      (Builtin.append_ #[33, 33] 33 #[v1, .slice (some ad) 1 1]).run Tryz.prog w1 = .ok v2 w2 ∧
      (Builtin.append_ #[33, 33] 33 #[v2, .slice (if cap = p then some ⟨g, off, none⟩ else some ⟨g, off + p, none⟩) (n - p) (cap - p)]).run Tryz.prog w2 = .ok (.slice (some ⟨g3, o3, none⟩) (n + 1) c3) w3 ∧
      Row w3 wr.heap.size 40 (.slice (some ⟨g3, o3, none⟩) (n + 1) c3) (n + 1) ((ys.take p ++ x :: ys.drop p).map fl) ∧ Below wr.heap.size wr w3 := by
  obtain ⟨i, hi, hz0, hz1, hz2⟩ := info_parts infoF
  have he : Row W0 wr.heap.size 40 (.slice (some ⟨ge, 0, none⟩) 0 0) 0 [] := ⟨rfl, .inr ⟨ge, 0, 0, #[], rfl, hgl, hge, Nat.le_refl _, Nat.zero_le _, Nat.le_refl _, fun j u hj => by simp at hj⟩⟩
  have hsrc : Row W0 B 40 (.slice (some ⟨g, off, none⟩) p cap) p ((ys.take p).map fl) := by
    rw [List.map_take]
    exact (h.below hb (Nat.le_refl _)).take hp
  obtain ⟨A1, c1, w1, r1, hr1, hg1⟩ := run_append_rows W0 wr.heap.size 33 33 40 i (.float .f64 0) Tryz.underlying33 hi hz0 hz1 (by omega) rfl ge 0 0 0 [] he _ p _ (Row.src hsrc Tryz.underlying33 fl_one) (by omega) hb.size
  rw [Nat.zero_add] at r1 hr1
  rw [List.nil_append] at hr1
  obtain ⟨g1, o1, rfl, _⟩ := row_addr hr1
  have hb1 : Below wr.heap.size wr w1 := hb.grown hg1 hb.size fun b hb => by cases hb; exact hgl
  have hc1 : w1.cell? ad = some (.float .f64 x) := (World.cell?_of_block (hg1.block ad.block (lt_of_cell hc.2) (fun e => hc.1 (by injection e)))).trans hc.2
  obtain ⟨g2, o2, c2, w2, r2, hr2, hb2⟩ := app2 hb1 hr1 hc1 (by omega)
  obtain ⟨g3, o3, c3, w3, r3, hr3, hb3⟩ := app3 hb2 hr2 h hp hn
  refine ⟨_, w1, _, w2, g3, o3, c3, w3, r1, r2, r3, ?_, hb3⟩
  have e : ys.take p ++ [x] ++ ys.drop p = ys.take p ++ x :: ys.drop p := by simp
  rw [e] at hr3
  exact hr3

theorem Row.base {w : World} {B B' : Nat} {e : TypeId} {v : Value} {n : Nat} {xs : List Value} (h : Row w B e v n xs) (hb : B' ≤ B) : Row w B' e v n xs :=
  ⟨h.1, h.2.imp id fun ⟨g, off, cap, cur, hv, hg, rest⟩ => ⟨g, off, cap, cur, hv, Nat.le_trans hb hg, rest⟩⟩
def EndsF (wr : World) (n p x : Nat) (ys : List Nat) (g3 o3 c3 : Nat) (w3 : World) : Prop :=
  Row w3 wr.heap.size 40 (.slice (some ⟨g3, o3, none⟩) (n + 1) c3) (n + 1) ((ys.take p ++ x :: ys.drop p).map fl) ∧ Below wr.heap.size wr w3
/-- .. the second row being laid behind the first append. -/
theorem runsF1 {wr : World} {B g off n cap p x : Nat} {ys : List Nat} {ax : Addr} (h : Row wr B 40 (.slice (some ⟨g, off, none⟩) n cap) n (ys.map fl)) (hp : p ≤ n) (hn : n ≤ 1000000) (hx : wr.cell? ax = some (.float .f64 x)) (q : Nat) :
    ∃ v1 w1 v2 w2 g3 o3 c3 w3, (Builtin.append_ #[33, 33] 33 #[.slice (some ⟨wr.heap.size, 0, none⟩) 0 0, .slice (some ⟨g, off, none⟩) p cap]).run Tryz.prog ((wr.drewN q).alloc (.cells #[] 40)) = .ok v1 w1 ∧
      (Builtin.append_ #[33, 33] 33 #[v1, .slice (some ⟨w1.heap.size, 0, none⟩) 1 1]).run Tryz.prog (w1.alloc (.cells #[.float .f64 x] 40)) = .ok v2 w2 ∧
      (Builtin.append_ #[33, 33] 33 #[v2, .slice (if cap = p then some ⟨g, off, none⟩ else some ⟨g, off + p, none⟩) (n - p) (cap - p)]).run Tryz.prog w2 = .ok (.slice (some ⟨g3, o3, none⟩) (n + 1) c3) w3 ∧
      w1.cell? ax = some (.float .f64 x) ∧ Hid (EndsF wr n p x ys g3 o3 c3 w3) := by
  have hb0 : Below wr.heap.size wr ((wr.drewN q).alloc (.cells #[] 40)) := (below_drewN (Below.refl _ _) q).alloc (Nat.le_refl _) _
  obtain ⟨g1, o1, c1, w1, r1, hr1, hb1⟩ := app1 (ge := wr.heap.size) hb0 (heap_alloc_new (wr.drewN q) _) (Nat.le_refl _) h hp hn
  have hb1' : Below wr.heap.size wr (w1.alloc (.cells #[.float .f64 x] 40)) := hb1.alloc hb1.size _
  obtain ⟨g2, o2, c2, w2, r2, hr2, hb2⟩ := app2 (ad := ⟨w1.heap.size, 0, none⟩) (x := x) hb1' (hr1.alloc _) (by rw [World.cell?_alloc_new]; rfl) (by omega)
  obtain ⟨g3, o3, c3, w3, r3, hr3, hb3⟩ := app3 hb2 hr2 h hp hn
  have e : ys.take p ++ [x] ++ ys.drop p = ys.take p ++ x :: ys.drop p := by simp
  rw [e] at hr3
  exact ⟨_, w1, _, w2, g3, o3, c3, w3, r1, r2, r3, (hb1.cell (lt_of_cell hx)).trans hx, hr3, hb3⟩
/-- .. behind the first row. -/
theorem runsF2 {wr : World} {B g off n cap p x : Nat} {ys : List Nat} (h : Row wr B 40 (.slice (some ⟨g, off, none⟩) n cap) n (ys.map fl)) (hp : p ≤ n) (hn : n ≤ 1000000) (q : Nat) :
    ∃ v1 w1 v2 w2 g3 o3 c3 w3, (Builtin.append_ #[33, 33] 33 #[.slice (some ⟨wr.heap.size, 0, none⟩) 0 0, .slice (some ⟨g, off, none⟩) p cap]).run Tryz.prog (((wr.drewN q).alloc (.cells #[] 40)).alloc (.cells #[.float .f64 x] 40)) = .ok v1 w1 ∧
      (Builtin.append_ #[33, 33] 33 #[v1, .slice (some ⟨wr.heap.size + 1, 0, none⟩) 1 1]).run Tryz.prog w1 = .ok v2 w2 ∧
      (Builtin.append_ #[33, 33] 33 #[v2, .slice (if cap = p then some ⟨g, off, none⟩ else some ⟨g, off + p, none⟩) (n - p) (cap - p)]).run Tryz.prog w2 = .ok (.slice (some ⟨g3, o3, none⟩) (n + 1) c3) w3 ∧
      Hid (EndsF wr n p x ys g3 o3 c3 w3) := by
  have hb0 : Below wr.heap.size wr (((wr.drewN q).alloc (.cells #[] 40)).alloc (.cells #[.float .f64 x] 40)) := ((below_drewN (Below.refl _ _) q).alloc (Nat.le_refl _) _).alloc (by simp) _
  obtain ⟨v1, w1, v2, w2, g3, o3, c3, w3, r1, r2, r3, hr, hb⟩ := threeF (x := x) (ge := wr.heap.size) (ad := ⟨wr.heap.size + 1, 0, none⟩) hb0 ((Below.heap_alloc _ _ _ (by simp)).trans (heap_alloc_new (wr.drewN q) _)) (Nat.le_refl _)
    ⟨by simp, by rw [show wr.heap.size + 1 = ((wr.drewN q).alloc (.cells #[] 40)).heap.size by simp, World.cell?_alloc_new]; rfl⟩ h hp hn
  exact ⟨v1, w1, v2, w2, g3, o3, c3, w3, r1, r2, r3, hr, hb⟩
/-- .. ahead of the first row. -/
theorem runsF3 {wr : World} {B g off n cap p x : Nat} {ys : List Nat} (h : Row wr B 40 (.slice (some ⟨g, off, none⟩) n cap) n (ys.map fl)) (hp : p ≤ n) (hn : n ≤ 1000000) (q : Nat) :
    ∃ v1 w1 v2 w2 g3 o3 c3 w3, (Builtin.append_ #[33, 33] 33 #[.slice (some ⟨wr.heap.size + 1, 0, none⟩) 0 0, .slice (some ⟨g, off, none⟩) p cap]).run Tryz.prog (((wr.drewN q).alloc (.cells #[.float .f64 x] 40)).alloc (.cells #[] 40)) = .ok v1 w1 ∧
      (Builtin.append_ #[33, 33] 33 #[v1, .slice (some ⟨wr.heap.size, 0, none⟩) 1 1]).run Tryz.prog w1 = .ok v2 w2 ∧
      (Builtin.append_ #[33, 33] 33 #[v2, .slice (if cap = p then some ⟨g, off, none⟩ else some ⟨g, off + p, none⟩) (n - p) (cap - p)]).run Tryz.prog w2 = .ok (.slice (some ⟨g3, o3, none⟩) (n + 1) c3) w3 ∧
      Hid (EndsF wr n p x ys g3 o3 c3 w3) := by
  have hb0 : Below wr.heap.size wr (((wr.drewN q).alloc (.cells #[.float .f64 x] 40)).alloc (.cells #[] 40)) := ((below_drewN (Below.refl _ _) q).alloc (Nat.le_refl _) _).alloc (by simp) _
  obtain ⟨v1, w1, v2, w2, g3, o3, c3, w3, r1, r2, r3, hr, hb⟩ := threeF (x := x) (ge := wr.heap.size + 1) (ad := ⟨wr.heap.size, 0, none⟩) hb0 (by have := heap_alloc_new ((wr.drewN q).alloc (.cells #[.float .f64 x] 40)) (.cells #[] 40); simpa using this) (by omega)
    ⟨by simp, by
      refine (World.cell?_of_block (Below.heap_alloc _ _ _ (by simp))).trans ?_
      rw [show wr.heap.size = (wr.drewN q).heap.size from rfl, World.cell?_alloc_new]
      rfl⟩ h hp hn
  exact ⟨v1, w1, v2, w2, g3, o3, c3, w3, r1, r2, r3, hr, hb⟩

theorem EndsF.go {w wr w3 : World} {i k x c3 g3 o3 : Nat} {os xs : List Nat} (h : EndsF wr i k x os g3 o3 c3 w3) (hb : Below w.heap.size w wr) (hs : spot x os = k) (ho : srt (xs.take i) = os) (ht : xs.take (i + 1) = xs.take i ++ [x]) :
    Hid (Row w3 w.heap.size 40 (.slice (some ⟨g3, o3, none⟩) (i + 1) c3) (i + 1) ((srt (xs.take (i + 1))).map fl)) ∧ Hid (Below w.heap.size w w3) := by
  refine ⟨?_, below_then hb (Nat.le_refl _) h.2⟩
  unfold Hid
  rw [ht, srt_snoc, ho]
  unfold ins
  rw [hs]
  exact h.1.base hb.size

theorem wrap_small (a : Int) (h1 : -9223372036854775808 ≤ a) (h2 : a ≤ 9223372036854775807) : IntKind.i64.wrap a = a := by
  simp [IntKind.wrap, IntKind.signed, IntKind.bits]
  omega
theorem srt_wf {xs : List Nat} (hw : ∀ x ∈ xs, x < W64) : ∀ y ∈ srt xs, y < W64 := (srt_sorts xs).lt hw
theorem spot_step {x k : Nat} {os : List Nat} (hk : k < os.length) (h : placeN x < placeN os[k]) (hs : spot x os ≤ k + 1) : spot x os ≤ k := by
  rcases Nat.lt_or_ge (spot x os) (k + 1) with hl | hl
  · omega
  · have e : spot x os = k + 1 := by omega
    obtain ⟨_, hn⟩ := spot_before x os (by omega)
    simp only [e, Nat.add_sub_cancel] at hn
    exact absurd h hn
theorem spot_stop {x k : Nat} {os : List Nat} (hk : k < os.length) (h : ¬ placeN x < placeN os[k]) (hs : spot x os ≤ k + 1) : spot x os = k + 1 := by
  rcases Nat.lt_or_ge (spot x os) (k + 1) with hl | hl
  · exact absurd (spot_after x os k hk (by omega)) h
  · omega

set_option maxRecDepth 100000 in
set_option maxHeartbeats 1000000 in
theorem rSorted_any {w : World} {B : Nat} {A : Option Addr} {cap : Nat} {xs : List Nat} (h : Nums w B A cap xs) (hn : xs.length ≤ 1000000) (hw : ∀ x ∈ xs, x < W64) :
    Calls Tryz.prog 13 #[.slice A xs.length cap] w fun e w' => ∃ A' c', e = .returned (.slice A' xs.length c') ∧ Nums w' w.heap.size A' c' (srt xs) ∧ Below w.heap.size w w' := by
  have HR := Lib.hid h
  have HW := Lib.hid hw
  obtain ⟨n, hN⟩ : ∃ n, xs.length = n := ⟨_, rfl⟩
  have HN := Lib.hid hN
  rw [hN] at hn ⊢
  clear h hw hN
  go_enter Tryz.func13, Tryz.ntmps13
  go_wp2
  go_loopw [3, 4] (fun o iv wr => ∃ (i c g off : Nat), o = .slice (some ⟨g, off, none⟩) i c ∧ iv = .int .i64 i ∧ i ≤ n ∧ Hid (Row wr w.heap.size 40 (.slice (some ⟨g, off, none⟩) i c) i ((srt (xs.take i)).map fl)) ∧ Hid (Below w.heap.size w wr)) (fun _ iv _ => n - (intOf iv).toNat)
  case atStart => exact ⟨0, 0, w.heap.size, 0, rfl, rfl, Nat.zero_le _, Lib.hid ⟨rfl, .inr ⟨w.heap.size, 0, 0, #[], rfl, Nat.le_refl _, heap_alloc_new w _, Nat.le_refl _, Nat.zero_le _, Nat.le_refl _, fun j u hj => by simp [srt] at hj⟩⟩, Lib.hid ((Below.refl _ _).alloc (Nat.le_refl _) _)⟩
  case round =>
    obtain ⟨i, c, g, off, rfl, rfl, hi, HO, HB⟩ := hrel
    obtain ⟨wo, rfl⟩ : ∃ wo : World, wo = wr := ⟨_, rfl⟩
    by_cases hin : i < n
    · have hix : i < xs.length := by rw [HN.out]; exact hin
      obtain ⟨gx, ox, rfl, hgx, hcell, hc1, hc2⟩ := (HR.out.below HB.out).get (j := i) hix
      have HT := Lib.hid (take_more hix)
      have HXW := Lib.hid (HW.out _ (List.getElem_mem hix))
      have HOW : Hid (∀ y ∈ srt (xs.take i), y < W64) := Lib.hid (srt_wf fun x hx => HW.out x (List.mem_of_mem_take hx))
      have hol : (srt (xs.take i)).length = i := by rw [srt_len, List.length_take]; omega
      have HCX := Lib.hid hcell
      generalize xs[i]'hix = x at hcell HT HXW HCX
      rw [HN.out] at hc1
      obtain ⟨os, hos⟩ : ∃ os, srt (xs.take i) = os := ⟨_, rfl⟩
      have HOS := Lib.hid hos
      rw [hos] at HO HOW hol
      have HL := Lib.hid hol
      clear hos hol hix
      go_wp2
      go_loopw [5] (fun a wr2 => ∃ k q : Nat, a = .int .i64 k ∧ k ≤ i ∧ Hid (spot x os ≤ k) ∧ Hid (wr2 = wo.drewN q)) (fun a _ => (intOf a).toNat)
      case atStart => exact ⟨i, 0, rfl, Nat.le_refl _, Lib.hid (by rw [← HL.out]; exact spot_le x os), Lib.hid rfl⟩
      case round =>
        obtain ⟨k, q, rfl, hk, HSP, HW2⟩ := hrel
        have HBq : Hid (Below wo.heap.size wo wr) := by unfold Hid; rw [HW2.out]; exact below_drewN (Below.refl _ _) q
        have HBW := Lib.hid (below_then HB.out (Nat.le_refl _) HBq.out)
        have hcx : wr.cell? ⟨gx, ox + i, none⟩ = some (.float .f64 x) := (HBq.out.cell (p := ⟨gx, ox + i, none⟩) (lt_of_cell HCX.out)).trans HCX.out
        have HO2 := Lib.hid (HO.out.below HBq.out (Nat.le_refl _))
        obtain ⟨hd1, hd2⟩ : i ≤ c ∧ c ≤ 4611686018427387904 * 2 := by
          rcases HO2.out.2 with ⟨h0, _⟩ | ⟨g', off', cap', cur', hv, _, _, hc1, hc2, _⟩
          · cases h0
          · injection hv with _ _ hv
            subst hv
            unfold maxLen at hc2
            omega
        by_cases hk0 : 0 < k
        · obtain ⟨m, hm⟩ : ∃ m, k = m + 1 := ⟨k - 1, by omega⟩
          have hmo : m < os.length := by rw [HL.out]; omega
          obtain ⟨g', off', cap', hA, hcm, -, -⟩ := HO2.out.get (j := m) (by omega)
          injection hA with hA1 _ hA3
          injection hA1 with hA1
          injection hA1 with hA1 hA2
          subst hA1 hA2 hA3
          have hcm' : wr.cell? ⟨g, off + m, none⟩ = some (.float .f64 os[m]) := by simpa [fl] using hcm
          have hyw := HOW.out _ (List.getElem_mem hmo)
          have hkm : (k : Int) - 1 = (m : Int) := by omega
          have HKM := Lib.hid hkm
          have e1 : IntKind.i64.wrap ((k : Int) - 1) = m := by rw [hkm]; exact wrap_small _ (by omega) (by omega)
          have HC := Lib.hid (fun w => still_of (rCmp_any os[m] x hyw HXW.out w))
          by_cases hc : placeN x < placeN os[m]
          · have HS2 := Lib.hid (spot_step hmo hc (by rw [← hm]; exact HSP.out))
            have hcmp : cmpI os[m] x = 1 := by unfold cmpI; rw [if_neg (by omega), if_pos hc]
            rw [hcmp] at HC
            generalize os[m]'hmo = y at hcm' HC
            have hki : m ≤ i := by omega
            have hmk : m < k := by omega
            clear hcm hmo hyw hc hcmp hm hkm
            go_wp2
            go_quiet ((go_at_call 33; exact Calls.quiet_of_same (HC.out _)))
            go_wp2
            go_roundw
            case rel => exact ⟨m, _, rfl, hki, HS2, by unfold Hid; rw [HW2.out, World.drewN_drewN]⟩
            case measure => simp [intOf]; omega
          · have HS2 : Hid (spot x os = k) := by have := spot_stop hmo hc (by rw [← hm]; exact HSP.out); unfold Hid; omega
            have hcmp : cmpI os[m] x ≤ 0 := by unfold cmpI; rw [if_neg hc]; split <;> omega
            obtain ⟨z, hz⟩ : ∃ z, cmpI os[m] x = z := ⟨_, rfl⟩
            rw [hz] at HC hcmp
            generalize os[m]'hmo = y at hcm' HC
            have hmk : m < k := by omega
            clear hcm hmo hyw hc hz hm hkm
            go_wp2
            go_quiet ((go_at_call 33; exact Calls.quiet_of_same (HC.out _)))
            go_wp2
            generalize hgq : World.drewN wr _ = wq
            obtain ⟨q2, rfl⟩ : ∃ q2, wq = wr.drewN q2 := ⟨_, hgq.symm⟩
            clear hgq
            obtain ⟨va1, wa1, va2, wa2, ga3, oa3, ca3, wa3, ra1, ra2, ra3, hxa, HEA⟩ := runsF1 (p := k) HO2.out (by omega) (by omega) hcx (q2 + 1)
            obtain ⟨vb1, wb1, vb2, wb2, gb3, ob3, cb3, wb3, rb1, rb2, rb3, HEB⟩ := runsF2 (p := k) (x := x) HO2.out (by omega) (by omega) (q2 + 1)
            obtain ⟨vc1, wc1, vc2, wc2, gc3, oc3, cc3, wc3, rc1, rc2, rc3, HEC⟩ := runsF3 (p := k) (x := x) HO2.out (by omega) (by omega) (q2 + 1)
            have RA1 := Lib.hid ra1
            have RA2 := Lib.hid ra2
            have RB1 := Lib.hid rb1
            have RB2 := Lib.hid rb2
            have RC1 := Lib.hid rc1
            have RC2 := Lib.hid rc2
            have i1 : (0 : Int) ≤ (k : Int) := by omega
            have i2 : (k : Int) ≤ (i : Int) := by omega
            have i3 : (k : Int) ≤ (c : Int) := by omega
            have i4 : (i : Int) ≤ (c : Int) := by omega
            have i5 : (0 : Int) ≤ (i : Int) := by omega
            have i6 : (i : Int) < (n : Int) := by omega
            have hA0 : ((wr.drewN (q2 + 1)).alloc (.cells #[] 40)).cell? ⟨gx, ox + i, none⟩ = some (.float .f64 x) := (World.cell?_alloc_lt (wr.drewN (q2 + 1)) (.cells #[] 40) ⟨gx, ox + i, none⟩ (lt_of_cell (w := wr) hcx)).trans hcx
            clear ra1 ra2 rb1 rb2 rc1 rc2
            by_cases hcap : c = k
            · subst hcap
              obtain rfl : i = c := by omega
              rw [if_pos rfl, Nat.sub_self] at ra3 rb3 rc3
              have RA3 := Lib.hid ra3
              have RB3 := Lib.hid rb3
              have RC3 := Lib.hid rc3
              clear ra3 rb3 rc3
              go_region_law (first | ((with_reducible refine step_append_run ?_ (.tmp 32) (.tmp 35) 33 ?_ _ _ _ _ ?_ ?_ RA1.out ?_); rfl; rfl; rfl; rfl) | ((with_reducible refine step_append_run ?_ (.tmp 32) (.tmp 35) 33 ?_ _ _ _ _ ?_ ?_ RB1.out ?_); rfl; rfl; rfl; rfl) | ((with_reducible refine step_append_run ?_ (.tmp 32) (.tmp 35) 33 ?_ _ _ _ _ ?_ ?_ RC1.out ?_); rfl; rfl; rfl; rfl) | ((with_reducible refine step_append_run ?_ (.tmp 36) (.tmp 41) 33 ?_ _ _ _ _ ?_ ?_ RA2.out ?_); rfl; rfl; rfl; rfl) | ((with_reducible refine step_append_run ?_ (.tmp 36) (.tmp 41) 33 ?_ _ _ _ _ ?_ ?_ RB2.out ?_); rfl; rfl; rfl; rfl) | ((with_reducible refine step_append_run ?_ (.tmp 36) (.tmp 41) 33 ?_ _ _ _ _ ?_ ?_ RC2.out ?_); rfl; rfl; rfl; rfl) | ((with_reducible refine step_append_run ?_ (.tmp 42) (.tmp 45) 33 ?_ _ _ _ _ ?_ ?_ RA3.out ?_); rfl; rfl; rfl; rfl) | ((with_reducible refine step_append_run ?_ (.tmp 42) (.tmp 45) 33 ?_ _ _ _ _ ?_ ?_ RB3.out ?_); rfl; rfl; rfl; rfl) | ((with_reducible refine step_append_run ?_ (.tmp 42) (.tmp 45) 33 ?_ _ _ _ _ ?_ ?_ RC3.out ?_); rfl; rfl; rfl; rfl))
              all_goals go_wp2
              all_goals (first | exact ⟨⟨i + 1, ca3, ga3, oa3, rfl, by go_num, by omega, (HEA.out.go HBW.out HS2.out HOS.out HT.out).1, (HEA.out.go HBW.out HS2.out HOS.out HT.out).2⟩, by simp [intOf]; omega⟩ | exact ⟨⟨i + 1, cb3, gb3, ob3, rfl, by go_num, by omega, (HEB.out.go HBW.out HS2.out HOS.out HT.out).1, (HEB.out.go HBW.out HS2.out HOS.out HT.out).2⟩, by simp [intOf]; omega⟩ | exact ⟨⟨i + 1, cc3, gc3, oc3, rfl, by go_num, by omega, (HEC.out.go HBW.out HS2.out HOS.out HT.out).1, (HEC.out.go HBW.out HS2.out HOS.out HT.out).2⟩, by simp [intOf]; omega⟩)
            · rw [if_neg hcap] at ra3 rb3 rc3
              have RA3 := Lib.hid ra3
              have RB3 := Lib.hid rb3
              have RC3 := Lib.hid rc3
              clear ra3 rb3 rc3
              go_region_law (first | ((with_reducible refine step_append_run ?_ (.tmp 32) (.tmp 35) 33 ?_ _ _ _ _ ?_ ?_ RA1.out ?_); rfl; rfl; rfl; rfl) | ((with_reducible refine step_append_run ?_ (.tmp 32) (.tmp 35) 33 ?_ _ _ _ _ ?_ ?_ RB1.out ?_); rfl; rfl; rfl; rfl) | ((with_reducible refine step_append_run ?_ (.tmp 32) (.tmp 35) 33 ?_ _ _ _ _ ?_ ?_ RC1.out ?_); rfl; rfl; rfl; rfl) | ((with_reducible refine step_append_run ?_ (.tmp 36) (.tmp 41) 33 ?_ _ _ _ _ ?_ ?_ RA2.out ?_); rfl; rfl; rfl; rfl) | ((with_reducible refine step_append_run ?_ (.tmp 36) (.tmp 41) 33 ?_ _ _ _ _ ?_ ?_ RB2.out ?_); rfl; rfl; rfl; rfl) | ((with_reducible refine step_append_run ?_ (.tmp 36) (.tmp 41) 33 ?_ _ _ _ _ ?_ ?_ RC2.out ?_); rfl; rfl; rfl; rfl) | ((with_reducible refine step_append_run ?_ (.tmp 42) (.tmp 45) 33 ?_ _ _ _ _ ?_ ?_ RA3.out ?_); rfl; rfl; rfl; rfl) | ((with_reducible refine step_append_run ?_ (.tmp 42) (.tmp 45) 33 ?_ _ _ _ _ ?_ ?_ RB3.out ?_); rfl; rfl; rfl; rfl) | ((with_reducible refine step_append_run ?_ (.tmp 42) (.tmp 45) 33 ?_ _ _ _ _ ?_ ?_ RC3.out ?_); rfl; rfl; rfl; rfl))
              all_goals go_wp2
              all_goals (first | exact ⟨⟨i + 1, ca3, ga3, oa3, rfl, by go_num, by omega, (HEA.out.go HBW.out HS2.out HOS.out HT.out).1, (HEA.out.go HBW.out HS2.out HOS.out HT.out).2⟩, by simp [intOf]; omega⟩ | exact ⟨⟨i + 1, cb3, gb3, ob3, rfl, by go_num, by omega, (HEB.out.go HBW.out HS2.out HOS.out HT.out).1, (HEB.out.go HBW.out HS2.out HOS.out HT.out).2⟩, by simp [intOf]; omega⟩ | exact ⟨⟨i + 1, cc3, gc3, oc3, rfl, by go_num, by omega, (HEC.out.go HBW.out HS2.out HOS.out HT.out).1, (HEC.out.go HBW.out HS2.out HOS.out HT.out).2⟩, by simp [intOf]; omega⟩)
        · have HK0 : Hid (k = 0) := by unfold Hid; omega
          have HS2 : Hid (spot x os = k) := by have := HSP.out; unfold Hid; omega
          have hd0 : decide ((0 : Int) < (k : Int)) = false := by simp; omega
          have hd1' : decide (0 < k) = false := by simp; omega
          have hle : k ≤ i := by omega
          clear hk0
          go_wp2
          go_quiet (fail)
          go_wp2
          generalize hgq : World.drewN wr _ = wq
          obtain ⟨q2, rfl⟩ : ∃ q2, wq = wr.drewN q2 := ⟨_, hgq.symm⟩
          clear hgq
          obtain ⟨va1, wa1, va2, wa2, ga3, oa3, ca3, wa3, ra1, ra2, ra3, hxa, HEA⟩ := runsF1 (p := k) HO2.out (by omega) (by omega) hcx (q2 + 1)
          obtain ⟨vb1, wb1, vb2, wb2, gb3, ob3, cb3, wb3, rb1, rb2, rb3, HEB⟩ := runsF2 (p := k) (x := x) HO2.out (by omega) (by omega) (q2 + 1)
          obtain ⟨vc1, wc1, vc2, wc2, gc3, oc3, cc3, wc3, rc1, rc2, rc3, HEC⟩ := runsF3 (p := k) (x := x) HO2.out (by omega) (by omega) (q2 + 1)
          have RA1 := Lib.hid ra1
          have RA2 := Lib.hid ra2
          have RB1 := Lib.hid rb1
          have RB2 := Lib.hid rb2
          have RC1 := Lib.hid rc1
          have RC2 := Lib.hid rc2
          have i1 : (0 : Int) ≤ (k : Int) := by omega
          have i2 : (k : Int) ≤ (i : Int) := by omega
          have i3 : (k : Int) ≤ (c : Int) := by omega
          have i4 : (i : Int) ≤ (c : Int) := by omega
          have i5 : (0 : Int) ≤ (i : Int) := by omega
          have i6 : (i : Int) < (n : Int) := by omega
          have hA0 : ((wr.drewN (q2 + 1)).alloc (.cells #[] 40)).cell? ⟨gx, ox + i, none⟩ = some (.float .f64 x) := (World.cell?_alloc_lt (wr.drewN (q2 + 1)) (.cells #[] 40) ⟨gx, ox + i, none⟩ (lt_of_cell (w := wr) hcx)).trans hcx
          clear ra1 ra2 rb1 rb2 rc1 rc2
          by_cases hcap : c = k
          · subst hcap
            obtain rfl : i = c := by omega
            rw [if_pos rfl, Nat.sub_self] at ra3 rb3 rc3
            have RA3 := Lib.hid ra3
            have RB3 := Lib.hid rb3
            have RC3 := Lib.hid rc3
            clear ra3 rb3 rc3
            go_region_law (first | ((with_reducible refine step_append_run ?_ (.tmp 32) (.tmp 35) 33 ?_ _ _ _ _ ?_ ?_ RA1.out ?_); rfl; rfl; rfl; rfl) | ((with_reducible refine step_append_run ?_ (.tmp 32) (.tmp 35) 33 ?_ _ _ _ _ ?_ ?_ RB1.out ?_); rfl; rfl; rfl; rfl) | ((with_reducible refine step_append_run ?_ (.tmp 32) (.tmp 35) 33 ?_ _ _ _ _ ?_ ?_ RC1.out ?_); rfl; rfl; rfl; rfl) | ((with_reducible refine step_append_run ?_ (.tmp 36) (.tmp 41) 33 ?_ _ _ _ _ ?_ ?_ RA2.out ?_); rfl; rfl; rfl; rfl) | ((with_reducible refine step_append_run ?_ (.tmp 36) (.tmp 41) 33 ?_ _ _ _ _ ?_ ?_ RB2.out ?_); rfl; rfl; rfl; rfl) | ((with_reducible refine step_append_run ?_ (.tmp 36) (.tmp 41) 33 ?_ _ _ _ _ ?_ ?_ RC2.out ?_); rfl; rfl; rfl; rfl) | ((with_reducible refine step_append_run ?_ (.tmp 42) (.tmp 45) 33 ?_ _ _ _ _ ?_ ?_ RA3.out ?_); rfl; rfl; rfl; rfl) | ((with_reducible refine step_append_run ?_ (.tmp 42) (.tmp 45) 33 ?_ _ _ _ _ ?_ ?_ RB3.out ?_); rfl; rfl; rfl; rfl) | ((with_reducible refine step_append_run ?_ (.tmp 42) (.tmp 45) 33 ?_ _ _ _ _ ?_ ?_ RC3.out ?_); rfl; rfl; rfl; rfl))
            all_goals go_wp2
            all_goals (first | exact ⟨⟨i + 1, ca3, ga3, oa3, rfl, by go_num, by omega, (HEA.out.go HBW.out HS2.out HOS.out HT.out).1, (HEA.out.go HBW.out HS2.out HOS.out HT.out).2⟩, by simp [intOf]; omega⟩ | exact ⟨⟨i + 1, cb3, gb3, ob3, rfl, by go_num, by omega, (HEB.out.go HBW.out HS2.out HOS.out HT.out).1, (HEB.out.go HBW.out HS2.out HOS.out HT.out).2⟩, by simp [intOf]; omega⟩ | exact ⟨⟨i + 1, cc3, gc3, oc3, rfl, by go_num, by omega, (HEC.out.go HBW.out HS2.out HOS.out HT.out).1, (HEC.out.go HBW.out HS2.out HOS.out HT.out).2⟩, by simp [intOf]; omega⟩)
          · rw [if_neg hcap] at ra3 rb3 rc3
            have RA3 := Lib.hid ra3
            have RB3 := Lib.hid rb3
            have RC3 := Lib.hid rc3
            clear ra3 rb3 rc3
            go_region_law (first | ((with_reducible refine step_append_run ?_ (.tmp 32) (.tmp 35) 33 ?_ _ _ _ _ ?_ ?_ RA1.out ?_); rfl; rfl; rfl; rfl) | ((with_reducible refine step_append_run ?_ (.tmp 32) (.tmp 35) 33 ?_ _ _ _ _ ?_ ?_ RB1.out ?_); rfl; rfl; rfl; rfl) | ((with_reducible refine step_append_run ?_ (.tmp 32) (.tmp 35) 33 ?_ _ _ _ _ ?_ ?_ RC1.out ?_); rfl; rfl; rfl; rfl) | ((with_reducible refine step_append_run ?_ (.tmp 36) (.tmp 41) 33 ?_ _ _ _ _ ?_ ?_ RA2.out ?_); rfl; rfl; rfl; rfl) | ((with_reducible refine step_append_run ?_ (.tmp 36) (.tmp 41) 33 ?_ _ _ _ _ ?_ ?_ RB2.out ?_); rfl; rfl; rfl; rfl) | ((with_reducible refine step_append_run ?_ (.tmp 36) (.tmp 41) 33 ?_ _ _ _ _ ?_ ?_ RC2.out ?_); rfl; rfl; rfl; rfl) | ((with_reducible refine step_append_run ?_ (.tmp 42) (.tmp 45) 33 ?_ _ _ _ _ ?_ ?_ RA3.out ?_); rfl; rfl; rfl; rfl) | ((with_reducible refine step_append_run ?_ (.tmp 42) (.tmp 45) 33 ?_ _ _ _ _ ?_ ?_ RB3.out ?_); rfl; rfl; rfl; rfl) | ((with_reducible refine step_append_run ?_ (.tmp 42) (.tmp 45) 33 ?_ _ _ _ _ ?_ ?_ RC3.out ?_); rfl; rfl; rfl; rfl))
            all_goals go_wp2
            all_goals (first | exact ⟨⟨i + 1, ca3, ga3, oa3, rfl, by go_num, by omega, (HEA.out.go HBW.out HS2.out HOS.out HT.out).1, (HEA.out.go HBW.out HS2.out HOS.out HT.out).2⟩, by simp [intOf]; omega⟩ | exact ⟨⟨i + 1, cb3, gb3, ob3, rfl, by go_num, by omega, (HEB.out.go HBW.out HS2.out HOS.out HT.out).1, (HEB.out.go HBW.out HS2.out HOS.out HT.out).2⟩, by simp [intOf]; omega⟩ | exact ⟨⟨i + 1, cc3, gc3, oc3, rfl, by go_num, by omega, (HEC.out.go HBW.out HS2.out HOS.out HT.out).1, (HEC.out.go HBW.out HS2.out HOS.out HT.out).2⟩, by simp [intOf]; omega⟩)
    · obtain rfl : i = n := by omega
      go_wp2
      go_ret
      refine ⟨_, _, rfl, ?_, HB.out⟩
      have := HO.out
      rw [List.take_of_length_le (by rw [HN.out]; exact Nat.le_refl _)] at this
      unfold Nums
      rw [show (srt xs).length = i by rw [srt_len, HN.out]]
      exact this
end Go.Proofs.YtkihgbglodfkmaaGreat
