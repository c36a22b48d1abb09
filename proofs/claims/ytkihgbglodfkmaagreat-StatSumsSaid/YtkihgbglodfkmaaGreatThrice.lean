/-
  Layer 41: one element put into a row, by three appends (what stands ahead, the element, what stands behind). No condition but that a slice is no longer than a million.
-/
import Derived.Test.YtkihgbglodfkmaaGreatOut
import Derived.Deep.RegionLaw
import Derived.Deep.DrawnRows
import Derived.Outline
namespace Go.Proofs.YtkihgbglodfkmaaGreat
open Go.RowKit
set_option linter.unusedVariables false

/-- A slice's first elements, as they are read. -/
theorem Rd.take {w : World} {lo k n cap : Nat} {A : Option Addr} {xs : List Value} (h : Rd w lo k (.slice A n cap) n xs) {p : Nat} (hp : p ≤ n) : Rd w lo k (.slice A p cap) p (xs.take (p * k)) := by
  have hl := h.len
  have hpk : p * k ≤ n * k := Nat.mul_le_mul_right k hp
  refine ⟨by rw [List.length_take]; omega, Nat.le_trans hp h.few, ?_⟩
  rcases h.at_ with ⟨h0, A', cap', hv, hn⟩ | ⟨g, off, cap', hv, h1, h2, h3, h4, hx⟩
  · cases hv
    obtain rfl : p = 0 := by omega
    exact .inl ⟨rfl, A, cap, rfl, hn⟩
  · cases hv
    exact .inr ⟨g, off, cap, rfl, h1, h2, by omega, h4, fun j u hj => hx j u (by
      rw [List.getElem?_take] at hj
      split at hj
      · exact hj
      · cases hj)⟩
/-- .. its last ones. -/
theorem Rd.drop {w : World} {lo k g off n cap : Nat} {xs : List Value} (h : Rd w lo k (.slice (some ⟨g, off, none⟩) n cap) n xs) {p : Nat} (hp : p ≤ n) :
    Rd w lo k (.slice (if cap = p then some ⟨g, off, none⟩ else some ⟨g, off + p * k, none⟩) (n - p) (cap - p)) (n - p) (xs.drop (p * k)) := by
  have hl := h.len
  refine ⟨by rw [List.length_drop, hl, Nat.sub_mul], Nat.le_trans (Nat.sub_le _ _) h.few, ?_⟩
  rcases h.at_ with ⟨h0, A', cap', hv, hn⟩ | ⟨g', off', cap', hv, h1, h2, h3, h4, hx⟩
  · cases hv
    obtain rfl : p = 0 := by omega
    refine .inl ⟨by omega, _, _, rfl, fun hh => ?_⟩
    split at hh <;> cases hh
  · cases hv
    by_cases hc : cap = p
    · have hnp : n = p := by omega
      subst hnp
      refine .inl ⟨by omega, some ⟨g, off, none⟩, _, by rw [if_pos hc, Nat.sub_self], fun hh => by cases hh⟩
    · rw [if_neg hc]
      refine .inr ⟨g, off + p * k, cap - p, rfl, h1, h2, by omega, by omega, fun j u hu => ?_⟩
      rw [List.getElem?_drop] at hu
      rw [Nat.add_assoc]
      exact hx _ _ hu

/-- What is known of an element's type e, of k cells, and of the type t of slices of it. -/
structure El (t e : TypeId) (k : Nat) : Prop where
  pos : 0 < k
  ex : ∃ i z, Tryz.prog.underlying t = some (.slice e) ∧ Tryz.prog.info? e = some i ∧ i.zero = some z ∧ i.size = k ∧ i.bytes ≤ 1000 ∧ z.cells.size = k
theorem El.append {t e : TypeId} {k : Nat} (hE : El t e k) {w : World} {B : Nat} {v x : Value} {n m : Nat} {xs ys : List Value} (h : Rk w B e k v n xs) (hs : Src Tryz.prog k t x m ys w) (hn : n + m ≤ 1000000000) (hB : B ≤ w.heap.size) (ty : TypeId) :
    ∃ A' c' w', (Builtin.append_ #[t, t] ty #[v, x]).run Tryz.prog w = .ok (.slice A' (n + m) c') w' ∧ Rk w' B e k (.slice A' (n + m) c') (n + m) (xs ++ ys) ∧ w.grownBy w' v.ownBlock := by
  obtain ⟨i, z, ht, hi, hz, hs1, hby, hzc⟩ := hE.ex
  obtain ⟨A', c', w', h1, h2, h3, _⟩ := run_append_rk w B t ty e i z k ht hi hz hs1 hby hzc v n xs h x m ys hs hn hB
  exact ⟨A', c', w', h1, h2, h3⟩

theorem Rk.addr {w : World} {B : Nat} {e : TypeId} {k n c : Nat} {A : Option Addr} {xs : List Value} (h : Rk w B e k (.slice A n c) n xs) (hn : 0 < n) : ∃ g off, A = some ⟨g, off, none⟩ := by
  rcases h.2 with ⟨h0, h1⟩ | ⟨g, off, cap, cur, hv, _⟩
  · omega
  · injection hv with hv
    exact ⟨g, off, hv⟩
/-- What comes of it. -/
def Ends (wr : World) (e : TypeId) (k n : Nat) (zs : List Value) (g off c : Nat) (w3 : World) : Prop := Rk w3 wr.heap.size e k (.slice (some ⟨g, off, none⟩) n c) n zs ∧ Below wr.heap.size wr w3
section
variable {t e : TypeId} {k : Nat} (hE : El t e k) {wr : World} {lo p m : Nat} {v1 v3 : Value} {ys1 ys3 xs : List Value}
include hE
/-- Three appends, the new row and the element's being there. -/
theorem three {W0 : World} {ge gx : Nat} (hb : Below wr.heap.size wr W0) (hge : W0.heap[ge]? = some (.cells #[] e (0, 0))) (hgl : wr.heap.size ≤ ge) (hgx : W0.heap[gx]? = some (.cells xs.toArray e (0, 0))) (hne : gx ≠ ge) (hxk : xs.length = k)
    (h1 : Rd wr lo k v1 p ys1) (h3 : Rd wr lo k v3 m ys3) (o1 : ∀ u ∈ ys1, u.oneCell' = true) (o2 : ∀ u ∈ xs, u.oneCell' = true) (o3 : ∀ u ∈ ys3, u.oneCell' = true) (hn : p + m ≤ 1000000) (ty : TypeId) :
    ∃ u1 w1 u2 w2 g3 o3 c3 w3, (Builtin.append_ #[t, t] ty #[.slice (some ⟨ge, 0, none⟩) 0 0, v1]).run Tryz.prog W0 = .ok u1 w1 ∧
      (Builtin.append_ #[t, t] ty #[u1, .slice (some ⟨gx, 0, none⟩) 1 1]).run Tryz.prog w1 = .ok u2 w2 ∧
      (Builtin.append_ #[t, t] ty #[u2, v3]).run Tryz.prog w2 = .ok (.slice (some ⟨g3, o3, none⟩) (p + 1 + m) c3) w3 ∧ Hid (Ends wr e k (p + 1 + m) (ys1 ++ xs ++ ys3) g3 o3 c3 w3) := by
  obtain ⟨i, z, ht, hi, hz, hs1, hby, hzc⟩ := hE.ex
  have he : Rk W0 wr.heap.size e k (.slice (some ⟨ge, 0, none⟩) 0 0) 0 [] := ⟨by simp, .inr ⟨ge, 0, 0, #[], rfl, hgl, hge, Nat.le_refl _, Nat.zero_le _, by simp, fun j u hj => by simp at hj⟩⟩
  obtain ⟨A1, c1, w1, r1, hr1, hg1⟩ := hE.append he (Rd.src (e := e) (h1.below hb (Nat.le_refl _)) ht o1) (by omega) hb.size ty
  rw [Nat.zero_add] at r1 hr1
  rw [List.nil_append] at hr1
  have hb1 : Below wr.heap.size wr w1 := hb.grown hg1 hb.size fun b hb => by cases hb; exact hgl
  have hx1 : w1.heap[gx]? = some (.cells xs.toArray e (0, 0)) := (hg1.block gx (blk_lt hgx) fun h => hne (Option.some.inj h)).trans hgx
  have hsx : Src Tryz.prog k t (.slice (some ⟨gx, 0, none⟩) 1 1) 1 xs w1 := by
    have : Src Tryz.prog k t (.slice (some ⟨gx, 0, none⟩) 1 1) 1 xs.toArray.toList w1 := Src.lit (b := gx) (cs := xs.toArray) (m := (0, 0)) ht hx1 1 1 (by simp [hxk]) (fun u hu => o2 u (by simpa using hu))
    simpa using this
  obtain ⟨A2, c2, w2, r2, hr2, hg2⟩ := hE.append hr1 hsx (by omega) hb1.size ty
  have hb2 : Below wr.heap.size wr w2 := hb1.grown hg2 hb1.size fun b hb => (hr1.lt b hb).1
  obtain ⟨A3, c3, w3, r3, hr3, hg3⟩ := hE.append hr2 (Rd.src (e := e) (h3.below hb2 (Nat.le_refl _)) ht o3) (by omega) hb2.size ty
  obtain ⟨g3, o3, rfl⟩ := hr3.addr (by omega)
  exact ⟨_, w1, _, w2, g3, o3, c3, w3, r1, r2, r3, hr3, hb2.grown hg3 hb2.size fun b hb => (hr2.lt b hb).1⟩
/-- .. the element's row being laid behind the first append. -/
theorem runs1 (hxk : xs.length = k) (h1 : Rd wr lo k v1 p ys1) (h3 : Rd wr lo k v3 m ys3) (o1 : ∀ u ∈ ys1, u.oneCell' = true) (o2 : ∀ u ∈ xs, u.oneCell' = true) (o3 : ∀ u ∈ ys3, u.oneCell' = true) (hn : p + m ≤ 1000000) (ty : TypeId) (q : Nat) :
    ∃ u1 w1 u2 w2 g3 o3 c3 w3, (Builtin.append_ #[t, t] ty #[.slice (some ⟨wr.heap.size, 0, none⟩) 0 0, v1]).run Tryz.prog ((wr.drewN q).alloc (.cells #[] e)) = .ok u1 w1 ∧
      (Builtin.append_ #[t, t] ty #[u1, .slice (some ⟨w1.heap.size, 0, none⟩) 1 1]).run Tryz.prog (w1.alloc (.cells xs.toArray e)) = .ok u2 w2 ∧
      (Builtin.append_ #[t, t] ty #[u2, v3]).run Tryz.prog w2 = .ok (.slice (some ⟨g3, o3, none⟩) (p + 1 + m) c3) w3 ∧ Hid (Below wr.heap.size wr w1) ∧ Hid (Ends wr e k (p + 1 + m) (ys1 ++ xs ++ ys3) g3 o3 c3 w3) := by
  obtain ⟨i, z, ht, hi, hz, hs1, hby, hzc⟩ := hE.ex
  have hb : Below wr.heap.size wr ((wr.drewN q).alloc (.cells #[] e)) := (below_drewN (Below.refl _ _) q).alloc (Nat.le_refl _) _
  have he : Rk ((wr.drewN q).alloc (.cells #[] e)) wr.heap.size e k (.slice (some ⟨wr.heap.size, 0, none⟩) 0 0) 0 [] :=
    ⟨by simp, .inr ⟨wr.heap.size, 0, 0, #[], rfl, Nat.le_refl _, heap_alloc_new (wr.drewN q) _, Nat.le_refl _, Nat.zero_le _, by simp, fun j u hj => by simp at hj⟩⟩
  obtain ⟨A1, c1, w1, r1, hr1, hg1⟩ := hE.append he (Rd.src (e := e) (h1.below hb (Nat.le_refl _)) ht o1) (by omega) hb.size ty
  rw [Nat.zero_add] at r1 hr1
  rw [List.nil_append] at hr1
  have hb1 : Below wr.heap.size wr w1 := hb.grown hg1 hb.size fun b hb => by cases hb; exact Nat.le_refl _
  have hb1' : Below wr.heap.size wr (w1.alloc (.cells xs.toArray e)) := hb1.alloc hb1.size _
  have hsx : Src Tryz.prog k t (.slice (some ⟨w1.heap.size, 0, none⟩) 1 1) 1 xs (w1.alloc (.cells xs.toArray e)) := by
    have : Src Tryz.prog k t (.slice (some ⟨w1.heap.size, 0, none⟩) 1 1) 1 xs.toArray.toList (w1.alloc (.cells xs.toArray e)) := Src.lit (b := w1.heap.size) (cs := xs.toArray) (m := (0, 0)) ht (heap_alloc_new w1 _) 1 1 (by simp [hxk]) (fun u hu => o2 u (by simpa using hu))
    simpa using this
  obtain ⟨A2, c2, w2, r2, hr2, hg2⟩ := hE.append (hr1.alloc _) hsx (by omega) hb1'.size ty
  have hb2 : Below wr.heap.size wr w2 := hb1'.grown hg2 hb1'.size fun b hb => (hr1.lt b hb).1
  obtain ⟨A3, c3, w3, r3, hr3, hg3⟩ := hE.append hr2 (Rd.src (e := e) (h3.below hb2 (Nat.le_refl _)) ht o3) (by omega) hb2.size ty
  obtain ⟨g3, o3, rfl⟩ := hr3.addr (by omega)
  exact ⟨_, w1, _, w2, g3, o3, c3, w3, r1, r2, r3, hb1, hr3, hb2.grown hg3 hb2.size fun b hb => (hr2.lt b hb).1⟩
/-- .. behind the new row. -/
theorem runs2 (hxk : xs.length = k) (h1 : Rd wr lo k v1 p ys1) (h3 : Rd wr lo k v3 m ys3) (o1 : ∀ u ∈ ys1, u.oneCell' = true) (o2 : ∀ u ∈ xs, u.oneCell' = true) (o3 : ∀ u ∈ ys3, u.oneCell' = true) (hn : p + m ≤ 1000000) (ty : TypeId) (q : Nat) :
    ∃ u1 w1 u2 w2 g3 o3 c3 w3, (Builtin.append_ #[t, t] ty #[.slice (some ⟨wr.heap.size, 0, none⟩) 0 0, v1]).run Tryz.prog (((wr.drewN q).alloc (.cells #[] e)).alloc (.cells xs.toArray e)) = .ok u1 w1 ∧
      (Builtin.append_ #[t, t] ty #[u1, .slice (some ⟨wr.heap.size + 1, 0, none⟩) 1 1]).run Tryz.prog w1 = .ok u2 w2 ∧
      (Builtin.append_ #[t, t] ty #[u2, v3]).run Tryz.prog w2 = .ok (.slice (some ⟨g3, o3, none⟩) (p + 1 + m) c3) w3 ∧ Hid (Ends wr e k (p + 1 + m) (ys1 ++ xs ++ ys3) g3 o3 c3 w3) :=
  three hE (wr := wr) (W0 := ((wr.drewN q).alloc (.cells #[] e)).alloc (.cells xs.toArray e)) (ge := wr.heap.size) (gx := wr.heap.size + 1) (((below_drewN (Below.refl _ _) q).alloc (Nat.le_refl _) _).alloc (by simp) _) ((Below.heap_alloc _ _ _ (by simp)).trans (heap_alloc_new (wr.drewN q) _)) (Nat.le_refl _)
    (by have := heap_alloc_new ((wr.drewN q).alloc (.cells #[] e)) (.cells xs.toArray e); rwa [World.size_alloc] at this) (by omega) hxk h1 h3 o1 o2 o3 hn ty
/-- .. ahead of it. -/
theorem runs3 (hxk : xs.length = k) (h1 : Rd wr lo k v1 p ys1) (h3 : Rd wr lo k v3 m ys3) (o1 : ∀ u ∈ ys1, u.oneCell' = true) (o2 : ∀ u ∈ xs, u.oneCell' = true) (o3 : ∀ u ∈ ys3, u.oneCell' = true) (hn : p + m ≤ 1000000) (ty : TypeId) (q : Nat) :
    ∃ u1 w1 u2 w2 g3 o3 c3 w3, (Builtin.append_ #[t, t] ty #[.slice (some ⟨wr.heap.size + 1, 0, none⟩) 0 0, v1]).run Tryz.prog (((wr.drewN q).alloc (.cells xs.toArray e)).alloc (.cells #[] e)) = .ok u1 w1 ∧
      (Builtin.append_ #[t, t] ty #[u1, .slice (some ⟨wr.heap.size, 0, none⟩) 1 1]).run Tryz.prog w1 = .ok u2 w2 ∧
      (Builtin.append_ #[t, t] ty #[u2, v3]).run Tryz.prog w2 = .ok (.slice (some ⟨g3, o3, none⟩) (p + 1 + m) c3) w3 ∧ Hid (Ends wr e k (p + 1 + m) (ys1 ++ xs ++ ys3) g3 o3 c3 w3) :=
  three hE (wr := wr) (W0 := ((wr.drewN q).alloc (.cells xs.toArray e)).alloc (.cells #[] e)) (ge := wr.heap.size + 1) (gx := wr.heap.size) (((below_drewN (Below.refl _ _) q).alloc (Nat.le_refl _) _).alloc (by simp) _) (by have := heap_alloc_new ((wr.drewN q).alloc (.cells xs.toArray e)) (.cells #[] e); rwa [World.size_alloc] at this) (by omega)
    ((Below.heap_alloc _ _ _ (by simp)).trans (heap_alloc_new (wr.drewN q) _)) (by omega) hxk h1 h3 o1 o2 o3 hn ty
end
/-- An append whose run is known, as one step of a region that draws. -/
theorem step_run {P : Program} {ops : Array Oper} {o : Oper} {a : Act} {w : World} {K : Act → World → Prop} {Q : Exit → Act → World → Prop} {E : Prop}
    (hg : o.guard = none) (s x : Operand) (t : TypeId) (hop : o.op = Op.call { callee := Callee.builtin Builtin.append, args := #[s, x], argTypes := #[t, t] }) (v1 v2 v' : Value) (w' : World)
    (hs : a.eval s = v1) (hx : a.eval x = v2) (hrun : (Builtin.append_ #[t, t] o.type #[v1, v2]).run P w = .ok v' w') (hK : K (a.put o.dst v') w') :
    if Region.wanted o (yielded ops a.tmps) = true then Oper.wp P o a w K Q else E := by
  have hw : Region.wanted o (yielded ops a.tmps) = true := by simp [Region.wanted, hg]
  rw [if_pos hw]
  unfold Oper.wp
  simp [execOp, hop, resolve, invoke, builtin, hs, hx, hrun, Result.andThen]
  exact hK
theorem elI : El 53 3 1 := ⟨Nat.one_pos, by
  obtain ⟨i, hi, hz0, hz1, hz2⟩ := info_parts (show (Tryz.prog.info? 3).map (fun i => (i.zero, i.size, i.bytes)) = some (some (.int .i64 0), 1, 8) by kernel_rfl)
  exact ⟨i, _, Tryz.underlying53, hi, hz0, hz1, by omega, rfl⟩⟩
theorem elC : El 28 61 2 := ⟨by decide, by
  obtain ⟨i, hi, hz0, hz1, hz2⟩ := info_parts (show (Tryz.prog.info? 61).map (fun i => (i.zero, i.size, i.bytes)) = some (some (.agg #[.string ⟨#[]⟩, .int .i64 0]), 2, 24) by kernel_rfl)
  exact ⟨i, _, Tryz.underlying28, hi, hz0, hz1, by omega, rfl⟩⟩
end Go.Proofs.YtkihgbglodfkmaaGreat
