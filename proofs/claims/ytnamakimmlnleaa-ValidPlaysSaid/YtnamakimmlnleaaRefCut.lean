/-
  Layer 34: the document's Cut. No condition.
-/
import Derived.Test.YtnamakimmlnleaaRefAdd
import Derived.Deep.RegionLaw
namespace Go.Proofs.Ytnamakimmlnleaa
open Go.RowKit
set_option linter.unusedVariables false

theorem RCut_not {w : World} {B : Nat} {A : Option Addr} {cap : Nat} {xs : List ByteArray} (h : Texts w B A cap xs) (k : ByteArray) (hn : xs.length ≤ 1000000) (hk : ¬ 0 ≤ atv xs k) :
    Calls Try.prog 15 #[.slice A xs.length cap, .string k] w fun e w' => e = .returned (.slice A xs.length cap) ∧ ∃ q, w' = w.drewN q := by
  have H1 := Lib.hid (At_any h k hn)
  have hk' : atv xs k < 0 := by omega
  go_enter Try.func15, Try.ntmps15
  go_wp2_with (go_at_call 14; refine H1.out.mono ?_; rintro e w1 ⟨rfl, q, rfl⟩)
  go_ret
  exact ⟨rfl, q, rfl⟩

/-- The first elements of a row. -/
theorem Row.take {w : World} {B : Nat} {e : TypeId} {A : Option Addr} {n cap : Nat} {xs : List Value} (h : Row w B e (.slice A n cap) n xs) {p : Nat} (hp : p ≤ n) : Row w B e (.slice A p cap) p (xs.take p) := by
  have hl := h.1
  refine ⟨by rw [List.length_take]; omega, ?_⟩
  rcases h.2 with ⟨h0, h1⟩ | ⟨g, off, cap', cur, hv, hb, hg, h1, h2, h3, hx⟩
  · cases h0
    exact .inl ⟨by rw [show p = 0 by omega], by omega⟩
  · cases hv
    exact .inr ⟨g, off, cap, cur, rfl, hb, hg, by omega, h2, h3, fun j u hj => hx j u (by
      rw [List.getElem?_take] at hj
      split at hj
      · exact hj
      · cases hj)⟩
/-- The last elements of a row. -/
theorem Row.drop {w : World} {B : Nat} {e : TypeId} {g off n cap : Nat} {xs : List Value} (h : Row w B e (.slice (some ⟨g, off, none⟩) n cap) n xs) {p : Nat} (hp : p ≤ n) :
    Row w B e (.slice (if cap = p then some ⟨g, off, none⟩ else some ⟨g, off + p, none⟩) (n - p) (cap - p)) (n - p) (xs.drop p) := by
  have hl := h.1
  refine ⟨by rw [List.length_drop, hl], ?_⟩
  rcases h.2 with ⟨h0, h1⟩ | ⟨g', off', cap', cur, hv, hb, hg, h1, h2, h3, hx⟩
  · cases h0
  · cases hv
    refine .inr ?_
    by_cases hc : cap = p
    · refine ⟨g, off, cap - p, cur, by rw [if_pos hc], hb, hg, by omega, by omega, by omega, fun j u hj => ?_⟩
      rw [List.getElem?_eq_none (by rw [List.length_drop]; omega)] at hj
      cases hj
    · refine ⟨g, off + p, cap - p, cur, by rw [if_neg hc], hb, hg, by omega, by omega, by omega, fun j u hj => ?_⟩
      rw [Nat.add_assoc]
      exact hx (p + j) u (by rwa [List.getElem?_drop] at hj)

/-- Both appends. -/
theorem cut_runs {w : World} {B : Nat} {g off n cap p : Nat} {xs : List Value} (h : Row w B 9 (.slice (some ⟨g, off, none⟩) n cap) n xs) (hp : p < n) (hn : n ≤ 1000000) (h1 : ∀ x ∈ xs, x.oneCell' = true) (q : Nat) :
    ∃ A1 c1 w1 A2 c2 w2, (Builtin.append_ #[29, 29] 29 #[.slice (some ⟨w.heap.size, 0, none⟩) 0 0, .slice (some ⟨g, off, none⟩) p cap]).run Try.prog ((w.drewN q).alloc (.cells #[] 9)) = .ok (.slice (some A1) p c1) w1 ∧
      (Builtin.append_ #[29, 29] 29 #[.slice (some A1) p c1, .slice (if cap = p + 1 then some ⟨g, off, none⟩ else some ⟨g, off + (p + 1), none⟩) (n - (p + 1)) (cap - (p + 1))]).run Try.prog w1 = .ok (.slice (some A2) (n - 1) c2) w2 ∧
      Row w2 w.heap.size 9 (.slice (some A2) (n - 1) c2) (n - 1) (xs.take p ++ xs.drop (p + 1)) ∧ Below w.heap.size w w2 := by
  obtain ⟨i, hi, hz0, hz1, hz2⟩ := info_parts infoS
  have hlt : g < w.heap.size := h.lt g (by simp [Value.ownBlock]) |>.2
  have hal : Row ((w.drewN q).alloc (.cells #[] 9)) B 9 (.slice (some ⟨g, off, none⟩) n cap) n xs := (h.keep (w' := w.drewN q) fun _ _ => rfl).alloc _
  obtain ⟨A1, c1, w1, r1, hr1, hg1⟩ := run_append_rows ((w.drewN q).alloc (.cells #[] 9)) w.heap.size 29 29 9 i (.string ByteArray.empty) Try.underlying29 hi hz0 hz1 (by omega) rfl w.heap.size 0 0 0 [] (row_new w q) _ p (xs.take p)
    (Row.src (hal.take (by omega)) Try.underlying29 fun x hx => h1 x (List.mem_of_mem_take hx)) (by omega) (by simp)
  rw [Nat.zero_add] at r1 hr1
  rw [List.nil_append] at hr1
  have hb1 := new_below hg1
  have hal1 : Row w1 B 9 (.slice (some ⟨g, off, none⟩) n cap) n xs := h.below hb1 (Nat.le_refl _)
  obtain ⟨g1, o1, s1⟩ := A1
  have hs1 : s1 = none := by
    rcases hr1.2 with ⟨h0, _⟩ | ⟨g2, o2, _, _, h0, _⟩
    · cases h0
    · injection h0 with h0
      injection h0 with h0
      injection h0
  subst hs1
  obtain ⟨A2, c2, w2, r2, hr2, hg2⟩ := run_append_rows w1 w.heap.size 29 29 9 i (.string ByteArray.empty) Try.underlying29 hi hz0 hz1 (by omega) rfl g1 o1 p c1 _ hr1 _ (n - (p + 1)) (xs.drop (p + 1))
    (Row.src (hal1.drop (p := p + 1) (by omega)) Try.underlying29 fun x hx => h1 x (List.mem_of_mem_drop hx)) (by omega) hb1.size
  rw [show p + (n - (p + 1)) = n - 1 by omega] at r2 hr2
  exact ⟨_, c1, w1, A2, c2, w2, r1, r2, hr2, hb1.grown hg2 hb1.size fun b hb => by cases hb; exact (hr1.lt g1 (by simp [Value.ownBlock])).1⟩

theorem wrap_small (a : Int) (h1 : -9223372036854775808 ≤ a) (h2 : a ≤ 9223372036854775807) : IntKind.i64.wrap a = a := by
  simp [IntKind.wrap, IntKind.signed, IntKind.bits]
  omega

/-- An append whose run is known, as one step of a region that draws. -/
theorem step_append_run {P : Program} {ops : Array Oper} {o : Oper} {a : Act} {w : World} {K : Act → World → Prop} {Q : Exit → Act → World → Prop} {E : Prop}
    (hg : o.guard = none) (s x : Operand) (t : TypeId) (hop : o.op = Op.call { callee := Callee.builtin Builtin.append, args := #[s, x], argTypes := #[t, t] }) (v1 v2 v' : Value) (w' : World)
    (hs : a.eval s = v1) (hx : a.eval x = v2) (hrun : (Builtin.append_ #[t, t] o.type #[v1, v2]).run P w = .ok v' w') (hK : K (a.put o.dst v') w') :
    if Region.wanted o (yielded ops a.tmps) = true then Oper.wp P o a w K Q else E := by
  have hw : Region.wanted o (yielded ops a.tmps) = true := by simp [Region.wanted, hg]
  rw [if_pos hw]
  unfold Oper.wp
  simp [execOp, hop, resolve, invoke, builtin, hs, hx, hrun, Result.andThen]
  exact hK

set_option maxHeartbeats 1000000 in
theorem RCut_yes {w : World} {B : Nat} {A : Option Addr} {cap : Nat} {xs : List ByteArray} (h : Texts w B A cap xs) (k : ByteArray) (hn : xs.length ≤ 1000000) (hk : 0 ≤ atv xs k) :
    Calls Try.prog 15 #[.slice A xs.length cap, .string k] w fun e w' => ∃ A' c', e = .returned (.slice A' (xs.length - 1) c') ∧ Row w' w.heap.size 9 (.slice A' (xs.length - 1) c') (xs.length - 1) ((xs.take (pos xs k) ++ xs.drop (pos xs k + 1)).map Value.string) ∧ Below w.heap.size w w' := by
  have H1 := At_any h k hn
  obtain ⟨p, hp⟩ : ∃ p, pos xs k = p := ⟨_, rfl⟩
  have hpl : p < xs.length := by
    unfold atv at hk
    rw [hp] at hk
    split at hk
    · assumption
    · omega
  have hat : atv xs k = p := by
    unfold atv
    rw [hp, if_pos hpl]
  rw [hat] at H1
  have H1 := Lib.hid H1
  obtain ⟨g, off, rfl, _, hc1, hc2⟩ := h.get hpl
  have HR : ∀ q, Hid _ := fun q => Lib.hid (cut_runs (q := q + 1) h hpl hn (fun x hx => by obtain ⟨y, _, rfl⟩ := List.mem_map.1 hx; rfl))
  obtain ⟨n, hN⟩ : ∃ n, xs.length = n := ⟨_, rfl⟩
  have HX : ∀ q, Hid _ := HR
  rw [hp]
  have e : (xs.take p ++ xs.drop (p + 1)).map Value.string = (xs.map Value.string).take p ++ (xs.map Value.string).drop (p + 1) := by rw [List.map_append, List.map_take, List.map_drop]
  rw [e]
  rw [hN] at H1 hpl hc1 hn HR ⊢
  clear h hk e HX
  have hw : IntKind.i64.wrap ((p : Int) + 1) = (p : Int) + 1 := wrap_small _ (by omega) (by omega)
  have i1 : (0 : Int) ≤ (p : Int) + 1 := by omega
  have i2 : (p : Int) + 1 ≤ n := by omega
  have i3 : (p : Int) ≤ cap := by omega
  have i4 : (n : Int) ≤ cap := by omega
  have i5 : (p : Int) ≤ (p : Int) + 1 := by omega
  have i6 : (p : Int) + 1 ≤ cap := by omega
  by_cases hcap : cap = p + 1
  · obtain rfl : n = p + 1 := by omega
    subst hcap
    go_enter Try.func15, Try.ntmps15
    go_wp2_with (go_at_call 14; refine H1.out.mono ?_; rintro e w1 ⟨rfl, q, rfl⟩; obtain ⟨A1, c1, w2, A2, c2, w3, r1, r2, hr3, hb3⟩ := (HR q).out; have HR3 := Lib.hid hr3; have HB3 := Lib.hid hb3; rw [if_pos rfl, Nat.sub_self] at r2; have R1 := Lib.hid r1; have R2 := Lib.hid r2; clear hr3 hb3 r1 r2)
    go_region_law (first
      | (refine step_append_run rfl (.tmp 12) (.tmp 15) 29 rfl _ _ _ _ rfl rfl R1.out ?_)
      | (refine step_append_run rfl (.tmp 16) (.tmp 20) 29 rfl _ _ _ _ rfl rfl R2.out ?_))
    all_goals go_wp2
    all_goals go_ret
    exact ⟨_, _, rfl, HR3.out, HB3.out⟩
  · skip
    go_enter Try.func15, Try.ntmps15
    go_wp2_with (go_at_call 14; refine H1.out.mono ?_; rintro e w1 ⟨rfl, q, rfl⟩; obtain ⟨A1, c1, w2, A2, c2, w3, r1, r2, hr3, hb3⟩ := (HR q).out; have HR3 := Lib.hid hr3; have HB3 := Lib.hid hb3; rw [if_neg hcap] at r2; have R1 := Lib.hid r1; have R2 := Lib.hid r2; clear hr3 hb3 r1 r2)
    go_region_law (first
      | (refine step_append_run rfl (.tmp 12) (.tmp 15) 29 rfl _ _ _ _ rfl rfl R1.out ?_)
      | (refine step_append_run rfl (.tmp 16) (.tmp 20) 29 rfl _ _ _ _ rfl rfl R2.out ?_))
    all_goals go_wp2
    all_goals go_ret
    exact ⟨_, _, rfl, HR3.out, HB3.out⟩

end Go.Proofs.Ytnamakimmlnleaa
